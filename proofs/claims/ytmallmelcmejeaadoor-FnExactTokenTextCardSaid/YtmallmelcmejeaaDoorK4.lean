/- What is here: what strings.Builder's functions and IndexByte answer, as plain functions. What is here: the tables of the program and what the library's functions on numbers answer, as plain functions. What is here: formatBits, as a plain function; the tables with that of the bits. What is here: the package variables of the program, as plain data. What is here: the library's functions on strings.Builder, at any place of a box, as contracts. What is here: WriteByte, WriteString and String of strings.Builder, at any place of a box, as contracts. What is here: String of strings.Builder at any place of a box. What is here: the contracts of strings.Builder's functions. What is here: the contract of the library's IndexByteString. What is here: the numbers of the library's functions in this program, and that they are laid as the kit's shelf wants them. What is here: contracts of strconv.ParseInt and strconv.FormatInt, from the kit's shelf. What is here: internal/strconv.formatBits, base 16, where sixteen digits come out. What is here: the numbers of the library's functions in this program, and that they are laid as the kit's shelf wants them. What is here: the contract of formatBits. What is here: the contracts of all functions of the seat. What is here: letters, digits; the small functions of both scanners. What is here: the loops of both scanners that go on over letters and digits. What is here: words. What is here: hexadecimal numbers. What is here: hexadecimal number tokens on both sides. What is here: decimal and float tokens on both sides. What is here: number tokens on both sides. What is here: string tokens on both sides. What is here: string tokens of the reference. -/
import Derived.Test.YtmallmelcmejeaaDoorK3
import Derived.Lib.ParseIntB
import Derived.Lib.ItoaNum
import Derived.Lib.LaidTab
import Derived.Shelf.Strconv.Itoa4
import Derived.Lib.TrailingZeros
import Derived.Test.YtmallmelcmejeaaDoorProg
import Derived.Test.YtmallmelcmejeaaDoorRows
import Derived.Test.YtmallmelcmejeaaDoorTie
import Derived.Lib.Builder
import Derived.Lib.Walk
import Derived.Lib.Slices
import Derived.Lib.Strings
import Derived.WalkKit
import Derived.Laws.Externs
import Derived.Lib.AppendStr
import Derived.Lib.UnsafeStr
import Derived.Shelf.Strconv.ParseIntPublic10
import Derived.KernelRfl
import Derived.Laws.Bits64b
import Derived.Lib.AppendIntMem
import Derived.ProofKit
import Derived.OpenShut
import Derived.ShutString
import Derived.ChangeOld
import Derived.Below
import Derived.SizedLaws
import Derived.LaidMore
import Derived.Lay
import Derived.SevenTiedAt
import Derived.Stop.Joined
set_option linter.unusedVariables false
set_option linter.unusedSimpArgs false
set_option maxRecDepth 100000
section
namespace Go.Abs.Bld
def places : List (Nat × Nat × Nat) := [(63, 0, 2)]
@[reducible] def bp : VSp := .one (.ptr false (0, places) .bld)
def H4 (x : List Int × Int × Unit) : Option (Bool × List Int × Unit × Unit) := bif fits (x.1.length + 1) then some (true, x.1 ++ [x.2.1], (), ()) else none
def P4 (x : List Int × List Int × Unit) : Option ((Int × Bool × Unit) × List Int × Unit × Unit) := bif fits (x.1.length + x.2.1.length) then some ((x.2.1.length, true, ()), x.1 ++ x.2.1, (), ()) else none
def aG4 (x : List Int × Unit) : Option (List Int × Unit × Unit) := bif fits x.1.length then some (x.1.map byte, (), ()) else none
def idx : List Int → Int → Int → Int
 | [], _, _ => -1
 | x :: r, c, n => bif decide (x = c) then n else idx r c (n + 1)
def Y1 (x : List Int × Int × Unit) : Option (Int × Unit × Unit × Unit) := some (idx x.1 (byte x.2.1) 0, (), (), ())
end Go.Abs.Bld
end

section
namespace Go.Abs.Lx
def words : List (List Int) := [[97, 110, 100], [98, 114, 101, 97, 107], [99, 97, 116, 99, 104], [99, 111, 110, 115, 116], [100, 101, 102, 101, 114], [101, 108, 105, 102], [101, 108, 115, 101], [102, 97, 108, 115, 101], [102, 110], [102, 111, 114], [105, 102], [105, 110], [108, 101, 116], [110, 101, 120, 116], [110, 105, 108], [110, 111, 116], [111, 114], [114, 101, 116, 117, 114, 110], [116, 104, 114, 111, 119], [116, 114, 117, 101], [116, 114, 121], [119, 104, 105, 108, 101]]
def T0 : List (List Int) := [[40], [41], [123], [125], [91], [93], [44], [61], [46], [46, 46, 46], [35]]
def ai1 : List (List Int) := [[43], [45], [42], [47], [47, 47], [37], [38], [124], [126], [60, 60], [62, 62], [46, 46], [61, 61], [126, 61], [60], [60, 61], [62], [62, 61]]
def u8s (l : List Int) : List UInt8 := l.map fun c => c.toNat.toUInt8
def ints (l : List UInt8) : List Int := l.map fun b => (b.toNat : Int)
def T8 (x : List Int × Int × Int × Unit) : Option ((Int × Bool × Unit) × Unit × Unit × Unit × Unit) :=
 bif decide (x.2.1 = 10) && decide (x.2.2.1 = 64) && fits x.1.length then
  match Lib.parseIntB 64 (u8s x.1) with
  | .ok v => some ((v, true, ()), (), (), (), ())
  | .range => some ((Lib.intSat 64 (u8s x.1), false, ()), (), (), (), ())
  | _ => none
 else none
def N6 (x : Int × Int × Unit) : Option (List Int × Unit × Unit × Unit) :=
 bif decide (x.2.1 = 10) && decide (-9223372036854775808 ≤ x.1) && decide (x.1 ≤ 9223372036854775807) then some (ints (Lib.itoa x.1), (), (), ()) else none
def hexDigit (n : Nat) : Int := bif Nat.blt n 10 then ((48 + n : Nat) : Int) else ((87 + n : Nat) : Int)
def ae4 : Nat → Nat → List Int → List Int
 | 0, _, acc => acc
 | k + 1, n, acc => let d := hexDigit (n % 16); bif Nat.blt n 16 then d :: acc else ae4 k (n / 16) (d :: acc)
def bo1 : List Cell := Lib.pow10Tab.map fun z => .v (.int .u64) z
def tables (k : Nat) : Option (List Cell) := bif Nat.beq k 4 then some bo1 else bif Nat.beq k 6 then some [.err false] else none
theorem aR0 (s : ByteArray) : u8s (bytesOf s) = s.data.toList := by
 unfold u8s bytesOf
 rw [List.map_map]
 have : ((fun c : Int => c.toNat.toUInt8) ∘ fun b : UInt8 => (b.toNat : Int)) = id := by
  funext b
  simp
 rw [this, List.map_id]
end Go.Abs.Lx
end

section
namespace Go.Abs.Lx
def deB : List Cell := Lib.deBruijn64tab.map fun n : Nat => .v (.int .u8) (n : Int)
def aJ5 (k : Nat) : Option (List Cell) := bif Nat.beq k 8 then some deB else tables k
def L5 (x : List Int × Int × Int × Bool × Bool × Unit) : Option ((List Int × List Int × Unit) × Unit × Unit × Unit × Unit × Unit × Unit) :=
 bif decide (x.2.2.1 = 16) && (!x.2.2.2.1) && (!x.2.2.2.2.1) && x.1.isEmpty && decide (9223372036854775808 ≤ x.2.1) && decide (x.2.1 ≤ 18446744073709551615) then some (([], ae4 16 x.2.1.toNat [], ()), (), (), (), (), (), ()) else none
end Go.Abs.Lx
end

section
set_option maxRecDepth 100000
namespace Go.Abs.D
open Go.Proofs
abbrev j2 : Ty := (.pr (.int .i64) (.pr (.int .i64) (.pr (.int .i64) (.pr (.int .i64) (.pr (.int .i64) (.pr .str .un))))))
abbrev vs0 : VSp := .one (.ptr true (30, []) (.pr (.pub (.int .i64)) (.pr (.pub (.int .i64)) (.pr (.pub (.int .i64)) (.pr (.pub (.int .i64)) (.pr (.pub (.int .i64)) (.pr (.pub .str) .un)))))))
abbrev vs1 : VSp := .one (.pub (.int .i64))
abbrev vs2 : VSp := .agg (.pr (.pub (.int .i64)) (.pr (.pub (.int .i64)) (.pr (.pub (.int .i64)) (.pr (.pub (.int .i64)) (.pr (.pub (.int .i64)) (.pr (.pub .str) .un))))))
abbrev vs3 : VSp := .one (.pub .str)
abbrev vs4 : VSp := .one (.pub .bool)
abbrev vs5 : VSp := .one (.pub (.int .u64))
abbrev vs6 : VSp := .one (.own (.int .u8) true)
abbrev vs7 : VSp := .one (.pub (.int .u8))
abbrev vs8 : VSp := .one (.own .str true)
abbrev vs9 : VSp := .one (.pub (.int .i32))
abbrev bq0 : VSp := .one (.pub (.sl (.int .u8)))
abbrev bj9 : VSp := .one .err
def sig (f : Nat) : Sig :=
 bif Nat.beq f 14 then ⟨[vs2, vs1], .val vs1⟩ else
 bif Nat.beq f 16 then ⟨[vs2], .val vs2⟩ else
 bif Nat.beq f 65 then ⟨[vs7], .val vs4⟩ else
 bif Nat.beq f 64 then ⟨[vs3, vs1], .val vs7⟩ else
 bif Nat.beq f 67 then ⟨[vs7], .val vs4⟩ else
 bif Nat.beq f 76 then ⟨[], .val vs8⟩ else
 bif Nat.beq f 66 then ⟨[vs3, vs2], .tup [vs2, vs1]⟩ else
 bif Nat.beq f 99 then ⟨[vs7], .val vs1⟩ else
 bif Nat.beq f 98 then ⟨[vs3, vs2], .tup [vs2, vs1]⟩ else
 bif Nat.beq f 68 then ⟨[vs3, vs2], .tup [vs2, vs1]⟩ else
 bif Nat.beq f 69 then ⟨[vs3, vs2], .tup [vs2, vs1]⟩ else
 bif Nat.beq f 70 then ⟨[], .val vs8⟩ else
 bif Nat.beq f 71 then ⟨[vs3], .val vs1⟩ else
 bif Nat.beq f 34 then ⟨[vs3, vs1], .tup [vs2, vs1]⟩ else
 bif Nat.beq f 38 then ⟨[vs3], .val vs4⟩ else
 bif Nat.beq f 74 then ⟨[vs1], .val vs3⟩ else
 bif Nat.beq f 39 then ⟨[vs1], .val vs3⟩ else
 bif Nat.beq f 40 then ⟨[vs3], .val vs4⟩ else
 bif Nat.beq f 75 then ⟨[vs3], .val vs3⟩ else
 bif Nat.beq f 41 then ⟨[vs3], .val vs3⟩ else
 bif Nat.beq f 42 then ⟨[vs1], .val vs3⟩ else
 bif Nat.beq f 15 then ⟨[vs2], .val vs3⟩ else
 bif Nat.beq f 58 then ⟨[vs7], .val vs4⟩ else
 bif Nat.beq f 59 then ⟨[vs7], .val vs4⟩ else
 bif Nat.beq f 60 then ⟨[vs3], .val vs1⟩ else
 bif Nat.beq f 62 then ⟨[vs7], .val vs4⟩ else
 bif Nat.beq f 116 then ⟨[vs7], .val vs7⟩ else
 bif Nat.beq f 117 then ⟨[vs3], .val vs4⟩ else
 bif Nat.beq f 96 then ⟨[vs3, vs1, vs1], .tup [vs5, bj9]⟩ else
 bif Nat.beq f 63 then ⟨[vs3, vs1, vs1], .tup [vs5, bj9]⟩ else
 bif Nat.beq f 61 then ⟨[vs3, vs1], .tup [vs2, vs4]⟩ else
 bif Nat.beq f 56 then ⟨[vs3, vs7], .val vs1⟩ else
 bif Nat.beq f 28 then ⟨[vs3, vs7], .val vs1⟩ else
 bif Nat.beq f 80 then ⟨[vs1, vs1, vs1], .val vs4⟩ else
 bif Nat.beq f 47 then ⟨[vs1], .val vs3⟩ else
 bif Nat.beq f 94 then ⟨[vs3, vs3], .val vs4⟩ else
 bif Nat.beq f 57 then ⟨[vs3, vs3], .val vs4⟩ else
 bif Nat.beq f 32 then ⟨[vs3, vs1], .tup [vs2, vs4]⟩ else
 bif Nat.beq f 77 then ⟨[vs3, vs1], .val vs4⟩ else
 bif Nat.beq f 43 then ⟨[vs3], .val vs4⟩ else
 bif Nat.beq f 44 then ⟨[vs3], .val vs4⟩ else
 bif Nat.beq f 79 then ⟨[vs5, vs1], .val vs3⟩ else
 bif Nat.beq f 46 then ⟨[vs5, vs1], .val vs3⟩ else
 bif Nat.beq f 8 then ⟨[vs3], .val vs3⟩ else
 bif Nat.beq f 17 then ⟨[vs2], .val vs3⟩ else
 bif Nat.beq f 5 then ⟨[vs2], .val vs4⟩ else
 ⟨[], .none⟩
def fns : List Nat := [14, 16, 65, 64, 67, 76, 66, 99, 98, 68, 69, 70, 71, 34, 38, 74, 39, 40, 75, 41, 42, 15, 58, 59, 60, 62, 116, 117, 96, 63, 61, 56, 28, 80, 47, 94, 57, 32, 77, 43, 44, 79, 46, 8, 17, 5]
def known (f : Nat) : Bool := fns.any (Nat.beq f)
def ae6 (f : Nat) : List Nat :=
 []
def kk (f : Nat) (k : Bool) (r a : Nat) (b : Bool) (c : Nat) : Bool := Nat.beq f a && k == b && Nat.beq r c
def Y3 (f : Nat) (k : Bool) (r : Nat) : Bool := kk f k r 8 true 6 || kk f k r 32 true 5 || kk f k r 32 true 18 || kk f k r 32 true 39 || kk f k r 32 true 49 || kk f k r 34 true 14 || kk f k r 39 true 6 || kk f k r 42 true 7 || kk f k r 60 true 2 || kk f k r 61 true 5 || kk f k r 61 true 15 || kk f k r 61 false 17 || kk f k r 61 true 20 || kk f k r 61 false 22 || kk f k r 61 false 26 || kk f k r 61 true 29 || kk f k r 61 false 31 || kk f k r 66 true 2 || kk f k r 66 true 8 || kk f k r 68 true 7 || kk f k r 68 false 9 || kk f k r 68 true 12 || kk f k r 68 false 14 || kk f k r 68 true 21 || kk f k r 68 false 23 || kk f k r 68 true 26 || kk f k r 69 true 4 || kk f k r 69 false 24 || kk f k r 69 true 27 || kk f k r 71 true 3 || kk f k r 71 true 9 || kk f k r 74 true 5 || kk f k r 74 false 14 || kk f k r 74 true 15 || kk f k r 75 true 4 || kk f k r 96 false 21 || kk f k r 96 false 25 || kk f k r 96 false 32 || kk f k r 96 true 36 || kk f k r 96 false 46 || kk f k r 98 true 3 || kk f k r 117 false 5 || kk f k r 117 false 10 || kk f k r 117 true 10
def cut (f : Nat) (k : Bool) (r : Nat) : Cut :=
 bif kk f k r 8 true 6 then ⟨[0, 3, 4], [vs3, .one (.ptr true (63, []) .bld), vs1], [⟨.exit 0, [3], [.one (.ptr true (63, []) .bld)], []⟩], []⟩ else
 bif kk f k r 32 true 5 then ⟨[0, 1, 4, 7], [vs3, vs1, vs0, vs1], [⟨.exit 1, [0, 1, 4, 7], [vs3, vs1, vs0, vs1], []⟩], []⟩ else
 bif kk f k r 32 true 18 then ⟨[0, 4, 8, 9], [vs3, vs0, vs6, vs1], [⟨.ret, [4, 5], [vs0, vs4], []⟩], []⟩ else
 bif kk f k r 32 true 39 then ⟨[0, 4, 8, 9, 11], [vs3, vs0, vs6, vs1, vs1], [⟨.ret, [4, 5], [vs0, vs4], []⟩, ⟨.exit 5, [0, 4, 8, 9], [vs3, vs0, vs6, vs1], []⟩], []⟩ else
 bif kk f k r 32 true 49 then ⟨[0, 1, 4, 14, 15], [vs3, vs1, vs0, vs1, vs1], [⟨.exit 7, [1, 4], [vs1, vs0], []⟩], []⟩ else
 bif kk f k r 34 true 14 then ⟨[0, 1, 4, 6, 43, 44, 45], [vs3, vs1, vs0, vs0, vs8, vs1, vs1], [⟨.ret, [4, 5], [vs0, vs1], []⟩, ⟨.exit 0, [1, 4, 6], [vs1, vs0, vs0], []⟩], []⟩ else
 bif kk f k r 39 true 6 then ⟨[0, 3, 4, 5], [vs1, vs3, vs3, vs1], [⟨.exit 0, [4], [vs3], []⟩], []⟩ else
 bif kk f k r 42 true 7 then ⟨[0, 23, 24, 25], [vs1, vs8, vs1, vs1], [⟨.ret, [2], [vs3], []⟩, ⟨.exit 0, [], [], []⟩], []⟩ else
 bif kk f k r 60 true 2 then ⟨[0, 5, 6, 7], [vs3, .one (.pub (.sl .str)), vs1, vs1], [⟨.ret, [2], [vs1], []⟩, ⟨.exit 0, [], [], []⟩], []⟩ else
 bif kk f k r 61 true 5 then ⟨[0, 1, 4, 6], [vs3, vs1, vs0, vs1], [⟨.exit 0, [0, 1, 4, 6], [vs3, vs1, vs0, vs1], []⟩], []⟩ else
 bif kk f k r 61 true 15 then ⟨[0, 1, 4, 6], [vs3, vs1, vs0, vs1], [⟨.exit 2, [0, 1, 4, 6], [vs3, vs1, vs0, vs1], []⟩], []⟩ else
 bif kk f k r 61 false 17 then ⟨[0, 1, 4, 6], [vs3, vs1, vs0, vs1], [⟨.ret, [4, 5], [vs0, vs4], []⟩], []⟩ else
 bif kk f k r 61 true 20 then ⟨[0, 1, 4, 6, 9], [vs3, vs1, vs0, vs1, vs1], [⟨.exit 4, [0, 1, 4, 6, 9], [vs3, vs1, vs0, vs1, vs1], []⟩], []⟩ else
 bif kk f k r 61 false 22 then ⟨[0, 1, 4, 6, 9], [vs3, vs1, vs0, vs1, vs1], [⟨.ret, [4, 5], [vs0, vs4], []⟩], []⟩ else
 bif kk f k r 61 false 26 then ⟨[0, 1, 4, 6, 9], [vs3, vs1, vs0, vs1, vs1], [⟨.ret, [4, 5], [vs0, vs4], []⟩, ⟨.normal, [0, 1, 4, 6, 9], [vs3, vs1, vs0, vs1, vs1], []⟩], []⟩ else
 bif kk f k r 61 true 29 then ⟨[0, 1, 4, 6, 9], [vs3, vs1, vs0, vs1, vs1], [⟨.exit 6, [0, 1, 4, 6, 9], [vs3, vs1, vs0, vs1, vs1], []⟩], []⟩ else
 bif kk f k r 61 false 31 then ⟨[0, 1, 4, 6, 9], [vs3, vs1, vs0, vs1, vs1], [⟨.ret, [4, 5], [vs0, vs4], []⟩], []⟩ else
 bif kk f k r 66 true 2 then ⟨[0, 3, 4, 6], [vs3, vs0, vs0, vs1], [⟨.exit 0, [0, 3, 4, 6], [vs3, vs0, vs0, vs1], []⟩], []⟩ else
 bif kk f k r 66 true 8 then ⟨[3, 4, 7, 32, 33, 34], [vs0, vs0, vs3, vs8, vs1, vs1], [⟨.ret, [4, 5], [vs0, vs1], []⟩, ⟨.exit 2, [3, 4, 7], [vs0, vs0, vs3], []⟩], []⟩ else
 bif kk f k r 68 true 7 then ⟨[0, 3, 4, 6], [vs3, vs0, vs0, vs1], [⟨.exit 0, [0, 3, 4, 6], [vs3, vs0, vs0, vs1], []⟩], []⟩ else
 bif kk f k r 68 false 9 then ⟨[0, 3, 4, 6], [vs3, vs0, vs0, vs1], [⟨.ret, [4, 5], [vs0, vs1], []⟩], []⟩ else
 bif kk f k r 68 true 12 then ⟨[0, 3, 4, 6], [vs3, vs0, vs0, vs1], [⟨.exit 2, [0, 3, 4, 6], [vs3, vs0, vs0, vs1], []⟩], []⟩ else
 bif kk f k r 68 false 14 then ⟨[0, 3, 4, 6], [vs3, vs0, vs0, vs1], [⟨.ret, [4, 5], [vs0, vs1], []⟩], []⟩ else
 bif kk f k r 68 true 21 then ⟨[0, 3, 4, 6], [vs3, vs0, vs0, vs1], [⟨.exit 4, [0, 3, 4, 6], [vs3, vs0, vs0, vs1], []⟩], []⟩ else
 bif kk f k r 68 false 23 then ⟨[0, 3, 4, 6], [vs3, vs0, vs0, vs1], [⟨.ret, [4, 5], [vs0, vs1], []⟩], []⟩ else
 bif kk f k r 68 true 26 then ⟨[0, 3, 4, 6, 7, 8], [vs3, vs0, vs0, vs1, vs5, vs1], [⟨.exit 6, [0, 3, 4, 6, 7], [vs3, vs0, vs0, vs1, vs5], []⟩], []⟩ else
 bif kk f k r 69 true 4 then ⟨[0, 3, 4, 6, 7], [vs3, vs0, vs0, vs1, vs6], [⟨.ret, [4, 5], [vs0, vs1], []⟩, ⟨.exit 0, [3, 4, 6], [vs0, vs0, vs1], []⟩], []⟩ else
 bif kk f k r 69 false 24 then ⟨[0, 3, 4, 6, 7, 46, 59], [vs3, vs0, vs0, vs1, vs6, vs7, vs4], [⟨.normal, [0, 3, 4, 6, 7], [vs3, vs0, vs0, vs1, vs6], []⟩, ⟨.ret, [4, 5], [vs0, vs1], []⟩], []⟩ else
 bif kk f k r 69 true 27 then ⟨[0, 3, 4, 6, 7, 9], [vs3, vs0, vs0, vs1, vs6, vs1], [⟨.ret, [4, 5], [vs0, vs1], []⟩, ⟨.exit 3, [0, 3, 4, 6, 7], [vs3, vs0, vs0, vs1, vs6], []⟩], []⟩ else
 bif kk f k r 71 true 3 then ⟨[0, 3, 4], [vs3, vs8, vs1], [⟨.ret, [2], [vs1], []⟩, ⟨.exit 0, [0], [vs3], []⟩], []⟩ else
 bif kk f k r 71 true 9 then ⟨[0, 24, 25, 26], [vs3, vs8, vs1, vs1], [⟨.ret, [2], [vs1], []⟩, ⟨.exit 2, [], [], []⟩], []⟩ else
 bif kk f k r 74 true 5 then ⟨[0, 3, 4], [vs1, vs4, vs6], [⟨.exit 0, [3, 4], [vs4, vs6], []⟩], []⟩ else
 bif kk f k r 74 false 14 then ⟨[4, 6], [vs6, vs3], [⟨.ret, [2], [vs3], []⟩], []⟩ else
 bif kk f k r 74 true 15 then ⟨[4, 6, 7], [vs6, vs3, vs1], [⟨.exit 2, [6], [vs3], []⟩], []⟩ else
 bif kk f k r 75 true 4 then ⟨[0, 3, 4, 5], [vs3, vs3, vs6, vs1], [⟨.exit 0, [4], [vs6], []⟩], []⟩ else
 bif kk f k r 96 false 21 then ⟨[0, 1, 2, 8, 9], [vs3, vs1, vs1, vs4, vs3], [⟨.ret, [6, 7], [vs5, bj9], []⟩], []⟩ else
 bif kk f k r 96 false 25 then ⟨[0, 1, 2, 8, 9], [vs3, vs1, vs1, vs4, vs3], [⟨.ret, [6, 7], [vs5, bj9], []⟩], []⟩ else
 bif kk f k r 96 false 32 then ⟨[0, 1, 2, 8, 9, 10], [vs3, vs1, vs1, vs4, vs3, vs5], [⟨.ret, [6, 7], [vs5, bj9], []⟩], []⟩ else
 bif kk f k r 96 true 36 then ⟨[1, 8, 9, 10, 11, 12, 13, 99, 100, 101], [vs1, vs4, vs3, vs5, vs5, vs4, vs5, bq0, vs1, vs1], [⟨.ret, [6, 7], [vs5, bj9], []⟩, ⟨.exit 3, [9, 12, 13], [vs3, vs4, vs5], []⟩], []⟩ else
 bif kk f k r 96 false 46 then ⟨[1, 8, 9, 10, 11, 12, 13, 16, 99, 100, 101], [vs1, vs4, vs3, vs5, vs5, vs4, vs5, vs7, bq0, vs1, vs1], [⟨.ret, [6, 7], [vs5, bj9], []⟩, ⟨.normal, [1, 8, 9, 10, 11, 12, 13, 99, 100, 101], [vs1, vs4, vs3, vs5, vs5, vs4, vs5, bq0, vs1, vs1], []⟩], []⟩ else
 bif kk f k r 98 true 3 then ⟨[0, 3, 4, 6, 7], [vs3, vs0, vs0, vs1, vs5], [⟨.ret, [4, 5], [vs0, vs1], []⟩, ⟨.exit 0, [3, 4, 6, 7], [vs0, vs0, vs1, vs5], []⟩], []⟩ else
 bif kk f k r 117 false 5 then ⟨[0, 3, 4], [vs3, vs9, vs1], [⟨.ret, [2], [vs4], []⟩], []⟩ else
 bif kk f k r 117 false 10 then ⟨[0, 3, 4, 5], [vs3, vs9, vs1, vs4], [⟨.ret, [2], [vs4], []⟩], []⟩ else
 bif kk f k r 117 true 10 then ⟨[0, 3, 4, 5], [vs3, vs9, vs1, vs4], [⟨.ret, [2], [vs4], []⟩, ⟨.exit 0, [3], [vs9], []⟩], []⟩ else
 ⟨[], [], [], []⟩
def lib (f : Nat) : Option Callee :=
 bif Nat.beq f 27 then some ⟨⟨[.one (.ptr false (0, Bld.places) .bld), .one (.pub (.int .u8))], .val (.one .err)⟩, Bld.H4⟩ else
 bif Nat.beq f 29 then some ⟨⟨[.one (.ptr false (0, Bld.places) .bld), .one (.pub .str)], .tup [.one (.pub (.int .i64)), .one .err]⟩, Bld.P4⟩ else
 bif Nat.beq f 30 then some ⟨⟨[.one (.tak Bld.places)], .val (.one (.pub .str))⟩, Bld.aG4⟩ else
 bif Nat.beq f 93 then some ⟨⟨[.one (.pub .str), .one (.pub (.int .u8))], .val (.one (.pub (.int .i64)))⟩, Bld.Y1⟩ else
 bif Nat.beq f 95 then some ⟨⟨[.one (.pub .str), .one (.pub (.int .i64)), .one (.pub (.int .i64))], .tup [.one (.pub (.int .i64)), .one .err]⟩, Lx.T8⟩ else
 bif Nat.beq f 45 then some ⟨⟨[.one (.pub (.int .i64)), .one (.pub (.int .i64))], .val (.one (.pub .str))⟩, Lx.N6⟩ else
 bif Nat.beq f 103 then some ⟨⟨[.one (.pub (.sl (.int .u8))), .one (.pub (.int .u64)), .one (.pub (.int .i64)), .one (.pub .bool), .one (.pub .bool)], .tup [.one (.pub (.sl (.int .u8))), .one (.pub .str)]⟩, Lx.L5⟩ else
 none
noncomputable def S : Sys := { P := Tryd.prog, glob := fun k => bif Nat.beq k 0 then some [.v (.sl .str) Lx.words] else bif Nat.beq k 1 then some [.v (.sl .str) Lx.T0] else bif Nat.beq k 2 then some [.v (.sl .str) Lx.ai1] else Lx.aJ5 k, cl := 0, sig := sig, known := known, ae6 := ae6, Y3 := Y3, cut := cut, lib := lib }
theorem bn1 : (fns.all S.bj8) = true := by kernel_rfl
theorem eF {f : FuncId} {fn : Func} (h : S.P.funcs[f]? = some fn) {T : S.Tab} {x : (S.sig f).dom.den} {y : Option (S.sig f).cod.den} (e : aT2 (S.env T f fn.ntmps) fn (S.sig f) (S.aX2 T f) x = y) : (S.step T).fn f x = y := (Sys.bj7 (S := S) h T x).trans e
theorem eL {f : FuncId} {fn : Func} {c : Code} (h : S.P.funcs[f]? = some fn) (hb : fn.body = some c) {T : S.Tab} {r : Nat} {x : (r6 (S.cut f true r).as).den} {y : Option (Y8 (S.cut f true r).ws)} (e : (S.cut f true r).round (S.env T f fn.ntmps) (S.aX2 T f) (L4 true r (l6 c)) (T.pc f true r) x = y) : (S.step T).pc f true r x = y := (Sys.bd6 (S := S) h hb T x).trans e
theorem eJ {f : FuncId} {fn : Func} {c : Code} (h : S.P.funcs[f]? = some fn) (hb : fn.body = some c) {T : S.Tab} {r : Nat} {x : (r6 (S.cut f false r).as).den} {y : Option (Y8 (S.cut f false r).ws)} (e : (S.cut f false r).tail (S.env T f fn.ntmps) (S.aX2 T f) (L4 false r (l6 c)) x = y) : (S.step T).pc f false r x = y := (Sys.be1 (S := S) h hb T x).trans e
abbrev O6 : (Unit × Unit × Unit × Unit × Unit × Unit × Unit) × Unit × Unit := (((), ((), ((), ((), ((), ((), ())))))), ((), ()))
def L7 (T : S.Tab) (t0 : j2.den) (t1 : Int) : Option (Int × (Unit × Unit × Unit × Unit × Unit × Unit × Unit) × Unit × Unit) := T.fn 14 (t0, t1, ())
abbrev ah8 : (Unit × Unit × Unit × Unit × Unit × Unit × Unit) × Unit := (((), ((), ((), ((), ((), ((), ())))))), ())
def P7 (T : S.Tab) (t0 : j2.den) : Option (j2.den × (Unit × Unit × Unit × Unit × Unit × Unit × Unit) × Unit) := T.fn 16 (t0, ())
abbrev C4 : Unit × Unit := ((), ())
def M9 (T : S.Tab) (t0 : Int) : Option (Bool × Unit × Unit) := T.fn 65 (t0, ())
abbrev ab8 : Unit × Unit × Unit := ((), ((), ()))
def q9 (T : S.Tab) (t0 : List Int) (t1 : Int) : Option (Int × Unit × Unit × Unit) := T.fn 64 (t0, t1, ())
abbrev X7 : Unit × Unit := ((), ())
def y1 (T : S.Tab) (t0 : Int) : Option (Bool × Unit × Unit) := T.fn 67 (t0, ())
abbrev ah2 : Unit := ()
def W9 (T : S.Tab) : Option (List (List Int) × Unit) := T.fn 76 ()
abbrev aa8 : Unit × (Unit × Unit × Unit × Unit × Unit × Unit × Unit) × Unit := ((), (((), ((), ((), ((), ((), ((), ())))))), ()))
def aa9 (T : S.Tab) (t0 : List Int) (t1 : j2.den) : Option ((j2.den × Int × Unit) × Unit × (Unit × Unit × Unit × Unit × Unit × Unit × Unit) × Unit) := T.fn 66 (t0, t1, ())
def B7 (T : S.Tab) (t0 : List Int) (t3 : j2.den) (t4 : j2.den) (t6 : Int) : Option ((List Int × j2.den × j2.den × Int × Unit) ⊕ Empty) := T.pc 66 true 2 (t0, t3, t4, t6, ())
def C0 (T : S.Tab) (t3 : j2.den) (t4 : j2.den) (t7 : List Int) (t32 : List (List Int)) (t33 : Int) (t34 : Int) : Option ((j2.den × Int × Unit) ⊕ (j2.den × j2.den × List Int × Unit) ⊕ Empty) := T.pc 66 true 8 (t3, t4, t7, t32, t33, t34, ())
abbrev O9 : Unit × Unit := ((), ())
def N8 (T : S.Tab) (t0 : Int) : Option (Int × Unit × Unit) := T.fn 99 (t0, ())
abbrev O8 : Unit × (Unit × Unit × Unit × Unit × Unit × Unit × Unit) × Unit := ((), (((), ((), ((), ((), ((), ((), ())))))), ()))
def W3 (T : S.Tab) (t0 : List Int) (t1 : j2.den) : Option ((j2.den × Int × Unit) × Unit × (Unit × Unit × Unit × Unit × Unit × Unit × Unit) × Unit) := T.fn 98 (t0, t1, ())
def A0 (T : S.Tab) (t0 : List Int) (t3 : j2.den) (t4 : j2.den) (t6 : Int) (t7 : Int) : Option ((j2.den × Int × Unit) ⊕ (j2.den × j2.den × Int × Int × Unit) ⊕ Empty) := T.pc 98 true 3 (t0, t3, t4, t6, t7, ())
abbrev F4 : Unit × (Unit × Unit × Unit × Unit × Unit × Unit × Unit) × Unit := ((), (((), ((), ((), ((), ((), ((), ())))))), ()))
def I5 (T : S.Tab) (t0 : List Int) (t1 : j2.den) : Option ((j2.den × Int × Unit) × Unit × (Unit × Unit × Unit × Unit × Unit × Unit × Unit) × Unit) := T.fn 68 (t0, t1, ())
def x7 (T : S.Tab) (t0 : List Int) (t3 : j2.den) (t4 : j2.den) (t6 : Int) : Option ((j2.den × Int × Unit) ⊕ Empty) := T.pc 68 false 9 (t0, t3, t4, t6, ())
def p9 (T : S.Tab) (t0 : List Int) (t3 : j2.den) (t4 : j2.den) (t6 : Int) : Option ((j2.den × Int × Unit) ⊕ Empty) := T.pc 68 false 14 (t0, t3, t4, t6, ())
def p8 (T : S.Tab) (t0 : List Int) (t3 : j2.den) (t4 : j2.den) (t6 : Int) : Option ((j2.den × Int × Unit) ⊕ Empty) := T.pc 68 false 23 (t0, t3, t4, t6, ())
def x8 (T : S.Tab) (t0 : List Int) (t3 : j2.den) (t4 : j2.den) (t6 : Int) : Option ((List Int × j2.den × j2.den × Int × Unit) ⊕ Empty) := T.pc 68 true 7 (t0, t3, t4, t6, ())
def z6 (T : S.Tab) (t0 : List Int) (t3 : j2.den) (t4 : j2.den) (t6 : Int) : Option ((List Int × j2.den × j2.den × Int × Unit) ⊕ Empty) := T.pc 68 true 12 (t0, t3, t4, t6, ())
def q8 (T : S.Tab) (t0 : List Int) (t3 : j2.den) (t4 : j2.den) (t6 : Int) : Option ((List Int × j2.den × j2.den × Int × Unit) ⊕ Empty) := T.pc 68 true 21 (t0, t3, t4, t6, ())
def l5 (T : S.Tab) (t0 : List Int) (t3 : j2.den) (t4 : j2.den) (t6 : Int) (t7 : Int) (t8 : Int) : Option ((List Int × j2.den × j2.den × Int × Int × Unit) ⊕ Empty) := T.pc 68 true 26 (t0, t3, t4, t6, t7, t8, ())
abbrev U1 : Unit × (Unit × Unit × Unit × Unit × Unit × Unit × Unit) × Unit := ((), (((), ((), ((), ((), ((), ((), ())))))), ()))
def S6 (T : S.Tab) (t0 : List Int) (t1 : j2.den) : Option ((j2.den × Int × Unit) × Unit × (Unit × Unit × Unit × Unit × Unit × Unit × Unit) × Unit) := T.fn 69 (t0, t1, ())
def r8 (T : S.Tab) (t0 : List Int) (t3 : j2.den) (t4 : j2.den) (t6 : Int) (t7 : List Int) (t46 : Int) (t59 : Bool) : Option ((List Int × j2.den × j2.den × Int × List Int × Unit) ⊕ (j2.den × Int × Unit) ⊕ Empty) := T.pc 69 false 24 (t0, t3, t4, t6, t7, t46, t59, ())
def j5 (T : S.Tab) (t0 : List Int) (t3 : j2.den) (t4 : j2.den) (t6 : Int) (t7 : List Int) : Option ((j2.den × Int × Unit) ⊕ (j2.den × j2.den × Int × Unit) ⊕ Empty) := T.pc 69 true 4 (t0, t3, t4, t6, t7, ())
def s8 (T : S.Tab) (t0 : List Int) (t3 : j2.den) (t4 : j2.den) (t6 : Int) (t7 : List Int) (t9 : Int) : Option ((j2.den × Int × Unit) ⊕ (List Int × j2.den × j2.den × Int × List Int × Unit) ⊕ Empty) := T.pc 69 true 27 (t0, t3, t4, t6, t7, t9, ())
abbrev ah7 : Unit := ()
def I3 (T : S.Tab) : Option (List (List Int) × Unit) := T.fn 70 ()
abbrev E6 : Unit × Unit := ((), ())
def F0 (T : S.Tab) (t0 : List Int) : Option (Int × Unit × Unit) := T.fn 71 (t0, ())
def z7 (T : S.Tab) (t0 : List Int) (t3 : List (List Int)) (t4 : Int) : Option ((Int × Unit) ⊕ (List Int × Unit) ⊕ Empty) := T.pc 71 true 3 (t0, t3, t4, ())
def B8 (T : S.Tab) (t0 : List Int) (t24 : List (List Int)) (t25 : Int) (t26 : Int) : Option ((Int × Unit) ⊕ (Unit) ⊕ Empty) := T.pc 71 true 9 (t0, t24, t25, t26, ())
abbrev H0 : Unit × Unit × Unit := ((), ((), ()))
def E0 (T : S.Tab) (t0 : List Int) (t1 : Int) : Option ((j2.den × Int × Unit) × Unit × Unit × Unit) := T.fn 34 (t0, t1, ())
def w7 (T : S.Tab) (t0 : List Int) (t1 : Int) (t4 : j2.den) (t6 : j2.den) (t43 : List (List Int)) (t44 : Int) (t45 : Int) : Option ((j2.den × Int × Unit) ⊕ (Int × j2.den × j2.den × Unit) ⊕ Empty) := T.pc 34 true 14 (t0, t1, t4, t6, t43, t44, t45, ())
abbrev D9 : Unit × Unit := ((), ())
def E3 (T : S.Tab) (t0 : List Int) : Option (Bool × Unit × Unit) := T.fn 38 (t0, ())
abbrev K5 : Unit × Unit := ((), ())
def K3 (T : S.Tab) (t0 : Int) : Option (List Int × Unit × Unit) := T.fn 74 (t0, ())
def E2 (T : S.Tab) (t4 : List Int) (t6 : List Int) : Option ((List Int × Unit) ⊕ Empty) := T.pc 74 false 14 (t4, t6, ())
def x9 (T : S.Tab) (t0 : Int) (t3 : Bool) (t4 : List Int) : Option ((Bool × List Int × Unit) ⊕ Empty) := T.pc 74 true 5 (t0, t3, t4, ())
def C6 (T : S.Tab) (t4 : List Int) (t6 : List Int) (t7 : Int) : Option ((List Int × Unit) ⊕ Empty) := T.pc 74 true 15 (t4, t6, t7, ())
abbrev af1 : Unit × Unit := ((), ())
def af4 (T : S.Tab) (t0 : Int) : Option (List Int × Unit × Unit) := T.fn 39 (t0, ())
def G9 (T : S.Tab) (t0 : Int) (t3 : List Int) (t4 : List Int) (t5 : Int) : Option ((List Int × Unit) ⊕ Empty) := T.pc 39 true 6 (t0, t3, t4, t5, ())
abbrev E9 : Unit × Unit := ((), ())
def G2 (T : S.Tab) (t0 : List Int) : Option (Bool × Unit × Unit) := T.fn 40 (t0, ())
abbrev aA2 : Unit × Unit := ((), ())
def W7 (T : S.Tab) (t0 : List Int) : Option (List Int × Unit × Unit) := T.fn 75 (t0, ())
def o8 (T : S.Tab) (t0 : List Int) (t3 : List Int) (t4 : List Int) (t5 : Int) : Option ((List Int × Unit) ⊕ Empty) := T.pc 75 true 4 (t0, t3, t4, t5, ())
abbrev ar0 : Unit × Unit := ((), ())
def Z7 (T : S.Tab) (t0 : List Int) : Option (List Int × Unit × Unit) := T.fn 41 (t0, ())
abbrev A1 : Unit × Unit := ((), ())
def T9 (T : S.Tab) (t0 : Int) : Option (List Int × Unit × Unit) := T.fn 42 (t0, ())
def u6 (T : S.Tab) (t0 : Int) (t23 : List (List Int)) (t24 : Int) (t25 : Int) : Option ((List Int × Unit) ⊕ (Unit) ⊕ Empty) := T.pc 42 true 7 (t0, t23, t24, t25, ())
abbrev w9 : (Unit × Unit × Unit × Unit × Unit × Unit × Unit) × Unit := (((), ((), ((), ((), ((), ((), ())))))), ())
def O3 (T : S.Tab) (t0 : j2.den) : Option (List Int × (Unit × Unit × Unit × Unit × Unit × Unit × Unit) × Unit) := T.fn 15 (t0, ())
abbrev E1 : Unit × Unit := ((), ())
def N5 (T : S.Tab) (t0 : Int) : Option (Bool × Unit × Unit) := T.fn 58 (t0, ())
abbrev ae5 : Unit × Unit := ((), ())
def F8 (T : S.Tab) (t0 : Int) : Option (Bool × Unit × Unit) := T.fn 59 (t0, ())
abbrev aj0 : Unit × Unit := ((), ())
def an4 (T : S.Tab) (t0 : List Int) : Option (Int × Unit × Unit) := T.fn 60 (t0, ())
def E4 (T : S.Tab) (t0 : List Int) (t5 : List (List Int)) (t6 : Int) (t7 : Int) : Option ((Int × Unit) ⊕ (Unit) ⊕ Empty) := T.pc 60 true 2 (t0, t5, t6, t7, ())
abbrev ab6 : Unit × Unit := ((), ())
def ad9 (T : S.Tab) (t0 : Int) : Option (Bool × Unit × Unit) := T.fn 62 (t0, ())
abbrev Z1 : Unit × Unit := ((), ())
def j4 (T : S.Tab) (t0 : Int) : Option (Int × Unit × Unit) := T.fn 116 (t0, ())
def ad0 (T : S.Tab) (t0 : List Int) : Option (Bool × Unit × Unit) := T.fn 117 (t0, ())
abbrev e9 : Unit × Unit × Unit × Unit := ((), ((), ((), ())))
def G8 (T : S.Tab) (t0 : List Int) (t1 : Int) (t2 : Int) : Option ((Int × Bool × Unit) × Unit × Unit × Unit × Unit) := T.fn 96 (t0, t1, t2, ())
def c8 (T : S.Tab) (t0 : List Int) (t1 : Int) (t2 : Int) (t8 : Bool) (t9 : List Int) : Option ((Int × Bool × Unit) ⊕ Empty) := T.pc 96 false 21 (t0, t1, t2, t8, t9, ())
def A3 (T : S.Tab) (t0 : List Int) (t1 : Int) (t2 : Int) (t8 : Bool) (t9 : List Int) : Option ((Int × Bool × Unit) ⊕ Empty) := T.pc 96 false 25 (t0, t1, t2, t8, t9, ())
def s7 (T : S.Tab) (t0 : List Int) (t1 : Int) (t2 : Int) (t8 : Bool) (t9 : List Int) (t10 : Int) : Option ((Int × Bool × Unit) ⊕ Empty) := T.pc 96 false 32 (t0, t1, t2, t8, t9, t10, ())
def p4 (T : S.Tab) (t1 : Int) (t8 : Bool) (t9 : List Int) (t10 : Int) (t11 : Int) (t12 : Bool) (t13 : Int) (t16 : Int) (t99 : List Int) (t100 : Int) (t101 : Int) : Option ((Int × Bool × Unit) ⊕ (Int × Bool × List Int × Int × Int × Bool × Int × List Int × Int × Int × Unit) ⊕ Empty) := T.pc 96 false 46 (t1, t8, t9, t10, t11, t12, t13, t16, t99, t100, t101, ())
def j6 (T : S.Tab) (t1 : Int) (t8 : Bool) (t9 : List Int) (t10 : Int) (t11 : Int) (t12 : Bool) (t13 : Int) (t99 : List Int) (t100 : Int) (t101 : Int) : Option ((Int × Bool × Unit) ⊕ (List Int × Bool × Int × Unit) ⊕ Empty) := T.pc 96 true 36 (t1, t8, t9, t10, t11, t12, t13, t99, t100, t101, ())
abbrev T6 : Unit × Unit × Unit × Unit := ((), ((), ((), ())))
def A8 (T : S.Tab) (t0 : List Int) (t1 : Int) (t2 : Int) : Option ((Int × Bool × Unit) × Unit × Unit × Unit × Unit) := T.fn 63 (t0, t1, t2, ())
abbrev s5 : Unit × Unit × Unit := ((), ((), ()))
def I4 (T : S.Tab) (t0 : List Int) (t1 : Int) : Option ((j2.den × Bool × Unit) × Unit × Unit × Unit) := T.fn 61 (t0, t1, ())
def w8 (T : S.Tab) (t0 : List Int) (t1 : Int) (t4 : j2.den) (t6 : Int) : Option ((j2.den × Bool × Unit) ⊕ Empty) := T.pc 61 false 17 (t0, t1, t4, t6, ())
def A2 (T : S.Tab) (t0 : List Int) (t1 : Int) (t4 : j2.den) (t6 : Int) (t9 : Int) : Option ((j2.den × Bool × Unit) ⊕ Empty) := T.pc 61 false 22 (t0, t1, t4, t6, t9, ())
def C1 (T : S.Tab) (t0 : List Int) (t1 : Int) (t4 : j2.den) (t6 : Int) (t9 : Int) : Option ((j2.den × Bool × Unit) ⊕ (List Int × Int × j2.den × Int × Int × Unit) ⊕ Empty) := T.pc 61 false 26 (t0, t1, t4, t6, t9, ())
def v8 (T : S.Tab) (t0 : List Int) (t1 : Int) (t4 : j2.den) (t6 : Int) (t9 : Int) : Option ((j2.den × Bool × Unit) ⊕ Empty) := T.pc 61 false 31 (t0, t1, t4, t6, t9, ())
def D5 (T : S.Tab) (t0 : List Int) (t1 : Int) (t4 : j2.den) (t6 : Int) : Option ((List Int × Int × j2.den × Int × Unit) ⊕ Empty) := T.pc 61 true 5 (t0, t1, t4, t6, ())
def w6 (T : S.Tab) (t0 : List Int) (t1 : Int) (t4 : j2.den) (t6 : Int) : Option ((List Int × Int × j2.den × Int × Unit) ⊕ Empty) := T.pc 61 true 15 (t0, t1, t4, t6, ())
def C2 (T : S.Tab) (t0 : List Int) (t1 : Int) (t4 : j2.den) (t6 : Int) (t9 : Int) : Option ((List Int × Int × j2.den × Int × Int × Unit) ⊕ Empty) := T.pc 61 true 20 (t0, t1, t4, t6, t9, ())
def C5 (T : S.Tab) (t0 : List Int) (t1 : Int) (t4 : j2.den) (t6 : Int) (t9 : Int) : Option ((List Int × Int × j2.den × Int × Int × Unit) ⊕ Empty) := T.pc 61 true 29 (t0, t1, t4, t6, t9, ())
abbrev K2 : Unit × Unit × Unit := ((), ((), ()))
def s4 (T : S.Tab) (t0 : List Int) (t1 : Int) : Option (Int × Unit × Unit × Unit) := T.fn 56 (t0, t1, ())
abbrev K6 : Unit × Unit × Unit := ((), ((), ()))
def s6 (T : S.Tab) (t0 : List Int) (t1 : Int) : Option (Int × Unit × Unit × Unit) := T.fn 28 (t0, t1, ())
abbrev az8 : Unit × Unit × Unit × Unit := ((), ((), ((), ())))
def ao9 (T : S.Tab) (t0 : Int) (t1 : Int) (t2 : Int) : Option (Bool × Unit × Unit × Unit × Unit) := T.fn 80 (t0, t1, t2, ())
abbrev I1 : Unit × Unit := ((), ())
def N4 (T : S.Tab) (t0 : Int) : Option (List Int × Unit × Unit) := T.fn 47 (t0, ())
abbrev E8 : Unit × Unit × Unit := ((), ((), ()))
def D2 (T : S.Tab) (t0 : List Int) (t1 : List Int) : Option (Bool × Unit × Unit × Unit) := T.fn 94 (t0, t1, ())
abbrev S8 : Unit × Unit × Unit := ((), ((), ()))
def I9 (T : S.Tab) (t0 : List Int) (t1 : List Int) : Option (Bool × Unit × Unit × Unit) := T.fn 57 (t0, t1, ())
abbrev I8 : Unit × Unit × Unit := ((), ((), ()))
def H5 (T : S.Tab) (t0 : List Int) (t1 : Int) : Option ((j2.den × Bool × Unit) × Unit × Unit × Unit) := T.fn 32 (t0, t1, ())
def G7 (T : S.Tab) (t0 : List Int) (t1 : Int) (t4 : j2.den) (t7 : Int) : Option ((List Int × Int × j2.den × Int × Unit) ⊕ Empty) := T.pc 32 true 5 (t0, t1, t4, t7, ())
def o9 (T : S.Tab) (t0 : List Int) (t4 : j2.den) (t8 : List Int) (t9 : Int) : Option ((j2.den × Bool × Unit) ⊕ Empty) := T.pc 32 true 18 (t0, t4, t8, t9, ())
def E7 (T : S.Tab) (t0 : List Int) (t4 : j2.den) (t8 : List Int) (t9 : Int) (t11 : Int) : Option ((j2.den × Bool × Unit) ⊕ (List Int × j2.den × List Int × Int × Unit) ⊕ Empty) := T.pc 32 true 39 (t0, t4, t8, t9, t11, ())
def C3 (T : S.Tab) (t0 : List Int) (t1 : Int) (t4 : j2.den) (t14 : Int) (t15 : Int) : Option ((Int × j2.den × Unit) ⊕ Empty) := T.pc 32 true 49 (t0, t1, t4, t14, t15, ())
abbrev s9 : Unit × Unit × Unit := ((), ((), ()))
def Y9 (T : S.Tab) (t0 : List Int) (t1 : Int) : Option (Bool × Unit × Unit × Unit) := T.fn 77 (t0, t1, ())
abbrev T1 : Unit × Unit := ((), ())
def M4 (T : S.Tab) (t0 : List Int) : Option (Bool × Unit × Unit) := T.fn 43 (t0, ())
abbrev Q2 : Unit × Unit := ((), ())
def K1 (T : S.Tab) (t0 : List Int) : Option (Bool × Unit × Unit) := T.fn 44 (t0, ())
abbrev N2 : Unit × Unit × Unit := ((), ((), ()))
def F2 (T : S.Tab) (t0 : Int) (t1 : Int) : Option (List Int × Unit × Unit × Unit) := T.fn 79 (t0, t1, ())
abbrev S0 : Unit × Unit × Unit := ((), ((), ()))
def H6 (T : S.Tab) (t0 : Int) (t1 : Int) : Option (List Int × Unit × Unit × Unit) := T.fn 46 (t0, t1, ())
abbrev ar4 : Unit × Unit := ((), ())
def Z3 (T : S.Tab) (t0 : List Int) : Option (List Int × Unit × Unit) := T.fn 8 (t0, ())
def x6 (T : S.Tab) (t0 : List Int) (t3 : List Int) (t4 : Int) : Option ((List Int × Unit) ⊕ Empty) := T.pc 8 true 6 (t0, t3, t4, ())
abbrev r9 : (Unit × Unit × Unit × Unit × Unit × Unit × Unit) × Unit := (((), ((), ((), ((), ((), ((), ())))))), ())
def D6 (T : S.Tab) (t0 : j2.den) : Option (List Int × (Unit × Unit × Unit × Unit × Unit × Unit × Unit) × Unit) := T.fn 17 (t0, ())
abbrev D3 : (Unit × Unit × Unit × Unit × Unit × Unit × Unit) × Unit := (((), ((), ((), ((), ((), ((), ())))))), ())
def E5 (T : S.Tab) (t0 : j2.den) : Option (Bool × (Unit × Unit × Unit × Unit × Unit × Unit × Unit) × Unit) := T.fn 5 (t0, ())
theorem ad7 (T : S.Tab) (t0 : j2.den) (t1 : Int) : L7 (S.step T) t0 t1 =
 brk (decide (IntKind.i64.wrap (t1 - (t0.2.2.2.2.2.1.length : Int)) < 0)) (
 some ((-1 : Int), O6)) (
 some (IntKind.i64.wrap (t1 - (t0.2.2.2.2.2.1.length : Int)), O6))
 := eF Tryd.func14 (by kernel_rfl)
theorem ax3 (T : S.Tab) (t0 : j2.den) : P7 (S.step T) t0 =
 some (t0, ah8)
 := eF Tryd.func16 (by kernel_rfl)
theorem as6 (T : S.Tab) (t0 : Int) : M9 (S.step T) t0 =
 brk (decide (97 ≤ t0)) (
 brk (decide (t0 ≤ 122)) (
  some (true, C4)) (
  brk (decide (65 ≤ t0)) (
  brk (decide (t0 ≤ 90)) (
   some (true, C4)) (
   some (decide (t0 = 95), C4))) (
  some (decide (t0 = 95), C4)))) (
 brk (decide (65 ≤ t0)) (
  brk (decide (t0 ≤ 90)) (
  some (true, C4)) (
  some (decide (t0 = 95), C4))) (
  some (decide (t0 = 95), C4)))
 := eF Tryd.func65 (by kernel_rfl)
theorem aA1 (T : S.Tab) (t0 : List Int) (t1 : Int) : q9 (S.step T) t0 t1 =
 brk (decide (t1 < (t0.length : Int))) (
 brk (decide (0 ≤ t1) && decide (t1 < (t0.length : Int))) (
 some (t0.getD t1.toNat 0, ab8)) none) (
 some (0, ab8))
 := eF Tryd.func64 (by kernel_rfl)
theorem au5 (T : S.Tab) (t0 : Int) : y1 (S.step T) t0 =
 brk (decide (48 ≤ t0)) (
 some (decide (t0 ≤ 57), X7)) (
 some (false, X7))
 := eF Tryd.func67 (by kernel_rfl)
theorem ay8 (T : S.Tab) : W9 (S.step T) =
 some (([([97, 110, 100] : List Int), ([98, 114, 101, 97, 107] : List Int), ([99, 97, 116, 99, 104] : List Int), ([99, 111, 110, 115, 116] : List Int), ([100, 101, 102, 101, 114] : List Int), ([101, 108, 105, 102] : List Int), ([101, 108, 115, 101] : List Int), ([102, 97, 108, 115, 101] : List Int), ([102, 110] : List Int), ([102, 111, 114] : List Int), ([105, 102] : List Int), ([105, 110] : List Int), ([108, 101, 116] : List Int), ([110, 101, 120, 116] : List Int), ([110, 105, 108] : List Int), ([110, 111, 116] : List Int), ([111, 114] : List Int), ([114, 101, 116, 117, 114, 110] : List Int), ([116, 104, 114, 111, 119] : List Int), ([116, 114, 117, 101] : List Int), ([116, 114, 121] : List Int), ([119, 104, 105, 108, 101] : List Int)] : List (List Int)), ah2)
 := eF Tryd.func76 (by kernel_rfl)
theorem aB2 (T : S.Tab) (t0 : List Int) (t1 : j2.den) : aa9 (S.step T) t0 t1 =
 (B7 T t0 t1 (0, 0, 0, 0, 0, ([] : List Int), ()) t1.2.1).bind (B9
  (fun y2 =>
 brk (bounds y2.1.length y2.2.1.2.1 y2.2.2.2.1) (
 (W9 T).bind fun d32 =>
 (C0 T (1, y2.2.1.2.1, y2.2.2.2.1, y2.2.1.2.2.2) y2.2.2.1 (sub y2.1 y2.2.1.2.1 y2.2.2.2.1) d32.1 (d32.1.length : Int) 0).bind (aa5
  (fun y8 =>
  some (y8, aa8))
  (fun y8 =>
  some (((y8.1.1, y8.1.2.1, y8.1.2.2.1, y8.1.2.2.2.1, y8.1.2.2.2.2.1, y8.2.2), (-1 : Int), ()), aa8)))) none))
 := eF Tryd.func66 (by kernel_rfl)
theorem Z0 (T : S.Tab) (t0 : List Int) (t3 : j2.den) (t4 : j2.den) (t6 : Int) : B7 (S.step T) t0 t3 t4 t6 =
 (q9 T t0 t6).bind fun d14 =>
 (M9 T d14.1).bind fun d15 =>
 brk (d15.1) (
 B7 T t0 t3 t4 (IntKind.i64.wrap (t6 + 1))) (
 (q9 T t0 t6).bind fun d19 =>
 (y1 T d19.1).bind fun d20 =>
 brk (d20.1) (
  B7 T t0 t3 t4 (IntKind.i64.wrap (t6 + 1))) (
  some (Sum.inl (t0, t3, t4, t6, ()))))
 := eL Tryd.func66 rfl (by kernel_rfl)
theorem Y2 (T : S.Tab) (t3 : j2.den) (t4 : j2.den) (t7 : List Int) (t32 : List (List Int)) (t33 : Int) (t34 : Int) : C0 (S.step T) t3 t4 t7 t32 t33 t34 =
 brk (decide (t34 < t33)) (
 brk (decide (0 ≤ t34) && decide (t34 < (t32.length : Int))) (
 brk (decide ((t32.getD t34.toNat []) = t7)) (
  some (Sum.inl ((IntKind.i64.wrap (10 + t34), t3.2), (-1 : Int), ()))) (
  C0 T t3 t4 t7 t32 t33 (IntKind.i64.wrap (t34 + 1)))) none) (
 some (Sum.inr (Sum.inl (t3, t4, t7, ()))))
 := eL Tryd.func66 rfl (by kernel_rfl)
theorem aJ2 (T : S.Tab) (t0 : Int) : N8 (S.step T) t0 =
 (y1 T t0).bind fun d4 =>
 brk (d4.1) (
 some (IntKind.i64.wrap (IntKind.u8.wrap (t0 - 48)), O9)) (
 brk (decide (97 ≤ t0)) (
  brk (decide (t0 ≤ 102)) (
  some (IntKind.i64.wrap ((IntKind.i64.wrap (IntKind.u8.wrap (t0 - 97))) + 10), O9)) (
  some ((-1 : Int), O9))) (
  some ((-1 : Int), O9)))
 := eF Tryd.func99 (by kernel_rfl)
theorem ax8 (T : S.Tab) (t0 : List Int) (t1 : j2.den) : W3 (S.step T) t0 t1 =
 (A0 T t0 t1 (0, 0, 0, 0, 0, ([] : List Int), ()) (IntKind.i64.wrap (t1.2.1 + 2)) 0).bind (aa5
  (fun y3 =>
 some (y3, O8))
  (fun y3 =>
 brk (decide (y3.2.2.1 = IntKind.i64.wrap (y3.1.2.1 + 2))) (
  some ((y3.1, y3.2.2.1, ()), O8)) (
  some (((y3.1.1, y3.1.2.1, y3.2.2.1, y3.1.2.2.2.1, IntKind.i64.wrap y3.2.2.2.1, y3.1.2.2.2.2.2), (-1 : Int), ()), O8))))
 := eF Tryd.func98 (by kernel_rfl)
theorem H7 (T : S.Tab) (t0 : List Int) (t3 : j2.den) (t4 : j2.den) (t6 : Int) (t7 : Int) : A0 (S.step T) t0 t3 t4 t6 t7 =
 (q9 T t0 t6).bind fun d13 =>
 (N8 T d13.1).bind fun d14 =>
 brk (decide (0 ≤ d14.1)) (
 brk (decide (IntKind.i64.wrap (t6 - t3.2.1) = 18)) (
  some (Sum.inl (t3, t6, ()))) (
  brk (decide (0 ≤ t6) && decide (t6 < (t0.length : Int))) (
  (N8 T (t0.getD t6.toNat 0)).bind fun d28 =>
  A0 T t0 t3 t4 (IntKind.i64.wrap (t6 + 1)) (IntKind.u64.wrap ((IntKind.u64.wrap (t7 * 16)) + (IntKind.u64.wrap d28.1)))) none)) (
 some (Sum.inr (Sum.inl (t3, t4, t6, t7, ()))))
 := eL Tryd.func98 rfl (by kernel_rfl)
theorem Q4 (T : S.Tab) (t0 : List Int) (t1 : j2.den) : I5 (S.step T) t0 t1 =
 brk (decide (0 ≤ t1.2.1) && decide (t1.2.1 < (t0.length : Int))) (
 brk (decide (t0.getD t1.2.1.toNat 0 = 48)) (
 (q9 T t0 (IntKind.i64.wrap (t1.2.1 + 1))).bind fun d20 =>
 brk (decide (d20.1 = 120)) (
  (W3 T t0 (2, t1.2)).bind fun d25 =>
  some (d25.1, F4)) (
  brk (decide (0 ≤ t1.2.1) && decide (t1.2.1 < (t0.length : Int))) (
  brk (!decide (t0.getD t1.2.1.toNat 0 = 48)) (
  (x8 T t0 (2, t1.2) (0, 0, 0, 0, 0, ([] : List Int), ()) (IntKind.i64.wrap (t1.2.1 + 1))).bind (B9
   (fun y7 =>
   (x7 T y7.1 y7.2.1 y7.2.2.1 y7.2.2.2.1).bind (B9
    (fun y9 =>
   some (y9, F4)))))) (
  (x7 T t0 (2, t1.2) (0, 0, 0, 0, 0, ([] : List Int), ()) (IntKind.i64.wrap (t1.2.1 + 1))).bind (B9
   (fun y9 =>
   some (y9, F4))))) none)) (
 brk (decide (0 ≤ t1.2.1) && decide (t1.2.1 < (t0.length : Int))) (
 brk (!decide (t0.getD t1.2.1.toNat 0 = 48)) (
  (x8 T t0 (2, t1.2) (0, 0, 0, 0, 0, ([] : List Int), ()) (IntKind.i64.wrap (t1.2.1 + 1))).bind (B9
   (fun y7 =>
  (x7 T y7.1 y7.2.1 y7.2.2.1 y7.2.2.2.1).bind (B9
   (fun y9 =>
   some (y9, F4)))))) (
  (x7 T t0 (2, t1.2) (0, 0, 0, 0, 0, ([] : List Int), ()) (IntKind.i64.wrap (t1.2.1 + 1))).bind (B9
   (fun y9 =>
  some (y9, F4))))) none)) none
 := eF Tryd.func68 (by kernel_rfl)
theorem K7 (T : S.Tab) (t0 : List Int) (t3 : j2.den) (t4 : j2.den) (t6 : Int) : x7 (S.step T) t0 t3 t4 t6 =
 (q9 T t0 t6).bind fun d43 =>
 brk (decide (d43.1 = 46)) (
 (q9 T t0 (IntKind.i64.wrap (t6 + 1))).bind fun d49 =>
 (y1 T d49.1).bind fun d50 =>
 brk (d50.1) (
  (z6 T t0 (3, t3.2) t4 (IntKind.i64.wrap (t6 + 1))).bind (B9
   (fun y12 =>
  (p9 T y12.1 y12.2.1 y12.2.2.1 y12.2.2.2.1).bind (B9
   (fun y14 =>
   some (Sum.inl y14)))))) (
  (p9 T t0 t3 t4 t6).bind (B9
   (fun y14 =>
  some (Sum.inl y14))))) (
 (p9 T t0 t3 t4 t6).bind (B9
  (fun y14 =>
  some (Sum.inl y14))))
 := eJ Tryd.func68 rfl (by kernel_rfl)
theorem Q8 (T : S.Tab) (t0 : List Int) (t3 : j2.den) (t4 : j2.den) (t6 : Int) : p9 (S.step T) t0 t3 t4 t6 =
 (q9 T t0 t6).bind fun d63 =>
 brk (decide (d63.1 = 101)) (
 (q9 T t0 (IntKind.i64.wrap (t6 + 1))).bind fun d70 =>
 brk (decide (d70.1 = 45)) (
  (q9 T t0 (IntKind.i64.wrap ((IntKind.i64.wrap (t6 + 1)) + 1))).bind fun d82 =>
  (y1 T d82.1).bind fun d83 =>
  brk (!d83.1) (
  some (Sum.inl ((3, t3.2), IntKind.i64.wrap ((IntKind.i64.wrap (t6 + 1)) + 1), ()))) (
  (q8 T t0 (3, t3.2) t4 (IntKind.i64.wrap ((IntKind.i64.wrap (t6 + 1)) + 1))).bind (B9
   (fun y21 =>
   (p8 T y21.1 y21.2.1 y21.2.2.1 y21.2.2.2.1).bind (B9
    (fun y23 =>
   some (Sum.inl y23))))))) (
  (q9 T t0 (IntKind.i64.wrap (t6 + 1))).bind fun d75 =>
  brk (decide (d75.1 = 43)) (
  (q9 T t0 (IntKind.i64.wrap ((IntKind.i64.wrap (t6 + 1)) + 1))).bind fun d82 =>
  (y1 T d82.1).bind fun d83 =>
  brk (!d83.1) (
   some (Sum.inl ((3, t3.2), IntKind.i64.wrap ((IntKind.i64.wrap (t6 + 1)) + 1), ()))) (
   (q8 T t0 (3, t3.2) t4 (IntKind.i64.wrap ((IntKind.i64.wrap (t6 + 1)) + 1))).bind (B9
    (fun y21 =>
   (p8 T y21.1 y21.2.1 y21.2.2.1 y21.2.2.2.1).bind (B9
    (fun y23 =>
    some (Sum.inl y23))))))) (
  (q9 T t0 (IntKind.i64.wrap (t6 + 1))).bind fun d82 =>
  (y1 T d82.1).bind fun d83 =>
  brk (!d83.1) (
   some (Sum.inl ((3, t3.2), IntKind.i64.wrap (t6 + 1), ()))) (
   (q8 T t0 (3, t3.2) t4 (IntKind.i64.wrap (t6 + 1))).bind (B9
    (fun y21 =>
   (p8 T y21.1 y21.2.1 y21.2.2.1 y21.2.2.2.1).bind (B9
    (fun y23 =>
    some (Sum.inl y23))))))))) (
 (p8 T t0 t3 t4 t6).bind (B9
  (fun y23 =>
  some (Sum.inl y23))))
 := eJ Tryd.func68 rfl (by kernel_rfl)
theorem R8 (T : S.Tab) (t0 : List Int) (t3 : j2.den) (t4 : j2.den) (t6 : Int) : p8 (S.step T) t0 t3 t4 t6 =
 (l5 T t0 (t3.1, t3.2.1, t6, t3.2.2.2) t4 t6 0 t3.2.1).bind (B9
  (fun y26 =>
 brk (decide (y26.2.1.1 = 3)) (
  brk (bounds y26.1.length y26.2.1.2.1 y26.2.2.2.1) (
  some (Sum.inl ((y26.2.1.1, y26.2.1.2.1, y26.2.1.2.2.1, y26.2.1.2.2.2.1, y26.2.1.2.2.2.2.1, sub y26.1 y26.2.1.2.1 y26.2.2.2.1, ()), (-1 : Int), ()))) none) (
  some (Sum.inl ((y26.2.1.1, y26.2.1.2.1, y26.2.1.2.2.1, y26.2.1.2.2.2.1, IntKind.i64.wrap y26.2.2.2.2.1, y26.2.1.2.2.2.2.2), (-1 : Int), ())))))
 := eJ Tryd.func68 rfl (by kernel_rfl)
theorem S9 (T : S.Tab) (t0 : List Int) (t3 : j2.den) (t4 : j2.den) (t6 : Int) : x8 (S.step T) t0 t3 t4 t6 =
 (q9 T t0 t6).bind fun d37 =>
 (y1 T d37.1).bind fun d38 =>
 brk (d38.1) (
 x8 T t0 t3 t4 (IntKind.i64.wrap (t6 + 1))) (
 some (Sum.inl (t0, t3, t4, t6, ())))
 := eL Tryd.func68 rfl (by kernel_rfl)
theorem R6 (T : S.Tab) (t0 : List Int) (t3 : j2.den) (t4 : j2.den) (t6 : Int) : z6 (S.step T) t0 t3 t4 t6 =
 (q9 T t0 t6).bind fun d57 =>
 (y1 T d57.1).bind fun d58 =>
 brk (d58.1) (
 z6 T t0 t3 t4 (IntKind.i64.wrap (t6 + 1))) (
 some (Sum.inl (t0, t3, t4, t6, ())))
 := eL Tryd.func68 rfl (by kernel_rfl)
theorem Q6 (T : S.Tab) (t0 : List Int) (t3 : j2.den) (t4 : j2.den) (t6 : Int) : q8 (S.step T) t0 t3 t4 t6 =
 (q9 T t0 t6).bind fun d89 =>
 (y1 T d89.1).bind fun d90 =>
 brk (d90.1) (
 q8 T t0 t3 t4 (IntKind.i64.wrap (t6 + 1))) (
 some (Sum.inl (t0, t3, t4, t6, ())))
 := eL Tryd.func68 rfl (by kernel_rfl)
theorem A5 (T : S.Tab) (t0 : List Int) (t3 : j2.den) (t4 : j2.den) (t6 : Int) (t7 : Int) (t8 : Int) : l5 (S.step T) t0 t3 t4 t6 t7 t8 =
 brk (decide (t8 < t6)) (
 brk (decide (t3.1 = 2)) (
  brk (decide (922337203685477580 < t7)) (
  brk (decide (0 ≤ t8) && decide (t8 < (t0.length : Int))) (
  l5 T t0 (3, t3.2) t4 t6 (IntKind.u64.wrap ((IntKind.u64.wrap (t7 * 10)) + (IntKind.u64.wrap (IntKind.u8.wrap ((t0.getD t8.toNat 0) - 48))))) (IntKind.i64.wrap (t8 + 1))) none) (
  brk (decide (t7 = 922337203685477580)) (
   brk (decide (0 ≤ t8) && decide (t8 < (t0.length : Int))) (
   brk (decide (55 < t0.getD t8.toNat 0)) (
   brk (decide (0 ≤ t8) && decide (t8 < (t0.length : Int))) (
   l5 T t0 (3, t3.2) t4 t6 (IntKind.u64.wrap ((IntKind.u64.wrap (t7 * 10)) + (IntKind.u64.wrap (IntKind.u8.wrap ((t0.getD t8.toNat 0) - 48))))) (IntKind.i64.wrap (t8 + 1))) none) (
   brk (decide (0 ≤ t8) && decide (t8 < (t0.length : Int))) (
   l5 T t0 t3 t4 t6 (IntKind.u64.wrap ((IntKind.u64.wrap (t7 * 10)) + (IntKind.u64.wrap (IntKind.u8.wrap ((t0.getD t8.toNat 0) - 48))))) (IntKind.i64.wrap (t8 + 1))) none)) none) (
   brk (decide (0 ≤ t8) && decide (t8 < (t0.length : Int))) (
   l5 T t0 t3 t4 t6 (IntKind.u64.wrap ((IntKind.u64.wrap (t7 * 10)) + (IntKind.u64.wrap (IntKind.u8.wrap ((t0.getD t8.toNat 0) - 48))))) (IntKind.i64.wrap (t8 + 1))) none))) (
  some (Sum.inl (t0, t3, t4, t6, t7, ())))) (
 some (Sum.inl (t0, t3, t4, t6, t7, ())))
 := eL Tryd.func68 rfl (by kernel_rfl)
theorem at1 (T : S.Tab) (t0 : List Int) (t1 : j2.den) : S6 (S.step T) t0 t1 =
 (j5 T t0 (4, t1.2) (0, 0, 0, 0, 0, ([] : List Int), ()) (IntKind.i64.wrap (t1.2.1 + 1)) []).bind (aa5
  (fun y4 =>
 some (y4, U1))
  (fun y4 =>
 some ((y4.1, y4.2.2), U1)))
 := eF Tryd.func69 (by kernel_rfl)
theorem J7 (T : S.Tab) (t0 : List Int) (t3 : j2.den) (t4 : j2.den) (t6 : Int) (t7 : List Int) (t46 : Int) (t59 : Bool) : r8 (S.step T) t0 t3 t4 t6 t7 t46 t59 =
 brk (t59) (
 brk (decide (0 ≤ t6) && decide (t6 < (t0.length : Int))) (
 brk (fits (t7.length + ([t0.getD t6.toNat 0] : List Int).length)) (
 some (Sum.inl (t0, t3, t4, t6, t7 ++ ([t0.getD t6.toNat 0] : List Int), ()))) none) none) (
 brk (decide (t46 = 120)) (
  (s8 T t0 t3 t4 t6 t7 1).bind (aa5
   (fun y27 =>
  some (Sum.inr (Sum.inl y27)))
   (fun y27 =>
  brk (decide (0 ≤ IntKind.i64.wrap (y27.2.2.2.1 + 1)) && decide (IntKind.i64.wrap (y27.2.2.2.1 + 1) < (y27.1.length : Int))) (
  (N8 T (y27.1.getD ((IntKind.i64.wrap (y27.2.2.2.1 + 1)).toNat) 0)).bind fun d90 =>
  brk (decide (0 ≤ IntKind.i64.wrap (y27.2.2.2.1 + 2)) && decide (IntKind.i64.wrap (y27.2.2.2.1 + 2) < (y27.1.length : Int))) (
  (N8 T (y27.1.getD ((IntKind.i64.wrap (y27.2.2.2.1 + 2)).toNat) 0)).bind fun d96 =>
  brk (fits (y27.2.2.2.2.1.length + ([IntKind.u8.wrap (IntKind.i64.wrap ((IntKind.i64.wrap (16 * d90.1)) + d96.1))] : List Int).length)) (
  some (Sum.inl (y27.1, y27.2.1, y27.2.2.1, IntKind.i64.wrap (y27.2.2.2.1 + 2), y27.2.2.2.2.1 ++ ([IntKind.u8.wrap (IntKind.i64.wrap ((IntKind.i64.wrap (16 * d90.1)) + d96.1))] : List Int), ()))) none) none) none))) (
  some (Sum.inr (Sum.inl (t3, t6, ())))))
 := eJ Tryd.func69 rfl (by kernel_rfl)
theorem B0 (T : S.Tab) (t0 : List Int) (t3 : j2.den) (t4 : j2.den) (t6 : Int) (t7 : List Int) : j5 (S.step T) t0 t3 t4 t6 t7 =
 brk (decide (t6 < (t0.length : Int))) (
 brk (decide (0 ≤ t6) && decide (t6 < (t0.length : Int))) (
 brk (decide (t0.getD t6.toNat 0 = 34)) (
  some (Sum.inl ((t3.1, t3.2.1, IntKind.i64.wrap (t6 + 1), t3.2.2.2.1, t3.2.2.2.2.1, t7.map byte, ()), (-1 : Int), ()))) (
  brk (decide (t0.getD t6.toNat 0 = 10)) (
  some (Sum.inl (t3, t6, ()))) (
  brk (!decide (t0.getD t6.toNat 0 = 92)) (
   brk (fits (t7.length + ([t0.getD t6.toNat 0] : List Int).length)) (
   j5 T t0 t3 t4 (IntKind.i64.wrap (t6 + 1)) (t7 ++ ([t0.getD t6.toNat 0] : List Int))) none) (
   (q9 T t0 (IntKind.i64.wrap (t6 + 1))).bind fun d46 =>
   brk (decide (d46.1 = 110)) (
   brk (fits (t7.length + 1)) (
   j5 T t0 t3 t4 (IntKind.i64.wrap ((IntKind.i64.wrap (t6 + 1)) + 1)) (t7 ++ ([10] : List Int))) none) (
   brk (decide (d46.1 = 116)) (
    brk (fits (t7.length + 1)) (
    j5 T t0 t3 t4 (IntKind.i64.wrap ((IntKind.i64.wrap (t6 + 1)) + 1)) (t7 ++ ([9] : List Int))) none) (
    brk (decide (d46.1 = 34)) (
    (r8 T t0 t3 t4 (IntKind.i64.wrap (t6 + 1)) t7 d46.1 (decide (d46.1 = 34))).bind (aa5
     (fun y24 =>
     j5 T y24.1 y24.2.1 y24.2.2.1 (IntKind.i64.wrap (y24.2.2.2.1 + 1)) y24.2.2.2.2.1)
     (fun y24 =>
     some (Sum.inl y24)))) (
    (r8 T t0 t3 t4 (IntKind.i64.wrap (t6 + 1)) t7 d46.1 (decide (d46.1 = 92))).bind (aa5
     (fun y24 =>
     j5 T y24.1 y24.2.1 y24.2.2.1 (IntKind.i64.wrap (y24.2.2.2.1 + 1)) y24.2.2.2.2.1)
     (fun y24 =>
     some (Sum.inl y24)))))))))) none) (
 some (Sum.inr (Sum.inl (t3, t4, t6, ()))))
 := eL Tryd.func69 rfl (by kernel_rfl)
theorem J8 (T : S.Tab) (t0 : List Int) (t3 : j2.den) (t4 : j2.den) (t6 : Int) (t7 : List Int) (t9 : Int) : s8 (S.step T) t0 t3 t4 t6 t7 t9 =
 brk (decide (t9 < 3)) (
 (q9 T t0 (IntKind.i64.wrap (t6 + t9))).bind fun d78 =>
 (N8 T d78.1).bind fun d79 =>
 brk (decide (d79.1 < 0)) (
  some (Sum.inl (t3, IntKind.i64.wrap (t6 + t9), ()))) (
  s8 T t0 t3 t4 t6 t7 (IntKind.i64.wrap (t9 + 1)))) (
 some (Sum.inr (Sum.inl (t0, t3, t4, t6, t7, ()))))
 := eL Tryd.func69 rfl (by kernel_rfl)
theorem aw4 (T : S.Tab) : I3 (S.step T) =
 some (([([46, 46, 46] : List Int), ([46, 46] : List Int), ([46] : List Int), ([60, 60] : List Int), ([60, 61] : List Int), ([60] : List Int), ([62, 62] : List Int), ([62, 61] : List Int), ([62] : List Int), ([61, 61] : List Int), ([61] : List Int), ([126, 61] : List Int), ([126] : List Int), ([47, 47] : List Int), ([47] : List Int), ([40] : List Int), ([41] : List Int), ([123] : List Int), ([125] : List Int), ([91] : List Int), ([93] : List Int), ([44] : List Int), ([59] : List Int), ([35] : List Int), ([43] : List Int), ([45] : List Int), ([42] : List Int), ([37] : List Int), ([38] : List Int), ([124] : List Int)] : List (List Int)), ah7)
 := eF Tryd.func70 (by kernel_rfl)
theorem aA3 (T : S.Tab) (t0 : List Int) : F0 (S.step T) t0 =
 (z7 T t0 ([([] : List Int), ([43] : List Int), ([45] : List Int), ([42] : List Int), ([47] : List Int), ([47, 47] : List Int), ([37] : List Int), ([38] : List Int), ([124] : List Int), ([126] : List Int), ([60, 60] : List Int), ([62, 62] : List Int), ([46, 46] : List Int), ([61, 61] : List Int), ([126, 61] : List Int), ([60] : List Int), ([60, 61] : List Int), ([62] : List Int), ([62, 61] : List Int)] : List (List Int)) 1).bind (aa5
  (fun y3 =>
 some (y3.1, E6))
  (fun y3 =>
 (B8 T y3.1 ([([40] : List Int), ([41] : List Int), ([123] : List Int), ([125] : List Int), ([91] : List Int), ([93] : List Int), ([44] : List Int), ([61] : List Int), ([46] : List Int), ([46, 46, 46] : List Int), ([35] : List Int)] : List (List Int)) (([([40] : List Int), ([41] : List Int), ([123] : List Int), ([125] : List Int), ([91] : List Int), ([93] : List Int), ([44] : List Int), ([61] : List Int), ([46] : List Int), ([46, 46, 46] : List Int), ([35] : List Int)] : List (List Int)).length : Int) 0).bind (aa5
  (fun y9 =>
  some (y9.1, E6))
  (fun y9 =>
  some (5, E6)))))
 := eF Tryd.func71 (by kernel_rfl)
theorem Y4 (T : S.Tab) (t0 : List Int) (t3 : List (List Int)) (t4 : Int) : z7 (S.step T) t0 t3 t4 =
 brk (decide (t4 < (t3.length : Int))) (
 brk (decide (0 ≤ t4) && decide (t4 < (t3.length : Int))) (
 brk (decide ((t3.getD t4.toNat []) = t0)) (
  some (Sum.inl (IntKind.i64.wrap (60 + t4), ()))) (
  z7 T t0 t3 (IntKind.i64.wrap (t4 + 1)))) none) (
 some (Sum.inr (Sum.inl (t0, ()))))
 := eL Tryd.func71 rfl (by kernel_rfl)
theorem Y5 (T : S.Tab) (t0 : List Int) (t24 : List (List Int)) (t25 : Int) (t26 : Int) : B8 (S.step T) t0 t24 t25 t26 =
 brk (decide (t26 < t25)) (
 brk (decide (0 ≤ t26) && decide (t26 < (t24.length : Int))) (
 brk (decide ((t24.getD t26.toNat []) = t0)) (
  some (Sum.inl (IntKind.i64.wrap (40 + t26), ()))) (
  B8 T t0 t24 t25 (IntKind.i64.wrap (t26 + 1)))) none) (
 some (Sum.inr (Sum.inl ())))
 := eL Tryd.func71 rfl (by kernel_rfl)
theorem aA5 (T : S.Tab) (t0 : List Int) (t1 : Int) : E0 (S.step T) t0 t1 =
 brk (decide (0 ≤ t1) && decide (t1 < (t0.length : Int))) (
 brk (decide (t0.getD t1.toNat 0 = 10)) (
 some (((7, t1, IntKind.i64.wrap (t1 + 1), 0, 0, ([] : List Int), ()), (-1 : Int), ()), H0)) (
 (M9 T (t0.getD t1.toNat 0)).bind fun d23 =>
 brk (d23.1) (
  (aa9 T t0 (0, t1, 0, 0, 0, ([] : List Int), ())).bind fun d26 =>
  some (d26.1, H0)) (
  (y1 T (t0.getD t1.toNat 0)).bind fun d30 =>
  brk (d30.1) (
  (I5 T t0 (0, t1, 0, 0, 0, ([] : List Int), ())).bind fun d33 =>
  some (d33.1, H0)) (
  brk (decide (t0.getD t1.toNat 0 = 34)) (
   (S6 T t0 (0, t1, 0, 0, 0, ([] : List Int), ())).bind fun d40 =>
   some (d40.1, H0)) (
   (I3 T).bind fun d43 =>
   (w7 T t0 t1 (0, 0, 0, 0, 0, ([] : List Int), ()) (0, t1, 0, 0, 0, ([] : List Int), ()) d43.1 (d43.1.length : Int) 0).bind (aa5
    (fun y14 =>
   some (y14, H0))
    (fun y14 =>
   some ((y14.2.2.1, y14.1, ()), H0)))))))) none
 := eF Tryd.func34 (by kernel_rfl)
theorem W4 (T : S.Tab) (t0 : List Int) (t1 : Int) (t4 : j2.den) (t6 : j2.den) (t43 : List (List Int)) (t44 : Int) (t45 : Int) : w7 (S.step T) t0 t1 t4 t6 t43 t44 t45 =
 brk (decide (t45 < t44)) (
 brk (decide (0 ≤ t45) && decide (t45 < (t43.length : Int))) (
 brk (decide (((t43.getD t45.toNat []).length : Int) ≤ IntKind.i64.wrap ((t0.length : Int) - t1))) (
  brk (bounds t0.length t1 (IntKind.i64.wrap (t1 + ((t43.getD t45.toNat []).length : Int)))) (
  brk (decide ((sub t0 t1 (IntKind.i64.wrap (t1 + ((t43.getD t45.toNat []).length : Int)))) = (t43.getD t45.toNat []))) (
  (F0 T (t43.getD t45.toNat [])).bind fun d68 =>
  some (Sum.inl ((d68.1, t6.2.1, IntKind.i64.wrap (t1 + ((t43.getD t45.toNat []).length : Int)), t6.2.2.2), (-1 : Int), ()))) (
  w7 T t0 t1 t4 t6 t43 t44 (IntKind.i64.wrap (t45 + 1)))) none) (
  w7 T t0 t1 t4 t6 t43 t44 (IntKind.i64.wrap (t45 + 1)))) none) (
 some (Sum.inr (Sum.inl (t1, t4, t6, ()))))
 := eL Tryd.func34 rfl (by kernel_rfl)
theorem Q0 (T : S.Tab) (t0 : List Int) : E3 (S.step T) t0 =
 brk (decide ((t0.length : Int) = 0)) (
 some (false, D9)) (
 brk (decide (40 < (t0.length : Int))) (
  some (false, D9)) (
  brk (decide (0 < (t0.length : Int))) (
  (M9 T (t0.getD 0 0)).bind fun d16 =>
  brk (!d16.1) (
  some (false, D9)) (
  (E0 T t0 0).bind fun d21 =>
  brk (decide (d21.1.2.1 < 0)) (
   brk (decide (d21.1.1.1 = 1)) (
   some (decide (d21.1.1.2.2.1 = (t0.length : Int)), D9)) (
   some (false, D9))) (
   some (false, D9)))) none))
 := eF Tryd.func38 (by kernel_rfl)
theorem Z4 (T : S.Tab) (t0 : Int) : K3 (S.step T) t0 =
 brk (decide (t0 = 0)) (
 some (([48] : List Int), K5)) (
 (x9 T t0 (decide (t0 < 0)) []).bind (B9
  (fun y5 =>
  brk (y5.1) (
  (E2 T y5.2.1 ([45] : List Int)).bind (B9
   (fun y14 =>
   some (y14.1, K5)))) (
  (E2 T y5.2.1 ([] : List Int)).bind (B9
   (fun y14 =>
   some (y14.1, K5)))))))
 := eF Tryd.func74 (by kernel_rfl)
theorem ae0 (T : S.Tab) (t4 : List Int) (t6 : List Int) : E2 (S.step T) t4 t6 =
 (C6 T t4 t6 (IntKind.i64.wrap ((t4.length : Int) - 1))).bind (B9
  (fun y15 =>
 some (Sum.inl y15)))
 := eJ Tryd.func74 rfl (by kernel_rfl)
theorem J6 (T : S.Tab) (t0 : Int) (t3 : Bool) (t4 : List Int) : x9 (S.step T) t0 t3 t4 =
 brk (!decide (t0 = 0)) (
 brk (decide (t0.tmod 10 < 0)) (
  brk (fits (t4.length + ([IntKind.u8.wrap (IntKind.i64.wrap (48 + (IntKind.i64.wrap (0 - (t0.tmod 10)))))] : List Int).length)) (
  x9 T (IntKind.i64.wrap (t0.tdiv 10)) t3 (t4 ++ ([IntKind.u8.wrap (IntKind.i64.wrap (48 + (IntKind.i64.wrap (0 - (t0.tmod 10)))))] : List Int))) none) (
  brk (fits (t4.length + ([IntKind.u8.wrap (IntKind.i64.wrap (48 + (t0.tmod 10)))] : List Int).length)) (
  x9 T (IntKind.i64.wrap (t0.tdiv 10)) t3 (t4 ++ ([IntKind.u8.wrap (IntKind.i64.wrap (48 + (t0.tmod 10)))] : List Int))) none)) (
 some (Sum.inl (t3, t4, ())))
 := eL Tryd.func74 rfl (by kernel_rfl)
theorem P3 (T : S.Tab) (t4 : List Int) (t6 : List Int) (t7 : Int) : C6 (S.step T) t4 t6 t7 =
 brk (decide (0 ≤ t7)) (
 brk (decide (0 ≤ t7) && decide (t7 < (t4.length : Int))) (
 brk (fits (t6.length + (([t4.getD t7.toNat 0] : List Int).map byte).length)) (
 C6 T t4 (t6 ++ (([t4.getD t7.toNat 0] : List Int).map byte)) (IntKind.i64.wrap (t7 - 1))) none) none) (
 some (Sum.inl (t6, ())))
 := eL Tryd.func74 rfl (by kernel_rfl)
theorem aG8 (T : S.Tab) (t0 : Int) : af4 (S.step T) t0 =
 brk (decide (0 ≤ t0)) (
 (K3 T t0).bind fun d9 =>
 some (d9.1, af1)) (
 (G9 T t0 ([48, 49, 50, 51, 52, 53, 54, 55, 56, 57, 97, 98, 99, 100, 101, 102] : List Int) ([48, 120] : List Int) 60).bind (B9
  (fun y6 =>
  some (y6.1, af1))))
 := eF Tryd.func39 (by kernel_rfl)
theorem ac6 (T : S.Tab) (t0 : Int) (t3 : List Int) (t4 : List Int) (t5 : Int) : G9 (S.step T) t0 t3 t4 t5 =
 brk (decide (0 ≤ t5)) (
 brk (decide (0 ≤ IntKind.u64.wrap t5)) (
 brk (decide (0 ≤ intBits .and .u64 ((IntKind.u64.wrap t0).fdiv (2 ^ min ((IntKind.u64.wrap t5).toNat) IntKind.u64.bits)) 15) && decide (intBits .and .u64 ((IntKind.u64.wrap t0).fdiv (2 ^ min ((IntKind.u64.wrap t5).toNat) IntKind.u64.bits)) 15 < (t3.length : Int))) (
 brk (fits (t4.length + (([t3.getD ((intBits .and .u64 ((IntKind.u64.wrap t0).fdiv (2 ^ min ((IntKind.u64.wrap t5).toNat) IntKind.u64.bits)) 15).toNat) 0] : List Int).map byte).length)) (
 G9 T t0 t3 (t4 ++ (([t3.getD ((intBits .and .u64 ((IntKind.u64.wrap t0).fdiv (2 ^ min ((IntKind.u64.wrap t5).toNat) IntKind.u64.bits)) 15).toNat) 0] : List Int).map byte)) (IntKind.i64.wrap (t5 - 4))) none) none) none) (
 some (Sum.inl (t4, ())))
 := eL Tryd.func39 rfl (by kernel_rfl)
theorem U0 (T : S.Tab) (t0 : List Int) : G2 (S.step T) t0 =
 brk (decide ((t0.length : Int) = 0)) (
 some (false, E9)) (
 brk (decide (40 < (t0.length : Int))) (
  some (false, E9)) (
  brk (decide (0 < (t0.length : Int))) (
  (y1 T (t0.getD 0 0)).bind fun d16 =>
  brk (!d16.1) (
  some (false, E9)) (
  (E0 T t0 0).bind fun d21 =>
  brk (decide (d21.1.2.1 < 0)) (
   brk (decide (d21.1.1.1 = 3)) (
   some (decide (d21.1.1.2.2.1 = (t0.length : Int)), E9)) (
   some (false, E9))) (
   some (false, E9)))) none))
 := eF Tryd.func40 (by kernel_rfl)
theorem aw3 (T : S.Tab) (t0 : List Int) : W7 (S.step T) t0 =
 (o8 T t0 ([48, 49, 50, 51, 52, 53, 54, 55, 56, 57, 97, 98, 99, 100, 101, 102] : List Int) ([34] : List Int) 0).bind (B9
  (fun y4 =>
 brk (fits (y4.1.length + 1)) (
 some ((y4.1 ++ ([34] : List Int)).map byte, aA2)) none))
 := eF Tryd.func75 (by kernel_rfl)
theorem V9 (T : S.Tab) (t0 : List Int) (t3 : List Int) (t4 : List Int) (t5 : Int) : o8 (S.step T) t0 t3 t4 t5 =
 brk (decide (t5 < (t0.length : Int))) (
 brk (decide (0 ≤ t5) && decide (t5 < (t0.length : Int))) (
 brk (decide (t0.getD t5.toNat 0 = 10)) (
  brk (fits (t4.length + 2)) (
  o8 T t0 t3 (t4 ++ ([92, 110] : List Int)) (IntKind.i64.wrap (t5 + 1))) none) (
  brk (decide (t0.getD t5.toNat 0 = 9)) (
  brk (fits (t4.length + 2)) (
  o8 T t0 t3 (t4 ++ ([92, 116] : List Int)) (IntKind.i64.wrap (t5 + 1))) none) (
  brk (decide (t0.getD t5.toNat 0 = 34)) (
   brk (fits (t4.length + ([92, t0.getD t5.toNat 0] : List Int).length)) (
   o8 T t0 t3 (t4 ++ ([92, t0.getD t5.toNat 0] : List Int)) (IntKind.i64.wrap (t5 + 1))) none) (
   brk (decide (t0.getD t5.toNat 0 = 92)) (
   brk (fits (t4.length + ([92, t0.getD t5.toNat 0] : List Int).length)) (
   o8 T t0 t3 (t4 ++ ([92, t0.getD t5.toNat 0] : List Int)) (IntKind.i64.wrap (t5 + 1))) none) (
   brk (decide (t0.getD t5.toNat 0 < 32)) (
    brk (decide (0 ≤ (t0.getD t5.toNat 0).fdiv (2 ^ min ((4 : Int).toNat) IntKind.u8.bits)) && decide ((t0.getD t5.toNat 0).fdiv (2 ^ min ((4 : Int).toNat) IntKind.u8.bits) < (t3.length : Int))) (
    brk (decide (0 ≤ intBits .and .u8 (t0.getD t5.toNat 0) 15) && decide (intBits .and .u8 (t0.getD t5.toNat 0) 15 < (t3.length : Int))) (
    brk (fits (t4.length + ([92, 120, t3.getD (((t0.getD t5.toNat 0).fdiv (2 ^ min ((4 : Int).toNat) IntKind.u8.bits)).toNat) 0, t3.getD ((intBits .and .u8 (t0.getD t5.toNat 0) 15).toNat) 0] : List Int).length)) (
    o8 T t0 t3 (t4 ++ ([92, 120, t3.getD (((t0.getD t5.toNat 0).fdiv (2 ^ min ((4 : Int).toNat) IntKind.u8.bits)).toNat) 0, t3.getD ((intBits .and .u8 (t0.getD t5.toNat 0) 15).toNat) 0] : List Int)) (IntKind.i64.wrap (t5 + 1))) none) none) none) (
    brk (decide (126 < t0.getD t5.toNat 0)) (
    brk (decide (0 ≤ (t0.getD t5.toNat 0).fdiv (2 ^ min ((4 : Int).toNat) IntKind.u8.bits)) && decide ((t0.getD t5.toNat 0).fdiv (2 ^ min ((4 : Int).toNat) IntKind.u8.bits) < (t3.length : Int))) (
    brk (decide (0 ≤ intBits .and .u8 (t0.getD t5.toNat 0) 15) && decide (intBits .and .u8 (t0.getD t5.toNat 0) 15 < (t3.length : Int))) (
    brk (fits (t4.length + ([92, 120, t3.getD (((t0.getD t5.toNat 0).fdiv (2 ^ min ((4 : Int).toNat) IntKind.u8.bits)).toNat) 0, t3.getD ((intBits .and .u8 (t0.getD t5.toNat 0) 15).toNat) 0] : List Int).length)) (
    o8 T t0 t3 (t4 ++ ([92, 120, t3.getD (((t0.getD t5.toNat 0).fdiv (2 ^ min ((4 : Int).toNat) IntKind.u8.bits)).toNat) 0, t3.getD ((intBits .and .u8 (t0.getD t5.toNat 0) 15).toNat) 0] : List Int)) (IntKind.i64.wrap (t5 + 1))) none) none) none) (
    brk (fits (t4.length + ([t0.getD t5.toNat 0] : List Int).length)) (
    o8 T t0 t3 (t4 ++ ([t0.getD t5.toNat 0] : List Int)) (IntKind.i64.wrap (t5 + 1))) none))))))) none) (
 some (Sum.inl (t4, ())))
 := eL Tryd.func75 rfl (by kernel_rfl)
theorem al5 (T : S.Tab) (t0 : List Int) : Z7 (S.step T) t0 =
 brk (decide (4000 < (t0.length : Int))) (
 some (([] : List Int), ar0)) (
 (W7 T t0).bind fun d7 =>
 some (d7.1, ar0))
 := eF Tryd.func41 (by kernel_rfl)
theorem ah5 (T : S.Tab) (t0 : Int) : T9 (S.step T) t0 =
 brk (decide (t0 = 5)) (
 some (([59] : List Int), A1)) (
 (W9 T).bind fun d8 =>
 brk (decide (10 ≤ t0)) (
  brk (decide (t0 < IntKind.i64.wrap (10 + (d8.1.length : Int)))) (
  brk (decide (0 ≤ IntKind.i64.wrap (t0 - 10)) && decide (IntKind.i64.wrap (t0 - 10) < (d8.1.length : Int))) (
  some (d8.1.getD ((IntKind.i64.wrap (t0 - 10)).toNat) [], A1)) none) (
  (I3 T).bind fun d23 =>
  (u6 T t0 d23.1 (d23.1.length : Int) 0).bind (aa5
   (fun y7 =>
   some (y7.1, A1))
   (fun y7 =>
   some (([] : List Int), A1))))) (
  (I3 T).bind fun d23 =>
  (u6 T t0 d23.1 (d23.1.length : Int) 0).bind (aa5
   (fun y7 =>
  some (y7.1, A1))
   (fun y7 =>
  some (([] : List Int), A1)))))
 := eF Tryd.func42 (by kernel_rfl)
theorem X9 (T : S.Tab) (t0 : Int) (t23 : List (List Int)) (t24 : Int) (t25 : Int) : u6 (S.step T) t0 t23 t24 t25 =
 brk (decide (t25 < t24)) (
 brk (decide (0 ≤ t25) && decide (t25 < (t23.length : Int))) (
 (F0 T (t23.getD t25.toNat [])).bind fun d30 =>
 brk (decide (d30.1 = t0)) (
  some (Sum.inl (t23.getD t25.toNat [], ()))) (
  u6 T t0 t23 t24 (IntKind.i64.wrap (t25 + 1)))) none) (
 some (Sum.inr (Sum.inl ())))
 := eL Tryd.func42 rfl (by kernel_rfl)
theorem ao5 (T : S.Tab) (t0 : j2.den) : O3 (S.step T) t0 =
 brk (decide (t0.1 = 1)) (
 (E3 T t0.2.2.2.2.2.1).bind fun d9 =>
 brk (d9.1) (
  some (t0.2.2.2.2.2.1, w9)) (
  some (([] : List Int), w9))) (
 brk (decide (t0.1 = 2)) (
  (af4 T t0.2.2.2.2.1).bind fun d16 =>
  some (d16.1, w9)) (
  brk (decide (t0.1 = 3)) (
  (G2 T t0.2.2.2.2.2.1).bind fun d21 =>
  brk (d21.1) (
   some (t0.2.2.2.2.2.1, w9)) (
   some (([] : List Int), w9))) (
  brk (decide (t0.1 = 4)) (
   (Z7 T t0.2.2.2.2.2.1).bind fun d28 =>
   some (d28.1, w9)) (
   brk (decide (t0.1 = 7)) (
   some (([10] : List Int), w9)) (
   (T9 T t0.1).bind fun d33 =>
   some (d33.1, w9))))))
 := eF Tryd.func15 (by kernel_rfl)
theorem az9 (T : S.Tab) (t0 : Int) : N5 (S.step T) t0 =
 brk (decide (97 ≤ t0)) (
 brk (decide (t0 ≤ 122)) (
  some (true, E1)) (
  brk (decide (65 ≤ t0)) (
  brk (decide (t0 ≤ 90)) (
   some (true, E1)) (
   some (decide (t0 = 95), E1))) (
  some (decide (t0 = 95), E1)))) (
 brk (decide (65 ≤ t0)) (
  brk (decide (t0 ≤ 90)) (
  some (true, E1)) (
  some (decide (t0 = 95), E1))) (
  some (decide (t0 = 95), E1)))
 := eF Tryd.func58 (by kernel_rfl)
theorem aG3 (T : S.Tab) (t0 : Int) : F8 (S.step T) t0 =
 brk (decide (48 ≤ t0)) (
 some (decide (t0 ≤ 57), ae5)) (
 some (false, ae5))
 := eF Tryd.func59 (by kernel_rfl)
theorem aN8 (T : S.Tab) (t0 : List Int) : an4 (S.step T) t0 =
 (E4 T t0 Lx.words (Lx.words.length : Int) 0).bind (aa5
  (fun y2 =>
 some (y2.1, aj0))
  (fun y2 =>
 some (1, aj0)))
 := eF Tryd.func60 (by kernel_rfl)
theorem ad3 (T : S.Tab) (t0 : List Int) (t5 : List (List Int)) (t6 : Int) (t7 : Int) : E4 (S.step T) t0 t5 t6 t7 =
 brk (decide (t7 < t6)) (
 brk (decide (0 ≤ t7) && decide (t7 < (t5.length : Int))) (
 brk (decide ((t5.getD t7.toNat []) = t0)) (
  some (Sum.inl (IntKind.i64.wrap (10 + t7), ()))) (
  E4 T t0 t5 t6 (IntKind.i64.wrap (t7 + 1)))) none) (
 some (Sum.inr (Sum.inl ())))
 := eL Tryd.func60 rfl (by kernel_rfl)
theorem aO9 (T : S.Tab) (t0 : Int) : ad9 (S.step T) t0 =
 (F8 T t0).bind fun d4 =>
 brk (d4.1) (
 some (true, ab6)) (
 brk (decide (97 ≤ t0)) (
  some (decide (t0 ≤ 102), ab6)) (
  some (false, ab6)))
 := eF Tryd.func62 (by kernel_rfl)
theorem al9 (T : S.Tab) (t0 : Int) : j4 (S.step T) t0 =
 some (intBits .or .u8 t0 32, Z1)
 := eF Tryd.func116 (by kernel_rfl)
theorem ac9 (T : S.Tab) (t0 : List Int) (t1 : Int) (t2 : Int) : G8 (S.step T) t0 t1 t2 =
 brk (decide (t0 = ([] : List Int))) (
 some ((0, false, ()), e9)) (
 brk (decide (2 ≤ t1)) (
  brk (decide (t1 ≤ 36)) (
  (c8 T t0 t1 t2 (decide (t1 = 0)) t0).bind (B9
   (fun y21 =>
   some (y21, e9)))) (
  brk (decide (t1 = 0)) (
   brk (decide (0 < (t0.length : Int))) (
   brk (decide (t0.getD 0 0 = 48)) (
   brk (decide (3 ≤ (t0.length : Int))) (
    brk (decide (1 < (t0.length : Int))) (
    (j4 T (t0.getD 1 0)).bind fun d47 =>
    brk (decide (d47.1 = 98)) (
    brk (bounds t0.length 2 (t0.length : Int)) (
    (c8 T (sub t0 2 (t0.length : Int)) 2 t2 (decide (t1 = 0)) t0).bind (B9
     (fun y21 =>
     some (y21, e9)))) none) (
    brk (decide (3 ≤ (t0.length : Int))) (
     brk (decide (1 < (t0.length : Int))) (
     (j4 T (t0.getD 1 0)).bind fun d59 =>
     brk (decide (d59.1 = 111)) (
     brk (bounds t0.length 2 (t0.length : Int)) (
     (c8 T (sub t0 2 (t0.length : Int)) 8 t2 (decide (t1 = 0)) t0).bind (B9
      (fun y21 =>
      some (y21, e9)))) none) (
     brk (decide (3 ≤ (t0.length : Int))) (
      brk (decide (1 < (t0.length : Int))) (
      (j4 T (t0.getD 1 0)).bind fun d71 =>
      brk (decide (d71.1 = 120)) (
      brk (bounds t0.length 2 (t0.length : Int)) (
      (c8 T (sub t0 2 (t0.length : Int)) 16 t2 (decide (t1 = 0)) t0).bind (B9
       (fun y21 =>
       some (y21, e9)))) none) (
      brk (bounds t0.length 1 (t0.length : Int)) (
      (c8 T (sub t0 1 (t0.length : Int)) 8 t2 (decide (t1 = 0)) t0).bind (B9
       (fun y21 =>
       some (y21, e9)))) none)) none) (
      brk (bounds t0.length 1 (t0.length : Int)) (
      (c8 T (sub t0 1 (t0.length : Int)) 8 t2 (decide (t1 = 0)) t0).bind (B9
       (fun y21 =>
      some (y21, e9)))) none))) none) (
     brk (decide (3 ≤ (t0.length : Int))) (
     brk (decide (1 < (t0.length : Int))) (
     (j4 T (t0.getD 1 0)).bind fun d71 =>
     brk (decide (d71.1 = 120)) (
      brk (bounds t0.length 2 (t0.length : Int)) (
      (c8 T (sub t0 2 (t0.length : Int)) 16 t2 (decide (t1 = 0)) t0).bind (B9
       (fun y21 =>
      some (y21, e9)))) none) (
      brk (bounds t0.length 1 (t0.length : Int)) (
      (c8 T (sub t0 1 (t0.length : Int)) 8 t2 (decide (t1 = 0)) t0).bind (B9
       (fun y21 =>
      some (y21, e9)))) none)) none) (
     brk (bounds t0.length 1 (t0.length : Int)) (
     (c8 T (sub t0 1 (t0.length : Int)) 8 t2 (decide (t1 = 0)) t0).bind (B9
      (fun y21 =>
      some (y21, e9)))) none)))) none) (
    brk (decide (3 ≤ (t0.length : Int))) (
    brk (decide (1 < (t0.length : Int))) (
    (j4 T (t0.getD 1 0)).bind fun d59 =>
    brk (decide (d59.1 = 111)) (
     brk (bounds t0.length 2 (t0.length : Int)) (
     (c8 T (sub t0 2 (t0.length : Int)) 8 t2 (decide (t1 = 0)) t0).bind (B9
      (fun y21 =>
     some (y21, e9)))) none) (
     brk (decide (3 ≤ (t0.length : Int))) (
     brk (decide (1 < (t0.length : Int))) (
     (j4 T (t0.getD 1 0)).bind fun d71 =>
     brk (decide (d71.1 = 120)) (
      brk (bounds t0.length 2 (t0.length : Int)) (
      (c8 T (sub t0 2 (t0.length : Int)) 16 t2 (decide (t1 = 0)) t0).bind (B9
       (fun y21 =>
      some (y21, e9)))) none) (
      brk (bounds t0.length 1 (t0.length : Int)) (
      (c8 T (sub t0 1 (t0.length : Int)) 8 t2 (decide (t1 = 0)) t0).bind (B9
       (fun y21 =>
      some (y21, e9)))) none)) none) (
     brk (bounds t0.length 1 (t0.length : Int)) (
     (c8 T (sub t0 1 (t0.length : Int)) 8 t2 (decide (t1 = 0)) t0).bind (B9
      (fun y21 =>
      some (y21, e9)))) none))) none) (
    brk (decide (3 ≤ (t0.length : Int))) (
     brk (decide (1 < (t0.length : Int))) (
     (j4 T (t0.getD 1 0)).bind fun d71 =>
     brk (decide (d71.1 = 120)) (
     brk (bounds t0.length 2 (t0.length : Int)) (
     (c8 T (sub t0 2 (t0.length : Int)) 16 t2 (decide (t1 = 0)) t0).bind (B9
      (fun y21 =>
      some (y21, e9)))) none) (
     brk (bounds t0.length 1 (t0.length : Int)) (
     (c8 T (sub t0 1 (t0.length : Int)) 8 t2 (decide (t1 = 0)) t0).bind (B9
      (fun y21 =>
      some (y21, e9)))) none)) none) (
     brk (bounds t0.length 1 (t0.length : Int)) (
     (c8 T (sub t0 1 (t0.length : Int)) 8 t2 (decide (t1 = 0)) t0).bind (B9
      (fun y21 =>
     some (y21, e9)))) none)))) (
   (c8 T t0 10 t2 (decide (t1 = 0)) t0).bind (B9
    (fun y21 =>
    some (y21, e9))))) none) (
   some ((0, false, ()), e9)))) (
  brk (decide (t1 = 0)) (
  brk (decide (0 < (t0.length : Int))) (
  brk (decide (t0.getD 0 0 = 48)) (
   brk (decide (3 ≤ (t0.length : Int))) (
   brk (decide (1 < (t0.length : Int))) (
   (j4 T (t0.getD 1 0)).bind fun d47 =>
   brk (decide (d47.1 = 98)) (
    brk (bounds t0.length 2 (t0.length : Int)) (
    (c8 T (sub t0 2 (t0.length : Int)) 2 t2 (decide (t1 = 0)) t0).bind (B9
     (fun y21 =>
    some (y21, e9)))) none) (
    brk (decide (3 ≤ (t0.length : Int))) (
    brk (decide (1 < (t0.length : Int))) (
    (j4 T (t0.getD 1 0)).bind fun d59 =>
    brk (decide (d59.1 = 111)) (
     brk (bounds t0.length 2 (t0.length : Int)) (
     (c8 T (sub t0 2 (t0.length : Int)) 8 t2 (decide (t1 = 0)) t0).bind (B9
      (fun y21 =>
     some (y21, e9)))) none) (
     brk (decide (3 ≤ (t0.length : Int))) (
     brk (decide (1 < (t0.length : Int))) (
     (j4 T (t0.getD 1 0)).bind fun d71 =>
     brk (decide (d71.1 = 120)) (
      brk (bounds t0.length 2 (t0.length : Int)) (
      (c8 T (sub t0 2 (t0.length : Int)) 16 t2 (decide (t1 = 0)) t0).bind (B9
       (fun y21 =>
      some (y21, e9)))) none) (
      brk (bounds t0.length 1 (t0.length : Int)) (
      (c8 T (sub t0 1 (t0.length : Int)) 8 t2 (decide (t1 = 0)) t0).bind (B9
       (fun y21 =>
      some (y21, e9)))) none)) none) (
     brk (bounds t0.length 1 (t0.length : Int)) (
     (c8 T (sub t0 1 (t0.length : Int)) 8 t2 (decide (t1 = 0)) t0).bind (B9
      (fun y21 =>
      some (y21, e9)))) none))) none) (
    brk (decide (3 ≤ (t0.length : Int))) (
     brk (decide (1 < (t0.length : Int))) (
     (j4 T (t0.getD 1 0)).bind fun d71 =>
     brk (decide (d71.1 = 120)) (
     brk (bounds t0.length 2 (t0.length : Int)) (
     (c8 T (sub t0 2 (t0.length : Int)) 16 t2 (decide (t1 = 0)) t0).bind (B9
      (fun y21 =>
      some (y21, e9)))) none) (
     brk (bounds t0.length 1 (t0.length : Int)) (
     (c8 T (sub t0 1 (t0.length : Int)) 8 t2 (decide (t1 = 0)) t0).bind (B9
      (fun y21 =>
      some (y21, e9)))) none)) none) (
     brk (bounds t0.length 1 (t0.length : Int)) (
     (c8 T (sub t0 1 (t0.length : Int)) 8 t2 (decide (t1 = 0)) t0).bind (B9
      (fun y21 =>
     some (y21, e9)))) none)))) none) (
   brk (decide (3 ≤ (t0.length : Int))) (
    brk (decide (1 < (t0.length : Int))) (
    (j4 T (t0.getD 1 0)).bind fun d59 =>
    brk (decide (d59.1 = 111)) (
    brk (bounds t0.length 2 (t0.length : Int)) (
    (c8 T (sub t0 2 (t0.length : Int)) 8 t2 (decide (t1 = 0)) t0).bind (B9
     (fun y21 =>
     some (y21, e9)))) none) (
    brk (decide (3 ≤ (t0.length : Int))) (
     brk (decide (1 < (t0.length : Int))) (
     (j4 T (t0.getD 1 0)).bind fun d71 =>
     brk (decide (d71.1 = 120)) (
     brk (bounds t0.length 2 (t0.length : Int)) (
     (c8 T (sub t0 2 (t0.length : Int)) 16 t2 (decide (t1 = 0)) t0).bind (B9
      (fun y21 =>
      some (y21, e9)))) none) (
     brk (bounds t0.length 1 (t0.length : Int)) (
     (c8 T (sub t0 1 (t0.length : Int)) 8 t2 (decide (t1 = 0)) t0).bind (B9
      (fun y21 =>
      some (y21, e9)))) none)) none) (
     brk (bounds t0.length 1 (t0.length : Int)) (
     (c8 T (sub t0 1 (t0.length : Int)) 8 t2 (decide (t1 = 0)) t0).bind (B9
      (fun y21 =>
     some (y21, e9)))) none))) none) (
    brk (decide (3 ≤ (t0.length : Int))) (
    brk (decide (1 < (t0.length : Int))) (
    (j4 T (t0.getD 1 0)).bind fun d71 =>
    brk (decide (d71.1 = 120)) (
     brk (bounds t0.length 2 (t0.length : Int)) (
     (c8 T (sub t0 2 (t0.length : Int)) 16 t2 (decide (t1 = 0)) t0).bind (B9
      (fun y21 =>
     some (y21, e9)))) none) (
     brk (bounds t0.length 1 (t0.length : Int)) (
     (c8 T (sub t0 1 (t0.length : Int)) 8 t2 (decide (t1 = 0)) t0).bind (B9
      (fun y21 =>
     some (y21, e9)))) none)) none) (
    brk (bounds t0.length 1 (t0.length : Int)) (
    (c8 T (sub t0 1 (t0.length : Int)) 8 t2 (decide (t1 = 0)) t0).bind (B9
     (fun y21 =>
     some (y21, e9)))) none)))) (
   (c8 T t0 10 t2 (decide (t1 = 0)) t0).bind (B9
    (fun y21 =>
   some (y21, e9))))) none) (
  some ((0, false, ()), e9))))
 := eF Tryd.func96 (by kernel_rfl)
theorem U4 (T : S.Tab) (t0 : List Int) (t1 : Int) (t2 : Int) (t8 : Bool) (t9 : List Int) : c8 (S.step T) t0 t1 t2 t8 t9 =
 brk (decide (t2 = 0)) (
 (A3 T t0 t1 64 t8 t9).bind (B9
  (fun y25 =>
  some (Sum.inl y25)))) (
 brk (decide (t2 < 0)) (
  some (Sum.inl (0, false, ()))) (
  brk (decide (64 < t2)) (
  some (Sum.inl (0, false, ()))) (
  (A3 T t0 t1 t2 t8 t9).bind (B9
   (fun y25 =>
   some (Sum.inl y25))))))
 := eJ Tryd.func96 rfl (by kernel_rfl)
theorem U8 (T : S.Tab) (t0 : List Int) (t1 : Int) (t2 : Int) (t8 : Bool) (t9 : List Int) : A3 (S.step T) t0 t1 t2 t8 t9 =
 brk (decide (t1 = 10)) (
 (s7 T t0 t1 t2 t8 t9 1844674407370955162).bind (B9
  (fun y32 =>
  some (Sum.inl y32)))) (
 brk (decide (t1 = 16)) (
  (s7 T t0 t1 t2 t8 t9 1152921504606846976).bind (B9
   (fun y32 =>
  some (Sum.inl y32)))) (
  brk (decide ((IntKind.u64.wrap t1) ≠ 0)) (
  (s7 T t0 t1 t2 t8 t9 (IntKind.u64.wrap ((IntKind.u64.wrap ((18446744073709551615 : Int).tdiv (IntKind.u64.wrap t1))) + 1))).bind (B9
   (fun y32 =>
  some (Sum.inl y32)))) none))
 := eJ Tryd.func96 rfl (by kernel_rfl)
theorem U5 (T : S.Tab) (t0 : List Int) (t1 : Int) (t2 : Int) (t8 : Bool) (t9 : List Int) (t10 : Int) : s7 (S.step T) t0 t1 t2 t8 t9 t10 =
 brk (decide (0 ≤ IntKind.u64.wrap t2)) (
 (j6 T t1 t8 t9 t10 (IntKind.u64.wrap ((IntKind.u64.wrap (1 * 2 ^ min ((IntKind.u64.wrap t2).toNat) IntKind.u64.bits)) - 1)) false 0 t0 (t0.length : Int) 0).bind (aa5
  (fun y36 =>
 some (Sum.inl y36))
  (fun y36 =>
 brk (y36.2.1) (
  (ad0 T y36.1).bind fun d167 =>
  brk (!d167.1) (
  some (Sum.inl (0, false, ()))) (
  some (Sum.inl (y36.2.2.1, true, ())))) (
  some (Sum.inl (y36.2.2.1, true, ())))))) none
 := eJ Tryd.func96 rfl (by kernel_rfl)
theorem U6 (T : S.Tab) (t1 : Int) (t8 : Bool) (t9 : List Int) (t10 : Int) (t11 : Int) (t12 : Bool) (t13 : Int) (t16 : Int) (t99 : List Int) (t100 : Int) (t101 : Int) : p4 (S.step T) t1 t8 t9 t10 t11 t12 t13 t16 t99 t100 t101 =
 brk (decide (IntKind.u8.wrap t1 ≤ t16)) (
 some (Sum.inl (0, false, ()))) (
 brk (decide (t10 ≤ t13)) (
  some (Sum.inl (t11, false, ()))) (
  brk (decide (IntKind.u64.wrap ((IntKind.u64.wrap (t13 * (IntKind.u64.wrap t1))) + (IntKind.u64.wrap t16)) < IntKind.u64.wrap (t13 * (IntKind.u64.wrap t1)))) (
  some (Sum.inl (t11, false, ()))) (
  brk (decide (t11 < IntKind.u64.wrap ((IntKind.u64.wrap (t13 * (IntKind.u64.wrap t1))) + (IntKind.u64.wrap t16)))) (
   some (Sum.inl (t11, false, ()))) (
   some (Sum.inr (Sum.inl (t1, t8, t9, t10, t11, t12, IntKind.u64.wrap ((IntKind.u64.wrap (t13 * (IntKind.u64.wrap t1))) + (IntKind.u64.wrap t16)), t99, t100, t101, ())))))))
 := eJ Tryd.func96 rfl (by kernel_rfl)
theorem J3 (T : S.Tab) (t1 : Int) (t8 : Bool) (t9 : List Int) (t10 : Int) (t11 : Int) (t12 : Bool) (t13 : Int) (t99 : List Int) (t100 : Int) (t101 : Int) : j6 (S.step T) t1 t8 t9 t10 t11 t12 t13 t99 t100 t101 =
 brk (decide (t101 < t100)) (
 brk (decide (0 ≤ t101) && decide (t101 < (t99.length : Int))) (
 brk (decide (t99.getD t101.toNat 0 = 95)) (
  brk (t8) (
  j6 T t1 t8 t9 t10 t11 true t13 t99 t100 (IntKind.i64.wrap (t101 + 1))) (
  brk (decide (48 ≤ t99.getD t101.toNat 0)) (
   brk (decide (t99.getD t101.toNat 0 ≤ 57)) (
   (p4 T t1 t8 t9 t10 t11 t12 t13 (IntKind.u8.wrap ((t99.getD t101.toNat 0) - 48)) t99 t100 t101).bind (aa5
    (fun y46 =>
    some (Sum.inl y46))
    (fun y46 =>
    j6 T y46.1 y46.2.1 y46.2.2.1 y46.2.2.2.1 y46.2.2.2.2.1 y46.2.2.2.2.2.1 y46.2.2.2.2.2.2.1 y46.2.2.2.2.2.2.2.1 y46.2.2.2.2.2.2.2.2.1 (IntKind.i64.wrap (y46.2.2.2.2.2.2.2.2.2.1 + 1))))) (
   (j4 T (t99.getD t101.toNat 0)).bind fun d123 =>
   brk (decide (97 ≤ d123.1)) (
    (j4 T (t99.getD t101.toNat 0)).bind fun d127 =>
    brk (decide (d127.1 ≤ 122)) (
    (j4 T (t99.getD t101.toNat 0)).bind fun d131 =>
    (p4 T t1 t8 t9 t10 t11 t12 t13 (IntKind.u8.wrap ((IntKind.u8.wrap (d131.1 - 97)) + 10)) t99 t100 t101).bind (aa5
     (fun y46 =>
     some (Sum.inl y46))
     (fun y46 =>
     j6 T y46.1 y46.2.1 y46.2.2.1 y46.2.2.2.1 y46.2.2.2.2.1 y46.2.2.2.2.2.1 y46.2.2.2.2.2.2.1 y46.2.2.2.2.2.2.2.1 y46.2.2.2.2.2.2.2.2.1 (IntKind.i64.wrap (y46.2.2.2.2.2.2.2.2.2.1 + 1))))) (
    some (Sum.inl (0, false, ())))) (
    some (Sum.inl (0, false, ()))))) (
   (j4 T (t99.getD t101.toNat 0)).bind fun d123 =>
   brk (decide (97 ≤ d123.1)) (
   (j4 T (t99.getD t101.toNat 0)).bind fun d127 =>
   brk (decide (d127.1 ≤ 122)) (
    (j4 T (t99.getD t101.toNat 0)).bind fun d131 =>
    (p4 T t1 t8 t9 t10 t11 t12 t13 (IntKind.u8.wrap ((IntKind.u8.wrap (d131.1 - 97)) + 10)) t99 t100 t101).bind (aa5
     (fun y46 =>
    some (Sum.inl y46))
     (fun y46 =>
    j6 T y46.1 y46.2.1 y46.2.2.1 y46.2.2.2.1 y46.2.2.2.2.1 y46.2.2.2.2.2.1 y46.2.2.2.2.2.2.1 y46.2.2.2.2.2.2.2.1 y46.2.2.2.2.2.2.2.2.1 (IntKind.i64.wrap (y46.2.2.2.2.2.2.2.2.2.1 + 1))))) (
    some (Sum.inl (0, false, ())))) (
   some (Sum.inl (0, false, ())))))) (
  brk (decide (48 ≤ t99.getD t101.toNat 0)) (
  brk (decide (t99.getD t101.toNat 0 ≤ 57)) (
   (p4 T t1 t8 t9 t10 t11 t12 t13 (IntKind.u8.wrap ((t99.getD t101.toNat 0) - 48)) t99 t100 t101).bind (aa5
    (fun y46 =>
   some (Sum.inl y46))
    (fun y46 =>
   j6 T y46.1 y46.2.1 y46.2.2.1 y46.2.2.2.1 y46.2.2.2.2.1 y46.2.2.2.2.2.1 y46.2.2.2.2.2.2.1 y46.2.2.2.2.2.2.2.1 y46.2.2.2.2.2.2.2.2.1 (IntKind.i64.wrap (y46.2.2.2.2.2.2.2.2.2.1 + 1))))) (
   (j4 T (t99.getD t101.toNat 0)).bind fun d123 =>
   brk (decide (97 ≤ d123.1)) (
   (j4 T (t99.getD t101.toNat 0)).bind fun d127 =>
   brk (decide (d127.1 ≤ 122)) (
    (j4 T (t99.getD t101.toNat 0)).bind fun d131 =>
    (p4 T t1 t8 t9 t10 t11 t12 t13 (IntKind.u8.wrap ((IntKind.u8.wrap (d131.1 - 97)) + 10)) t99 t100 t101).bind (aa5
     (fun y46 =>
    some (Sum.inl y46))
     (fun y46 =>
    j6 T y46.1 y46.2.1 y46.2.2.1 y46.2.2.2.1 y46.2.2.2.2.1 y46.2.2.2.2.2.1 y46.2.2.2.2.2.2.1 y46.2.2.2.2.2.2.2.1 y46.2.2.2.2.2.2.2.2.1 (IntKind.i64.wrap (y46.2.2.2.2.2.2.2.2.2.1 + 1))))) (
    some (Sum.inl (0, false, ())))) (
   some (Sum.inl (0, false, ()))))) (
  (j4 T (t99.getD t101.toNat 0)).bind fun d123 =>
  brk (decide (97 ≤ d123.1)) (
   (j4 T (t99.getD t101.toNat 0)).bind fun d127 =>
   brk (decide (d127.1 ≤ 122)) (
   (j4 T (t99.getD t101.toNat 0)).bind fun d131 =>
   (p4 T t1 t8 t9 t10 t11 t12 t13 (IntKind.u8.wrap ((IntKind.u8.wrap (d131.1 - 97)) + 10)) t99 t100 t101).bind (aa5
    (fun y46 =>
    some (Sum.inl y46))
    (fun y46 =>
    j6 T y46.1 y46.2.1 y46.2.2.1 y46.2.2.2.1 y46.2.2.2.2.1 y46.2.2.2.2.2.1 y46.2.2.2.2.2.2.1 y46.2.2.2.2.2.2.2.1 y46.2.2.2.2.2.2.2.2.1 (IntKind.i64.wrap (y46.2.2.2.2.2.2.2.2.2.1 + 1))))) (
   some (Sum.inl (0, false, ())))) (
   some (Sum.inl (0, false, ())))))) none) (
 some (Sum.inr (Sum.inl (t9, t12, t13, ()))))
 := eL Tryd.func96 rfl (by kernel_rfl)
theorem ag5 (T : S.Tab) (t0 : List Int) (t1 : Int) (t2 : Int) : A8 (S.step T) t0 t1 t2 =
 (G8 T t0 t1 t2).bind fun d14 =>
 brk (!d14.1.2.1) (
 none) (
 some ((d14.1.1, true, ()), T6))
 := eF Tryd.func63 (by kernel_rfl)
theorem O5 (T : S.Tab) (t0 : List Int) (t1 : Int) : I4 (S.step T) t0 t1 =
 brk (decide (0 ≤ t1) && decide (t1 < (t0.length : Int))) (
 brk (decide (t0.getD t1.toNat 0 = 48)) (
 brk (decide (IntKind.i64.wrap (t1 + 1) < (t0.length : Int))) (
  brk (decide (0 ≤ IntKind.i64.wrap (t1 + 1)) && decide (IntKind.i64.wrap (t1 + 1) < (t0.length : Int))) (
  brk (decide (t0.getD ((IntKind.i64.wrap (t1 + 1)).toNat) 0 = 120)) (
  (D5 T t0 t1 (2, t1, 0, 0, 0, ([] : List Int), ()) (IntKind.i64.wrap (t1 + 2))).bind (B9
   (fun y5 =>
   brk (decide (y5.2.2.2.1 = IntKind.i64.wrap (y5.2.1 + 2))) (
   some (((y5.2.2.1.1, y5.2.2.1.2.1, y5.2.2.2.1, y5.2.2.1.2.2.2), true, ()), s5)) (
   brk (decide (y5.2.2.2.1 = IntKind.i64.wrap (y5.2.1 + 18))) (
    brk (decide (y5.2.2.2.1 < (y5.1.length : Int))) (
    brk (decide (0 ≤ y5.2.2.2.1) && decide (y5.2.2.2.1 < (y5.1.length : Int))) (
    (ad9 T (y5.1.getD y5.2.2.2.1.toNat 0)).bind fun d74 =>
    brk (d74.1) (
     some (((y5.2.2.1.1, y5.2.2.1.2.1, y5.2.2.2.1, y5.2.2.1.2.2.2), true, ()), s5)) (
     brk (bounds y5.1.length (IntKind.i64.wrap (y5.2.1 + 2)) y5.2.2.2.1) (
     (A8 T (sub y5.1 (IntKind.i64.wrap (y5.2.1 + 2)) y5.2.2.2.1) 16 64).bind fun d84 =>
     some (((y5.2.2.1.1, y5.2.2.1.2.1, y5.2.2.2.1, y5.2.2.1.2.2.2.1, IntKind.i64.wrap d84.1.1, y5.2.2.1.2.2.2.2.2), false, ()), s5)) none)) none) (
    brk (bounds y5.1.length (IntKind.i64.wrap (y5.2.1 + 2)) y5.2.2.2.1) (
    (A8 T (sub y5.1 (IntKind.i64.wrap (y5.2.1 + 2)) y5.2.2.2.1) 16 64).bind fun d84 =>
    some (((y5.2.2.1.1, y5.2.2.1.2.1, y5.2.2.2.1, y5.2.2.1.2.2.2.1, IntKind.i64.wrap d84.1.1, y5.2.2.1.2.2.2.2.2), false, ()), s5)) none)) (
    brk (bounds y5.1.length (IntKind.i64.wrap (y5.2.1 + 2)) y5.2.2.2.1) (
    (A8 T (sub y5.1 (IntKind.i64.wrap (y5.2.1 + 2)) y5.2.2.2.1) 16 64).bind fun d84 =>
    some (((y5.2.2.1.1, y5.2.2.1.2.1, y5.2.2.2.1, y5.2.2.1.2.2.2.1, IntKind.i64.wrap d84.1.1, y5.2.2.1.2.2.2.2.2), false, ()), s5)) none))))) (
  brk (decide (0 ≤ t1) && decide (t1 < (t0.length : Int))) (
  brk (!decide (t0.getD t1.toNat 0 = 48)) (
   (w6 T t0 t1 (2, t1, 0, 0, 0, ([] : List Int), ()) (IntKind.i64.wrap (t1 + 1))).bind (B9
    (fun y15 =>
   (w8 T y15.1 y15.2.1 y15.2.2.1 y15.2.2.2.1).bind (B9
    (fun y17 =>
    some (y17, s5)))))) (
   (w8 T t0 t1 (2, t1, 0, 0, 0, ([] : List Int), ()) (IntKind.i64.wrap (t1 + 1))).bind (B9
    (fun y17 =>
   some (y17, s5))))) none)) none) (
  brk (decide (0 ≤ t1) && decide (t1 < (t0.length : Int))) (
  brk (!decide (t0.getD t1.toNat 0 = 48)) (
  (w6 T t0 t1 (2, t1, 0, 0, 0, ([] : List Int), ()) (IntKind.i64.wrap (t1 + 1))).bind (B9
   (fun y15 =>
   (w8 T y15.1 y15.2.1 y15.2.2.1 y15.2.2.2.1).bind (B9
    (fun y17 =>
   some (y17, s5)))))) (
  (w8 T t0 t1 (2, t1, 0, 0, 0, ([] : List Int), ()) (IntKind.i64.wrap (t1 + 1))).bind (B9
   (fun y17 =>
   some (y17, s5))))) none)) (
 brk (decide (0 ≤ t1) && decide (t1 < (t0.length : Int))) (
 brk (!decide (t0.getD t1.toNat 0 = 48)) (
  (w6 T t0 t1 (2, t1, 0, 0, 0, ([] : List Int), ()) (IntKind.i64.wrap (t1 + 1))).bind (B9
   (fun y15 =>
  (w8 T y15.1 y15.2.1 y15.2.2.1 y15.2.2.2.1).bind (B9
   (fun y17 =>
   some (y17, s5)))))) (
  (w8 T t0 t1 (2, t1, 0, 0, 0, ([] : List Int), ()) (IntKind.i64.wrap (t1 + 1))).bind (B9
   (fun y17 =>
  some (y17, s5))))) none)) none
 := eF Tryd.func61 (by kernel_rfl)
theorem V8 (T : S.Tab) (t0 : List Int) (t1 : Int) (t4 : j2.den) (t6 : Int) : w8 (S.step T) t0 t1 t4 t6 =
 brk (decide (IntKind.i64.wrap (t6 + 1) < (t0.length : Int))) (
 brk (decide (0 ≤ t6) && decide (t6 < (t0.length : Int))) (
 brk (decide (t0.getD t6.toNat 0 = 46)) (
  brk (decide (0 ≤ IntKind.i64.wrap (t6 + 1)) && decide (IntKind.i64.wrap (t6 + 1) < (t0.length : Int))) (
  (F8 T (t0.getD ((IntKind.i64.wrap (t6 + 1)).toNat) 0)).bind fun d126 =>
  brk (d126.1) (
  (C2 T t0 t1 t4 (IntKind.i64.wrap (t6 + 1)) t6).bind (B9
   (fun y20 =>
   (A2 T y20.1 y20.2.1 y20.2.2.1 y20.2.2.2.1 y20.2.2.2.2.1).bind (B9
    (fun y22 =>
   some (Sum.inl y22)))))) (
  (A2 T t0 t1 t4 t6 t6).bind (B9
   (fun y22 =>
   some (Sum.inl y22))))) none) (
  (A2 T t0 t1 t4 t6 t6).bind (B9
   (fun y22 =>
  some (Sum.inl y22))))) none) (
 (A2 T t0 t1 t4 t6 t6).bind (B9
  (fun y22 =>
  some (Sum.inl y22))))
 := eJ Tryd.func61 rfl (by kernel_rfl)
theorem X4 (T : S.Tab) (t0 : List Int) (t1 : Int) (t4 : j2.den) (t6 : Int) (t9 : Int) : A2 (S.step T) t0 t1 t4 t6 t9 =
 brk (decide (t6 < (t0.length : Int))) (
 brk (decide (0 ≤ t6) && decide (t6 < (t0.length : Int))) (
 brk (decide (t0.getD t6.toNat 0 = 101)) (
  brk (decide (IntKind.i64.wrap (t6 + 1) < (t0.length : Int))) (
  brk (decide (0 ≤ IntKind.i64.wrap (t6 + 1)) && decide (IntKind.i64.wrap (t6 + 1) < (t0.length : Int))) (
  brk (decide (t0.getD ((IntKind.i64.wrap (t6 + 1)).toNat) 0 = 43)) (
   (C1 T t0 t1 t4 (IntKind.i64.wrap ((IntKind.i64.wrap (t6 + 1)) + 1)) t9).bind (aa5
    (fun y26 =>
   some (Sum.inl y26))
    (fun y26 =>
   (v8 T y26.1 y26.2.1 y26.2.2.1 y26.2.2.2.1 y26.2.2.2.2.1).bind (B9
    (fun y31 =>
    some (Sum.inl y31)))))) (
   brk (decide (0 ≤ IntKind.i64.wrap (t6 + 1)) && decide (IntKind.i64.wrap (t6 + 1) < (t0.length : Int))) (
   brk (decide (t0.getD ((IntKind.i64.wrap (t6 + 1)).toNat) 0 = 45)) (
   (C1 T t0 t1 t4 (IntKind.i64.wrap ((IntKind.i64.wrap (t6 + 1)) + 1)) t9).bind (aa5
    (fun y26 =>
    some (Sum.inl y26))
    (fun y26 =>
    (v8 T y26.1 y26.2.1 y26.2.2.1 y26.2.2.2.1 y26.2.2.2.2.1).bind (B9
     (fun y31 =>
    some (Sum.inl y31)))))) (
   (C1 T t0 t1 t4 (IntKind.i64.wrap (t6 + 1)) t9).bind (aa5
    (fun y26 =>
    some (Sum.inl y26))
    (fun y26 =>
    (v8 T y26.1 y26.2.1 y26.2.2.1 y26.2.2.2.1 y26.2.2.2.2.1).bind (B9
     (fun y31 =>
    some (Sum.inl y31))))))) none)) none) (
  (C1 T t0 t1 t4 (IntKind.i64.wrap (t6 + 1)) t9).bind (aa5
   (fun y26 =>
   some (Sum.inl y26))
   (fun y26 =>
   (v8 T y26.1 y26.2.1 y26.2.2.1 y26.2.2.2.1 y26.2.2.2.2.1).bind (B9
    (fun y31 =>
   some (Sum.inl y31))))))) (
  (v8 T t0 t1 t4 t6 t9).bind (B9
   (fun y31 =>
  some (Sum.inl y31))))) none) (
 (v8 T t0 t1 t4 t6 t9).bind (B9
  (fun y31 =>
  some (Sum.inl y31))))
 := eJ Tryd.func61 rfl (by kernel_rfl)
theorem am0 (T : S.Tab) (t0 : List Int) (t1 : Int) (t4 : j2.den) (t6 : Int) (t9 : Int) : C1 (S.step T) t0 t1 t4 t6 t9 =
 brk (decide ((t0.length : Int) ≤ t6)) (
 some (Sum.inl ((t4.1, t4.2.1, t6, t4.2.2.2), true, ()))) (
 brk (decide (0 ≤ t6) && decide (t6 < (t0.length : Int))) (
 (F8 T (t0.getD t6.toNat 0)).bind fun d180 =>
 brk (!d180.1) (
  some (Sum.inl ((t4.1, t4.2.1, t6, t4.2.2.2), true, ()))) (
  (C5 T t0 t1 t4 t6 t9).bind (B9
   (fun y29 =>
  some (Sum.inr (Sum.inl y29)))))) none)
 := eJ Tryd.func61 rfl (by kernel_rfl)
theorem am7 (T : S.Tab) (t0 : List Int) (t1 : Int) (t4 : j2.den) (t6 : Int) (t9 : Int) : v8 (S.step T) t0 t1 t4 t6 t9 =
 brk (decide (t6 = t9)) (
 brk (bounds t0.length t1 t6) (
 (Lx.T8 (sub t0 t1 t6, 10, 64, ())).bind fun d208 =>
 brk (d208.1.2.1) (
  some (Sum.inl ((t4.1, t4.2.1, t6, t4.2.2.2.1, d208.1.1, t4.2.2.2.2.2), false, ()))) (
  brk (bounds t0.length t1 t6) (
  some (Sum.inl ((3, t4.2.1, t6, t4.2.2.2.1, t4.2.2.2.2.1, sub t0 t1 t6, ()), false, ()))) none)) none) (
 brk (bounds t0.length t1 t6) (
 some (Sum.inl ((3, t4.2.1, t6, t4.2.2.2.1, t4.2.2.2.2.1, sub t0 t1 t6, ()), false, ()))) none)
 := eJ Tryd.func61 rfl (by kernel_rfl)
theorem Z6 (T : S.Tab) (t0 : List Int) (t1 : Int) (t4 : j2.den) (t6 : Int) : D5 (S.step T) t0 t1 t4 t6 =
 brk (decide (t6 < (t0.length : Int))) (
 brk (decide (t6 < IntKind.i64.wrap (t1 + 18))) (
  brk (decide (0 ≤ t6) && decide (t6 < (t0.length : Int))) (
  (ad9 T (t0.getD t6.toNat 0)).bind fun d49 =>
  brk (d49.1) (
  D5 T t0 t1 t4 (IntKind.i64.wrap (t6 + 1))) (
  some (Sum.inl (t0, t1, t4, t6, ())))) none) (
  some (Sum.inl (t0, t1, t4, t6, ())))) (
 some (Sum.inl (t0, t1, t4, t6, ())))
 := eL Tryd.func61 rfl (by kernel_rfl)
theorem W6 (T : S.Tab) (t0 : List Int) (t1 : Int) (t4 : j2.den) (t6 : Int) : w6 (S.step T) t0 t1 t4 t6 =
 brk (decide (t6 < (t0.length : Int))) (
 brk (decide (0 ≤ t6) && decide (t6 < (t0.length : Int))) (
 (F8 T (t0.getD t6.toNat 0)).bind fun d105 =>
 brk (d105.1) (
  w6 T t0 t1 t4 (IntKind.i64.wrap (t6 + 1))) (
  some (Sum.inl (t0, t1, t4, t6, ())))) none) (
 some (Sum.inl (t0, t1, t4, t6, ())))
 := eL Tryd.func61 rfl (by kernel_rfl)
theorem W8 (T : S.Tab) (t0 : List Int) (t1 : Int) (t4 : j2.den) (t6 : Int) (t9 : Int) : C2 (S.step T) t0 t1 t4 t6 t9 =
 brk (decide (t6 < (t0.length : Int))) (
 brk (decide (0 ≤ t6) && decide (t6 < (t0.length : Int))) (
 (F8 T (t0.getD t6.toNat 0)).bind fun d138 =>
 brk (d138.1) (
  C2 T t0 t1 t4 (IntKind.i64.wrap (t6 + 1)) t9) (
  some (Sum.inl (t0, t1, t4, t6, t9, ())))) none) (
 some (Sum.inl (t0, t1, t4, t6, t9, ())))
 := eL Tryd.func61 rfl (by kernel_rfl)
theorem V4 (T : S.Tab) (t0 : List Int) (t1 : Int) (t4 : j2.den) (t6 : Int) (t9 : Int) : C5 (S.step T) t0 t1 t4 t6 t9 =
 brk (decide (t6 < (t0.length : Int))) (
 brk (decide (0 ≤ t6) && decide (t6 < (t0.length : Int))) (
 (F8 T (t0.getD t6.toNat 0)).bind fun d194 =>
 brk (d194.1) (
  C5 T t0 t1 t4 (IntKind.i64.wrap (t6 + 1)) t9) (
  some (Sum.inl (t0, t1, t4, t6, t9, ())))) none) (
 some (Sum.inl (t0, t1, t4, t6, t9, ())))
 := eL Tryd.func61 rfl (by kernel_rfl)
theorem J0 (T : S.Tab) (t0 : List Int) (t1 : Int) : s4 (S.step T) t0 t1 =
 (Bld.Y1 (t0, t1, ())).bind fun d7 =>
 some (d7.1, K2)
 := eF Tryd.func56 (by kernel_rfl)
theorem Q7 (T : S.Tab) (t0 : List Int) (t1 : Int) : s6 (S.step T) t0 t1 =
 (s4 T t0 t1).bind fun d7 =>
 some (d7.1, K6)
 := eF Tryd.func28 (by kernel_rfl)
theorem a06 (T : S.Tab) (t0 : Int) (t1 : Int) (t2 : Int) : ao9 (S.step T) t0 t1 t2 =
 brk (decide (t1 ≤ t0)) (
 some (decide (t0 ≤ t2), az8)) (
 some (false, az8))
 := eF Tryd.func80 (by kernel_rfl)
theorem an8 (T : S.Tab) (t0 : Int) : N4 (S.step T) t0 =
 (ao9 T t0 10 31).bind fun d5 =>
 brk (d5.1) (
 brk (decide (0 ≤ IntKind.i64.wrap (t0 - 10)) && decide (IntKind.i64.wrap (t0 - 10) < (Lx.words.length : Int))) (
 some (Lx.words.getD ((IntKind.i64.wrap (t0 - 10)).toNat) [], I1)) none) (
 (ao9 T t0 40 50).bind fun d13 =>
 brk (d13.1) (
  brk (decide (0 ≤ IntKind.i64.wrap (t0 - 40)) && decide (IntKind.i64.wrap (t0 - 40) < (Lx.T0.length : Int))) (
  some (Lx.T0.getD ((IntKind.i64.wrap (t0 - 40)).toNat) [], I1)) none) (
  (ao9 T t0 61 78).bind fun d21 =>
  brk (d21.1) (
  brk (decide (0 ≤ IntKind.i64.wrap ((IntKind.i64.wrap (t0 - 60)) - 1)) && decide (IntKind.i64.wrap ((IntKind.i64.wrap (t0 - 60)) - 1) < (Lx.ai1.length : Int))) (
  some (Lx.ai1.getD ((IntKind.i64.wrap ((IntKind.i64.wrap (t0 - 60)) - 1)).toNat) [], I1)) none) (
  brk (decide (t0 = 5)) (
   some (([59] : List Int), I1)) (
   some (([] : List Int), I1)))))
 := eF Tryd.func47 (by kernel_rfl)
theorem U7 (T : S.Tab) (t0 : List Int) (t1 : List Int) : D2 (S.step T) t0 t1 =
 brk (decide ((t1.length : Int) ≤ (t0.length : Int))) (
 brk (bounds t0.length 0 (t1.length : Int)) (
 some (decide ((sub t0 0 (t1.length : Int)) = t1), E8)) none) (
 some (false, E8))
 := eF Tryd.func94 (by kernel_rfl)
theorem ag7 (T : S.Tab) (t0 : List Int) (t1 : List Int) : I9 (S.step T) t0 t1 =
 (D2 T t0 t1).bind fun d7 =>
 some (d7.1, S8)
 := eF Tryd.func57 (by kernel_rfl)
theorem ay9 (T : S.Tab) (t0 : List Int) (t1 : Int) : H5 (S.step T) t0 t1 =
 brk (decide (0 ≤ t1) && decide (t1 < (t0.length : Int))) (
 (N5 T (t0.getD t1.toNat 0)).bind fun d24 =>
 brk (d24.1) (
 (G7 T t0 t1 (0, t1, 0, 0, 0, ([] : List Int), ()) t1).bind (B9
  (fun y5 =>
  brk (bounds y5.1.length y5.2.1 y5.2.2.2.1) (
  (an4 T (sub y5.1 y5.2.1 y5.2.2.2.1)).bind fun d50 =>
  brk (decide (d50.1 = 1)) (
  brk (bounds y5.1.length y5.2.1 y5.2.2.2.1) (
  some (((d50.1, y5.2.2.1.2.1, y5.2.2.2.1, y5.2.2.1.2.2.2.1, y5.2.2.1.2.2.2.2.1, sub y5.1 y5.2.1 y5.2.2.2.1, ()), false, ()), I8)) none) (
  some (((d50.1, y5.2.2.1.2.1, y5.2.2.2.1, y5.2.2.1.2.2.2), false, ()), I8))) none))) (
 (F8 T (t0.getD t1.toNat 0)).bind fun d63 =>
 brk (d63.1) (
  (I4 T t0 t1).bind fun d66 =>
  some (d66.1, I8)) (
  brk (decide (t0.getD t1.toNat 0 = 34)) (
  (o9 T t0 (4, t1, 0, 0, 0, ([] : List Int), ()) [] (IntKind.i64.wrap (t1 + 1))).bind (B9
   (fun y18 =>
   some (y18, I8)))) (
  (C3 T t0 t1 (0, t1, 0, 0, 0, ([] : List Int), ()) 0 78).bind (B9
   (fun y49 =>
   brk (decide (y49.2.1.1 = 0)) (
   some (((y49.2.1.1, y49.2.1.2.1, y49.1, y49.2.1.2.2.2), true, ()), I8)) (
   some ((y49.2.1, false, ()), I8)))))))) none
 := eF Tryd.func32 (by kernel_rfl)
theorem ag9 (T : S.Tab) (t0 : List Int) (t1 : Int) (t4 : j2.den) (t7 : Int) : G7 (S.step T) t0 t1 t4 t7 =
 brk (decide (t7 < (t0.length : Int))) (
 brk (decide (0 ≤ t7) && decide (t7 < (t0.length : Int))) (
 (N5 T (t0.getD t7.toNat 0)).bind fun d34 =>
 brk (d34.1) (
  G7 T t0 t1 t4 (IntKind.i64.wrap (t7 + 1))) (
  brk (decide (0 ≤ t7) && decide (t7 < (t0.length : Int))) (
  (F8 T (t0.getD t7.toNat 0)).bind fun d39 =>
  brk (d39.1) (
  G7 T t0 t1 t4 (IntKind.i64.wrap (t7 + 1))) (
  some (Sum.inl (t0, t1, t4, t7, ())))) none)) none) (
 some (Sum.inl (t0, t1, t4, t7, ())))
 := eL Tryd.func32 rfl (by kernel_rfl)
theorem F9 (T : S.Tab) (t0 : List Int) (t4 : j2.den) (t8 : List Int) (t9 : Int) : o9 (S.step T) t0 t4 t8 t9 =
 brk (decide ((t0.length : Int) ≤ t9)) (
 some (Sum.inl ((t4.1, t4.2.1, t9, t4.2.2.2), true, ()))) (
 brk (decide (0 ≤ t9) && decide (t9 < (t0.length : Int))) (
 brk (decide (t0.getD t9.toNat 0 = 10)) (
  some (Sum.inl ((t4.1, t4.2.1, t9, t4.2.2.2), true, ()))) (
  brk (decide (0 ≤ t9) && decide (t9 < (t0.length : Int))) (
  brk (decide (t0.getD t9.toNat 0 = 34)) (
  some (Sum.inl ((t4.1, t4.2.1, IntKind.i64.wrap (t9 + 1), t4.2.2.2.1, t4.2.2.2.2.1, t8.map byte, ()), false, ()))) (
  brk (decide (0 ≤ t9) && decide (t9 < (t0.length : Int))) (
  brk (!decide (t0.getD t9.toNat 0 = 92)) (
   brk (decide (0 ≤ t9) && decide (t9 < (t0.length : Int))) (
   brk (fits (t8.length + ([t0.getD t9.toNat 0] : List Int).length)) (
   o9 T t0 t4 (t8 ++ ([t0.getD t9.toNat 0] : List Int)) (IntKind.i64.wrap (t9 + 1))) none) none) (
   brk (decide ((t0.length : Int) ≤ IntKind.i64.wrap (t9 + 1))) (
   some (Sum.inl ((t4.1, t4.2.1, IntKind.i64.wrap (t9 + 1), t4.2.2.2), true, ()))) (
   brk (decide (0 ≤ IntKind.i64.wrap (t9 + 1)) && decide (IntKind.i64.wrap (t9 + 1) < (t0.length : Int))) (
   (s6 T ([110, 116, 34, 92] : List Int) (t0.getD ((IntKind.i64.wrap (t9 + 1)).toNat) 0)).bind fun d124 =>
   brk (decide (0 ≤ d124.1)) (
    brk (decide (0 ≤ d124.1) && decide (d124.1 < 4)) (
    brk (fits (t8.length + ([([10, 9, 34, 92] : List Int).getD d124.1.toNat 0] : List Int).length)) (
    o9 T t0 t4 (t8 ++ ([([10, 9, 34, 92] : List Int).getD d124.1.toNat 0] : List Int)) (IntKind.i64.wrap (t9 + 2))) none) none) (
    brk (decide (0 ≤ IntKind.i64.wrap (t9 + 1)) && decide (IntKind.i64.wrap (t9 + 1) < (t0.length : Int))) (
    brk (!decide (t0.getD ((IntKind.i64.wrap (t9 + 1)).toNat) 0 = 120)) (
    some (Sum.inl ((t4.1, t4.2.1, IntKind.i64.wrap (t9 + 1), t4.2.2.2), true, ()))) (
    (E7 T t0 t4 t8 t9 2).bind (aa5
     (fun y39 =>
     some (Sum.inl y39))
     (fun y39 =>
     brk (bounds y39.1.length (IntKind.i64.wrap (y39.2.2.2.1 + 2)) (IntKind.i64.wrap (y39.2.2.2.1 + 4))) (
     (A8 T (sub y39.1 (IntKind.i64.wrap (y39.2.2.2.1 + 2)) (IntKind.i64.wrap (y39.2.2.2.1 + 4))) 16 8).bind fun d174 =>
     brk (fits (y39.2.2.1.length + ([IntKind.u8.wrap d174.1.1] : List Int).length)) (
     o9 T y39.1 y39.2.1 (y39.2.2.1 ++ ([IntKind.u8.wrap d174.1.1] : List Int)) (IntKind.i64.wrap (y39.2.2.2.1 + 4))) none) none)))) none)) none))) none)) none)) none)
 := eL Tryd.func32 rfl (by kernel_rfl)
theorem U3 (T : S.Tab) (t0 : List Int) (t4 : j2.den) (t8 : List Int) (t9 : Int) (t11 : Int) : E7 (S.step T) t0 t4 t8 t9 t11 =
 brk (decide (t11 ≤ 3)) (
 brk (decide ((t0.length : Int) ≤ IntKind.i64.wrap (t9 + t11))) (
  some (Sum.inl ((t4.1, t4.2.1, IntKind.i64.wrap (t9 + t11), t4.2.2.2), true, ()))) (
  brk (decide (0 ≤ IntKind.i64.wrap (t9 + t11)) && decide (IntKind.i64.wrap (t9 + t11) < (t0.length : Int))) (
  (ad9 T (t0.getD ((IntKind.i64.wrap (t9 + t11)).toNat) 0)).bind fun d159 =>
  brk (!d159.1) (
  some (Sum.inl ((t4.1, t4.2.1, IntKind.i64.wrap (t9 + t11), t4.2.2.2), true, ()))) (
  E7 T t0 t4 t8 t9 (IntKind.i64.wrap (t11 + 1)))) none)) (
 some (Sum.inr (Sum.inl (t0, t4, t8, t9, ()))))
 := eL Tryd.func32 rfl (by kernel_rfl)
theorem ad2 (T : S.Tab) (t0 : List Int) (t1 : Int) (t4 : j2.den) (t14 : Int) (t15 : Int) : C3 (S.step T) t0 t1 t4 t14 t15 =
 brk (decide (0 < t15)) (
 (N4 T t15).bind fun d189 =>
 brk (!decide (d189.1 = ([] : List Int))) (
  brk (decide (0 < (d189.1.length : Int))) (
  (N5 T (d189.1.getD 0 0)).bind fun d195 =>
  brk (!d195.1) (
  brk (bounds t0.length t1 (t0.length : Int)) (
  (I9 T (sub t0 t1 (t0.length : Int)) d189.1).bind fun d203 =>
  brk (d203.1) (
   brk (decide (t14 < (d189.1.length : Int))) (
   C3 T t0 t1 (t15, t4.2.1, IntKind.i64.wrap (t1 + (d189.1.length : Int)), t4.2.2.2) (d189.1.length : Int) (IntKind.i64.wrap (t15 - 1))) (
   C3 T t0 t1 t4 t14 (IntKind.i64.wrap (t15 - 1)))) (
   C3 T t0 t1 t4 t14 (IntKind.i64.wrap (t15 - 1)))) none) (
  C3 T t0 t1 t4 t14 (IntKind.i64.wrap (t15 - 1)))) none) (
  C3 T t0 t1 t4 t14 (IntKind.i64.wrap (t15 - 1)))) (
 some (Sum.inl (t1, t4, ())))
 := eL Tryd.func32 rfl (by kernel_rfl)
theorem aq2 (T : S.Tab) (t0 : List Int) (t1 : Int) : Y9 (S.step T) t0 t1 =
 brk (decide (t0 = ([] : List Int))) (
 some (false, s9)) (
 brk (decide (0 < (t0.length : Int))) (
 brk (!decide (t0.getD 0 0 = 34)) (
  brk (decide (0 < (t0.length : Int))) (
  (N5 T (t0.getD 0 0)).bind fun d16 =>
  brk (!d16.1) (
  brk (decide (0 < (t0.length : Int))) (
  (F8 T (t0.getD 0 0)).bind fun d22 =>
  brk (!d22.1) (
   some (false, s9)) (
   (H5 T t0 0).bind fun d28 =>
   brk (!d28.1.2.1) (
   brk (decide (d28.1.1.1 = t1)) (
    some (decide (d28.1.1.2.2.1 = (t0.length : Int)), s9)) (
    some (false, s9))) (
   some (false, s9)))) none) (
  (H5 T t0 0).bind fun d28 =>
  brk (!d28.1.2.1) (
   brk (decide (d28.1.1.1 = t1)) (
   some (decide (d28.1.1.2.2.1 = (t0.length : Int)), s9)) (
   some (false, s9))) (
   some (false, s9)))) none) (
  (H5 T t0 0).bind fun d28 =>
  brk (!d28.1.2.1) (
  brk (decide (d28.1.1.1 = t1)) (
   some (decide (d28.1.1.2.2.1 = (t0.length : Int)), s9)) (
   some (false, s9))) (
  some (false, s9)))) none)
 := eF Tryd.func77 (by kernel_rfl)
theorem ac1 (T : S.Tab) (t0 : List Int) : M4 (S.step T) t0 =
 brk (decide ((t0.length : Int) ≤ 40)) (
 (Y9 T t0 1).bind fun d8 =>
 some (d8.1, T1)) (
 some (false, T1))
 := eF Tryd.func43 (by kernel_rfl)
theorem Z8 (T : S.Tab) (t0 : List Int) : K1 (S.step T) t0 =
 brk (decide ((t0.length : Int) ≤ 40)) (
 (Y9 T t0 3).bind fun d8 =>
 some (d8.1, Q2)) (
 some (false, Q2))
 := eF Tryd.func44 (by kernel_rfl)
theorem aa7 (T : S.Tab) (t0 : Int) (t1 : Int) : F2 (S.step T) t0 t1 =
 brk (decide (t1 = 10)) (
 brk (decide (t0 < 100)) (
 none) none) (
 (Lx.L5 ([], t0, t1, false, false, ())).bind fun d28 =>
 some (d28.1.2.1, N2))
 := eF Tryd.func79 (by kernel_rfl)
theorem ad1 (T : S.Tab) (t0 : Int) (t1 : Int) : H6 (S.step T) t0 t1 =
 (F2 T t0 t1).bind fun d7 =>
 some (d7.1, S0)
 := eF Tryd.func46 (by kernel_rfl)
theorem an5 (T : S.Tab) (t0 : List Int) : Z3 (S.step T) t0 =
 brk (decide (4000 < (t0.length : Int))) (
 some (([] : List Int), ar4)) (
 (Bld.H4 (([] : List Int), 34, ())).bind fun d10 =>
 (x6 T t0 d10.2.1 0).bind (B9
  (fun y6 =>
  (Bld.H4 (y6.1, 34, ())).bind fun d51 =>
  (Bld.aG4 (d51.2.1, ())).bind fun d52 =>
  some (d52.1, ar4))))
 := eF Tryd.func8 (by kernel_rfl)
theorem ac4 (T : S.Tab) (t0 : List Int) (t3 : List Int) (t4 : Int) : x6 (S.step T) t0 t3 t4 =
 brk (decide (t4 < (t0.length : Int))) (
 brk (decide (0 ≤ t4) && decide (t4 < (t0.length : Int))) (
 (s6 T ([10, 9, 34, 92] : List Int) (t0.getD t4.toNat 0)).bind fun d21 =>
 brk (decide (0 ≤ d21.1)) (
  (Bld.H4 (t3, 92, ())).bind fun d24 =>
  brk (decide (0 ≤ d21.1) && decide (d21.1 < 4)) (
  (Bld.H4 (d24.2.1, ([110, 116, 34, 92] : List Int).getD d21.1.toNat 0, ())).bind fun d27 =>
  x6 T t0 d27.2.1 (IntKind.i64.wrap (t4 + 1))) none) (
  brk (decide (t0.getD t4.toNat 0 < 32)) (
  brk (bounds 16 ((t0.getD t4.toNat 0).fdiv (2 ^ min ((4 : Int).toNat) IntKind.u8.bits)) (IntKind.u8.wrap (((t0.getD t4.toNat 0).fdiv (2 ^ min ((4 : Int).toNat) IntKind.u8.bits)) + 1))) (
  brk (fits (2 + (sub ([48, 49, 50, 51, 52, 53, 54, 55, 56, 57, 97, 98, 99, 100, 101, 102] : List Int) ((t0.getD t4.toNat 0).fdiv (2 ^ min ((4 : Int).toNat) IntKind.u8.bits)) (IntKind.u8.wrap (((t0.getD t4.toNat 0).fdiv (2 ^ min ((4 : Int).toNat) IntKind.u8.bits)) + 1))).length)) (
  brk (bounds 16 (intBits .and .u8 (t0.getD t4.toNat 0) 15) (IntKind.u8.wrap ((intBits .and .u8 (t0.getD t4.toNat 0) 15) + 1))) (
  brk (fits ((([92, 120] : List Int) ++ (sub ([48, 49, 50, 51, 52, 53, 54, 55, 56, 57, 97, 98, 99, 100, 101, 102] : List Int) ((t0.getD t4.toNat 0).fdiv (2 ^ min ((4 : Int).toNat) IntKind.u8.bits)) (IntKind.u8.wrap (((t0.getD t4.toNat 0).fdiv (2 ^ min ((4 : Int).toNat) IntKind.u8.bits)) + 1)))).length + (sub ([48, 49, 50, 51, 52, 53, 54, 55, 56, 57, 97, 98, 99, 100, 101, 102] : List Int) (intBits .and .u8 (t0.getD t4.toNat 0) 15) (IntKind.u8.wrap ((intBits .and .u8 (t0.getD t4.toNat 0) 15) + 1))).length)) (
  (Bld.P4 (t3, (([92, 120] : List Int) ++ (sub ([48, 49, 50, 51, 52, 53, 54, 55, 56, 57, 97, 98, 99, 100, 101, 102] : List Int) ((t0.getD t4.toNat 0).fdiv (2 ^ min ((4 : Int).toNat) IntKind.u8.bits)) (IntKind.u8.wrap (((t0.getD t4.toNat 0).fdiv (2 ^ min ((4 : Int).toNat) IntKind.u8.bits)) + 1)))) ++ (sub ([48, 49, 50, 51, 52, 53, 54, 55, 56, 57, 97, 98, 99, 100, 101, 102] : List Int) (intBits .and .u8 (t0.getD t4.toNat 0) 15) (IntKind.u8.wrap ((intBits .and .u8 (t0.getD t4.toNat 0) 15) + 1))), ())).bind fun d48 =>
  x6 T t0 d48.2.1 (IntKind.i64.wrap (t4 + 1))) none) none) none) none) (
  brk (decide (126 < t0.getD t4.toNat 0)) (
   brk (bounds 16 ((t0.getD t4.toNat 0).fdiv (2 ^ min ((4 : Int).toNat) IntKind.u8.bits)) (IntKind.u8.wrap (((t0.getD t4.toNat 0).fdiv (2 ^ min ((4 : Int).toNat) IntKind.u8.bits)) + 1))) (
   brk (fits (2 + (sub ([48, 49, 50, 51, 52, 53, 54, 55, 56, 57, 97, 98, 99, 100, 101, 102] : List Int) ((t0.getD t4.toNat 0).fdiv (2 ^ min ((4 : Int).toNat) IntKind.u8.bits)) (IntKind.u8.wrap (((t0.getD t4.toNat 0).fdiv (2 ^ min ((4 : Int).toNat) IntKind.u8.bits)) + 1))).length)) (
   brk (bounds 16 (intBits .and .u8 (t0.getD t4.toNat 0) 15) (IntKind.u8.wrap ((intBits .and .u8 (t0.getD t4.toNat 0) 15) + 1))) (
   brk (fits ((([92, 120] : List Int) ++ (sub ([48, 49, 50, 51, 52, 53, 54, 55, 56, 57, 97, 98, 99, 100, 101, 102] : List Int) ((t0.getD t4.toNat 0).fdiv (2 ^ min ((4 : Int).toNat) IntKind.u8.bits)) (IntKind.u8.wrap (((t0.getD t4.toNat 0).fdiv (2 ^ min ((4 : Int).toNat) IntKind.u8.bits)) + 1)))).length + (sub ([48, 49, 50, 51, 52, 53, 54, 55, 56, 57, 97, 98, 99, 100, 101, 102] : List Int) (intBits .and .u8 (t0.getD t4.toNat 0) 15) (IntKind.u8.wrap ((intBits .and .u8 (t0.getD t4.toNat 0) 15) + 1))).length)) (
   (Bld.P4 (t3, (([92, 120] : List Int) ++ (sub ([48, 49, 50, 51, 52, 53, 54, 55, 56, 57, 97, 98, 99, 100, 101, 102] : List Int) ((t0.getD t4.toNat 0).fdiv (2 ^ min ((4 : Int).toNat) IntKind.u8.bits)) (IntKind.u8.wrap (((t0.getD t4.toNat 0).fdiv (2 ^ min ((4 : Int).toNat) IntKind.u8.bits)) + 1)))) ++ (sub ([48, 49, 50, 51, 52, 53, 54, 55, 56, 57, 97, 98, 99, 100, 101, 102] : List Int) (intBits .and .u8 (t0.getD t4.toNat 0) 15) (IntKind.u8.wrap ((intBits .and .u8 (t0.getD t4.toNat 0) 15) + 1))), ())).bind fun d48 =>
   x6 T t0 d48.2.1 (IntKind.i64.wrap (t4 + 1))) none) none) none) none) (
   (Bld.H4 (t3, t0.getD t4.toNat 0, ())).bind fun d50 =>
   x6 T t0 d50.2.1 (IntKind.i64.wrap (t4 + 1)))))) none) (
 some (Sum.inl (t3, ())))
 := eL Tryd.func8 rfl (by kernel_rfl)
theorem F7 (T : S.Tab) (t0 : j2.den) : D6 (S.step T) t0 =
 brk (decide (t0.1 = 1)) (
 (M4 T t0.2.2.2.2.2.1).bind fun d9 =>
 brk (d9.1) (
  some (t0.2.2.2.2.2.1, r9)) (
  some (([] : List Int), r9))) (
 brk (decide (t0.1 = 3)) (
  (K1 T t0.2.2.2.2.2.1).bind fun d16 =>
  brk (d16.1) (
  some (t0.2.2.2.2.2.1, r9)) (
  some (([] : List Int), r9))) (
  brk (decide (t0.1 = 2)) (
  brk (decide (0 ≤ t0.2.2.2.2.1)) (
   (Lx.N6 (t0.2.2.2.2.1, 10, ())).bind fun d26 =>
   some (d26.1, r9)) (
   (H6 T (IntKind.u64.wrap t0.2.2.2.2.1) 16).bind fun d30 =>
   brk (fits (2 + d30.1.length)) (
   some (([48, 120] : List Int) ++ d30.1, r9)) none)) (
  brk (decide (t0.1 = 4)) (
   (Z3 T t0.2.2.2.2.2.1).bind fun d36 =>
   some (d36.1, r9)) (
   brk (decide (t0.1 = 7)) (
   some (([10] : List Int), r9)) (
   (N4 T t0.1).bind fun d41 =>
   some (d41.1, r9))))))
 := eF Tryd.func17 (by kernel_rfl)
theorem M1 (T : S.Tab) (t0 : j2.den) : E5 (S.step T) t0 =
 (L7 T t0 1048576).bind fun d8 =>
 brk (decide (d8.1 < 0)) (
 some (true, D3)) (
 (P7 T t0).bind fun d12 =>
 (O3 T d12.1).bind fun d13 =>
 (P7 T t0).bind fun d15 =>
 (D6 T d15.1).bind fun d16 =>
 brk (!decide (d16.1 = d13.1)) (
  some (false, D3)) (
  some (true, D3)))
 := eF Tryd.func5 (by kernel_rfl)
end Go.Abs.D
end

section
namespace Go.Proofs.YtmallmelcmejeaaDoor
open Go.Abs
set_option maxRecDepth 100000 in
theorem bk7 {W : World} (h : laidMetH Tryd.prog Rows.fnExactTokenTextRow.laid W) : G1 Abs.D.S.glob (snap W) := by
 rw [MakeChecks.laidMetH_plain _ _ _ (by kernel_rfl)] at h
 obtain ⟨ps, hl, _⟩ := h
 obtain ⟨_, _, _, _, _, _, _, _, _, _, hl, _⟩ := hl
 obtain ⟨g1, t1, c1, f1, p1, q1, a1, b1, v1, d1, hl, _⟩ := hl
 obtain ⟨g2, t2, c2, f2, p2, q2, a2, b2, v2, d2, hl, _⟩ := hl
 obtain ⟨g3, t3, c3, f3, p3, q3, a3, b3, v3, d3, hl, _⟩ := hl
 obtain ⟨_, _, _, _, _, _, _, _, _, _, hl, _⟩ := hl
 obtain ⟨g5, t5, c5, f5, p5, q5, a5, b5, v5, d5, hl, _⟩ := hl
 obtain ⟨g6, t6, c6, f6, p6, q6, a6, b6, v6, d6, hl, _⟩ := hl
 obtain ⟨g7, t7, c7, f7, p7, q7, a7, b7, v7, d7, hl, _⟩ := hl
 have h5 := aG6 (g' := 0) (τ := .sl .str) (x := Lx.words) (k := 3) a5 b5 v5 d5 (by kernel_rfl) (by kernel_rfl) rfl a61 (by kernel_rfl)
 have h6 := aG6 (g' := 1) (τ := .sl .str) (x := Lx.T0) (k := 3) a6 b6 v6 d6 (by kernel_rfl) (by kernel_rfl) rfl a61 (by kernel_rfl)
 have h7 := aG6 (g' := 2) (τ := .sl .str) (x := Lx.ai1) (k := 3) a7 b7 v7 d7 (by kernel_rfl) (by kernel_rfl) rfl a61 (by kernel_rfl)
 have h3 := bf0 (g' := 6) a3 b3 v3 d3 (by kernel_rfl) (by kernel_rfl)
 have h2 := aO7 (g' := 4) (k := .u64) (m := 20) (e := 55) a2 b2 v2 d2 (by kernel_rfl) Lib.pow10Tab (by kernel_rfl) (by kernel_rfl) (by kernel_rfl) (by kernel_rfl) (by kernel_rfl)
 have h1 := aO7 (g' := 8) (k := .u8) (m := 64) (e := 5) a1 b1 v1 d1 (by kernel_rfl) (Lib.deBruijn64tab.map fun n : Nat => (n : Int)) (by kernel_rfl) (by kernel_rfl) (by kernel_rfl) (by kernel_rfl) (by kernel_rfl)
 intro k cs hk
 have hk : (bif Nat.beq k 0 then some [.v (.sl .str) Lx.words] else bif Nat.beq k 1 then some [.v (.sl .str) Lx.T0] else bif Nat.beq k 2 then some [.v (.sl .str) Lx.ai1] else Lx.aJ5 k) = some cs := hk
 cases e5 : Nat.beq k 0 with
 | true => rw [e5] at hk; have := Nat.eq_of_beq_eq_true e5; subst this; injection hk with hk; subst hk; exact h5
 | false =>
 rw [e5] at hk
 cases e6 : Nat.beq k 1 with
 | true => rw [e6] at hk; have := Nat.eq_of_beq_eq_true e6; subst this; injection hk with hk; subst hk; exact h6
 | false =>
 rw [e6] at hk
 cases e7 : Nat.beq k 2 with
 | true => rw [e7] at hk; have := Nat.eq_of_beq_eq_true e7; subst this; injection hk with hk; subst hk; exact h7
 | false =>
 rw [e7] at hk
 have hk : Lx.aJ5 k = some cs := hk
 unfold Lx.aJ5 at hk
 cases e1 : Nat.beq k 8 with
 | true => rw [e1] at hk; have := Nat.eq_of_beq_eq_true e1; subst this; injection hk with hk; subst hk; rw [List.map_map] at h1; exact h1
 | false =>
 rw [e1] at hk
 have hk : Lx.tables k = some cs := hk
 unfold Lx.tables at hk
 cases e2 : Nat.beq k 4 with
 | true => rw [e2] at hk; have := Nat.eq_of_beq_eq_true e2; subst this; injection hk with hk; subst hk; exact h2
 | false =>
 rw [e2] at hk
 cases e3 : Nat.beq k 6 with
 | true => rw [e3] at hk; have := Nat.eq_of_beq_eq_true e3; subst this; injection hk with hk; subst hk; exact h3
 | false =>
 rw [e3] at hk
 cases hk
end Go.Proofs.YtmallmelcmejeaaDoor
end

section
namespace Go.Abs.Bld
open Go.Proofs
theorem aW8 : ∀ {l : List (Nat × Nat × Nat)} {a b c : Nat}, ba3 l a b c = true → (a, b, c) ∈ l
 | t :: r, a, b, c, h => by
  simp only [ba3, Bool.or_eq_true, Bool.and_eq_true] at h
  rcases h with h | h
  ·rw [← beq_eq h.1.1, ← beq_eq h.1.2, ← beq_eq h.2]; exact List.mem_cons_self ..
  ·exact List.mem_cons_of_mem _ (aW8 h)
theorem br6 : ∀ t ∈ places, (Nat.ble (t.2.1 + 2) t.2.2 && liesAt Tryd.prog Tryd.prog.depth t.1 (t.2.2 / Tryd.prog.cellsOf t.1) t.2.1 63 1) = true := by
 have : (places.all fun t => Nat.ble (t.2.1 + 2) t.2.2 && liesAt Tryd.prog Tryd.prog.depth t.1 (t.2.2 / Tryd.prog.cellsOf t.1) t.2.1 63 1) = true := by kernel_rfl
 exact List.all_eq_true.1 this
set_option maxHeartbeats 1000000 in
set_option maxRecDepth 100000 in
theorem aB4 (b o : Nat) (w : World) (h0 : w.cell? ⟨b, o, none⟩ = some (.pointer (some ⟨b, o, none⟩))) :
  Calls Tryd.prog 55 #[.pointer (some ⟨b, o, none⟩)] w fun e w' => e = .returned (.tuple #[]) ∧ w' = w := by
 obtain ⟨j, hj, _⟩ := Option.map_eq_some_iff.1 (show (Tryd.prog.info? 63).map (·.size) = some 2 by kernel_rfl)
 go_enter Tryd.func55, Tryd.ntmps55
 go_wp2
 rw [Lib.run_neq_ptr_same w _ (by kernel_rfl) hj]
 go_wp2
 go_end0
 exact ⟨rfl, rfl⟩
set_option maxHeartbeats 1000000 in
set_option maxRecDepth 100000 in
theorem ay6 (b o ty n : Nat) (w : World) (h0 : w.cell? ⟨b, o, none⟩ = some (.pointer none)) (hsh : w.shape? b = some (ty, n)) (hfz : w.frozen? ⟨b, o, none⟩ = false) (hok : ba3 places ty o n = true) :
  Calls Tryd.prog 55 #[.pointer (some ⟨b, o, none⟩)] w fun e w' => e = .returned (.tuple #[]) ∧ w' = w.setCell ⟨b, o, none⟩ (.pointer (some ⟨b, o, none⟩)) := by
 obtain ⟨j, hj, hjs⟩ := Option.map_eq_some_iff.1 (show (Tryd.prog.info? 63).map (·.size) = some 2 by kernel_rfl)
 have hl := br6 _ (aW8 hok)
 simp only [Bool.and_eq_true] at hl
 have hlt : o < n := by have := Nat.le_of_ble_eq_true hl.1; omega
 go_enter Tryd.func55, Tryd.ntmps55
 go_wp2
 rw [Lib.run_to_unsafe w ⟨b, o, none⟩ (show Tryd.prog.underlying 61 = some (.pointer 63) by kernel_rfl) (show Tryd.prog.underlying 112 = some .unsafePointer by kernel_rfl) hj (by rw [hjs]; decide) hsh hlt]
 simp only [Result.andThen]
 rw [Oper.upon_value]
 go_wp2
 rw [run_callFunc_extern Tryd.func92 (by kernel_rfl) (by kernel_rfl) (by kernel_rfl) (e := Extern.AbiNoEscape.same) (by kernel_rfl)]
 rw [Lib.run_noEscape]
 simp only [Result.andThen]
 rw [Oper.upon_value]
 go_wp2
 rw [Lib.run_from_unsafe w ⟨b, o, none⟩ (show Tryd.prog.underlying 112 = some .unsafePointer by kernel_rfl) (show Tryd.prog.underlying 61 = some (.pointer 63) by kernel_rfl) hj hsh hl.2]
 simp only [Result.andThen]
 rw [Oper.upon_value]
 go_wp2
 go_end0
 exact ⟨rfl, rfl⟩
end Go.Abs.Bld
end

section
namespace Go.Abs.Bld
open Go.Proofs
theorem aN9 {w : World} {b k : Nat} {arr : Array Value} {ty : TypeId} {v : Value} (h : w.heap[b]? = some (.cells arr ty (0, 0))) (hv : arr[k]? = some v) : w.setCell ⟨b, k, none⟩ v = w := by
 have : w.heap.modify b (fun | .cells c elem frozen => .cells (c.setIfInBounds k v) elem frozen | o => o) = w.heap := by
  apply Array.ext_getElem?
  intro i
  rw [Array.getElem?_modify]
  by_cases e : b = i
  ·subst e
   rw [if_pos rfl, h]
   simp only [Option.map_some]
   have : arr.setIfInBounds k v = arr := by
    apply Array.ext_getElem?
    intro j
    rw [Array.getElem?_setIfInBounds]
    by_cases e : k = j
    ·subst e
     rw [if_pos rfl, hv]
     split
     ·rfl
     ·rename_i hlt
      rw [Array.getElem?_eq_none (by omega)] at hv; cases hv
    ·rw [if_neg e]
   rw [this]
  ·rw [if_neg e]
 show { w with heap := _ } = w
 exact congrArg (fun h => { w with heap := h }) this
theorem P5 {arr : Array Value} {o : Nat} {x y : Value} (h : (arr.toList.drop o).take 2 = [x, y]) : arr[o]? = some x ∧ arr[o + 1]? = some y := by
 have h0 := congrArg (·[0]?) h
 have h1 := congrArg (·[1]?) h
 simp only [List.getElem?_take, List.getElem?_drop] at h0 h1
 simp at h0 h1
 exact ⟨h0, h1⟩
theorem aL8 {imm : Rd} {b o ty : Nat} {arr : Array Value} {w : World} {xs : List Int} {nb : List Nat} (ha : w.heap[b]? = some (.cells arr ty (0, 0))) (hok : ba3 places ty o arr.size = true) (hB : af0 imm w (b, o) xs ((arr.toList.drop o).take 2) nb) :
  Calls Tryd.prog 55 #[.pointer (some ⟨b, o, none⟩)] w fun e w' => e = .returned (.tuple #[]) ∧ w' = w.setCell ⟨b, o, none⟩ (.pointer (some ⟨b, o, none⟩)) := by
 rcases hB with ⟨h1, h2, h3⟩ | ⟨u2, h1, h2, h4⟩
 ·obtain ⟨c0, c1⟩ := P5 h1
  exact ay6 b o ty arr.size w (by rw [Lib.cell_of_heap ha, c0]) (by simp [World.shape?, ha]) (Lib.frozen_of_heap ha o) hok
 ·obtain ⟨c0, c1⟩ := P5 h1
  refine (aB4 b o w (by rw [Lib.cell_of_heap ha, c0])).mono ?_
  rintro e w' ⟨rfl, rfl⟩
  exact ⟨rfl, (aN9 ha c0).symm⟩
noncomputable def aH9 : TypeInfo := match Tryd.prog.info? 5 with
 | some i => i
 | none => default
theorem az4 : Tryd.prog.info? 5 = some aH9 := by kernel_rfl
def a00 (imm : Rd) (w1 : World) (nb : List Nat) (xs : List Int) (v : Value) (w' : World) : Prop := ∃ nb', After imm w1 nb imm w' nb' ∧ OwnAt imm w' false (.int .u8) xs [v] nb' ∧ ∀ b ∈ nb', ∃ arr, w'.heap[b]? = some (.cells arr N1 (0, 0))
def Written (imm : Rd) (w : World) (b o ty : Nat) (arr : Array Value) (nb : List Nat) (xs : List Int) (w' : World) : Prop := ∃ nb' arr' v, After imm w (b :: nb) imm w' (b :: nb') ∧ w'.heap[b]? = some (.cells arr' ty (0, 0)) ∧
 arr'.toList = arr.toList.take o ++ [.pointer (some ⟨b, o, none⟩), v] ++ arr.toList.drop (o + 2) ∧ OwnAt imm w' false (.int .u8) xs [v] nb' ∧ ∀ b ∈ nb', ∃ arr, w'.heap[b]? = some (.cells arr N1 (0, 0))
set_option maxHeartbeats 2000000 in
set_option maxRecDepth 100000 in
theorem a77 {imm : Rd} {b o ty : Nat} {arr : Array Value} {w : World} {xs : List Int} {nb : List Nat} (c : Int) (ha : w.heap[b]? = some (.cells arr ty (0, 0))) (hle : o + 2 ≤ arr.size) (hok : ba3 places ty o arr.size = true)
  (hB : af0 imm w (b, o) xs ((arr.toList.drop o).take 2) nb) (hn : (b :: nb).Nodup) (hi : ∀ y ∈ b :: nb, imm y = none ∧ y < w.heap.size) (hc : ∀ b L, imm b = some L → ∃ arr ty fr, w.heap[b]? = some (.cells arr ty fr) ∧ arr.toList = L)
  (hfit : xs.length + 1 ≤ 1099511627776) :
  Calls Tryd.prog 27 #[.pointer (some ⟨b, o, none⟩), .int .u8 c] w fun e w' => e = .returned .nilIface ∧ Written imm w b o ty arr nb (xs ++ [c]) w' := by
 go_enter Tryd.func27, Tryd.ntmps27
 go_wp2_with (go_at_call 55; refine (aL8 ha hok hB).mono ?_)
 rintro e w1 ⟨rfl, e1⟩
 obtain ⟨u, hu, hO, hty⟩ : ∃ u, arr[o + 1]? = some u ∧ OwnAt imm w false (.int .u8) xs [u] nb ∧ ∀ b ∈ nb, ∃ arr, w.heap[b]? = some (.cells arr N1 (0, 0)) := by
  rcases hB with ⟨h1, h2, h3⟩ | ⟨u2, h1, h2, h3⟩
  ·exact ⟨_, (P5 h1).2, .inl ⟨rfl, h2, h3⟩, fun y hy => by rw [h3] at hy; simp at hy⟩
  ·exact ⟨_, (P5 h1).2, h2, h3⟩
 obtain ⟨s1, s2, s3⟩ := N3 (k := o) ha (.pointer (some ⟨b, o, none⟩))
 rw [← e1] at s1 s2 s3
 have hnb := List.nodup_cons.1 hn
 have hO1 : OwnAt imm w1 false (.int .u8) xs [u] nb := hO.other fun y hy => s2 y fun e => hnb.1 (e ▸ hy)
 have hty1 : ∀ y ∈ nb, ∃ arr, w1.heap[y]? = some (.cells arr N1 (0, 0)) := fun y hy => by
  obtain ⟨a, k⟩ := hty y hy
  exact ⟨a, by rw [s2 y fun e => hnb.1 (e ▸ hy)]; exact k⟩
 have hi1 : ∀ y ∈ nb, imm y = none ∧ y < w1.heap.size := fun y hy => ⟨(hi y (List.mem_cons_of_mem _ hy)).1, by rw [s3]; exact (hi y (List.mem_cons_of_mem _ hy)).2⟩
 have c1 : w1.cell? ⟨b, o + 1, none⟩ = some u := by
  rw [Lib.cell_of_heap s1, Array.getElem?_setIfInBounds, if_neg (by omega)]; exact hu
 have hc1 : ∀ b L, imm b = some L → ∃ arr ty fr, w1.heap[b]? = some (.cells arr ty fr) ∧ arr.toList = L := fun y L h => by
  rw [s2 y fun e => by rw [e, (hi b (List.mem_cons_self ..)).1] at h; cases h]; exact hc y L h
 have hnew : (w1.alloc (.cells #[.int .u8 c] 5)).heap[w1.heap.size]? = some (.cells #[.int .u8 c] 5 (0, 0)) := by
  show (w1.heap.push _)[w1.heap.size]? = _
  rw [Array.getElem?_push, if_pos rfl]
 have hold : ∀ {y : Nat} {x : Go.Obj}, w1.heap[y]? = some x → (w1.alloc (.cells #[.int .u8 c] 5)).heap[y]? = some x := fun {y x} k => by
  have := lt_of_heap k
  show (w1.heap.push _)[y]? = _
  rw [Array.getElem?_push, if_neg (by omega)]; exact k
 have hr : ∃ v w', (Builtin.append_ #[22, 22] 22 #[u, .slice (some ⟨w1.heap.size, 0, none⟩) 1 1]).run Tryd.prog (w1.alloc (.cells #[.int .u8 c] 5)) = .ok v w' ∧ a00 imm w1 nb (xs ++ [c]) v w' := by
  obtain ⟨v, w', nb', h1, h2, h3, h4⟩ := aM5 (P := Tryd.prog) (t := 22) (tx := 22) (ty := 22) (e := 5) (ys := [c]) (i := aH9) (z := .int .u8 0) (by kernel_rfl) az4 (by kernel_rfl) (by kernel_rfl) (Nat.le_of_ble_eq_true (by kernel_rfl)) rfl (hO1.alloc (fun y hy => (hi1 y hy).2) (.cells #[.int .u8 c] 5))
   (Src.ofSlice (P := Tryd.prog) (w := w1.alloc (.cells #[.int .u8 c] 5)) (e' := 5) (by kernel_rfl) ⟨w1.heap.size, 0, none⟩ 1 1 [.int .u8 c] rfl (fun j x hj => by
    rw [Addr.add_lit, Lib.cell_of_heap hnew]
    match j, hj with
    | 0, hj => simpa using hj) (fun x hx => by
    have : x = .int .u8 c := by simpa using hx
    subst this; rfl)) hfit (fun y L h => by
    obtain ⟨a, t, f, k1, k2⟩ := hc1 y L h
    exact ⟨a, t, f, hold k1, k2⟩) (fun y hy => ⟨(hi1 y hy).1, by
     have := (hi1 y hy).2
     show y < (w1.heap.push _).size
     simp; omega⟩) (fun y hy => by
    obtain ⟨a, k⟩ := hty1 y hy
    exact ⟨a, hold k⟩)
  exact ⟨v, w', h1, nb', h2.bj3 (fun y L h => by obtain ⟨a, t, f, k1, k2⟩ := hc1 y L h; exact lt_of_heap k1), h3, h4⟩
 have e1' : ∃ _ : True, w1 = w.setCell ⟨b, o, none⟩ (.pointer (some ⟨b, o, none⟩)) ∧ w1.heap.size = w.heap.size := ⟨trivial, e1, s3⟩
 clear e1 s3
 go_wp2_with (at_builtin; refine Y7 rfl _ _ 22 22 rfl _ _ rfl rfl _ hr ?_)
 rintro v w2 ⟨nb1, A, hO2, hty2⟩
 obtain ⟨_, e1, s3⟩ := e1'
 obtain ⟨B1, B2, arr', B3, B4, B5, B6⟩ := aN7 ha hle hn hi hc e1 A hO2
 have hty3 : ∀ y ∈ nb1, ∃ arr, (w2.setCell ⟨b, o + 1, none⟩ v).heap[y]? = some (.cells arr N1 (0, 0)) := fun y hy => by
  obtain ⟨a, k⟩ := hty2 y hy
  exact ⟨a, by rw [(N3 (k := o + 1) B6 v).2.1 y fun e => B2 (e ▸ hy)]; exact k⟩
 obtain ⟨ao, n', cap, rfl⟩ : ∃ ao n' cap, v = .slice ao n' cap := by
  rcases hO2 with ⟨h1, _⟩ | ⟨b', cap, arr', ty', nb', h1, _⟩
  ·injection h1 with h1 _; exact ⟨_, _, _, h1⟩
  ·injection h1 with h1 _; exact ⟨_, _, _, h1⟩
 have d1 : w2.cell? ⟨b, o + 1, none⟩ = some u := by
  rw [Lib.cell_of_heap B6, Array.getElem?_setIfInBounds, if_neg (by omega)]; exact hu
 have f1 : w2.frozen? ⟨b, o + 1, none⟩ = false := Lib.frozen_of_heap B6 (o + 1)
 clear e1
 go_wp2
 go_ret
 exact ⟨rfl, nb1, arr', _, B1, B3, B4, B5, hty3⟩
set_option maxHeartbeats 2000000 in
set_option maxRecDepth 100000 in
theorem writeString {imm : Rd} {b o ty : Nat} {arr : Array Value} {w : World} {xs : List Int} {nb : List Nat} (s : ByteArray) (ha : w.heap[b]? = some (.cells arr ty (0, 0))) (hle : o + 2 ≤ arr.size) (hok : ba3 places ty o arr.size = true)
  (hB : af0 imm w (b, o) xs ((arr.toList.drop o).take 2) nb) (hn : (b :: nb).Nodup) (hi : ∀ y ∈ b :: nb, imm y = none ∧ y < w.heap.size) (hc : ∀ b L, imm b = some L → ∃ arr ty fr, w.heap[b]? = some (.cells arr ty fr) ∧ arr.toList = L)
  (hfit : xs.length + (bytesOf s).length ≤ 1099511627776) :
  Calls Tryd.prog 29 #[.pointer (some ⟨b, o, none⟩), .string s] w fun e w' => e = .returned (.tuple #[.int .i64 s.size, .nilIface]) ∧ Written imm w b o ty arr nb (xs ++ bytesOf s) w' := by
 go_enter Tryd.func29, Tryd.ntmps29
 go_wp2_with (go_at_call 55; refine (aL8 ha hok hB).mono ?_)
 rintro e w1 ⟨rfl, e1⟩
 obtain ⟨u, hu, hO, hty⟩ : ∃ u, arr[o + 1]? = some u ∧ OwnAt imm w false (.int .u8) xs [u] nb ∧ ∀ b ∈ nb, ∃ arr, w.heap[b]? = some (.cells arr N1 (0, 0)) := by
  rcases hB with ⟨h1, h2, h3⟩ | ⟨u2, h1, h2, h3⟩
  ·exact ⟨_, (P5 h1).2, .inl ⟨rfl, h2, h3⟩, fun y hy => by rw [h3] at hy; simp at hy⟩
  ·exact ⟨_, (P5 h1).2, h2, h3⟩
 obtain ⟨s1, s2, s3⟩ := N3 (k := o) ha (.pointer (some ⟨b, o, none⟩))
 rw [← e1] at s1 s2 s3
 have hnb := List.nodup_cons.1 hn
 have hO1 : OwnAt imm w1 false (.int .u8) xs [u] nb := hO.other fun y hy => s2 y fun e => hnb.1 (e ▸ hy)
 have hty1 : ∀ y ∈ nb, ∃ arr, w1.heap[y]? = some (.cells arr N1 (0, 0)) := fun y hy => by
  obtain ⟨a, k⟩ := hty y hy
  exact ⟨a, by rw [s2 y fun e => hnb.1 (e ▸ hy)]; exact k⟩
 have hi1 : ∀ y ∈ nb, imm y = none ∧ y < w1.heap.size := fun y hy => ⟨(hi y (List.mem_cons_of_mem _ hy)).1, by rw [s3]; exact (hi y (List.mem_cons_of_mem _ hy)).2⟩
 have c1 : w1.cell? ⟨b, o + 1, none⟩ = some u := by
  rw [Lib.cell_of_heap s1, Array.getElem?_setIfInBounds, if_neg (by omega)]; exact hu
 have hc1 : ∀ b L, imm b = some L → ∃ arr ty fr, w1.heap[b]? = some (.cells arr ty fr) ∧ arr.toList = L := fun y L h => by
  rw [s2 y fun e => by rw [e, (hi b (List.mem_cons_self ..)).1] at h; cases h]; exact hc y L h
 have hr : ∃ v w', (Builtin.append_ #[22, 9] 22 #[u, .string s]).run Tryd.prog w1 = .ok v w' ∧ a00 imm w1 nb (xs ++ bytesOf s) v w' := by
  have hb : Go.byteCells s = (bytesOf s).map (Value.int .u8) := by
   unfold Go.byteCells bytesOf
   rw [List.map_map]
   rfl
  have hs : Src Tryd.prog 1 9 (.string s) (bytesOf s).length ((bytesOf s).map (Value.int .u8)) w1 := by
   rw [← hb, z8]
   exact Src.ofString w1 (by kernel_rfl) s
  obtain ⟨v, w', nb', h1, h2, h3, h4⟩ := aM5 (P := Tryd.prog) (t := 22) (tx := 9) (ty := 22) (e := 5) (ys := bytesOf s) (i := aH9) (z := .int .u8 0) (by kernel_rfl) az4 (by kernel_rfl) (by kernel_rfl) (Nat.le_of_ble_eq_true (by kernel_rfl)) rfl hO1 hs hfit hc1 hi1 hty1
  exact ⟨v, w', h1, nb', h2, h3, h4⟩
 have e1' : ∃ _ : True, w1 = w.setCell ⟨b, o, none⟩ (.pointer (some ⟨b, o, none⟩)) ∧ w1.heap.size = w.heap.size := ⟨trivial, e1, s3⟩
 clear e1 s3
 go_wp2_with (at_builtin; refine Y7 rfl _ _ 22 9 rfl _ _ rfl rfl _ hr ?_)
 rintro v w2 ⟨nb1, A, hO2, hty2⟩
 obtain ⟨_, e1, s3⟩ := e1'
 obtain ⟨B1, B2, arr', B3, B4, B5, B6⟩ := aN7 ha hle hn hi hc e1 A hO2
 have hty3 : ∀ y ∈ nb1, ∃ arr, (w2.setCell ⟨b, o + 1, none⟩ v).heap[y]? = some (.cells arr N1 (0, 0)) := fun y hy => by
  obtain ⟨a, k⟩ := hty2 y hy
  exact ⟨a, by rw [(N3 (k := o + 1) B6 v).2.1 y fun e => B2 (e ▸ hy)]; exact k⟩
 obtain ⟨ao, n', cap, rfl⟩ : ∃ ao n' cap, v = .slice ao n' cap := by
  rcases hO2 with ⟨h1, _⟩ | ⟨b', cap, arr', ty', nb', h1, _⟩
  ·injection h1 with h1 _; exact ⟨_, _, _, h1⟩
  ·injection h1 with h1 _; exact ⟨_, _, _, h1⟩
 have d1 : w2.cell? ⟨b, o + 1, none⟩ = some u := by
  rw [Lib.cell_of_heap B6, Array.getElem?_setIfInBounds, if_neg (by omega)]; exact hu
 have f1 : w2.frozen? ⟨b, o + 1, none⟩ = false := Lib.frozen_of_heap B6 (o + 1)
 clear e1
 go_wp2
 go_ret2
 exact ⟨rfl, nb1, arr', _, B1, B3, B4, B5, hty3⟩
end Go.Abs.Bld
end

section
set_option maxRecDepth 100000
namespace Go.Abs.Bld
open Go.Proofs
theorem aD0 {P : Program} {w : World} : ∀ (xs : List Int) (a : Addr) (acc : ByteArray), (∀ j x, xs[j]? = some x → w.cell? (a.add j) = some (.int .u8 x)) →
  ∃ st, (loadBytes a acc xs.length).run P w = .ok st w ∧ bytesOf st = bytesOf acc ++ xs.map byte
 | [], a, acc, _ => ⟨acc, by simp [loadBytes], by simp⟩
 | x :: xs, a, acc, h => by
  have h0 : w.cell? a = some (.int .u8 x) := by
   have := h 0 x rfl
   simpa [Addr.add] using this
  obtain ⟨st, h1, h2⟩ := aD0 (P := P) (w := w) xs (a.add 1) (acc.push x.toNat.toUInt8) (fun j y hy => by
   have := h (j + 1) y (by simpa using hy)
   have e : (a.add 1).add j = a.add (j + 1) := by
    unfold Addr.add
    by_cases hj : j = 0
    ·subst hj; simp
    ·simp [hj]; omega
   rw [e]; exact this)
  refine ⟨st, ?_, ?_⟩
  ·simp only [List.length_cons, loadBytes, Sem.run_bind, run_load, h0, Result.andThen]
   exact h1
  ·rw [h2]
   have : bytesOf (acc.push x.toNat.toUInt8) = bytesOf acc ++ [byte x] := by
    unfold bytesOf byte
    rw [ByteArray.data_push]
    simp
   rw [this]
   simp
theorem aK5 {P : Program} {w : World} (pt it ty e : TypeId) (hp : P.underlying pt = some (.pointer e)) (hc : P.cellsOf e = 1) (g cells : Nat) (hsh : w.shape? g = some (e, cells)) (xs : List Int) (h0 : xs ≠ []) (hn : xs.length ≤ cells) (h63 : xs.length ≤ 9223372036854775807)
  (hcell : ∀ j x, xs[j]? = some x → w.cell? ((⟨g, 0, none⟩ : Addr).add j) = some (.int .u8 x)) :
  ∃ st, (Builtin.unsafeString_ #[pt, it] ty #[.pointer (some ⟨g, 0, none⟩), .int .i64 xs.length]).run P w = .ok (.string st) (w.freeze ⟨g, 0, none⟩ xs.length) ∧ bytesOf st = xs.map byte := by
 have hl : xs.length ≠ 0 := by simpa using h0
 obtain ⟨st, hlb, hst⟩ := aD0 (P := P) (w := w) xs ⟨g, 0, none⟩ .empty hcell
 refine ⟨st, ?_, by rw [hst]; simp [bytesOf]⟩
 have hlies := Lib.liesAt_bytes (P := P) hc (cells / P.cellsOf e) xs.length (by rw [hc]; simpa using hn)
 have h63' : ¬ (9223372036854775807 : Int) < (xs.length : Int) := by omega
 have hdef : Builtin.unsafeString_ #[pt, it] ty #[.pointer (some ⟨g, 0, none⟩), .int .i64 xs.length] =
   (do
    let n ← Go.asInt (.int .i64 xs.length)
    if n < 0 then runtimePanic (.error "unsafe.String: len out of range")
    if n > IntKind.i64.max then unsupported (.unsafePointer "String: a length above the largest int")
    if n = 0 then pure (.string .empty)
    else if ← variablesAt ⟨g, 0, none⟩ (← elemOf pt) n.toNat then do
     let s ← loadBytes ⟨g, 0, none⟩ .empty n.toNat
     freeze ⟨g, 0, none⟩ n.toNat
     pure (.string s)
    else unsupported (.unsafePointer "String: not so many bytes at ptr")) := rfl
 rw [hdef]
 have hmax : IntKind.i64.max = 9223372036854775807 := rfl
 have hneg : ¬ (xs.length : Int) < 0 := by omega
 simp [Go.asInt, asIntOf, hmax, h63', hneg, hl, variablesAt, hsh, elemOf, run_underlying hp, hlies, hlb]
structure Read (imm : Rd) (w : World) (nb : List Nat) (w' : World) : Prop where
 other : ∀ b, b < w.heap.size → b ∉ nb → w'.heap[b]? = w.heap[b]?
 size : w.heap.size ≤ w'.heap.size
 os : w'.os = w.os
 tape : w'.tape = w.tape
 output : w'.output = w.output
theorem Read.after {imm : Rd} {w w' : World} {nb : List Nat} (h : Read imm w nb w') (hn : ∀ y ∈ nb, imm y = none ∧ y < w.heap.size) (hc : ∀ b L, imm b = some L → ∃ arr ty fr, w.heap[b]? = some (.cells arr ty fr) ∧ arr.toList = L) : After imm w nb imm w' [] :=
 ⟨fun _ _ h => h, fun b L k => by
  obtain ⟨a, t, f, k1, k2⟩ := hc b L k
  refine ⟨a, t, f, ?_, k2⟩
  rw [h.other b (lt_of_heap k1) fun hm => by rw [(hn b hm).1] at k; cases k]
  exact k1, fun b h1 h2 h3 => ⟨h.other b h1 h2, h3⟩, List.nodup_nil, (fun b hb => by simp at hb), h.size, h.os, h.tape, h.output, fun b L k => by
  obtain ⟨a, t, f, k1, k2⟩ := hc b L k
  exact h.other b (lt_of_heap k1) fun hm => by rw [(hn b hm).1] at k; cases k⟩
theorem Read.drew (imm : Rd) (w : World) (nb : List Nat) : Read imm w nb w.drew := ⟨fun _ _ _ => rfl, Nat.le_refl _, rfl, rfl, rfl⟩
theorem Read.a57 (imm : Rd) (w : World) (nb : List Nat) (o : Go.Obj) : Read imm w nb (w.drew.alloc o) :=
 ⟨fun b h _ => by
  show (w.heap.push _)[b]? = _
  rw [Array.getElem?_push, if_neg (by omega)], by show _ ≤ (w.heap.push _).size; simp, rfl, rfl, rfl⟩
theorem Read.freeze {imm : Rd} {w : World} {nb : List Nat} {g : Nat} (hg : g ∈ nb) (n : Nat) : Read imm w nb (w.drew.freeze ⟨g, 0, none⟩ n) := by
 unfold World.freeze
 split
 ·exact Read.drew imm w nb
 ·refine ⟨fun b _ hb => ?_, by simp, rfl, rfl, rfl⟩
  simp only [Array.getElem?_modify]
  rw [if_neg (fun e : g = b => hb (e ▸ hg))]
  rfl
set_option maxHeartbeats 2000000 in
set_option maxRecDepth 100000 in
theorem string {imm : Rd} {b o ty : Nat} {arr : Array Value} {w : World} {xs : List Int} {nb : List Nat} (ha : w.heap[b]? = some (.cells arr ty (0, 0))) (hle : o + 2 ≤ arr.size)
  (hB : af0 imm w (b, o) xs ((arr.toList.drop o).take 2) nb) (hfit : xs.length ≤ 1099511627776) :
  Calls Tryd.prog 30 #[.pointer (some ⟨b, o, none⟩)] w fun e w' => ∃ st, e = .returned (.string st) ∧ bytesOf st = xs.map byte ∧ Read imm w nb w' := by
 obtain ⟨u, hu, hO, hty⟩ : ∃ u, arr[o + 1]? = some u ∧ OwnAt imm w false (.int .u8) xs [u] nb ∧ ∀ b ∈ nb, ∃ arr, w.heap[b]? = some (.cells arr N1 (0, 0)) := by
  rcases hB with ⟨h1, h2, h3⟩ | ⟨u2, h1, h2, h3⟩
  ·exact ⟨_, (P5 h1).2, .inl ⟨rfl, h2, h3⟩, fun y hy => by rw [h3] at hy; simp at hy⟩
  ·exact ⟨_, (P5 h1).2, h2, h3⟩
 have hd : w.drew.heap[b]? = some (.cells arr ty (0, 0)) := ha
 have c1 : w.drew.cell? ⟨b, o + 1, none⟩ = some u := by rw [Lib.cell_of_heap hd]; exact hu
 have c0 : w.cell? ⟨b, o + 1, none⟩ = some u := c1
 have hnone : ∀ (W : World) (q : Option Addr), (Builtin.unsafeString_ #[91, 3] 9 #[.pointer q, .int .i64 0]).run Tryd.prog W = .ok (.string .empty) W := fun W q => Lib.run_unsafeString_none W _ _ _ q
 rcases hO with ⟨h1, rfl, _⟩ | ⟨g, cap, arr', ty', nb', h1, h2, h3, h4, h5, h6⟩
 ·injection h1 with h1 _
  subst h1
  have hSD : (Builtin.unsafeSliceData_ #[22] 91 #[.slice none 0 0]).run Tryd.prog w.drew = .ok (.pointer none) w.drew := rfl
  have fin := Read.drew imm w nb
  clear hB hty
  go_enter Tryd.func30, Tryd.ntmps30
  go_wp2
  go_region
  all_goals (go_wp2; go_ret; exact ⟨_, rfl, rfl, fin⟩)
 ·injection h1 with h1 _
  subst h1
  have hg : g ∈ nb := by rw [h2]; simp
  obtain ⟨arr2, k1⟩ := hty g hg
  rw [h3] at k1
  injection k1 with k1; injection k1 with _ k2
  subst k2
  have h5' : arr'.size = cap := by simpa [Ty.size] using h5
  have hg' : w.drew.heap[g]? = some (.cells arr' N1 (0, 0)) := h3
  by_cases hx : xs = []
  ·subst hx
   by_cases hc0 : cap = 0
   ·subst hc0
    have hSD : (Builtin.unsafeSliceData_ #[22] 91 #[.slice (some ⟨g, 0, none⟩) 0 0]).run Tryd.prog w.drew = .ok (.pointer (some ⟨w.drew.heap.size, 0, none⟩)) (w.drew.alloc (.view ⟨g, 0, none⟩ 5)) :=
     Lib.run_unsafeSliceData_zero w.drew _ _ 5 (by kernel_rfl) ⟨g, 0, none⟩ 0 (5, arr'.size) (by simp [World.shape?, hg', N1])
    have c2 : (w.drew.alloc (.view ⟨g, 0, none⟩ 5)).cell? ⟨b, o + 1, none⟩ = some (.slice (some ⟨g, 0, none⟩) 0 0) := by
     have : (w.drew.alloc (.view ⟨g, 0, none⟩ 5)).heap[b]? = some (.cells arr ty (0, 0)) := (Lib.alloc_old w.drew _ b (lt_of_heap ha)).trans ha
     rw [Lib.cell_of_heap this]; exact hu
    have c3 : (w.alloc (.view ⟨g, 0, none⟩ 5)).drew.cell? ⟨b, o + 1, none⟩ = some (.slice (some ⟨g, 0, none⟩) 0 0) := c2
    have fin := Read.a57 imm w nb (.view ⟨g, 0, none⟩ 5)
    clear hB hty
    go_enter Tryd.func30, Tryd.ntmps30
    go_wp2
    go_region
    all_goals (go_wp2; go_ret; exact ⟨_, rfl, rfl, fin⟩)
   ·have hSD : (Builtin.unsafeSliceData_ #[22] 91 #[.slice (some ⟨g, 0, none⟩) 0 cap]).run Tryd.prog w.drew = .ok (.pointer (some ⟨g, 0, none⟩)) w.drew :=
     Lib.run_unsafeSliceData_row _ _ _ _ _ _ hc0
    have fin := Read.drew imm w nb
    clear hB hty hc0
    go_enter Tryd.func30, Tryd.ntmps30
    go_wp2
    go_region
    all_goals (go_wp2; go_ret; exact ⟨_, rfl, rfl, fin⟩)
  ·have hpos : 0 < xs.length := List.length_pos_iff.2 hx
   have hSD : (Builtin.unsafeSliceData_ #[22] 91 #[.slice (some ⟨g, 0, none⟩) xs.length cap]).run Tryd.prog w.drew = .ok (.pointer (some ⟨g, 0, none⟩)) w.drew :=
    Lib.run_unsafeSliceData_row _ _ _ _ _ _ (by omega)
   obtain ⟨st, hUS, hst⟩ := aK5 (P := Tryd.prog) (w := w.drew) 91 3 9 5 (by kernel_rfl) (by kernel_rfl) g arr'.size (by simp [World.shape?, hg', N1]) xs hx (by omega) (by omega) (fun j x hj => by
    obtain ⟨hj', rfl⟩ := List.getElem?_eq_some_iff.1 hj
    rw [Addr.add_lit]
    exact au7 hg' h6.1 j hj')
   have fin : Read imm w nb (w.drew.freeze ⟨g, 0, none⟩ xs.length) := Read.freeze hg _
   clear hB hty hx
   go_enter Tryd.func30, Tryd.ntmps30
   go_wp2
   go_region
   all_goals (go_wp2; go_ret; exact ⟨_, rfl, hst, fin⟩)
end Go.Abs.Bld
end

section
set_option maxRecDepth 100000
namespace Go.Abs.Bld
open Go.Proofs
theorem aG1 {ρ : Type} {n : Nat} {x y : ρ} (h : (bif fits n then some x else none) = some y) : n ≤ 1099511627776 ∧ x = y := by
 cases e : fits n with
 | false => rw [e] at h; cases h
 | true => rw [e] at h; injection h with h; exact ⟨Nat.le_of_ble_eq_true e, h⟩
theorem aW0 {imm : Rd} {w w' : World} {b o ty : Nat} {arr : Array Value} {nb : List Nat} {xs : List Int} (ha : w.heap[b]? = some (.cells arr ty (0, 0))) (hle : o + 2 ≤ arr.size) (h : Written imm w b o ty arr nb xs w') :
  ∃ nb', After imm w (b :: nb) imm w' (b :: nb') ∧ ak5 imm w w' (.ptr false (0, places) .bld) xs (0, 0) [.pointer (some ⟨b, o, none⟩)] [.pointer (some ⟨b, o, none⟩)] (b :: nb') := by
 obtain ⟨nb', arr', v, A, h1, h2, h3, h4⟩ := h
 refine ⟨nb', A, b, o, arr, ty, arr', [.pointer (some ⟨b, o, none⟩), v], nb', rfl, rfl, rfl, ha, h1, h2, hle, rfl, .inr ⟨v, rfl, h3, h4⟩⟩
theorem aM2 (glob : Nat → Option (List Cell)) : R5 Tryd.prog glob 27 ⟨⟨[bp, .one (.pub (.int .u8))], .val (.one .err)⟩, H4⟩ := by
 intro x y hF imm w args nb hG hc hP hn hi
 obtain ⟨hfit, rfl⟩ := aG1 hF
 obtain ⟨u1, r1, n1, n2, rfl, rfl, ⟨_, b, o, arr, ty, nb', e1, rfl, ha, hw, hle, hB⟩, u2, r2, n3, n4, rfl, rfl, ⟨_, rfl, _, u3, e2, h3⟩, rfl, rfl⟩ := hP
 injection e1 with e1 _
 injection e2 with e2 _
 subst e1; subst e2
 have h3 : [_] = [_] := h3
 injection h3 with h3 _
 subst h3
 simp only [List.append_nil] at hn hi
 refine C8 Tryd.func27 rfl (by kernel_rfl) ((a77 x.2.1 ha hle (hw.2 rfl) hB hn hi hc hfit).mono ?_)
 rintro e w' ⟨rfl, hW⟩
 obtain ⟨nb2, A, hBk⟩ := aW0 ha hle hW
 refine ⟨_, rfl, imm, [], b :: nb2, by simpa using A, ⟨rfl, rfl, _, rfl, .inl ⟨rfl, rfl⟩⟩, _, _, b :: nb2, [], rfl, by simp, hBk, _, _, [], [], rfl, rfl, rfl, rfl, rfl⟩
theorem aA0 (glob : Nat → Option (List Cell)) : R5 Tryd.prog glob 29 ⟨⟨[bp, .one (.pub .str)], .tup [.one (.pub (.int .i64)), .one .err]⟩, P4⟩ := by
 intro x y hF imm w args nb hG hc hP hn hi
 obtain ⟨hfit, rfl⟩ := aG1 hF
 obtain ⟨u1, r1, n1, n2, rfl, rfl, ⟨_, b, o, arr, ty, nb', e1, rfl, ha, hw, hle, hB⟩, u2, r2, n3, n4, rfl, rfl, ⟨_, rfl, _, u3, e2, s, h3, h4⟩, rfl, rfl⟩ := hP
 injection e1 with e1 _
 injection e2 with e2 _
 subst e1; subst e2
 injection h3 with h3 _
 subst h3
 simp only [List.append_nil] at hn hi
 have h4' : x.2.1 = bytesOf s := h4
 refine C8 Tryd.func29 rfl (by kernel_rfl) ((writeString s ha hle (hw.2 rfl) hB hn hi hc (by rw [← h4']; exact hfit)).mono ?_)
 rintro e w' ⟨rfl, hW⟩
 rw [← h4'] at hW
 obtain ⟨nb2, A, hBk⟩ := aW0 ha hle hW
 refine ⟨_, rfl, imm, [], b :: nb2, by simpa using A, ⟨[_, _], rfl, _, _, [], [], rfl, rfl, ⟨rfl, rfl, rfl, _, rfl, ?_⟩, _, _, [], [], rfl, rfl, ⟨rfl, rfl, _, rfl, .inl ⟨rfl, rfl⟩⟩, rfl, rfl⟩, _, _, b :: nb2, [], rfl, by simp, hBk, _, _, [], [], rfl, rfl, rfl, rfl, rfl⟩
 show [_] = [_]
 rw [← z8, ← h4']
theorem bb6 (glob : Nat → Option (List Cell)) : R5 Tryd.prog glob 30 ⟨⟨[.one (.tak places)], .val (.one (.pub .str))⟩, aG4⟩ := by
 intro x y hF imm w args nb hG hc hP hn hi
 obtain ⟨hfit, rfl⟩ := aG1 hF
 obtain ⟨u1, r1, n1, n2, rfl, rfl, ⟨_, b, o, arr, ty, e1, ha, hok, hle, hB⟩, rfl, rfl⟩ := hP
 injection e1 with e1 _
 subst e1
 simp only [List.append_nil] at hn hi
 refine C8 Tryd.func30 rfl (by kernel_rfl) ((string ha hle hB hfit).mono ?_)
 rintro e w' ⟨st, rfl, hst, hR⟩
 refine ⟨_, rfl, imm, [], [], ?_, ⟨rfl, rfl, rfl, _, rfl, st, rfl, hst.symm⟩, _, _, [], [], rfl, rfl, rfl, rfl, rfl⟩
 rw [List.append_nil]
 exact hR.after hi hc
end Go.Abs.Bld
end

section
set_option maxRecDepth 100000
namespace Go.Abs.Bld
open Go.Proofs
theorem aZ1 {l : List UInt8} {c : UInt8} : ∀ (m : List UInt8) (k : Nat), l = l.take k ++ m → k ≤ l.length → (match (List.range' k m.length).find? fun i => l.getD i 0 == c with | some i => (i : Int) | none => -1) = idx (m.map fun b => (b.toNat : Int)) (c.toNat : Int) k
 | [], k, _, _ => rfl
 | x :: m, k, h, hk => by
  have hx : l.getD k 0 = x := by
   rw [List.getD_eq_getElem?_getD, h, List.getElem?_append_right (by simp; omega)]
   simp [Nat.min_eq_left hk]
  have hlen : l.length = k + (m.length + 1) := by
   have := congrArg List.length h
   simp only [List.length_append, List.length_take, List.length_cons] at this
   omega
  have ih := aZ1 (l := l) (c := c) m (k + 1) (by
   have h' : l = l.take k ++ [x] ++ m := by rw [List.append_assoc]; exact h
   have h2 : l.take (k + 1) = l.take k ++ [x] := by
    conv => lhs; rw [h']
    rw [List.take_left']
    simp [Nat.min_eq_left hk]
   rw [h2]; exact h') (by omega)
  rw [List.length_cons, List.range'_succ, List.find?_cons, hx]
  simp only [List.map_cons, idx]
  by_cases e : x = c
  ·subst e; simp
  ·have e1 : (x == c) = false := by simpa using e
   have e2 : decide ((x.toNat : Int) = (c.toNat : Int)) = false := by
    simp only [decide_eq_false_iff_not]
    intro h'
    apply e
    have : x.toNat = c.toNat := by omega
    exact UInt8.toNat_inj.1 this
   rw [e1, e2]
   simp only [cond_false]
   rw [ih]
   push_cast
   rfl
theorem aU4 (s : ByteArray) (c : Int) : firstIdx s c.toNat.toUInt8 = idx (bytesOf s) (byte c) 0 := by
 have h := aZ1 (l := s.data.toList) (c := c.toNat.toUInt8) s.data.toList 0 (by simp) (Nat.zero_le _)
 have hc : ((c.toNat.toUInt8).toNat : Int) = byte c := by
  unfold byte
  rw [UInt8.toNat_ofNat']
 rw [hc] at h
 have hb : (s.data.toList.map fun b => (b.toNat : Int)) = bytesOf s := rfl
 rw [hb] at h
 refine Eq.trans ?_ h
 unfold firstIdx
 have hsz : s.size = s.data.toList.length := by
  rw [Array.length_toList]; rfl
 rw [hsz, List.range_eq_range']
 have : ∀ i, s[i]! = s.data.toList.getD i 0 := fun i => by
  by_cases h : i < s.size
  ·rw [getElem!_pos s i h]
   have h' : i < s.data.toList.length := by rw [← hsz]; exact h
   rw [List.getD_eq_getElem?_getD, List.getElem?_eq_getElem h', Option.getD_some]
   rfl
  ·rw [getElem!_neg s i h]
   have h' : s.data.toList.length ≤ i := by rw [← hsz]; omega
   rw [List.getD_eq_getElem?_getD, List.getElem?_eq_none h']
   rfl
 simp only [this]
 split <;> rename_i e <;> rw [e]
theorem aN6 (glob : Nat → Option (List Cell)) : R5 Tryd.prog glob 93 ⟨⟨[.one (.pub .str), .one (.pub (.int .u8))], .val (.one (.pub (.int .i64)))⟩, Y1⟩ :=
 a42 (ts := [.str, .int .u8]) (τ := .int .i64) rfl rfl fun x y hF w us hA => by
  injection hF with hF
  subst hF
  obtain ⟨u1, r1, rfl, ⟨s, rfl, hs⟩, u2, r2, rfl, h2, h3⟩ := hA
  have h2 : _ = _ := h2
  have h3 : _ = _ := h3
  subst h2; subst h3
  have hs : x.1 = bytesOf s := hs
  unfold F1
  rw [run_callFunc_extern Tryd.func93 (by kernel_rfl) (by kernel_rfl) (by kernel_rfl) (e := Extern.BytealgIndexByte.indexByte) (by kernel_rfl), run_indexByte_string]
  refine ⟨Same.refl w, ?_⟩
  show _ = Value.int .i64 (idx x.1 (byte x.2.1) 0)
  rw [aU4, hs]
end Go.Abs.Bld
end

section
set_option maxRecDepth 100000
namespace Go.Abs.Lay
open Go.Proofs Go.Shelf
def bo7 : Ren where
 f := fun n => bif Nat.beq n 174 then 95 else bif Nat.beq n 247 then 115 else bif Nat.beq n 245 then 97 else bif Nat.beq n 287 then 96 else bif Nat.beq n 279 then 118 else bif Nat.beq n 280 then 119 else bif Nat.beq n 281 then 120 else bif Nat.beq n 282 then 121 else bif Nat.beq n 321 then 116 else bif Nat.beq n 322 then 117 else bif Nat.beq n 316 then 128 else bif Nat.beq n 171 then 130 else bif Nat.beq n 205 then 129 else bif Nat.beq n 243 then 133 else bif Nat.beq n 246 then 78 else bif Nat.beq n 283 then 100 else bif Nat.beq n 284 then 101 else bif Nat.beq n 285 then 102 else bif Nat.beq n 286 then 103 else bif Nat.beq n 129 then 123 else bif Nat.beq n 317 then 122 else bif Nat.beq n 318 then 124 else bif Nat.beq n 319 then 125 else bif Nat.beq n 320 then 126 else bif Nat.beq n 337 then 131 else bif Nat.beq n 338 then 132 else n
 t := fun n => bif Nat.beq n 9 then 9 else bif Nat.beq n 3 then 3 else bif Nat.beq n 2 then 2 else bif Nat.beq n 75 then 65 else bif Nat.beq n 85 then 114 else bif Nat.beq n 4 then 4 else bif Nat.beq n 167 then 133 else bif Nat.beq n 5 then 5 else bif Nat.beq n 53 then 55 else bif Nat.beq n 175 then 95 else bif Nat.beq n 46 then 70 else bif Nat.beq n 168 then 135 else bif Nat.beq n 37 then 22 else bif Nat.beq n 0 then 0 else bif Nat.beq n 210 then 144 else bif Nat.beq n 21 then 21 else bif Nat.beq n 127 then 91 else bif Nat.beq n 145 then 149 else bif Nat.beq n 143 then 147 else bif Nat.beq n 171 then 118 else bif Nat.beq n 173 then 121 else bif Nat.beq n 212 then 139 else bif Nat.beq n 51 then 140 else bif Nat.beq n 20 then 20 else bif Nat.beq n 213 then 141 else bif Nat.beq n 232 then 150 else bif Nat.beq n 233 then 151 else bif Nat.beq n 80 then 59 else n
 g := fun n => bif Nat.beq n 15 then 5 else bif Nat.beq n 16 then 6 else bif Nat.beq n 17 then 4 else bif Nat.beq n 18 then 7 else bif Nat.beq n 19 then 8 else n
theorem bg6 : LaysC.n174 Tryd.prog bo7 where
 mixed := by kernel_rfl
 f129 := Tryd.func123.trans (congrArg some (by kernel_rfl))
 f171 := Tryd.func130.trans (congrArg some (by kernel_rfl))
 f174 := Tryd.func95.trans (congrArg some (by kernel_rfl))
 f205 := Tryd.func129.trans (congrArg some (by kernel_rfl))
 f243 := Tryd.func133.trans (congrArg some (by kernel_rfl))
 f245 := Tryd.func97.trans (congrArg some (by kernel_rfl))
 f246 := Tryd.func78.trans (congrArg some (by kernel_rfl))
 f247 := Tryd.func115.trans (congrArg some (by kernel_rfl))
 f279 := Tryd.func118.trans (congrArg some (by kernel_rfl))
 f280 := Tryd.func119.trans (congrArg some (by kernel_rfl))
 f281 := Tryd.func120.trans (congrArg some (by kernel_rfl))
 f282 := Tryd.func121.trans (congrArg some (by kernel_rfl))
 f283 := Tryd.func100.trans (congrArg some (by kernel_rfl))
 f284 := Tryd.func101.trans (congrArg some (by kernel_rfl))
 f285 := Tryd.func102.trans (congrArg some (by kernel_rfl))
 f286 := Tryd.func103.trans (congrArg some (by kernel_rfl))
 f287 := Tryd.func96.trans (congrArg some (by kernel_rfl))
 f316 := Tryd.func128.trans (congrArg some (by kernel_rfl))
 f317 := Tryd.func122.trans (congrArg some (by kernel_rfl))
 f318 := Tryd.func124.trans (congrArg some (by kernel_rfl))
 f319 := Tryd.func125.trans (congrArg some (by kernel_rfl))
 f320 := Tryd.func126.trans (congrArg some (by kernel_rfl))
 f321 := Tryd.func116.trans (congrArg some (by kernel_rfl))
 f322 := Tryd.func117.trans (congrArg some (by kernel_rfl))
 f337 := Tryd.func131.trans (congrArg some (by kernel_rfl))
 f338 := Tryd.func132.trans (congrArg some (by kernel_rfl))
 t0 := Tryd.underlying0
 a0 := Tryd.isAgg0
 z0 := Tryd.sizeOf0
 v0 := Tryd.zeroValue0
 t2 := Tryd.underlying2
 a2 := Tryd.isAgg2
 z2 := Tryd.sizeOf2
 v2 := Tryd.zeroValue2
 t3 := Tryd.underlying3
 a3 := Tryd.isAgg3
 z3 := Tryd.sizeOf3
 v3 := Tryd.zeroValue3
 t4 := Tryd.underlying4
 a4 := Tryd.isAgg4
 z4 := Tryd.sizeOf4
 v4 := Tryd.zeroValue4
 t5 := Tryd.underlying5
 a5 := Tryd.isAgg5
 z5 := Tryd.sizeOf5
 v5 := Tryd.zeroValue5
 t9 := Tryd.underlying9
 a9 := Tryd.isAgg9
 z9 := Tryd.sizeOf9
 v9 := Tryd.zeroValue9
 t20 := Tryd.underlying20
 a20 := Tryd.isAgg20
 z20 := Tryd.sizeOf20
 v20 := Tryd.zeroValue20
 t21 := Tryd.underlying21
 a21 := Tryd.isAgg21
 z21 := Tryd.sizeOf21
 v21 := Tryd.zeroValue21
 t37 := Tryd.underlying22
 a37 := Tryd.isAgg22
 z37 := Tryd.sizeOf22
 v37 := Tryd.zeroValue22
 t46 := Tryd.underlying70
 a46 := Tryd.isAgg70
 z46 := Tryd.sizeOf70
 v46 := Tryd.zeroValue70
 t51 := Tryd.underlying140
 a51 := Tryd.isAgg140
 z51 := Tryd.sizeOf140
 v51 := Tryd.zeroValue140
 t53 := Tryd.underlying55
 a53 := Tryd.isAgg55
 z53 := Tryd.sizeOf55
 v53 := Tryd.zeroValue55
 t75 := Tryd.underlying65
 a75 := Tryd.isAgg65
 z75 := Tryd.sizeOf65
 v75 := Tryd.zeroValue65
 t85 := Tryd.underlying114
 a85 := Tryd.isAgg114
 z85 := Tryd.sizeOf114
 v85 := Tryd.zeroValue114
 t127 := Tryd.underlying91
 a127 := Tryd.isAgg91
 z127 := Tryd.sizeOf91
 v127 := Tryd.zeroValue91
 t143 := Tryd.underlying147
 a143 := Tryd.isAgg147
 z143 := Tryd.sizeOf147
 v143 := Tryd.zeroValue147
 t145 := Tryd.underlying149
 a145 := Tryd.isAgg149
 z145 := Tryd.sizeOf149
 v145 := Tryd.zeroValue149
 t167 := Tryd.underlying133
 a167 := Tryd.isAgg133
 z167 := Tryd.sizeOf133
 v167 := Tryd.zeroValue133
 t168 := Tryd.underlying135
 a168 := Tryd.isAgg135
 z168 := Tryd.sizeOf135
 v168 := Tryd.zeroValue135
 t171 := Tryd.underlying118
 a171 := Tryd.isAgg118
 z171 := Tryd.sizeOf118
 v171 := Tryd.zeroValue118
 t173 := Tryd.underlying121
 a173 := Tryd.isAgg121
 z173 := Tryd.sizeOf121
 v173 := Tryd.zeroValue121
 t175 := Tryd.underlying95
 a175 := Tryd.isAgg95
 z175 := Tryd.sizeOf95
 v175 := Tryd.zeroValue95
 t210 := Tryd.underlying144
 a210 := Tryd.isAgg144
 z210 := Tryd.sizeOf144
 v210 := Tryd.zeroValue144
 t212 := Tryd.underlying139
 a212 := Tryd.isAgg139
 z212 := Tryd.sizeOf139
 v212 := Tryd.zeroValue139
 t213 := Tryd.underlying141
 a213 := Tryd.isAgg141
 z213 := Tryd.sizeOf141
 t232 := Tryd.underlying150
 a232 := Tryd.isAgg150
 z232 := Tryd.sizeOf150
 v232 := Tryd.zeroValue150
 t233 := Tryd.underlying151
 a233 := Tryd.isAgg151
 z233 := Tryd.sizeOf151
 v233 := Tryd.zeroValue151
 g15 := by kernel_rfl
 g16 := by kernel_rfl
 g17 := by kernel_rfl
 g18 := by kernel_rfl
 g19 := by kernel_rfl
 t80 := Tryd.underlying59
 a80 := Tryd.isAgg59
 z80 := Tryd.sizeOf59
 v80 := Tryd.zeroValue59
 i0 := by kernel_rfl
 i2 := by kernel_rfl
 i3 := by kernel_rfl
 i4 := by kernel_rfl
 i5 := by kernel_rfl
 i9 := by kernel_rfl
 i20 := by kernel_rfl
 i21 := by kernel_rfl
 i37 := by kernel_rfl
 i46 := by kernel_rfl
 i51 := by kernel_rfl
 i53 := by kernel_rfl
 i75 := by kernel_rfl
 i80 := by kernel_rfl
 i85 := by kernel_rfl
 i127 := by kernel_rfl
 i143 := by kernel_rfl
 i145 := by kernel_rfl
 i167 := by kernel_rfl
 i168 := by kernel_rfl
 i171 := by kernel_rfl
 i173 := by kernel_rfl
 i175 := by kernel_rfl
 i210 := by kernel_rfl
 i212 := by kernel_rfl
 i232 := by kernel_rfl
 i233 := by kernel_rfl
 m15 := by kernel_rfl
 m16 := by kernel_rfl
 m17 := by kernel_rfl
 m18 := by kernel_rfl
 m19 := by kernel_rfl
 c0 := by kernel_rfl
 c2 := by kernel_rfl
 c3 := by kernel_rfl
 c4 := by kernel_rfl
 c5 := by kernel_rfl
 c9 := by kernel_rfl
 c20 := by kernel_rfl
 c21 := by kernel_rfl
 c37 := by kernel_rfl
 c46 := by kernel_rfl
 c51 := by kernel_rfl
 c53 := by kernel_rfl
 c75 := by kernel_rfl
 c80 := by kernel_rfl
 c85 := by kernel_rfl
 c127 := by kernel_rfl
 c143 := by kernel_rfl
 c145 := by kernel_rfl
 c167 := by kernel_rfl
 c168 := by kernel_rfl
 c171 := by kernel_rfl
 c173 := by kernel_rfl
 c175 := by kernel_rfl
 c210 := by kernel_rfl
 c212 := by kernel_rfl
 c213 := by kernel_rfl
 c232 := by kernel_rfl
 c233 := by kernel_rfl
def bp7 : Ren where
 f := fun n => bif Nat.beq n 173 then 45 else bif Nat.beq n 246 then 78 else bif Nat.beq n 283 then 100 else bif Nat.beq n 284 then 101 else bif Nat.beq n 285 then 102 else bif Nat.beq n 286 then 103 else bif Nat.beq n 129 then 123 else bif Nat.beq n 317 then 122 else bif Nat.beq n 318 then 124 else bif Nat.beq n 319 then 125 else bif Nat.beq n 320 then 126 else bif Nat.beq n 337 then 131 else bif Nat.beq n 338 then 132 else n
 t := fun n => bif Nat.beq n 2 then 2 else bif Nat.beq n 3 then 3 else bif Nat.beq n 9 then 9 else bif Nat.beq n 4 then 4 else bif Nat.beq n 171 then 118 else bif Nat.beq n 0 then 0 else bif Nat.beq n 53 then 55 else bif Nat.beq n 37 then 22 else bif Nat.beq n 5 then 5 else bif Nat.beq n 173 then 121 else bif Nat.beq n 212 then 139 else bif Nat.beq n 51 then 140 else bif Nat.beq n 20 then 20 else bif Nat.beq n 213 then 141 else bif Nat.beq n 46 then 70 else bif Nat.beq n 232 then 150 else bif Nat.beq n 233 then 151 else n
 g := fun n => bif Nat.beq n 17 then 4 else bif Nat.beq n 18 then 7 else bif Nat.beq n 19 then 8 else n
theorem bm1 : LaysM.n173 Tryd.prog bp7 where
 mixed := by kernel_rfl
 f129 := Tryd.func123.trans (congrArg some (by kernel_rfl))
 f173 := Tryd.func45.trans (congrArg some (by kernel_rfl))
 f246 := Tryd.func78.trans (congrArg some (by kernel_rfl))
 f283 := Tryd.func100.trans (congrArg some (by kernel_rfl))
 f284 := Tryd.func101.trans (congrArg some (by kernel_rfl))
 f285 := Tryd.func102.trans (congrArg some (by kernel_rfl))
 f286 := Tryd.func103.trans (congrArg some (by kernel_rfl))
 f317 := Tryd.func122.trans (congrArg some (by kernel_rfl))
 f318 := Tryd.func124.trans (congrArg some (by kernel_rfl))
 f319 := Tryd.func125.trans (congrArg some (by kernel_rfl))
 f320 := Tryd.func126.trans (congrArg some (by kernel_rfl))
 f337 := Tryd.func131.trans (congrArg some (by kernel_rfl))
 f338 := Tryd.func132.trans (congrArg some (by kernel_rfl))
 t0 := Tryd.underlying0
 a0 := Tryd.isAgg0
 z0 := Tryd.sizeOf0
 v0 := Tryd.zeroValue0
 t2 := Tryd.underlying2
 a2 := Tryd.isAgg2
 z2 := Tryd.sizeOf2
 v2 := Tryd.zeroValue2
 t3 := Tryd.underlying3
 a3 := Tryd.isAgg3
 z3 := Tryd.sizeOf3
 v3 := Tryd.zeroValue3
 t4 := Tryd.underlying4
 a4 := Tryd.isAgg4
 z4 := Tryd.sizeOf4
 v4 := Tryd.zeroValue4
 t5 := Tryd.underlying5
 a5 := Tryd.isAgg5
 z5 := Tryd.sizeOf5
 v5 := Tryd.zeroValue5
 t9 := Tryd.underlying9
 a9 := Tryd.isAgg9
 z9 := Tryd.sizeOf9
 v9 := Tryd.zeroValue9
 t20 := Tryd.underlying20
 a20 := Tryd.isAgg20
 z20 := Tryd.sizeOf20
 v20 := Tryd.zeroValue20
 t37 := Tryd.underlying22
 a37 := Tryd.isAgg22
 z37 := Tryd.sizeOf22
 v37 := Tryd.zeroValue22
 t46 := Tryd.underlying70
 a46 := Tryd.isAgg70
 z46 := Tryd.sizeOf70
 v46 := Tryd.zeroValue70
 t51 := Tryd.underlying140
 a51 := Tryd.isAgg140
 z51 := Tryd.sizeOf140
 v51 := Tryd.zeroValue140
 t53 := Tryd.underlying55
 a53 := Tryd.isAgg55
 z53 := Tryd.sizeOf55
 v53 := Tryd.zeroValue55
 t171 := Tryd.underlying118
 a171 := Tryd.isAgg118
 z171 := Tryd.sizeOf118
 v171 := Tryd.zeroValue118
 t173 := Tryd.underlying121
 a173 := Tryd.isAgg121
 z173 := Tryd.sizeOf121
 v173 := Tryd.zeroValue121
 t212 := Tryd.underlying139
 a212 := Tryd.isAgg139
 z212 := Tryd.sizeOf139
 v212 := Tryd.zeroValue139
 t213 := Tryd.underlying141
 a213 := Tryd.isAgg141
 z213 := Tryd.sizeOf141
 t232 := Tryd.underlying150
 a232 := Tryd.isAgg150
 z232 := Tryd.sizeOf150
 v232 := Tryd.zeroValue150
 t233 := Tryd.underlying151
 a233 := Tryd.isAgg151
 z233 := Tryd.sizeOf151
 v233 := Tryd.zeroValue151
 g17 := by kernel_rfl
 g18 := by kernel_rfl
 g19 := by kernel_rfl
 i0 := by kernel_rfl
 i2 := by kernel_rfl
 i3 := by kernel_rfl
 i4 := by kernel_rfl
 i5 := by kernel_rfl
 i9 := by kernel_rfl
 i20 := by kernel_rfl
 i37 := by kernel_rfl
 i46 := by kernel_rfl
 i51 := by kernel_rfl
 i53 := by kernel_rfl
 i171 := by kernel_rfl
 i173 := by kernel_rfl
 i212 := by kernel_rfl
 i232 := by kernel_rfl
 i233 := by kernel_rfl
 m17 := by kernel_rfl
 m18 := by kernel_rfl
 m19 := by kernel_rfl
end Go.Abs.Lay
end

section
set_option maxRecDepth 100000
namespace Go.Abs.Lx
open Go.Proofs
theorem aF3 {w w' : World} (h : RowKit.Below w.heap.size w w') : Same w w' := ⟨fun b hb => h.block b hb, h.size, h.os, h.tape, h.output⟩
theorem aL4 (w : World) (k : Nat) (os : Array Go.Obj) : Same w (Go.Sort.grow (w.drewN k) os) := by
 refine ⟨fun b hb => ?_, ?_, rfl, rfl, rfl⟩
 ·show (w.heap ++ os)[b]? = _
  rw [Array.getElem?_append_left hb]
 ·show _ ≤ (w.heap ++ os).size
  simp
theorem aS9 {glob : Nat → Option (List Cell)} (hg : glob 6 = some [.err false]) : R5 Tryd.prog glob 95 ⟨⟨[.one (.pub .str), .one (.pub (.int .i64)), .one (.pub (.int .i64))], .tup [.one (.pub (.int .i64)), .one .err]⟩, T8⟩ := by
 intro x y hF imm w args nb hG hcells hP hnd hnb
 obtain ⟨hA, rfl⟩ := am3 (ts := [.str, .int .i64, .int .i64]) rfl hP
 obtain ⟨u1, r1, rfl, ⟨s, rfl, hs⟩, u2, r2, rfl, h2, u3, r3, rfl, h3, h4⟩ := hA
 have h2 : _ = _ := h2
 have h3 : _ = _ := h3
 have h4 : _ = _ := h4
 subst h2; subst h3; subst h4
 have hs : x.1 = bytesOf s := hs
 have hF : T8 x = some y := hF
 unfold T8 at hF
 cases hc : (decide (x.2.1 = 10) && decide (x.2.2.1 = 64) && fits x.1.length) with
 | false => rw [hc] at hF; cases hF
 | true =>
  rw [hc] at hF
  simp only [cond_true] at hF
  simp only [Bool.and_eq_true, decide_eq_true_eq] at hc
  obtain ⟨⟨e1, e2⟩, hl⟩ := hc
  have hsz : s.size ≤ 1099511627776 := by
   have := Nat.le_of_ble_eq_true hl
   rw [hs, z8] at this
   exact this
  have f1 : x.2.1 = 10 := e1
  have f2 : x.2.2.1 = 64 := e2
  show F1 Tryd.prog 95 #[.string s, .int .i64 x.2.1, .int .i64 x.2.2.1] w _
  rw [f1, f2]
  have hu : u8s x.1 = s.data.toList := by rw [hs, aR0]
  rw [hu] at hF
  have fin : ∀ {v : Int} {b : Bool} {u : Value} {w' : World}, Same w w' → y = ((v, b, ()), (), (), (), ()) → ((b = true ∧ u = .nilIface) ∨ (b = false ∧ ∃ t p, u = .iface t p)) → ∃ imm' n1 n2, After imm w [] imm' w' (n1 ++ n2) ∧
    az3 imm' w' (.tup [.one (.pub (.int .i64)), .one .err]) y.1 (.tuple #[.int .i64 v, u]) n1 ∧ I7 imm' w w' [.one (.pub .str), .one (.pub (.int .i64)), .one (.pub (.int .i64))] y.2 [.string s, .int .i64 x.2.1, .int .i64 x.2.2.1] n2 := by
   intro v b u w' hsame hy hu
   subst hy
   refine ⟨imm, [], [], hsame.after hcells, ⟨[_, _], rfl, _, _, [], [], rfl, rfl, ⟨rfl, rfl, rfl, _, rfl, rfl⟩, _, _, [], [], rfl, rfl, ⟨?_, rfl, _, rfl, hu⟩, rfl, rfl⟩, al0 (ts := [.str, .int .i64, .int .i64]) (y := x) ⟨_, _, rfl, ⟨s, rfl, hs⟩, _, _, rfl, rfl, _, _, rfl, rfl, rfl⟩⟩
   rcases hu with ⟨_, rfl⟩ | ⟨_, t, p, rfl⟩ <;> rfl
  rw [f1, f2] at fin
  cases hp : Lib.parseIntB 64 s.data.toList with
  | ok v =>
   rw [hp] at hF
   injection hF with hF
   refine C8 Tryd.func95 rfl (by kernel_rfl) ((Any.strconv_ParseInt_10_at64_ok Lay.bg6 s (by omega) v hp w).mono ?_)
   rintro e w' ⟨rfl, hw⟩
   refine ⟨_, rfl, fin (b := true) ?_ hF.symm (.inl ⟨rfl, rfl⟩)⟩
   rcases hw with rfl | ⟨t, rfl⟩
   ·exact Same.refl _
   ·exact ⟨fun b hb => Lib.bytesWorld_at_old w _ t b hb, by rw [Lib.bytesWorld_size]; omega, rfl, rfl, rfl⟩
  | range =>
   rw [hp] at hF
   injection hF with hF
   obtain ⟨us, hi, hcr⟩ := hG _ _ hg
   obtain ⟨arr, ty, fr, ha, hL⟩ := hcells _ _ hi
   obtain ⟨u, r, rfl, hu, hr⟩ := hcr ⟨imm, fun _ => 0, fun _ _ => .nilIface, fun _ => none, fun _ => none, fun _ => []⟩ fun _ _ h => h
   have hr : r = [] := hr
   subst hr
   have hcell : w.cell? ⟨6, 0, none⟩ = some u := by
    rw [Lib.cell_of_heap ha]
    have : arr[0]? = arr.toList[0]? := by simp
    rw [this, hL]; rfl
   refine C8 Tryd.func95 rfl (by kernel_rfl) ((Any.strconv_ParseInt_10_at64_range Lay.bg6 s (by omega) hp u w hcell ?_).mono ?_)
   ·rcases hu with ⟨h, _⟩ | ⟨_, t, v, rfl⟩
    ·cases h
    ·exact .inr ⟨t, v, rfl⟩
   rintro e w' ⟨N, rfl, _, _, hw⟩
   exact ⟨_, rfl, fin (b := false) (aF3 hw) hF.symm (.inr ⟨rfl, _, _, rfl⟩)⟩
  | _ => rw [hp] at hF; cases hF
theorem aP5 {glob : Nat → Option (List Cell)} (hg : glob 4 = some bo1) : R5 Tryd.prog glob 45 ⟨⟨[.one (.pub (.int .i64)), .one (.pub (.int .i64))], .val (.one (.pub .str))⟩, N6⟩ := by
 intro x y hF imm w args nb hG hcells hP hnd hnb
 obtain ⟨hA, rfl⟩ := am3 (ts := [.int .i64, .int .i64]) rfl hP
 obtain ⟨u1, r1, rfl, h1, u2, r2, rfl, h2, h4⟩ := hA
 have h1 : _ = _ := h1
 have h2 : _ = _ := h2
 have h4 : _ = _ := h4
 subst h1; subst h2; subst h4
 have hF : N6 x = some y := hF
 unfold N6 at hF
 cases hc : (decide (x.2.1 = 10) && decide (-9223372036854775808 ≤ x.1) && decide (x.1 ≤ 9223372036854775807)) with
 | false => rw [hc] at hF; cases hF
 | true =>
  rw [hc] at hF
  injection hF with hF
  simp only [Bool.and_eq_true, decide_eq_true_eq] at hc
  obtain ⟨⟨e1, e2⟩, e3⟩ := hc
  have f1 : x.2.1 = 10 := e1
  show F1 Tryd.prog 45 #[.int .i64 x.1, .int .i64 x.2.1] w _
  rw [f1]
  obtain ⟨us, hi, hcr⟩ := hG _ _ hg
  obtain ⟨arr, ty, fr, ha, hL⟩ := hcells _ _ hi
  have hcs := hcr ⟨imm, fun _ => 0, fun _ _ => .nilIface, fun _ => none, fun _ => none, fun _ => []⟩ fun _ _ h => h
  have hus : us = Lib.pow10Tab.map fun z => Value.int .u64 z := by
   have all : ∀ (l : List Int) (us : List Value) (g : Gh), j3 g (l.map fun z => .v (.int .u64) z) us → us = l.map fun z => Value.int .u64 z := by
    intro l
    induction l with
    | nil => intro us g h; exact h
    | cons z l ih =>
     intro us g h
     obtain ⟨u, r, rfl, hu, hr⟩ := h
     have hu : [u] = [Value.int .u64 z] := hu.2
     injection hu with hu _
     subst hu
     rw [ih r g hr]; rfl
   exact all _ _ _ hcs
  have htab : Lib.TabIs Tryd.prog w "internal/strconv.uint64pow10" .u64 Lib.pow10Tab := by
   have hn : Tryd.prog.globalNamed "internal/strconv.uint64pow10" = some 4 := by kernel_rfl
   unfold Lib.TabIs World.var?
   rw [hn]
   simp only [Option.bind_some, ha]
   have : arr = (Lib.pow10Tab.map fun z => Value.int .u64 z).toArray := by
    apply Array.ext'
    rw [hL, hus]
   rw [this]
  refine C8 Tryd.func45 rfl (by kernel_rfl) ((Any.strconv_FormatInt_10 Lay.bm1 x.1 e2 e3 w htab).mono ?_)
  rintro e w' ⟨rfl, k, os, rfl⟩
  subst hF
  exact ⟨_, rfl, imm, [], [], (aL4 w k os).after hcells, ⟨rfl, rfl, rfl, _, rfl, _, rfl, rfl⟩, al0 (ts := [.int .i64, .int .i64]) (y := x) ⟨_, _, rfl, rfl, _, _, rfl, f1 ▸ rfl, rfl⟩⟩
end Go.Abs.Lx
end

section
set_option maxRecDepth 100000
namespace Go.Abs.Lx
open Go.Proofs Go.Shelf Go.RowKit Go.Sort Go.Lib
variable {P : Program} {ρ : Ren}
theorem bk6 (L : Lays.n286 P ρ) (w : World) : Calls P (ρ.f 319) #[.int .i64 16] w fun e w' => e = .returned (.bool true) ∧ w' = w := by
 have mixed := L.mixed
 have t3 := L.t3; have a3 := L.a3; have z3 := L.z3; have v3 := L.v3
 have t4 := L.t4; have a4 := L.a4; have z4 := L.z4; have v4 := L.v4
 have key : bits BinOp.and IntKind.i64 (16 : Int) (15 : Int) = 0 := by decide +kernel
 go_enter L.f319, Body.n319_ntmps ρ
 go_wp2_with (simp only [key])
 go_ret
 exact ⟨rfl, rfl⟩
theorem bk4 (L : Lays.n286 P ρ) (w : World) (hcell : w.cell? ⟨ρ.g 19, 15, none⟩ = some (.int .u8 4)) : Calls P (ρ.f 338) #[.int .u64 16] w fun e w' => e = .returned (.int .i64 4) ∧ w' = w := by
 have mixed := L.mixed
 have t0 := L.t0; have a0 := L.a0; have z0 := L.z0; have v0 := L.v0
 have t3 := L.t3; have a3 := L.a3; have z3 := L.z3; have v3 := L.v3
 have t4 := L.t4; have a4 := L.a4; have z4 := L.z4; have v4 := L.v4
 have t5 := L.t5; have a5 := L.a5; have z5 := L.z5; have v5 := L.v5
 have t53 := L.t53; have a53 := L.a53; have z53 := L.z53; have v53 := L.v53
 have t46 := L.t46; have a46 := L.a46; have z46 := L.z46; have v46 := L.v46
 have t233 := L.t233; have a233 := L.a233; have z233 := L.z233; have v233 := L.v233
 have g19 := L.g19
 have key : IntKind.u64.wrap (bits BinOp.and IntKind.u64 (16 : Int) (IntKind.u64.wrap (-16)) * 285870213051353865) / 288230376151711744 = (15 : Int) := by decide +kernel
 go_enter L.f338, Body.n338_ntmps ρ
 go_wp2_with (simp only [key])
 go_ret
 exact ⟨rfl, rfl⟩
theorem bp8 (L : Lays.n286 P ρ) (w : World) (hcell : w.cell? ⟨ρ.g 19, 15, none⟩ = some (.int .u8 4)) : Calls P (ρ.f 320) #[.int .u64 16] w fun e w' => e = .returned (.int .i64 4) ∧ w' = w := by
 have mixed := L.mixed
 have t3 := L.t3; have a3 := L.a3; have z3 := L.z3; have v3 := L.v3
 have t4 := L.t4; have a4 := L.a4; have z4 := L.z4; have v4 := L.v4
 have t46 := L.t46; have a46 := L.a46; have z46 := L.z46; have v46 := L.v46
 have t53 := L.t53; have a53 := L.a53; have z53 := L.z53; have v53 := L.v53
 have t51 := L.t51; have a51 := L.a51; have z51 := L.z51; have v51 := L.v51
 have e338 : ∀ args w, (callFunc (ρ.f 338) args).run P w = .ok (.enter (ρ.f 338) args) w := enters_of L.f338 (by kernel_rfl) rfl
 go_enter L.f320, Body.n320_ntmps ρ
 go_wp2_with (go_at_fn (ρ.f 338); refine (bk4 L _ hcell).mono ?_; rintro e w' ⟨rfl, rfl⟩)
 go_ret
 exact ⟨rfl, rfl⟩
def ae7 : Array Value := Array.replicate 65 (.int .u8 0)
abbrev bh0 : UInt8 → Value := fun b => Value.int .u8 (b.toNat : Int)
def ak3 (i : Nat) : UInt8 := digits36.data.toList.getD i 0
theorem bh4 {P : Program} (t : TypeId) (ht : P.underlying t = some .string) (k : IntKind) (z : Int) (i : Nat) (hz : z = (i : Int)) (hi : i < 16) (w : World) :
  (Instr.index t (.string digits36) (.int k z)).run P w = .ok (.int .u8 ((ak3 i).toNat : Int)) w := by
 subst hz
 have hsz : digits36.size = 36 := digits36_size
 rw [run_index_string w t digits36 k _ ht, dif_pos ⟨by omega, by rw [hsz]; omega⟩]
 have e : ((i : Int)).toNat = i := by omega
 simp only [e]
 have h2 : digits36[i]'(by rw [hsz]; omega) = ak3 i := by
  unfold ak3
  rw [List.getD_eq_getElem?_getD, List.getElem?_eq_getElem (by rw [Array.length_toList]; exact (by rw [hsz]; omega : i < digits36.size))]
  rfl
 rw [h2]
def J1 : Nat → Nat → List UInt8 → List UInt8
 | 0, _, acc => acc
 | k + 1, n, acc => if n < 16 then ak3 (n % 16) :: acc else J1 k (n / 16) (ak3 (n % 16) :: acc)
structure HInv (u i v : Nat) (d : Array UInt8) : Prop where
 size : d.size = 65
 lo : 50 ≤ i
 hi : i ≤ 65
 small : v < 16 ^ (i - 49)
 dig : J1 (i - 49) v (d.toList.drop i) = J1 16 u []
theorem drop_set (d : Array UInt8) (m : Nat) (x : UInt8) (hm : m < d.size) : (d.setIfInBounds m x).toList.drop m = x :: d.toList.drop (m + 1) := by
 rw [Array.toList_setIfInBounds]
 have h : m < (d.toList.set m x).length := by rw [List.length_set, Array.length_toList]; omega
 rw [List.drop_eq_getElem_cons h, List.getElem_set_self, List.drop_set_of_lt (by omega)]
theorem HInv.step {u m v : Nat} {d : Array UInt8} (h : HInv u (m + 1) v d) (hv : 16 ≤ v) : HInv u m (v / 16) (d.setIfInBounds m (ak3 (v % 16))) := by
 have hlo := h.lo
 have hhi := h.hi
 have hsm := h.small
 have hs := h.size
 have hn : 50 ≤ m := by
  rcases Nat.lt_or_ge m 50 with h' | h'
  ·have : m + 1 - 49 = 1 := by omega
   rw [this] at hsm
   omega
  ·exact h'
 obtain ⟨k, hk⟩ : ∃ k, m - 49 = k := ⟨_, rfl⟩
 have hk2 : m + 1 - 49 = k + 1 := by omega
 refine ⟨by simp [h.size], hn, by omega, ?_, ?_⟩
 ·rw [hk]
  rw [hk2, Nat.pow_succ] at hsm
  omega
 ·rw [drop_set d m _ (by omega), hk, ← h.dig, hk2]
  conv => rhs; unfold J1
  rw [if_neg (by omega)]
theorem HInv.last {u m v : Nat} {d : Array UInt8} (h : HInv u (m + 1) v d) (hv : v < 16) : (d.setIfInBounds m (ak3 v)).toList.drop m = J1 16 u [] := by
 have hlo := h.lo
 have hhi := h.hi
 have hs := h.size
 obtain ⟨k, hk⟩ : ∃ k, m + 1 - 49 = k + 1 := ⟨m - 49, by omega⟩
 rw [drop_set d m _ (by omega), ← h.dig, hk]
 conv => rhs; unfold J1
 rw [if_pos hv, Nat.mod_eq_of_lt hv]
theorem be4 (v : Nat) (h : v < 18446744073709551616) : bits .and .u64 (v : Int) 15 = ((v % 16 : Nat) : Int) := by
 have := bits_and_u64_nat v 15 h (by decide)
 rw [show ((15 : Nat) : Int) = 15 from rfl] at this
 rw [this, Nat.and_two_pow_sub_one_eq_mod v 4]
theorem aP4 (w : World) (T : TypeId) : Holds bh0 (w.alloc (.cells ae7 T)) w.heap.size 0 (Array.replicate 65 (0 : UInt8)) := fun j hj => by
 have hj' : j < 65 := by simpa using hj
 refine ⟨?_, World.frozen?_alloc_new _ _ _ _⟩
 rw [World.cell?_alloc_new, getElem!_pos _ j hj]
 have : ae7[0 + j]? = some (.int .u8 0) := by unfold ae7; rw [Array.getElem?_replicate, if_pos (by omega)]
 rw [this]
 simp
set_option maxHeartbeats 3200000 in
theorem br4 (L : Lays.n286 P ρ) (sl : Value) (u : Nat) (h1 : 9223372036854775808 ≤ u) (h2 : u < 18446744073709551616) (w : World) (hcell : w.cell? ⟨ρ.g 19, 15, none⟩ = some (.int .u8 4)) (v213 : ∀ w, (zeroValue (ρ.t 213)).run P w = .ok (.agg ae7) w) :
  Calls P (ρ.f 286) #[sl, .int .u64 u, .int .i64 16, .bool false, .bool false] w fun e w' => e = .returned (.tuple #[.slice none 0 0, .string ⟨(J1 16 u []).toArray⟩]) ∧ ∃ k os, w' = grow (w.drewN k) os := by
 have mixed := L.mixed
 have t0 := L.t0; have a0 := L.a0; have z0 := L.z0; have v0 := L.v0
 have t3 := L.t3; have a3 := L.a3; have z3 := L.z3; have v3 := L.v3
 have t4 := L.t4; have a4 := L.a4; have z4 := L.z4; have v4 := L.v4
 have t5 := L.t5; have a5 := L.a5; have z5 := L.z5; have v5 := L.v5
 have t9 := L.t9; have a9 := L.a9; have z9 := L.z9; have v9 := L.v9
 have t20 := L.t20; have a20 := L.a20; have z20 := L.z20; have v20 := L.v20
 have t37 := L.t37; have a37 := L.a37; have z37 := L.z37; have v37 := L.v37
 have t46 := L.t46; have a46 := L.a46; have z46 := L.z46; have v46 := L.v46
 have t53 := L.t53; have a53 := L.a53; have z53 := L.z53; have v53 := L.v53
 have t213 := L.t213; have a213 := L.a213; have z213 := L.z213
 have hcell' : (w.alloc (.cells ae7 (ρ.t 213))).cell? ⟨ρ.g 19, 15, none⟩ = some (.int .u8 4) := by
  rw [World.cell?_alloc_old _ _ _ (by
   rcases Nat.lt_or_ge (ρ.g 19) w.heap.size with h | h
   ·exact Nat.ne_of_lt h
   ·exfalso
    unfold World.cell? at hcell
    rw [Array.getElem?_eq_none h] at hcell
    cases hcell)]
  exact hcell
 have e319 : ∀ args w, (callFunc (ρ.f 319) args).run P w = .ok (.enter (ρ.f 319) args) w := enters_of L.f319 (by kernel_rfl) rfl
 have e320 : ∀ args w, (callFunc (ρ.f 320) args).run P w = .ok (.enter (ρ.f 320) args) w := enters_of L.f320 (by kernel_rfl) rfl
 go_enter L.f286, Body.n286_ntmps ρ
 go_name_bytes PN hPN
 go_name_bytes SM hSM
 have eSM : SM = Lib.digits36 := by rw [← hSM]; decide +kernel
 subst eSM
 clear hSM hPN
 go_wp2_with (first
  | (go_at_fn (ρ.f 319); refine (bk6 L _).mono ?_; rintro e w' ⟨rfl, rfl⟩)
  | (go_at_fn (ρ.f 320); refine (bp8 L _ hcell').mono ?_; rintro e w' ⟨rfl, rfl⟩))
 have hH := aP4 w (ρ.t 213)
 generalize hwA : w.alloc (.cells ae7 (ρ.t 213)) = wA at hH hcell' ⊢
 clear hcell hcell'
 go_loopw [1, 13] (fun vu vn wr => ∃ (i v : Nat) (d : Array UInt8), vu = .int .u64 v ∧ vn = .int .i64 (i : Int) ∧ wr = putRow bh0 wA w.heap.size 0 d ∧ Hid (HInv u i v d)) (fun vu _ _ => (RowKit.intOf vu).toNat)
 case atStart => exact ⟨65, u, Array.replicate 65 0, rfl, rfl, (putRow_self _ _ _ _ _ hH).symm, ⟨by simp, by omega, by omega, by simpa using h2, by simp⟩⟩
 case round =>
  obtain ⟨i, v, d, rfl, rfl, hw0, HI⟩ := hrel
  rename World => W0
  have AH := Lib.hid hH
  clear hH
  have hlo := HI.out.lo
  have hhi := HI.out.hi
  obtain ⟨m, rfl⟩ : ∃ m, i = m + 1 := ⟨i - 1, by omega⟩
  have hv64 : v < 18446744073709551616 := by
   have := HI.out.small
   have := Nat.pow_le_pow_right (show 0 < 16 by decide) (show m + 1 - 49 ≤ 16 by omega)
   have e : (16 : Nat) ^ 16 = 18446744073709551616 := by decide
   omega
  have hs0 := HI.out.size
  have hH0 : Holds bh0 W0 w.heap.size 0 d := by rw [hw0]; exact holds_putRow _ wA w.heap.size 0 _ d AH.out (by rw [hs0]; simp)
  obtain ⟨G0, hG0⟩ : ∃ G : Nat → Int, ∀ t, G t = (d[t]!.toNat : Int) := ⟨_, fun _ => rfl⟩
  have hc0 : ∀ t, t < 65 → W0.cell? ⟨w.heap.size, t, none⟩ = some (.int .u8 (G0 t)) := fun t ht => by rw [hG0, ← (hH0 t (by omega)).1, Nat.zero_add]
  have hf0 : ∀ t, t < 65 → W0.frozen? ⟨w.heap.size, t, none⟩ = false := fun t ht => by rw [← (hH0 t (by omega)).2, Nat.zero_add]
  have AW0 := Lib.hid hw0
  clear hw0 hG0 hH0
  have hal : P.arrayLen (ρ.t 213) = 65 := by simp [Program.arrayLen, L.t213]
  have k15 := be4 v hv64
  have hcm := hc0 m (by omega)
  have hfm := hf0 m (by omega)
  clear hc0 hf0
  by_cases hv : 16 ≤ v
  ·have HI1 := Lib.hid (HI.out.step hv)
   have hX : ∀ w, (Instr.index (ρ.t 9) (.string digits36) (.int .u64 ((v : Int) % 16))).run P w = .ok (.int .u8 ((ak3 (v % 16)).toNat : Int)) w := bh4 (ρ.t 9) L.t9 .u64 _ _ (by omega) (Nat.mod_lt _ (by decide))
   go_wp2_with (simp only [k15])
   go_roundw
   case rel =>
    refine ⟨m, v / 16, d.setIfInBounds m (ak3 (v % 16)), by push_cast; rfl, rfl, ?_, HI1.out⟩
    rw [AW0.out, ← putRow_set bh0 wA w.heap.size 0 d m (ak3 (v % 16)) (by omega), Nat.zero_add]
   case measure => simp [RowKit.intOf]; omega
  ·have hX : ∀ w, (Instr.index (ρ.t 9) (.string digits36) (.int .u64 (v : Int))).run P w = .ok (.int .u8 ((ak3 v).toNat : Int)) w := bh4 (ρ.t 9) L.t9 .u64 _ _ rfl (by omega)
   have hl := HI.out.last (by omega)
   have hw1 : W0.setCell ⟨w.heap.size, m, none⟩ (.int .u8 ((ak3 v).toNat : Int)) = putRow bh0 wA w.heap.size 0 (d.setIfInBounds m (ak3 v)) := by
    rw [AW0.out, ← putRow_set bh0 wA w.heap.size 0 d m (ak3 v) (by omega), Nat.zero_add]
   have hd1 : (d.setIfInBounds m (ak3 v)).size = 65 := by simp [hs0]
   have hlen : (J1 16 u []).length = 65 - m := by rw [← hl, List.length_drop, Array.length_toList, hd1]
   have hH1 : Holds bh0 (putRow bh0 wA w.heap.size 0 (d.setIfInBounds m (ak3 v))) w.heap.size 0 (d.setIfInBounds m (ak3 v)) := holds_putRow _ wA w.heap.size 0 _ _ AH.out (by rw [hd1]; simp)
   have hsl : ∀ W, (Instr.sliceAt (ρ.t 213) (.pointer (some ⟨w.heap.size, 0, none⟩)) (some (.int .i64 (m : Int))) none none).run P W = .ok (.slice (some ⟨w.heap.size, m, none⟩) (65 - m) (65 - m)) W := fun W => by
    rw [run_sliceAt_array_l W (ρ.t 213) ⟨w.heap.size, 0, none⟩ (by simp [Program.arrayLen, Program.elem, L.t213]) .i64 (m : Int) (by omega) (by rw [hal]; omega)]
    go_simp
    omega
   have hcv : (Go.convert (ρ.t 37) (ρ.t 9) (.slice (some ⟨w.heap.size, m, none⟩) (65 - m) (65 - m))).run P (W0.setCell ⟨w.heap.size, m, none⟩ (.int .u8 ((ak3 v).toNat : Int))) = .ok (.string ⟨(J1 16 u []).toArray⟩) (W0.setCell ⟨w.heap.size, m, none⟩ (.int .u8 ((ak3 v).toNat : Int))) := by
    have h := run_convert_bytes_back (P := P) (W0.setCell ⟨w.heap.size, m, none⟩ (.int .u8 ((ak3 v).toNat : Int))) (ρ.t 37) (ρ.t 9) (ρ.t 5) ⟨w.heap.size, m, none⟩ (65 - m) (J1 16 u []) L.t37 L.t5 L.t9 (fun j hj => by
     rw [hw1, Lib.add_plain]
     have hj2 : m + j < (d.setIfInBounds m (ak3 v)).size := by omega
     have hc := (hH1 (m + j) hj2).1
     rw [Nat.zero_add, getElem!_pos (d.setIfInBounds m (ak3 v)) (m + j) hj2] at hc
     rw [hc]
     have e : (J1 16 u [])[j] = (d.setIfInBounds m (ak3 v))[m + j] := by
      have : (J1 16 u [])[j] = ((d.setIfInBounds m (ak3 v)).toList.drop m)[j]'(by rw [hl]; exact hj) := by simp only [hl]
      rw [this, List.getElem_drop, Array.getElem_toList]
     rw [e])
    rw [hlen] at h
    exact h
   have AW1 := Lib.hid hw1
   clear hl hw1 hH1 hal hd1
   go_wp2
   go_ret2
   refine ⟨rfl, ?_⟩
   rw [AW1.out, ← hwA]
   obtain ⟨os, e⟩ := Lib.fin_at w (.cells ae7 (ρ.t 213)) (d.setIfInBounds m (ak3 v)) 0 0
   exact ⟨0, os, e⟩
end Go.Abs.Lx
end

section
set_option maxRecDepth 100000
namespace Go.Abs.Lay
open Go.Proofs Go.Shelf
def bl5 : Ren where
 f := fun n => bif Nat.beq n 286 then 103 else bif Nat.beq n 319 then 125 else bif Nat.beq n 320 then 126 else bif Nat.beq n 337 then 131 else bif Nat.beq n 338 then 132 else n
 t := fun n => bif Nat.beq n 37 then 22 else bif Nat.beq n 53 then 55 else bif Nat.beq n 3 then 3 else bif Nat.beq n 4 then 4 else bif Nat.beq n 9 then 9 else bif Nat.beq n 20 then 20 else bif Nat.beq n 0 then 0 else bif Nat.beq n 213 then 141 else bif Nat.beq n 46 then 70 else bif Nat.beq n 5 then 5 else bif Nat.beq n 51 then 140 else bif Nat.beq n 232 then 150 else bif Nat.beq n 233 then 151 else n
 g := fun n => bif Nat.beq n 18 then 7 else bif Nat.beq n 19 then 8 else n
theorem bn7 : Lays.n286 Tryd.prog bl5 where
 mixed := by kernel_rfl
 f286 := Tryd.func103.trans (congrArg some (by kernel_rfl))
 f319 := Tryd.func125.trans (congrArg some (by kernel_rfl))
 f320 := Tryd.func126.trans (congrArg some (by kernel_rfl))
 f337 := Tryd.func131.trans (congrArg some (by kernel_rfl))
 f338 := Tryd.func132.trans (congrArg some (by kernel_rfl))
 t0 := Tryd.underlying0
 a0 := Tryd.isAgg0
 z0 := Tryd.sizeOf0
 v0 := Tryd.zeroValue0
 t3 := Tryd.underlying3
 a3 := Tryd.isAgg3
 z3 := Tryd.sizeOf3
 v3 := Tryd.zeroValue3
 t4 := Tryd.underlying4
 a4 := Tryd.isAgg4
 z4 := Tryd.sizeOf4
 v4 := Tryd.zeroValue4
 t5 := Tryd.underlying5
 a5 := Tryd.isAgg5
 z5 := Tryd.sizeOf5
 v5 := Tryd.zeroValue5
 t9 := Tryd.underlying9
 a9 := Tryd.isAgg9
 z9 := Tryd.sizeOf9
 v9 := Tryd.zeroValue9
 t20 := Tryd.underlying20
 a20 := Tryd.isAgg20
 z20 := Tryd.sizeOf20
 v20 := Tryd.zeroValue20
 t37 := Tryd.underlying22
 a37 := Tryd.isAgg22
 z37 := Tryd.sizeOf22
 v37 := Tryd.zeroValue22
 t46 := Tryd.underlying70
 a46 := Tryd.isAgg70
 z46 := Tryd.sizeOf70
 v46 := Tryd.zeroValue70
 t51 := Tryd.underlying140
 a51 := Tryd.isAgg140
 z51 := Tryd.sizeOf140
 v51 := Tryd.zeroValue140
 t53 := Tryd.underlying55
 a53 := Tryd.isAgg55
 z53 := Tryd.sizeOf55
 v53 := Tryd.zeroValue55
 t213 := Tryd.underlying141
 a213 := Tryd.isAgg141
 z213 := Tryd.sizeOf141
 t232 := Tryd.underlying150
 a232 := Tryd.isAgg150
 z232 := Tryd.sizeOf150
 v232 := Tryd.zeroValue150
 t233 := Tryd.underlying151
 a233 := Tryd.isAgg151
 z233 := Tryd.sizeOf151
 v233 := Tryd.zeroValue151
 g18 := by kernel_rfl
 g19 := by kernel_rfl
end Go.Abs.Lay
end

section
set_option maxRecDepth 100000
namespace Go.Abs.Lx
open Go.Proofs
theorem bd0 : ∀ i : Nat, i < 16 → ((ak3 i).toNat : Int) = hexDigit i := by
 have h : ∀ i : Fin 16, ((ak3 i.1).toNat : Int) = hexDigit i.1 := by decide +kernel
 exact fun i hi => h ⟨i, hi⟩
theorem aQ0 : ∀ (k n : Nat) (acc : List UInt8), ints (J1 k n acc) = ae4 k n (ints acc)
 | 0, _, _ => rfl
 | k + 1, n, acc => by
  unfold J1 ae4
  have hc : ints (ak3 (n % 16) :: acc) = hexDigit (n % 16) :: ints acc := by
   show ((ak3 (n % 16)).toNat : Int) :: ints acc = _
   rw [bd0 _ (Nat.mod_lt _ (by decide))]
  by_cases h : n < 16
  ·have hb : Nat.blt n 16 = true := Nat.ble_eq_true_of_le h
   simp only [hb, cond_true]
   rw [if_pos h, hc]
  ·have hb : Nat.blt n 16 = false := by
    cases hh : Nat.blt n 16
    ·rfl
    ·exact absurd (Nat.le_of_ble_eq_true hh) h
   simp only [hb, cond_false]
   rw [if_neg h, aQ0 k _ _, hc]
theorem aK6 {glob : Nat → Option (List Cell)} (hg : glob 8 = some deB) : R5 Tryd.prog glob 103 ⟨⟨[.one (.pub (.sl (.int .u8))), .one (.pub (.int .u64)), .one (.pub (.int .i64)), .one (.pub .bool), .one (.pub .bool)], .tup [.one (.pub (.sl (.int .u8))), .one (.pub .str)]⟩, L5⟩ := by
 intro x y hF imm w args nb hG hcells hP hnd hnb
 obtain ⟨u1, r1, n1, n1', rfl, rfl, ⟨_, rfl, _, u1', e1, h1⟩, u2, r2, n2, n2', rfl, rfl, ⟨_, rfl, _, u2', e2, h2⟩, u3, r3, n3, n3', rfl, rfl, ⟨_, rfl, _, u3', e3, h3⟩, u4, r4, n4, n4', rfl, rfl, ⟨_, rfl, _, u4', e4, h4⟩, u5, r5, n5, n5', rfl, rfl, ⟨_, rfl, _, u5', e5, h5⟩, rfl, rfl⟩ := hP
 injection e1 with e1; subst e1
 injection e2 with e2; subst e2
 injection e3 with e3; subst e3
 injection e4 with e4; subst e4
 injection e5 with e5; subst e5
 obtain ⟨x1, x2, x3, x4, x5, _⟩ := x
 have h2 : [u2] = [Value.int .u64 x2] := h2
 have h3 : [u3] = [Value.int .i64 x3] := h3
 have h4 : [u4] = [Value.bool x4] := h4
 have h5 : [u5] = [Value.bool x5] := h5
 injection h2 with h2; injection h3 with h3; injection h4 with h4; injection h5 with h5
 subst h2; subst h3; subst h4; subst h5
 obtain ⟨A, c, eA, hc, hx⟩ := h1
 injection eA with eA; subst eA
 have hF : L5 (x1, x2, x3, x4, x5, ()) = some y := hF
 unfold L5 at hF
 dsimp only at hF
 cases hq : (decide (x3 = 16) && (!x4) && (!x5) && x1.isEmpty && decide (9223372036854775808 ≤ x2) && decide (x2 ≤ 18446744073709551615)) with
 | false => rw [hq] at hF; cases hF
 | true =>
  rw [hq] at hF
  injection hF with hF0
  simp only [Bool.and_eq_true, decide_eq_true_eq, Bool.not_eq_true', List.isEmpty_iff] at hq
  obtain ⟨⟨⟨⟨⟨q1, q2⟩, q3⟩, q4⟩, q5⟩, q6⟩ := hq
  subst q1; subst q2; subst q3; subst q4
  have nat : ∀ z : Int, 9223372036854775808 ≤ z → z ≤ 18446744073709551615 → ∃ u : Nat, z = (u : Int) ∧ 9223372036854775808 ≤ u ∧ u < 18446744073709551616 := fun z a b => ⟨z.toNat, by omega, by omega, by omega⟩
  obtain ⟨u, rfl, n1, n2⟩ := nat x2 q5 q6
  obtain ⟨us, hi, hcr⟩ := hG _ _ hg
  obtain ⟨arr, ty, fr, ha, hL⟩ := hcells _ _ hi
  have hcs := hcr ⟨imm, fun _ => 0, fun _ _ => .nilIface, fun _ => none, fun _ => none, fun _ => []⟩ fun _ _ h => h
  have hus : us = Lib.deBruijn64tab.map fun n : Nat => Value.int .u8 (n : Int) := by
   have all : ∀ (l : List Nat) (us : List Value) (g : Gh), j3 g (l.map fun n : Nat => .v (.int .u8) (n : Int)) us → us = l.map fun n : Nat => Value.int .u8 (n : Int) := by
    intro l
    induction l with
    | nil => intro us g h; exact h
    | cons z l ih =>
     intro us g h
     obtain ⟨u, r, rfl, hu, hr⟩ := h
     have hu : [u] = [Value.int .u8 (z : Int)] := hu.2
     injection hu with hu _
     subst hu
     rw [ih r g hr]; rfl
   exact all _ _ _ hcs
  have hcell : w.cell? ⟨8, 15, none⟩ = some (.int .u8 4) := by
   rw [Lib.cell_of_heap ha]
   have : arr[15]? = arr.toList[15]? := by simp
   rw [this, hL, hus]
   rfl
  have hz : ∀ w, (zeroValue (Lay.bl5.t 213)).run Tryd.prog w = .ok (.agg ae7) w := fun w => by kernel_rfl
  refine C8 Tryd.func103 rfl (by kernel_rfl) ((br4 Lay.bn7 (.slice A 0 c) u n1 n2 w hcell hz).mono ?_)
  rintro e w' ⟨rfl, k, os, rfl⟩
  subst hF0
  have hs := aL4 w k os
  refine ⟨_, rfl, imm, [], [], hs.after hcells, ⟨[_, _], rfl, _, _, [], [], rfl, rfl, ⟨rfl, rfl, rfl, _, rfl, none, 0, rfl, Nat.le_refl _, .inl rfl⟩, _, _, [], [], rfl, rfl, ⟨rfl, rfl, rfl, _, rfl, _, rfl, ?_⟩, rfl, rfl⟩, ?_⟩
  ·show ae4 16 (u : Int).toNat [] = _
   rw [Int.toNat_natCast]
   exact (aQ0 16 u []).symm
  ·exact ⟨_, _, [], [], rfl, rfl, rfl, _, _, [], [], rfl, rfl, rfl, _, _, [], [], rfl, rfl, rfl, _, _, [], [], rfl, rfl, rfl, _, _, [], [], rfl, rfl, rfl, rfl, rfl⟩
end Go.Abs.Lx
end

section
namespace Go.Proofs.YtmallmelcmejeaaDoor
open Go.ChangeShapes Go.WideShapes Go.ChangeAt Go.RowKit
set_option maxRecDepth 100000 in
theorem sys : ∀ n, Abs.Sys.TabOk Abs.D.S (Abs.D.S.tab n) := by
 refine Abs.Sys.ok (by kernel_rfl) (fun f hf => Abs.Sys.bj1 Abs.D.bn1 hf) (fun f c hf hl => ?_) (by kernel_rfl)
 have hl : Abs.D.lib f = some c := hl
 unfold Abs.D.lib at hl
 cases h1 : Nat.beq f 27 with
 | true => have := Abs.beq_eq h1; subst this; rw [h1] at hl; injection hl with hl; subst hl; exact Abs.Bld.aM2 _
 | false =>
 rw [h1] at hl
 cases h1 : Nat.beq f 29 with
 | true => have := Abs.beq_eq h1; subst this; injection hl with hl; subst hl; exact Abs.Bld.aA0 _
 | false =>
 rw [h1] at hl
 cases h1 : Nat.beq f 30 with
 | true => have := Abs.beq_eq h1; subst this; injection hl with hl; subst hl; exact Abs.Bld.bb6 _
 | false =>
 rw [h1] at hl
 cases h1 : Nat.beq f 93 with
 | true => have := Abs.beq_eq h1; subst this; injection hl with hl; subst hl; exact Abs.Bld.aN6 _
 | false =>
 rw [h1] at hl
 cases h1 : Nat.beq f 95 with
 | true => have := Abs.beq_eq h1; subst this; injection hl with hl; subst hl; exact Abs.Lx.aS9 rfl
 | false =>
 rw [h1] at hl
 cases h1 : Nat.beq f 45 with
 | true => have := Abs.beq_eq h1; subst this; injection hl with hl; subst hl; exact Abs.Lx.aP5 rfl
 | false =>
 rw [h1] at hl
 cases h1 : Nat.beq f 103 with
 | true => have := Abs.beq_eq h1; subst this; injection hl with hl; subst hl; exact Abs.Lx.aK6 rfl
 | false =>
 rw [h1] at hl
 cases hl
theorem ar8 {H : Type} {enc : TypeId × Value → H} {P : Program} {w : World} {sp : Nat → Bool} : ∀ {ns : List String} {gs : List (DataW H)} {ps : List MemPlace}, DataW.TrodVars enc P w sp ns gs ps → gs.length = ns.length
 | [], [], _, _ => rfl
 | [], _ :: _, _, h => h.elim
 | _ :: _, [], _, h => h.elim
 | n :: ns, d :: ds, ps, h => by
  obtain ⟨g, t, cs, fuel, p, q, h1, h2, h3, h4, hs, e⟩ := h
  have := ar8 hs
  simp [this]
theorem own : ownKnob Tryd.prog.godebug = none := by kernel_rfl
theorem laidOut : laidOutB Tryd.prog = true := by kernel_rfl
theorem aV3 {P : Program} {W : World} {r : Reach} {base t : Nat} {fs : Array Field} {v : Value} (ht : P.underlying t = some (.struct fs)) (h : Value.okWide P W r base t v) : ∃ cs, v = .agg cs := by
 unfold Value.okWide at h
 rw [ht] at h
 obtain ⟨cs, rfl, _⟩ := h
 exact ⟨cs, rfl⟩
end Go.Proofs.YtmallmelcmejeaaDoor
end

section
namespace Go.Abs.D
def G3 (c : Int) : Bool := (decide (97 ≤ c) && decide (c ≤ 122)) || (decide (65 ≤ c) && decide (c ≤ 90)) || decide (c = 95)
def n8 (c : Int) : Bool := decide (48 ≤ c) && decide (c ≤ 57)
def aQ2 (c : Int) : Bool := decide (97 ≤ c) && decide (c ≤ 102)
def J1 (c : Int) : Bool := n8 c || aQ2 c
def Q9 (c : Int) : Int := bif n8 c then c - 48 else bif aQ2 c then c - 87 else -1
def get (s : List Int) (j : Nat) : Int := s.getD j 0
theorem H2 {s : List Int} {j : Nat} (h : s.length ≤ j) : get s j = 0 := by
 unfold get
 rw [List.getD_eq_getElem?_getD, List.getElem?_eq_none h]; rfl
theorem bo4 : J1 0 = false := rfl
structure Base1 (T : S.Tab) : Prop where
 iletter : ∀ c, N5 T c = some (G3 c, E1)
 idigit : ∀ c, F8 T c = some (n8 c, ae5)
 sletter : ∀ c, M9 T c = some (G3 c, C4)
 sdigit : ∀ c, y1 T c = some (n8 c, X7)
 look : ∀ (s : List Int) (j : Nat), q9 T s (j : Int) = some (get s j, ab8)
 words : W9 T = some (Lx.words, ah2)
theorem ag2 (T : S.Tab) : Base1 (S.step T) := by
 refine ⟨fun c => ?_, fun c => ?_, fun c => ?_, fun c => ?_, fun s j => ?_, ?_⟩
 ·rw [az9]
  simp only [D0, G3]
  cases decide (97 ≤ c) <;> cases decide (c ≤ 122) <;> cases decide (65 ≤ c) <;> cases decide (c ≤ 90) <;> simp
 ·rw [aG3]
  simp only [D0, n8]
  cases decide (48 ≤ c) <;> simp
 ·rw [as6]
  simp only [D0, G3]
  cases decide (97 ≤ c) <;> cases decide (c ≤ 122) <;> cases decide (65 ≤ c) <;> cases decide (c ≤ 90) <;> simp
 ·rw [au5]
  simp only [D0, n8]
  cases decide (48 ≤ c) <;> simp
 ·rw [aA1]
  by_cases h : j < s.length
  ·rw [j7 (by simpa using h), j7 (by simp [h])]
   rfl
  ·rw [l9 (by simpa using h), H2 (by omega)]
 ·rw [ay8]; rfl
structure Base2 (T : S.Tab) : Prop extends Base1 T where
 ihex : ∀ c, ad9 T c = some (J1 c, ab6)
 shex : ∀ c, N8 T c = some (Q9 c, O9)
theorem aE6 (T : S.Tab) (h : Base1 T) : Base2 (S.step T) := by
 refine ⟨ag2 T, fun c => ?_, fun c => ?_⟩
 ·rw [aO9, h.idigit]
  simp only [Option.bind_some, D0, J1, aQ2]
  cases n8 c <;> cases decide (97 ≤ c) <;> simp
 ·rw [aJ2, h.sdigit]
  simp only [Option.bind_some, Q9]
  cases hd : n8 c with
  | true =>
   simp only [n8, Bool.and_eq_true, decide_eq_true_eq] at hd
   rw [j7 rfl, at3 _ (by omega) (by omega), wrap64 _ (by omega) (by omega)]; rfl
  | false =>
   rw [l9 rfl]
   by_cases h1 : 97 ≤ c
   ·rw [j7 (by simpa using h1)]
    by_cases h2 : c ≤ 102
    ·rw [j7 (by simpa using h2), at3 _ (by omega) (by omega), wrap64 (c - 97) (by omega) (by omega), wrap64 _ (by omega) (by omega)]
     have : aQ2 c = true := by simp [aQ2, h1, h2]
     rw [this]
     simp only [cond_false, cond_true, Option.some.injEq, Prod.mk.injEq, and_true]
     omega
    ·rw [l9 (by simpa using h2)]
     have : aQ2 c = false := by simp [aQ2, h2]
     rw [this]; rfl
   ·rw [l9 (by simpa using h1)]
    have : aQ2 c = false := by simp [aQ2, h1]
    rw [this]; rfl
theorem n9 : Evt fun n => Base2 (S.tab n) := by
 have h1 : Evt fun n => Base1 (S.tab n) := Evt.up (Evt.of (p := fun _ => True) fun _ => trivial) fun n _ => ag2 _
 exact h1.up fun n h => aE6 _ h
theorem N7 (c : Int) : decide (0 ≤ Q9 c) = J1 c := by
 unfold Q9 J1
 cases hd : n8 c with
 | true =>
  simp only [n8, Bool.and_eq_true, decide_eq_true_eq] at hd
  simp only [cond_true, Bool.true_or, decide_eq_true_eq]; omega
 | false =>
  cases hl : aQ2 c with
  | true =>
   simp only [aQ2, Bool.and_eq_true, decide_eq_true_eq] at hl
   simp only [cond_true, cond_false, Bool.or_true, decide_eq_true_eq]; omega
  | false => simp
theorem af2 (c : Int) : Q9 c < 16 := by
 unfold Q9
 cases hd : n8 c with
 | true =>
  simp only [n8, Bool.and_eq_true, decide_eq_true_eq] at hd
  simp only [cond_true]; omega
 | false =>
  cases hl : aQ2 c with
  | true =>
   simp only [aQ2, Bool.and_eq_true, decide_eq_true_eq] at hl
   simp only [cond_true, cond_false]; omega
  | false => simp
end Go.Abs.D
end

section
namespace Go.Abs.D
def wq (s : List Int) (j : Nat) : Bool := G3 (get s j) || n8 (get s j)
def dq (s : List Int) (j : Nat) : Bool := n8 (get s j)
def hq (s : List Int) (m j : Nat) : Bool := decide (j < m) && J1 (get s j)
theorem aE5 {s : List Int} : ∀ j, s.length ≤ j → wq s j = false := fun j h => by unfold wq; rw [H2 h]; rfl
theorem Z9 {s : List Int} : ∀ j, s.length ≤ j → dq s j = false := fun j h => by unfold dq; rw [H2 h]; rfl
theorem aX8 {s : List Int} {m : Nat} : ∀ j, s.length ≤ j → hq s m j = false := fun j h => by unfold hq; rw [H2 h, bo4, Bool.and_false]
def aY9 (s : List Int) (j : Nat) : Nat := stop (wq s) s.length j
def ao4 (s : List Int) (j : Nat) : Nat := stop (dq s) s.length j
def ag8 (s : List Int) (m j : Nat) : Nat := stop (hq s m) s.length j
theorem j9 (s : List Int) (j : Nat) : s.getD (j : Int).toNat 0 = get s j := rfl
theorem Q1 {q : Nat → Bool} {N j : Nat} (h : ∀ j, N ≤ j → q j = false) (hq : q j = true) : j < N := by
 rcases Nat.lt_or_ge j N with h' | h'
 ·exact h'
 ·rw [h j h'] at hq; cases hq
theorem j8 {n j : Nat} (h : j < n) : (decide ((0 : Int) ≤ (j : Int)) && decide ((j : Int) < (n : Int))) = true := by
 simp [h]
theorem H9 {j : Nat} (h : j ≤ 4194304) : IntKind.i64.wrap ((j : Int) + 1) = ((j + 1 : Nat) : Int) := by
 rw [wrap64 _ (by omega) (by omega)]; omega
variable {s : List Int} (hs : s.length ≤ 2097152)
include hs
theorem aB6 (i : Int) (t : j2.den) (j : Nat) : Evt fun n => G7 (S.tab n) s i t (j : Int) = some (Sum.inl (s, i, t, (aY9 s j : Int), ())) :=
 adv (F := fun T j => G7 T s i t (j : Int)) (out := fun j => Sum.inl (s, i, t, (j : Int), ())) n9 aE5
  (fun T j h hq => by
   have hj := Q1 aE5 hq
   show G7 (S.step T) s i t j = G7 T s i t ((j + 1 : Nat) : Int)
   rw [ag9, j7 (by simpa using hj), j7 (j8 hj), j9, h.iletter, h.idigit, H9 (by omega)]
   simp only [Option.bind_some, D0, j8 hj, cond_true]
   unfold wq at hq
   cases hl : G3 (get s j) with
   | true => rfl
   | false => rw [hl, Bool.false_or] at hq; rw [hq]; rfl)
  (fun T j h hq => by
   show G7 (S.step T) s i t j = _
   rw [ag9]
   by_cases hj : j < s.length
   ·rw [j7 (by simpa using hj), j7 (j8 hj), j9, h.iletter, h.idigit]
    simp only [Option.bind_some, D0, j8 hj, cond_true]
    unfold wq at hq
    simp only [Bool.or_eq_false_iff] at hq
    rw [hq.1, hq.2]; rfl
   ·rw [l9 (by simpa using hj)]) s.length j (by omega)
theorem ap1 (t3 t4 : j2.den) (j : Nat) : Evt fun n => B7 (S.tab n) s t3 t4 (j : Int) = some (Sum.inl (s, t3, t4, (aY9 s j : Int), ())) :=
 adv (F := fun T j => B7 T s t3 t4 (j : Int)) (out := fun j => Sum.inl (s, t3, t4, (j : Int), ())) n9 aE5
  (fun T j h hq => by
   have hj := Q1 aE5 hq
   show B7 (S.step T) s t3 t4 j = B7 T s t3 t4 ((j + 1 : Nat) : Int)
   rw [Z0, h.look, H9 (by omega)]
   simp only [Option.bind_some, h.sletter, h.sdigit, D0]
   unfold wq at hq
   cases hl : G3 (get s j) with
   | true => rfl
   | false => rw [hl, Bool.false_or] at hq; rw [hq]; rfl)
  (fun T j h hq => by
   show B7 (S.step T) s t3 t4 j = _
   rw [Z0, h.look]
   simp only [Option.bind_some, h.sletter, h.sdigit, D0]
   unfold wq at hq
   simp only [Bool.or_eq_false_iff] at hq
   rw [hq.1, hq.2]; rfl) s.length j (by omega)
theorem am8 (i : Int) (t : j2.den) (j : Nat) : Evt fun n => w6 (S.tab n) s i t (j : Int) = some (Sum.inl (s, i, t, (ao4 s j : Int), ())) :=
 adv (F := fun T j => w6 T s i t (j : Int)) (out := fun j => Sum.inl (s, i, t, (j : Int), ())) n9 Z9
  (fun T j h hq => by
   have hj := Q1 Z9 hq
   show w6 (S.step T) s i t j = w6 T s i t ((j + 1 : Nat) : Int)
   rw [W6, j7 (by simpa using hj), j7 (j8 hj), j9, h.idigit, H9 (by omega)]
   simp only [Option.bind_some, D0]
   rw [show n8 (get s j) = true from hq]; rfl)
  (fun T j h hq => by
   show w6 (S.step T) s i t j = _
   rw [W6]
   by_cases hj : j < s.length
   ·rw [j7 (by simpa using hj), j7 (j8 hj), j9, h.idigit]
    simp only [Option.bind_some, D0]
    rw [show n8 (get s j) = false from hq]; rfl
   ·rw [l9 (by simpa using hj)]) s.length j (by omega)
theorem al2 (i : Int) (t : j2.den) (m : Int) (j : Nat) : Evt fun n => C2 (S.tab n) s i t (j : Int) m = some (Sum.inl (s, i, t, (ao4 s j : Int), m, ())) :=
 adv (F := fun T j => C2 T s i t (j : Int) m) (out := fun j => Sum.inl (s, i, t, (j : Int), m, ())) n9 Z9
  (fun T j h hq => by
   have hj := Q1 Z9 hq
   show C2 (S.step T) s i t j m = C2 T s i t ((j + 1 : Nat) : Int) m
   rw [W8, j7 (by simpa using hj), j7 (j8 hj), j9, h.idigit, H9 (by omega)]
   simp only [Option.bind_some, D0]
   rw [show n8 (get s j) = true from hq]; rfl)
  (fun T j h hq => by
   show C2 (S.step T) s i t j m = _
   rw [W8]
   by_cases hj : j < s.length
   ·rw [j7 (by simpa using hj), j7 (j8 hj), j9, h.idigit]
    simp only [Option.bind_some, D0]
    rw [show n8 (get s j) = false from hq]; rfl
   ·rw [l9 (by simpa using hj)]) s.length j (by omega)
theorem an1 (i : Int) (t : j2.den) (m : Int) (j : Nat) : Evt fun n => C5 (S.tab n) s i t (j : Int) m = some (Sum.inl (s, i, t, (ao4 s j : Int), m, ())) :=
 adv (F := fun T j => C5 T s i t (j : Int) m) (out := fun j => Sum.inl (s, i, t, (j : Int), m, ())) n9 Z9
  (fun T j h hq => by
   have hj := Q1 Z9 hq
   show C5 (S.step T) s i t j m = C5 T s i t ((j + 1 : Nat) : Int) m
   rw [V4, j7 (by simpa using hj), j7 (j8 hj), j9, h.idigit, H9 (by omega)]
   simp only [Option.bind_some, D0]
   rw [show n8 (get s j) = true from hq]; rfl)
  (fun T j h hq => by
   show C5 (S.step T) s i t j m = _
   rw [V4]
   by_cases hj : j < s.length
   ·rw [j7 (by simpa using hj), j7 (j8 hj), j9, h.idigit]
    simp only [Option.bind_some, D0]
    rw [show n8 (get s j) = false from hq]; rfl
   ·rw [l9 (by simpa using hj)]) s.length j (by omega)
theorem ao6 (i : Nat) (t : j2.den) (j : Nat) (hi : i ≤ 2097152) : Evt fun n => D5 (S.tab n) s (i : Int) t (j : Int) = some (Sum.inl (s, (i : Int), t, (ag8 s (i + 18) j : Int), ())) :=
 adv (F := fun T j => D5 T s (i : Int) t (j : Int)) (out := fun j => Sum.inl (s, (i : Int), t, (j : Int), ())) n9 aX8
  (fun T j h hq' => by
   have hj := Q1 aX8 hq'
   simp only [hq, Bool.and_eq_true, decide_eq_true_eq] at hq'
   show D5 (S.step T) s i t j = D5 T s i t ((j + 1 : Nat) : Int)
   rw [Z6, j7 (by simpa using hj), wrap64 ((i : Int) + 18) (by omega) (by omega), j7 (by simp only [decide_eq_true_eq]; omega), j7 (j8 hj), j9, h.ihex, H9 (by omega)]
   simp only [Option.bind_some, D0]
   rw [hq'.2]; rfl)
  (fun T j h hq' => by
   show D5 (S.step T) s i t j = _
   rw [Z6]
   by_cases hj : j < s.length
   ·rw [j7 (by simpa using hj), wrap64 ((i : Int) + 18) (by omega) (by omega)]
    by_cases hj2 : j < i + 18
    ·rw [j7 (by simp only [decide_eq_true_eq]; omega), j7 (j8 hj), j9, h.ihex]
     simp only [hq, hj2, decide_true, Bool.true_and] at hq'
     simp only [Option.bind_some, D0]
     rw [hq']; rfl
    ·rw [l9 (by simp only [decide_eq_false_iff_not]; omega)]
   ·rw [l9 (by simpa using hj)]) s.length j (by omega)
theorem ai5 (t3 t4 : j2.den) (j : Nat) : Evt fun n => x8 (S.tab n) s t3 t4 (j : Int) = some (Sum.inl (s, t3, t4, (ao4 s j : Int), ())) :=
 adv (F := fun T j => x8 T s t3 t4 (j : Int)) (out := fun j => Sum.inl (s, t3, t4, (j : Int), ())) n9 Z9
  (fun T j h hq => by
   have hj := Q1 Z9 hq
   show x8 (S.step T) s t3 t4 j = x8 T s t3 t4 ((j + 1 : Nat) : Int)
   rw [S9, h.look, H9 (by omega)]
   simp only [Option.bind_some, h.sdigit, D0]
   rw [show n8 (get s j) = true from hq]; rfl)
  (fun T j h hq => by
   show x8 (S.step T) s t3 t4 j = _
   rw [S9, h.look]
   simp only [Option.bind_some, h.sdigit, D0]
   rw [show n8 (get s j) = false from hq]; rfl) s.length j (by omega)
theorem ag6 (t3 t4 : j2.den) (j : Nat) : Evt fun n => z6 (S.tab n) s t3 t4 (j : Int) = some (Sum.inl (s, t3, t4, (ao4 s j : Int), ())) :=
 adv (F := fun T j => z6 T s t3 t4 (j : Int)) (out := fun j => Sum.inl (s, t3, t4, (j : Int), ())) n9 Z9
  (fun T j h hq => by
   have hj := Q1 Z9 hq
   show z6 (S.step T) s t3 t4 j = z6 T s t3 t4 ((j + 1 : Nat) : Int)
   rw [R6, h.look, H9 (by omega)]
   simp only [Option.bind_some, h.sdigit, D0]
   rw [show n8 (get s j) = true from hq]; rfl)
  (fun T j h hq => by
   show z6 (S.step T) s t3 t4 j = _
   rw [R6, h.look]
   simp only [Option.bind_some, h.sdigit, D0]
   rw [show n8 (get s j) = false from hq]; rfl) s.length j (by omega)
theorem ag4 (t3 t4 : j2.den) (j : Nat) : Evt fun n => q8 (S.tab n) s t3 t4 (j : Int) = some (Sum.inl (s, t3, t4, (ao4 s j : Int), ())) :=
 adv (F := fun T j => q8 T s t3 t4 (j : Int)) (out := fun j => Sum.inl (s, t3, t4, (j : Int), ())) n9 Z9
  (fun T j h hq => by
   have hj := Q1 Z9 hq
   show q8 (S.step T) s t3 t4 j = q8 T s t3 t4 ((j + 1 : Nat) : Int)
   rw [Q6, h.look, H9 (by omega)]
   simp only [Option.bind_some, h.sdigit, D0]
   rw [show n8 (get s j) = true from hq]; rfl)
  (fun T j h hq => by
   show q8 (S.step T) s t3 t4 j = _
   rw [Q6, h.look]
   simp only [Option.bind_some, h.sdigit, D0]
   rw [show n8 (get s j) = false from hq]; rfl) s.length j (by omega)
end Go.Abs.D
end

section
namespace Go.Abs.D
def kq (w : List Int) (j : Nat) : Bool := decide (j < 22) && !decide (Lx.words.getD j [] = w)
theorem aW6 {w : List Int} : ∀ j, 22 ≤ j → kq w j = false := fun j h => by simp [kq]; omega
def aN4 (w : List Int) : Nat := stop (kq w) 22 0
theorem aV8 (l : List (List Int)) (j : Nat) : l.getD (j : Int).toNat [] = l.getD j [] := rfl
theorem ax0 (w : List Int) (j : Nat) (hj : j ≤ 22) : Evt fun n => E4 (S.tab n) w Lx.words 22 (j : Int) =
  some (if stop (kq w) 22 j < 22 then Sum.inl (((10 + stop (kq w) 22 j : Nat) : Int), ()) else Sum.inr (Sum.inl ())) :=
 adv (F := fun T j => E4 T w Lx.words 22 (j : Int)) (out := fun j => if j < 22 then Sum.inl (((10 + j : Nat) : Int), ()) else Sum.inr (Sum.inl ())) n9 aW6
  (fun T j h hq => by
   have hj := Q1 aW6 hq
   show E4 (S.step T) w Lx.words 22 j = E4 T w Lx.words 22 ((j + 1 : Nat) : Int)
   rw [ad3, j7 (by simp; omega), j7 (j8 (show j < Lx.words.length from hj)), aV8, H9 (by omega)]
   simp only [kq, Bool.and_eq_true, Bool.not_eq_true'] at hq
   rw [l9 hq.2])
  (fun T j h hq => by
   show E4 (S.step T) w Lx.words 22 j = _
   rw [ad3]
   by_cases hj : j < 22
   ·rw [j7 (by simp; omega), j7 (j8 (show j < Lx.words.length from hj)), aV8]
    simp only [kq, hj, decide_true, Bool.true_and, Bool.not_eq_false'] at hq
    rw [j7 hq, if_pos hj, wrap64 _ (by omega) (by omega)]
    congr 3
   ·rw [l9 (by simp; omega), if_neg hj]) 22 j (by omega)
theorem aq1 (t3 t4 : j2.den) (w : List Int) (j : Nat) (hj : j ≤ 22) : Evt fun n => C0 (S.tab n) t3 t4 w Lx.words 22 (j : Int) =
  some (if stop (kq w) 22 j < 22 then Sum.inl ((((10 + stop (kq w) 22 j : Nat) : Int), t3.2), (-1 : Int), ()) else Sum.inr (Sum.inl (t3, t4, w, ()))) :=
 adv (F := fun T j => C0 T t3 t4 w Lx.words 22 (j : Int)) (out := fun j => if j < 22 then Sum.inl ((((10 + j : Nat) : Int), t3.2), (-1 : Int), ()) else Sum.inr (Sum.inl (t3, t4, w, ()))) n9 aW6
  (fun T j h hq => by
   have hj := Q1 aW6 hq
   show C0 (S.step T) t3 t4 w Lx.words 22 j = C0 T t3 t4 w Lx.words 22 ((j + 1 : Nat) : Int)
   rw [Y2, j7 (by simp; omega), j7 (j8 (show j < Lx.words.length from hj)), aV8, H9 (by omega)]
   simp only [kq, Bool.and_eq_true, Bool.not_eq_true'] at hq
   rw [l9 hq.2])
  (fun T j h hq => by
   show C0 (S.step T) t3 t4 w Lx.words 22 j = _
   rw [Y2]
   by_cases hj : j < 22
   ·rw [j7 (by simp; omega), j7 (j8 (show j < Lx.words.length from hj)), aV8]
    simp only [kq, hj, decide_true, Bool.true_and, Bool.not_eq_false'] at hq
    rw [j7 hq, if_pos hj, wrap64 _ (by omega) (by omega)]
    congr 4
   ·rw [l9 (by simp; omega), if_neg hj]) 22 j (by omega)
def ab2 (w : List Int) : Int := if aN4 w < 22 then ((10 + aN4 w : Nat) : Int) else 1
theorem aN3 (w : List Int) : Evt fun n => an4 (S.tab n) w = some (ab2 w, aj0) :=
 (ax0 w 0 (by omega)).up fun n h => by
  show an4 (S.step (S.tab n)) w = _
  have h : E4 (S.tab n) w Lx.words (Lx.words.length : Int) 0 = _ := h
  rw [aN8, h]
  unfold ab2 aN4
  split <;> rfl
theorem av2 (w : List Int) : ab2 w = 1 ↔ ¬ aN4 w < 22 := by
 unfold ab2
 split
 ·omega
 ·rename_i h; exact ⟨fun _ => h, fun _ => rfl⟩
def bl1 (s : List Int) (i : Nat) : j2.den :=
 let e := aY9 s i
 let w := sub s (i : Int) (e : Int)
 if aN4 w < 22 then (((10 + aN4 w : Nat) : Int), (i : Int), (e : Int), 0, 0, ([] : List Int), ()) else (1, (i : Int), (e : Int), 0, 0, w, ())
theorem aC6 {q : Nat → Bool} {N : Nat} (h : ∀ j, N ≤ j → q j = false) : ∀ (k j : Nat), j ≤ N → stop q k j ≤ N
 | 0, j, hj => hj
 | k + 1, j, hj => by
  unfold stop
  cases hq : q j with
  | false => exact hj
  | true =>
   have := Q1 h hq
   exact aC6 h k (j + 1) (by omega)
theorem F6 {n i e : Nat} (h1 : i ≤ e) (h2 : e ≤ n) : bounds n (i : Int) (e : Int) = true := by
 unfold bounds
 simp only [Bool.and_eq_true, decide_eq_true_eq]
 omega
theorem aB1 {s : List Int} (hs : s.length ≤ 2097152) {i : Nat} (hi : i < s.length) (t : j2.den) (ht : t = (0, (i : Int), 0, 0, 0, ([] : List Int), ())) :
  Evt fun n => aa9 (S.tab n) s t = some ((bl1 s i, -1, ()), aa8) := by
 subst ht
 have hle : aY9 s i ≤ s.length := aC6 aE5 _ _ (by omega)
 have hge : i ≤ aY9 s i := av9 _ _
 refine (((ap1 hs (0, (i : Int), 0, 0, 0, ([] : List Int), ()) (0, 0, 0, 0, 0, ([] : List Int), ()) i).and (aq1 (1, (i : Int), (aY9 s i : Int), 0, 0, ([] : List Int), ()) (0, 0, 0, 0, 0, ([] : List Int), ()) (sub s (i : Int) (aY9 s i : Int)) 0 (by omega))).and n9).up fun n ⟨⟨h1, h2⟩, hb⟩ => ?_
 show aa9 (S.step (S.tab n)) s _ = _
 rw [aB2]
 simp only [h1, Option.bind_some, B9, Sum.elim_inl, j7 (F6 hge hle), hb.words]
 have h2 : C0 (S.tab n) (1, (i : Int), (aY9 s i : Int), 0, 0, ([] : List Int), ()) (0, 0, 0, 0, 0, ([] : List Int), ()) (sub s (i : Int) (aY9 s i : Int)) Lx.words (Lx.words.length : Int) 0 = _ := h2
 rw [h2]
 unfold bl1 aN4
 simp only [Option.bind_some]
 split <;> rfl
theorem aI4 {s : List Int} (hs : s.length ≤ 2097152) {i : Nat} (hi : i < s.length) (hl : G3 (get s i) = true) :
  Evt fun n => H5 (S.tab n) s (i : Int) = some ((bl1 s i, false, ()), I8) := by
 have hle : aY9 s i ≤ s.length := aC6 aE5 _ _ (by omega)
 have hge : i ≤ aY9 s i := av9 _ _
 refine (((aB6 hs (i : Int) (0, (i : Int), 0, 0, 0, ([] : List Int), ()) i).and (aN3 (sub s (i : Int) (aY9 s i : Int)))).and n9).up fun n ⟨⟨h1, h2⟩, hb⟩ => ?_
 show H5 (S.step (S.tab n)) s _ = _
 rw [ay9, j7 (j8 hi), j9, hb.iletter, hl]
 simp only [Option.bind_some, j7, h1, B9, Sum.elim_inl, j7 (F6 hge hle), h2]
 unfold bl1
 by_cases hk : aN4 (sub s (i : Int) (aY9 s i : Int)) < 22
 ·have : ab2 (sub s (i : Int) (aY9 s i : Int)) ≠ 1 := fun e => (av2 _).1 e hk
  rw [l9 (by simpa using this)]
  simp only [hk, if_true, ab2]
 ·rw [j7 (by simpa using (av2 _).2 hk)]
  simp only [hk, if_false, ab2]
end Go.Abs.D
end

section
namespace Go.Abs.D
def hv (n : Int) (l : List Int) : Int := l.foldl (fun n c => n * 16 + Q9 c) n
theorem aU0 (n c : Int) (l : List Int) : hv n (c :: l) = hv (n * 16 + Q9 c) l := rfl
theorem bi9 (n c : Int) (l : List Int) : hv n (l ++ [c]) = hv n l * 16 + Q9 c := by simp [hv, List.foldl_append]
theorem bf4 {a b : Nat} (h : a ≤ b) : (16 : Int) ^ a ≤ 16 ^ b := by
 have := Nat.pow_le_pow_right (show 0 < 16 by decide) h
 have e : ∀ k : Nat, (16 : Int) ^ k = ((16 ^ k : Nat) : Int) := fun k => by simp
 rw [e, e]; omega
theorem aa1 {c : Int} (h : J1 c = true) : 0 ≤ Q9 c := by
 have := N7 c
 rw [h] at this
 simpa using this
theorem bj6 : ∀ (l : List Int) (n : Int), 0 ≤ n → (∀ c ∈ l, J1 c = true) → n ≤ hv n l
 | [], n, _, _ => Int.le_refl _
 | c :: l, n, h0, h => by
  have h1 := aa1 (h c (List.mem_cons_self ..))
  have := bj6 l (n * 16 + Q9 c) (by omega) fun x hx => h x (List.mem_cons_of_mem _ hx)
  rw [aU0]; omega
theorem bj5 : ∀ (l : List Int) (n : Int) (k : Nat), 0 ≤ n → n < 16 ^ k → (∀ c ∈ l, J1 c = true) → hv n l < 16 ^ (k + l.length)
 | [], n, k, _, hn, _ => hn
 | c :: l, n, k, h0, hn, h => by
  have h1 := aa1 (h c (List.mem_cons_self ..))
  have h2 := af2 c
  have := bj5 l (n * 16 + Q9 c) (k + 1) (by omega) (by rw [Int.pow_succ]; omega) fun x hx => h x (List.mem_cons_of_mem _ hx)
  rw [aU0, List.length_cons, show k + (l.length + 1) = k + 1 + l.length by omega]; exact this
theorem as8 (x : Int) (h0 : 0 ≤ x) (h1 : x < 18446744073709551616) : IntKind.u64.wrap x = x := by
 have : IntKind.u64.wrap x = x % 18446744073709551616 := by simp [IntKind.wrap, IntKind.bits, IntKind.signed]
 rw [this]; omega
structure Base3 (T : S.Tab) : Prop extends Base2 T where
 lower : ∀ c, j4 T c = some (intBits .or .u8 c 32, Z1)
 j46 : ∀ (m n v : Int) (t9 l : List Int) (a b : Int), 0 ≤ v → v < 16 → 0 ≤ n → n < 1152921504606846976 → n * 16 + v ≤ m → m < 18446744073709551616 →
  p4 T 16 false t9 1152921504606846976 m false n v l a b = some (Sum.inr (Sum.inl (16, false, t9, 1152921504606846976, m, false, n * 16 + v, l, a, b, ())))
theorem a15 (T : S.Tab) (h : Base1 T) : Base3 (S.step T) := by
 refine ⟨aE6 T h, fun c => ?_, fun m n v t9 l a b hv0 hv1 hn0 hn1 hm hM => ?_⟩
 ·rw [al9]
 ·have e16 : IntKind.u8.wrap 16 = 16 := by decide
  have e16' : IntKind.u64.wrap 16 = 16 := by decide
  rw [U6, e16, e16', as8 (n * 16) (by omega) (by omega), as8 v hv0 (by omega), as8 (n * 16 + v) (by omega) (by omega)]
  rw [l9 (by simp only [decide_eq_false_iff_not]; omega), l9 (by simp only [decide_eq_false_iff_not]; omega), l9 (by simp only [decide_eq_false_iff_not]; omega), l9 (by simp only [decide_eq_false_iff_not]; omega)]
theorem bl9 : Evt fun n => Base3 (S.tab n) := by
 have h1 : Evt fun n => Base1 (S.tab n) := Evt.up (Evt.of (p := fun _ => True) fun _ => trivial) fun n _ => ag2 _
 exact h1.up fun n h => a15 _ h
theorem bp4 (l : List Int) (j : Nat) : l.getD (j : Int).toNat 0 = get l j := rfl
theorem bm6 (c : Int) (h : aQ2 c = true) : intBits .or .u8 c 32 = c := by
 simp only [aQ2, Bool.and_eq_true, decide_eq_true_eq] at h
 have : c = 97 ∨ c = 98 ∨ c = 99 ∨ c = 100 ∨ c = 101 ∨ c = 102 := by omega
 rcases this with rfl | rfl | rfl | rfl | rfl | rfl <;> decide
theorem bd4 (T : S.Tab) (hb : Base3 T) (t9 l : List Int) (m n : Int) (j : Nat) (hj : j < l.length) (hl : l.length ≤ 2097152) (hc : J1 (get l j) = true) (hn0 : 0 ≤ n) (hn1 : n < 1152921504606846976) (hm : n * 16 + Q9 (get l j) ≤ m) (hM : m < 18446744073709551616) :
  j6 (S.step T) 16 false t9 1152921504606846976 m false n l (l.length : Int) (j : Int) =
   j6 T 16 false t9 1152921504606846976 m false (n * 16 + Q9 (get l j)) l (l.length : Int) ((j + 1 : Nat) : Int) := by
 have h0 := aa1 hc
 have h16 := af2 (get l j)
 rw [J3, j7 (by simpa using hj), j7 (j8 hj)]
 rw [bp4, H9 (show j ≤ 4194304 by omega)]
 cases hd : n8 (get l j) with
 | true =>
  have hv : Q9 (get l j) = get l j - 48 := by simp [Q9, hd]
  simp only [n8, Bool.and_eq_true, decide_eq_true_eq] at hd
  have hne : decide (get l j = 95) = false := by simp only [decide_eq_false_iff_not]; omega
  rw [l9 hne, j7 (by simpa using hd.1), j7 (by simpa using hd.2), at3 _ (by omega) (by omega), ← hv, hb.j46 m n _ t9 l _ _ h0 h16 hn0 hn1 hm hM]
  simp only [Option.bind_some, aa5, Sum.elim_inr, Sum.elim_inl]
  rw [H9 (by omega)]
 | false =>
  have hlo : aQ2 (get l j) = true := by
   unfold J1 at hc
   rw [hd, Bool.false_or] at hc; exact hc
  have hv : Q9 (get l j) = get l j - 87 := by simp [Q9, hd, hlo]
  have hor := bm6 _ hlo
  simp only [aQ2, Bool.and_eq_true, decide_eq_true_eq] at hlo
  have hne : decide (get l j = 95) = false := by simp only [decide_eq_false_iff_not]; omega
  have e : IntKind.u8.wrap (IntKind.u8.wrap (get l j - 97) + 10) = Q9 (get l j) := by
   rw [at3 (get l j - 97) (by omega) (by omega), at3 _ (by omega) (by omega), hv]; omega
  have h9 : ¬ get l j ≤ 57 := by omega
  have h9' : decide (get l j ≤ 57) = false := by simpa using h9
  rw [l9 hne]
  simp only [hb.lower, hor, Option.bind_some]
  rw [j7 (show decide (48 ≤ get l j) = true by simp only [decide_eq_true_eq]; omega), l9 h9', j7 (show decide (97 ≤ get l j) = true by simpa using hlo.1), j7 (show decide (get l j ≤ 122) = true by simp only [decide_eq_true_eq]; omega), e, hb.j46 m n _ t9 l _ _ h0 h16 hn0 hn1 hm hM]
  simp only [Option.bind_some, aa5, Sum.elim_inr, Sum.elim_inl]
  rw [H9 (by omega)]
theorem bi6 (pre : List Int) (c : Int) (r : List Int) : get (pre ++ c :: r) pre.length = c := aF7 pre c r 0
theorem a79 (t9 : List Int) (m : Int) (hM : m < 18446744073709551616) : ∀ (r pre : List Int) (n : Int), (∀ c ∈ r, J1 c = true) → 0 ≤ n → n < 16 ^ pre.length → (pre ++ r).length ≤ 16 → hv n r ≤ m →
  Evt fun k => j6 (S.tab k) 16 false t9 1152921504606846976 m false n (pre ++ r) ((pre ++ r).length : Int) (pre.length : Int) = some (Sum.inr (Sum.inl (t9, false, hv n r, ())))
 | [], pre, n, _, _, _, _, _ => bl9.up fun k hb => by
  show j6 (S.step (S.tab k)) _ _ _ _ _ _ _ _ _ _ = _
  rw [J3, l9 (by simp)]; rfl
 | c :: r, pre, n, hc, h0, hn, hl, hm => by
  have hlen : (pre ++ c :: r).length = pre.length + (r.length + 1) := by simp
  have h1 := aa1 (hc c (List.mem_cons_self ..))
  have h2 := af2 c
  have hge := bj6 r (n * 16 + Q9 c) (by omega) fun x hx => hc x (List.mem_cons_of_mem _ hx)
  have hp : (16 : Int) ^ pre.length ≤ 16 ^ 15 := bf4 (by omega)
  have ih := a79 t9 m hM r (pre ++ [c]) (n * 16 + Q9 c) (fun x hx => hc x (List.mem_cons_of_mem _ hx)) (by omega) (by
   rw [List.length_append, List.length_singleton, Int.pow_succ]; omega) (by simpa using hl) hm
  refine (ih.and bl9).up fun k ⟨h, hb⟩ => ?_
  show j6 (S.step (S.tab k)) _ _ _ _ _ _ _ _ _ _ = _
  have hg := bi6 pre c r
  rw [bd4 _ hb t9 (pre ++ c :: r) m n pre.length (by omega) (by omega) (by rw [hg]; exact hc c (List.mem_cons_self ..)) h0 (by omega) (by rw [hg]; rw [aU0] at hm; omega) hM, hg]
  have e1 : (pre ++ [c]).length = pre.length + 1 := by simp
  have e2 : pre ++ [c] ++ r = pre ++ c :: r := by simp
  rw [e1, e2] at h
  exact h
theorem aq5 (l : List Int) (b : Int) (hb : b = 8 ∧ l.length ≤ 2 ∨ b = 64 ∧ l.length ≤ 16) (hne : l ≠ []) (hl : ∀ c ∈ l, J1 c = true) :
  Evt fun n => A8 (S.tab n) l 16 b = some ((hv 0 l, true, ()), T6) := by
 have hlt := bj5 l 0 0 (by decide) (by decide) hl
 rw [Nat.zero_add] at hlt
 have hlen : l.length ≤ 16 := by omega
 let m : Int := if b = 8 then 255 else 18446744073709551615
 have hm : hv 0 l ≤ m := by
  rcases hb with ⟨rfl, h⟩ | ⟨rfl, h⟩
  ·have : (16 : Int) ^ l.length ≤ 16 ^ 2 := bf4 h
   show hv 0 l ≤ 255
   omega
  ·have : (16 : Int) ^ l.length ≤ 16 ^ 16 := bf4 h
   show hv 0 l ≤ 18446744073709551615
   omega
 have hM : m < 18446744073709551616 := by
  show (if b = 8 then (255 : Int) else 18446744073709551615) < _
  split <;> decide
 have h1 := a79 l m hM l [] 0 hl (Int.le_refl 0) (by decide) (by simpa using hlen) hm
 have h2 : Evt fun n => s7 (S.tab n) l 16 b false l 1152921504606846976 = some (Sum.inl (hv 0 l, true, ())) := h1.up fun n h => by
  show s7 (S.step (S.tab n)) _ _ _ _ _ _ = _
  have h : j6 (S.tab n) 16 false l 1152921504606846976 m false 0 l (l.length : Int) 0 = some (Sum.inr (Sum.inl (l, false, hv 0 l, ()))) := h
  have e : IntKind.u64.wrap (IntKind.u64.wrap (1 * 2 ^ min (IntKind.u64.wrap b).toNat IntKind.u64.bits) - 1) = m := by
   rcases hb with ⟨rfl, _⟩ | ⟨rfl, _⟩ <;> decide
  have e0 : decide ((0 : Int) ≤ IntKind.u64.wrap b) = true := by
   rcases hb with ⟨rfl, _⟩ | ⟨rfl, _⟩ <;> decide
  rw [U5, j7 e0, e, h]
  simp only [Option.bind_some, aa5, Sum.elim_inr, Sum.elim_inl, D0, cond_false]
 have h3 : Evt fun n => A3 (S.tab n) l 16 b false l = some (Sum.inl (hv 0 l, true, ())) := h2.up fun n h => by
  show A3 (S.step (S.tab n)) _ _ _ _ _ = _
  rw [U8, l9 (by decide), j7 (by decide), h]; rfl
 have h4 : Evt fun n => c8 (S.tab n) l 16 b false l = some (Sum.inl (hv 0 l, true, ())) := h3.up fun n h => by
  show c8 (S.step (S.tab n)) _ _ _ _ _ = _
  rw [U4]
  rcases hb with ⟨rfl, _⟩ | ⟨rfl, _⟩
  ·rw [l9 (by decide), l9 (by decide), l9 (by decide), h]; rfl
  ·rw [l9 (by decide), l9 (by decide), l9 (by decide), h]; rfl
 have h5 : Evt fun n => G8 (S.tab n) l 16 b = some ((hv 0 l, true, ()), e9) := h4.up fun n h => by
  show G8 (S.step (S.tab n)) _ _ _ = _
  rw [ac9, l9 (by simpa using hne), j7 (by decide), j7 (by decide)]
  have h : c8 (S.tab n) l 16 b (decide ((16 : Int) = 0)) l = _ := h
  rw [h]; rfl
 exact h5.up fun n h => by
  show A8 (S.step (S.tab n)) _ _ _ = _
  rw [ag5, h]
  simp only [Option.bind_some, D0]
  rfl
end Go.Abs.D
end

section
namespace Go.Abs.D
def K0 (s : List Int) (a b : Nat) : List Int := (s.take b).drop a
theorem ae2 (s : List Int) (a b : Nat) : sub s (a : Int) (b : Int) = K0 s a b := rfl
theorem M5 {s : List Int} {a j : Nat} (h1 : a ≤ j) (h2 : j < s.length) : K0 s a (j + 1) = K0 s a j ++ [get s j] := by
 unfold K0 get
 rw [List.take_add_one, List.getElem?_eq_getElem h2]
 rw [List.drop_append_of_le_length (by simp; omega)]
 rw [List.getD_eq_getElem?_getD, List.getElem?_eq_getElem h2]; rfl
theorem S3 {s : List Int} (a : Nat) : K0 s a a = [] := by
 unfold K0
 exact List.drop_eq_nil_of_le (by simp; omega)
theorem ak6 {s : List Int} {a b : Nat} (h : b ≤ s.length) : (K0 s a b).length = b - a := by
 unfold K0
 simp; omega
theorem aJ7 {s : List Int} {p : Int → Bool} {a : Nat} : ∀ (k : Nat), a + k ≤ s.length → (∀ j, a ≤ j → j < a + k → p (get s j) = true) → ∀ c ∈ K0 s a (a + k), p c = true
 | 0, _, _, c, hc => by rw [Nat.add_zero, S3] at hc; cases hc
 | k + 1, hk, h, c, hc => by
  rw [show a + (k + 1) = a + k + 1 by omega, M5 (by omega) (by omega)] at hc
  rcases List.mem_append.1 hc with hc | hc
  ·exact aJ7 k (by omega) (fun j h1 h2 => h j h1 (by omega)) c hc
  ·have : c = get s (a + k) := by simpa using hc
   subst this
   exact h _ (by omega) (by omega)
def M7 (s : List Int) (i : Nat) : Nat ⊕ j2.den :=
 let e := ag8 s (i + 18) (i + 2)
 if e = i + 2 then .inl e else if J1 (get s e) = true then .inl e else .inr (2, (i : Int), (e : Int), 0, IntKind.i64.wrap (hv 0 (K0 s (i + 2) e)), ([] : List Int), ())
def IR (r : Nat ⊕ j2.den) (t : j2.den) (b : Bool) : Prop := match r with | .inl e => b = true ∧ t.2.2.1 = (e : Int) | .inr t' => b = false ∧ t = t'
def SR (r : Nat ⊕ j2.den) (t : j2.den) (b : Int) : Prop := match r with | .inl e => b = (e : Int) | .inr t' => b = -1 ∧ t = t'
variable {s : List Int} (hs : s.length ≤ 2097152)
include hs
omit hs in
theorem aV6 {i : Nat} (hi : i + 2 ≤ s.length) : ag8 s (i + 18) (i + 2) ≤ s.length ∧ i + 2 ≤ ag8 s (i + 18) (i + 2) ∧ ag8 s (i + 18) (i + 2) ≤ i + 18 := by
 refine ⟨aC6 aX8 _ _ hi, av9 _ _, ?_⟩
 refine aC6 (q := hq s (i + 18)) (N := i + 18) (fun j hj => ?_) _ _ (by omega)
 simp only [hq, Bool.and_eq_false_iff, decide_eq_false_iff_not]
 exact .inl (by omega)
omit hs in
theorem bk8 {i : Nat} (hi : i + 2 ≤ s.length) : ∀ c ∈ K0 s (i + 2) (ag8 s (i + 18) (i + 2)), J1 c = true := by
 obtain ⟨h1, h2, h3⟩ := aV6 hi
 obtain ⟨k, hk⟩ : ∃ k, ag8 s (i + 18) (i + 2) = i + 2 + k := ⟨ag8 s (i + 18) (i + 2) - (i + 2), by omega⟩
 rw [hk]
 refine aJ7 k (by omega) fun j ha hb => ?_
 have := aF4 (q := hq s (i + 18)) s.length (i + 2) j ha (by
  show j < ag8 s (i + 18) (i + 2)
  omega)
 simp only [hq, Bool.and_eq_true] at this
 exact this.2
theorem an0 (t3 t4 : j2.den) {i : Nat} (ht : t3.2.1 = (i : Int)) (hi : i + 2 ≤ s.length) : ∀ (k j : Nat), i + 2 ≤ j → j ≤ i + 18 → s.length ≤ j + k → (∀ c ∈ K0 s (i + 2) j, J1 c = true) → j ≤ s.length →
  Evt fun n => A0 (S.tab n) s t3 t4 (j : Int) (hv 0 (K0 s (i + 2) j)) =
   some (bif J1 (get s (stop (hq s (i + 18)) k j)) then Sum.inl (t3, (stop (hq s (i + 18)) k j : Int), ()) else Sum.inr (Sum.inl (t3, t4, (stop (hq s (i + 18)) k j : Int), hv 0 (K0 s (i + 2) (stop (hq s (i + 18)) k j)), ())))
 | 0, j, h1, h2, hk, hall, hj => by
  refine n9.up fun n hb => ?_
  show A0 (S.step (S.tab n)) _ _ _ _ _ = _
  rw [H7, hb.look]
  simp only [Option.bind_some, hb.shex, N7, stop]
  rw [H2 (show s.length ≤ j by omega), bo4, l9 rfl]; rfl
 | k + 1, j, h1, h2, hk, hall, hj => by
  cases hc : J1 (get s j) with
  | false =>
   have hq0 : hq s (i + 18) j = false := by simp [hq, hc]
   refine n9.up fun n hb => ?_
   show A0 (S.step (S.tab n)) _ _ _ _ _ = _
   rw [H7, hb.look, au4 hq0]
   simp only [Option.bind_some, hb.shex, N7, hc]
   rw [l9 rfl]; rfl
  | true =>
   have hlt : j < s.length := by
    rcases Nat.lt_or_ge j s.length with h | h
    ·exact h
    ·rw [H2 h, bo4] at hc; cases hc
   by_cases he : j = i + 18
   ·have hq0 : hq s (i + 18) j = false := by simp [hq]; omega
    refine n9.up fun n hb => ?_
    show A0 (S.step (S.tab n)) _ _ _ _ _ = _
    rw [H7, hb.look, au4 hq0]
    simp only [Option.bind_some, hb.shex, N7, hc, ht]
    rw [j7 rfl, wrap64 _ (by omega) (by omega), j7 (by simp only [decide_eq_true_eq]; omega)]; rfl
   ·have hq1 : hq s (i + 18) j = true := by
     simp only [hq, hc, Bool.and_true, decide_eq_true_eq]; omega
    have hlen : (K0 s (i + 2) j).length = j - (i + 2) := ak6 hj
    have hval := bj5 (K0 s (i + 2) j) 0 0 (by decide) (by decide) hall
    rw [Nat.zero_add, hlen] at hval
    have hp : (16 : Int) ^ (j - (i + 2)) ≤ 16 ^ 15 := bf4 (by omega)
    have hge := bj6 (K0 s (i + 2) j) 0 (by decide) hall
    have h0 := aa1 hc
    have h16 := af2 (get s j)
    have ih := an0 t3 t4 ht hi k (j + 1) (by omega) (by omega) (by omega) (by
     rw [M5 h1 hlt]
     intro c hc'
     rcases List.mem_append.1 hc' with hc' | hc'
     ·exact hall c hc'
     ·have : c = get s j := by simpa using hc'
      subst this; exact hc) (by omega)
    refine (ih.and n9).up fun n ⟨h, hb⟩ => ?_
    show A0 (S.step (S.tab n)) _ _ _ _ _ = _
    have e : stop (hq s (i + 18)) (k + 1) j = stop (hq s (i + 18)) k (j + 1) := by
     show (bif hq s (i + 18) j then _ else _) = _
     rw [hq1]; rfl
    rw [e, H7, hb.look]
    simp only [Option.bind_some, hb.shex, N7, hc, ht, j9]
    rw [j7 rfl, wrap64 ((j : Int) - (i : Int)) (by omega) (by omega), l9 (by simp only [decide_eq_false_iff_not]; omega), j7 (j8 hlt), H9 (by omega)]
    rw [as8 (hv 0 (K0 s (i + 2) j) * 16) (by omega) (by omega), as8 (Q9 (get s j)) h0 (by omega), as8 _ (by omega) (by omega)]
    rw [M5 h1 hlt, bi9] at h
    exact h
theorem az1 {i : Nat} (hi : i + 2 ≤ s.length) : Evt fun n => ∃ t' b, W3 (S.tab n) s (2, (i : Int), 0, 0, 0, ([] : List Int), ()) = some ((t', b, ()), O8) ∧ SR (M7 s i) t' b := by
 obtain ⟨h1, h2, h3⟩ := aV6 hi
 have hl := an0 hs (2, (i : Int), 0, 0, 0, ([] : List Int), ()) (0, 0, 0, 0, 0, ([] : List Int), ()) (i := i) rfl hi s.length (i + 2) (by omega) (by omega) (by omega) (by rw [S3]; intro c hc; cases hc) hi
 refine hl.up fun n h => ?_
 show ∃ t' b, W3 (S.step (S.tab n)) s _ = _ ∧ _
 rw [S3] at h
 have h : A0 (S.tab n) s (2, (i : Int), 0, 0, 0, ([] : List Int), ()) (0, 0, 0, 0, 0, ([] : List Int), ()) ((i + 2 : Nat) : Int) 0 = some (bif J1 (get s (ag8 s (i + 18) (i + 2))) then _ else _) := h
 have e2 : IntKind.i64.wrap ((i : Int) + 2) = ((i + 2 : Nat) : Int) := by
  rw [wrap64 _ (by omega) (by omega)]; omega
 rw [ax8]
 simp only [e2, h]
 cases hx : J1 (get s (ag8 s (i + 18) (i + 2))) with
 | true =>
  have hlx : M7 s i = .inl (ag8 s (i + 18) (i + 2)) := by unfold M7; simp only [hx, if_true, ite_self]
  rw [hlx]
  simp only [cond_true, Option.bind_some, aa5, Sum.elim_inl]
  exact ⟨_, _, rfl, rfl⟩
 | false =>
  simp only [cond_false, Option.bind_some, aa5, Sum.elim_inr, Sum.elim_inl, e2]
  by_cases he : ag8 s (i + 18) (i + 2) = i + 2
  ·have hlx : M7 s i = .inl (ag8 s (i + 18) (i + 2)) := by unfold M7; simp only [he, if_true]
   rw [j7 (by simp [ag8] at he ⊢; omega), hlx]
   exact ⟨_, _, rfl, rfl⟩
  ·have hlx : M7 s i = .inr (2, (i : Int), (ag8 s (i + 18) (i + 2) : Int), 0, IntKind.i64.wrap (hv 0 (K0 s (i + 2) (ag8 s (i + 18) (i + 2)))), ([] : List Int), ()) := by unfold M7; simp only [he, if_false, hx, Bool.false_eq_true]
   rw [l9 (by simp only [decide_eq_false_iff_not]; show ¬ ((ag8 s (i + 18) (i + 2) : Nat) : Int) = _; omega), hlx]
   exact ⟨_, _, rfl, rfl, rfl⟩
theorem az5 {i : Nat} (hi : i + 2 ≤ s.length) (h0 : get s i = 48) (hx : get s (i + 1) = 120) : Evt fun n => ∃ t' b, I4 (S.tab n) s (i : Int) = some ((t', b, ()), s5) ∧ IR (M7 s i) t' b := by
 obtain ⟨h1, h2, h3⟩ := aV6 hi
 have hl := ao6 hs i (2, (i : Int), 0, 0, 0, ([] : List Int), ()) (i + 2) (by omega)
 have hall := bk8 hi
 have e1 : IntKind.i64.wrap ((i : Int) + 1) = ((i + 1 : Nat) : Int) := H9 (by omega)
 have e2 : IntKind.i64.wrap ((i : Int) + 2) = ((i + 2 : Nat) : Int) := by
  rw [wrap64 _ (by omega) (by omega)]; omega
 have e18 : IntKind.i64.wrap ((i : Int) + 18) = ((i + 18 : Nat) : Int) := by
  rw [wrap64 _ (by omega) (by omega)]; omega
 have d0 : decide (get s i = 48) = true := by rw [h0]; rfl
 have dx : decide (get s (i + 1) = 120) = true := by rw [hx]; rfl
 by_cases he : ag8 s (i + 18) (i + 2) = i + 2
 ·refine hl.up fun n h => ?_
  show ∃ t' b, I4 (S.step (S.tab n)) s _ = _ ∧ _
  have hlx : M7 s i = .inl (ag8 s (i + 18) (i + 2)) := by unfold M7; simp only [he, if_true]
  rw [O5, j7 (j8 (show i < s.length by omega)), j9, j7 d0, e1, j7 (by simp only [decide_eq_true_eq]; omega), j7 (j8 (show i + 1 < s.length by omega)), j9, j7 dx, e2, h]
  simp only [Option.bind_some, B9, Sum.elim_inl, e2]
  rw [j7 (by simp only [decide_eq_true_eq]; omega), hlx]
  exact ⟨_, _, rfl, rfl, rfl⟩
 ·have hpu := aq5 (K0 s (i + 2) (ag8 s (i + 18) (i + 2))) 64 (.inr ⟨rfl, by rw [ak6 h1]; omega⟩) (fun e => by
   have := congrArg List.length e
   rw [ak6 h1] at this
   simp at this; omega) hall
  have hgood : J1 (get s (ag8 s (i + 18) (i + 2))) = false → M7 s i = .inr (2, (i : Int), (ag8 s (i + 18) (i + 2) : Int), 0, IntKind.i64.wrap (hv 0 (K0 s (i + 2) (ag8 s (i + 18) (i + 2)))), ([] : List Int), ()) := fun hx => by unfold M7; simp only [he, if_false, hx, Bool.false_eq_true]
  refine ((hl.and hpu).and n9).up fun n ⟨⟨h, hp⟩, hb⟩ => ?_
  show ∃ t' b, I4 (S.step (S.tab n)) s _ = _ ∧ _
  rw [O5, j7 (j8 (show i < s.length by omega)), j9, j7 d0, e1, j7 (by simp only [decide_eq_true_eq]; omega), j7 (j8 (show i + 1 < s.length by omega)), j9, j7 dx, e2, h]
  simp only [Option.bind_some, B9, Sum.elim_inl, e2, e18]
  rw [l9 (by simp only [decide_eq_false_iff_not]; omega)]
  have hb2 := F6 h2 h1
  by_cases h18 : ag8 s (i + 18) (i + 2) = i + 18
  ·rw [j7 (by simp only [decide_eq_true_eq]; omega)]
   by_cases hlt : ag8 s (i + 18) (i + 2) < s.length
   ·rw [j7 (by simp only [decide_eq_true_eq]; omega), j7 (j8 hlt), j9, hb.ihex]
    simp only [Option.bind_some]
    cases hxx : J1 (get s (ag8 s (i + 18) (i + 2))) with
    | true =>
     have hlx : M7 s i = .inl (ag8 s (i + 18) (i + 2)) := by unfold M7; simp only [hxx, if_true, ite_self]
     rw [j7 rfl, hlx]
     exact ⟨_, _, rfl, rfl, rfl⟩
    | false =>
     rw [l9 rfl, j7 hb2, ae2, hp, hgood hxx]
     exact ⟨_, _, rfl, rfl, rfl⟩
   ·have hz : J1 (get s (ag8 s (i + 18) (i + 2))) = false := by rw [H2 (by omega)]; rfl
    rw [l9 (by simp only [decide_eq_false_iff_not]; omega), j7 hb2, ae2, hp, hgood hz]
    exact ⟨_, _, rfl, rfl, rfl⟩
  ·have hz : J1 (get s (ag8 s (i + 18) (i + 2))) = false := by
    have hq : hq s (i + 18) (ag8 s (i + 18) (i + 2)) = false := aH4 (q := hq s (i + 18)) aX8 s.length (i + 2) (by omega)
    simp only [Go.Abs.D.hq, Bool.and_eq_false_iff, decide_eq_false_iff_not] at hq
    rcases hq with hq | hq
    ·omega
    ·exact hq
   rw [l9 (by simp only [decide_eq_false_iff_not]; omega), j7 hb2, ae2, hp, hgood hz]
   exact ⟨_, _, rfl, rfl, rfl⟩
end Go.Abs.D
end

section
namespace Go.Abs.D
def dv (n : Int) (l : List Int) : Int := l.foldl (fun n c => n * 10 + (c - 48)) n
theorem a98 (n c : Int) (l : List Int) : dv n (c :: l) = dv (n * 10 + (c - 48)) l := rfl
theorem bi0 (n c : Int) (l : List Int) : dv n (l ++ [c]) = dv n l * 10 + (c - 48) := by simp [dv, List.foldl_append]
theorem dig {c : Int} (h : n8 c = true) : 48 ≤ c ∧ c ≤ 57 := by simpa [n8] using h
theorem aQ9 : ∀ (l : List Int) (n : Int), 0 ≤ n → (∀ c ∈ l, n8 c = true) → n ≤ dv n l
 | [], n, _, _ => Int.le_refl _
 | c :: l, n, h0, h => by
  have := dig (h c (List.mem_cons_self ..))
  have := aQ9 l (n * 10 + (c - 48)) (by omega) fun x hx => h x (List.mem_cons_of_mem _ hx)
  rw [a98]; omega
theorem bh2 {c : Int} (h : n8 c = true) : c.toNat.toUInt8.toNat = c.toNat := by
 have := dig h
 rw [Nat.toUInt8, UInt8.toNat_ofNat']
 omega
theorem am1 : ∀ (l : List Int) (a : Nat), (∀ c ∈ l, n8 c = true) → a ≤ 18446744073709551615 →
  Lib.parseUintM (2 ^ 64 - 1) a (Lx.u8s l) = (if dv a l ≤ 18446744073709551615 then .ok (dv a l).toNat else .range)
 | [], a, _, ha => by
  show Lib.NumEnd.ok a = _
  rw [if_pos (by simp only [dv, List.foldl_nil]; omega)]
  simp [dv]
 | c :: l, a, h, ha => by
  have hc := h c (List.mem_cons_self ..)
  have hd := dig hc
  have hl := fun x hx => h x (List.mem_cons_of_mem _ hx)
  have e := bh2 hc
  have hge := aQ9 l ((a : Int) * 10 + (c - 48)) (by omega) hl
  have ih : a * 10 + (c.toNat - 48) ≤ 18446744073709551615 → _ := am1 l (a * 10 + (c.toNat - 48)) hl
  have e2 : ((a * 10 + (c.toNat - 48) : Nat) : Int) = (a : Int) * 10 + (c - 48) := by omega
  rw [e2] at ih
  show Lib.parseUintM _ a (c.toNat.toUInt8 :: Lx.u8s l) = _
  rw [Lib.parseUintM, e, if_pos (by omega), a98]
  by_cases h1 : 1844674407370955162 ≤ a
  ·rw [if_pos h1, if_neg (by omega)]
  ·rw [if_neg h1]
   by_cases h2 : 2 ^ 64 - 1 < a * 10 + (c.toNat - 48)
   ·rw [if_pos h2, if_neg (by omega)]
   ·rw [if_neg h2, ih (by omega)]
theorem aR2 {l : List Int} (hl : ∀ c ∈ l, n8 c = true) (hne : l ≠ []) (hn : l.length ≤ 2097152) :
  ∃ v, Lx.T8 (l, 10, 64, ()) = some ((bif decide (dv 0 l < 9223372036854775808) then dv 0 l else v, decide (dv 0 l < 9223372036854775808), ()), (), (), (), ()) := by
 have hge := aQ9 l 0 (Int.le_refl 0) hl
 obtain ⟨c, r, rfl⟩ : ∃ c r, l = c :: r := by cases l with
  | nil => exact absurd rfl hne
  | cons c r => exact ⟨c, r, rfl⟩
 have hc := hl c (List.mem_cons_self ..)
 have hd := dig hc
 have e := bh2 hc
 have hM := am1 (c :: r) 0 hl (by decide)
 have hB : Lib.parseUintB 64 (Lx.u8s (c :: r)) = _ := (show Lib.parseUintB 64 (Lx.u8s (c :: r)) = Lib.parseUintM (2 ^ 64 - 1) 0 (Lx.u8s (c :: r)) by unfold Lib.parseUintB; rw [if_neg (by simp [Lx.u8s])]).trans hM
 have hI : Lib.parseIntB 64 (Lx.u8s (c :: r)) = if dv 0 (c :: r) < 9223372036854775808 then .ok (dv 0 (c :: r)) else .range := by
  show Lib.parseIntB 64 (c.toNat.toUInt8 :: Lx.u8s r) = _
  unfold Lib.parseIntB
  simp only [e]
  rw [if_neg (show ¬ (c.toNat = 43 ∨ c.toNat = 45) by omega)]
  have hB : Lib.parseUintB 64 (c.toNat.toUInt8 :: Lx.u8s r) = _ := hB
  rw [hB]
  by_cases h1 : dv 0 (c :: r) ≤ 18446744073709551615
  ·have h1' : dv ((0 : Nat) : Int) (c :: r) ≤ 18446744073709551615 := h1
   rw [if_pos h1']
   show (if ¬ (c.toNat = 45) ∧ 2 ^ (64 - 1) ≤ (dv 0 (c :: r)).toNat then Lib.NumEnd.range else _) = _
   by_cases h2 : dv 0 (c :: r) < 9223372036854775808
   ·rw [if_neg (by omega), if_neg (by omega), if_neg (by omega), if_pos h2]
    congr 1
    show ((dv 0 (c :: r)).toNat : Int) = _
    omega
   ·rw [if_pos (by constructor <;> omega), if_neg h2]
  ·have h1' : ¬ dv ((0 : Nat) : Int) (c :: r) ≤ 18446744073709551615 := h1
   rw [if_neg h1', if_neg (by omega)]
 unfold Lx.T8
 rw [show (decide ((10 : Int) = 10) && decide ((64 : Int) = 64) && fits (c :: r).length) = true by rw [F5 (show (c :: r).length ≤ lim by unfold lim; omega)]; rfl, cond_true]
 simp only [hI]
 by_cases h2 : dv 0 (c :: r) < 9223372036854775808
 ·rw [if_pos h2, show decide (dv 0 (c :: r) < 9223372036854775808) = true from decide_eq_true h2]
  exact ⟨0, rfl⟩
 ·rw [if_neg h2, show decide (dv 0 (c :: r) < 9223372036854775808) = false from decide_eq_false h2]
  exact ⟨Lib.intSat 64 (Lx.u8s (c :: r)), rfl⟩
theorem chk {ρ : Type} {s : List Int} {j : Nat} {c : Int} (hc : c ≠ 0) {A B : Option ρ} : brk (decide ((j : Int) < (s.length : Int))) (brk (decide ((0 : Int) ≤ (j : Int)) && decide ((j : Int) < (s.length : Int))) (brk (decide (s.getD (j : Int).toNat 0 = c)) A B) none) B = brk (decide (get s j = c)) A B := by
 by_cases h : j < s.length
 ·rw [j7 (by simpa using h), j7 (j8 h)]; rfl
 ·rw [l9 (by simpa using h), l9 (by rw [H2 (by omega)]; simpa using (Ne.symm hc))]
def R7 (s : List Int) (i j : Nat) (flt : Bool) : j2.den :=
 bif flt || !decide (dv 0 (K0 s i j) < 9223372036854775808) then (3, (i : Int), (j : Int), 0, 0, K0 s i j, ()) else (2, (i : Int), (j : Int), 0, dv 0 (K0 s i j), ([] : List Int), ())
def digits (s : List Int) (i j : Nat) : Prop := ∀ c ∈ K0 s i j, n8 c = true
variable {s : List Int} (hs : s.length ≤ 2097152)
include hs
theorem V7 {i j w : Nat} (hij : i < j) (hj : j ≤ s.length) (hd : j = w → digits s i j) :
  Evt fun n => v8 (S.tab n) s (i : Int) (2, (i : Int), 0, 0, 0, ([] : List Int), ()) (j : Int) (w : Int) = some (Sum.inl (R7 s i j (!decide (j = w)), false, ())) := by
 refine n9.up fun n hb => ?_
 show v8 (S.step (S.tab n)) _ _ _ _ _ = _
 have hbd := F6 (n := s.length) (i := i) (e := j) (by omega) hj
 rw [am7, j7 hbd, ae2]
 by_cases h : j = w
 ·rw [j7 (by simp only [decide_eq_true_eq]; omega)]
  obtain ⟨v, hv⟩ := aR2 (hd h) (fun e => by have := congrArg List.length e; rw [ak6 hj] at this; simp at this; omega) (by rw [ak6 hj]; omega)
  rw [hv]
  simp only [Option.bind_some]
  unfold R7
  rw [show decide (j = w) = true from decide_eq_true h]
  cases decide (dv 0 (K0 s i j) < 9223372036854775808) with
  | true => rw [j7 rfl]; rfl
  | false => rw [l9 rfl, j7 hbd]; rfl
 ·rw [l9 (by simp only [decide_eq_false_iff_not]; omega), j7 hbd]
  unfold R7
  rw [show decide (j = w) = false from decide_eq_false h]; rfl
omit hs in
theorem ar9 (t : j2.den) (ht : t.1 = 3) (t4 : j2.den) (j v k : Int) : Evt fun n => l5 (S.tab n) s t t4 j v k = some (Sum.inl (s, t, t4, j, v, ())) := by
 refine n9.up fun n hb => ?_
 show l5 (S.step (S.tab n)) _ _ _ _ _ _ = _
 rw [A5]
 cases h : decide (k < j) with
 | false => rw [l9 rfl]
 | true => rw [j7 rfl, l9 (by rw [ht]; rfl)]
theorem ae3 {i j : Nat} (hj : j ≤ s.length) (r : Int × Int × Int × Int × List Int × Unit) (t4 : j2.den) : ∀ (d k : Nat), k + d = j → i ≤ k → digits s i j → dv 0 (K0 s i k) < 9223372036854775808 → digits s i k →
  Evt fun n => ∃ v, l5 (S.tab n) s (2, r) t4 (j : Int) (dv 0 (K0 s i k)) (k : Int) = some (Sum.inl (s, (bif decide (dv 0 (K0 s i j) < 9223372036854775808) then 2 else 3, r), t4, (j : Int), v, ())) ∧ (dv 0 (K0 s i j) < 9223372036854775808 → v = dv 0 (K0 s i j))
 | 0, k, e, hk, hd, hv, hdk => by
  obtain rfl : k = j := by omega
  refine n9.up fun n hb => ⟨_, ?_, fun _ => rfl⟩
  show l5 (S.step (S.tab n)) _ _ _ _ _ _ = _
  rw [A5, l9 (by simp), decide_eq_true hv]; rfl
 | d + 1, k, e, hk, hd, hv, hdk => by
  have hkl : k < s.length := by omega
  have hc : n8 (get s k) = true := by
   refine hd _ ?_
   obtain ⟨m, rfl⟩ : ∃ m, j = k + 1 + m := ⟨j - (k + 1), by omega⟩
   clear hd
   unfold K0 get
   rw [List.mem_iff_getElem?]
   refine ⟨k - i, ?_⟩
   rw [List.getElem?_drop, List.getElem?_take, if_pos (by omega), List.getD_eq_getElem?_getD]
   rw [show i + (k - i) = k by omega, List.getElem?_eq_getElem hkl]; rfl
  have hdg := dig hc
  have h0 := aQ9 (K0 s i k) 0 (Int.le_refl 0) hdk
  have hs1 : K0 s i (k + 1) = K0 s i k ++ [get s k] := M5 hk hkl
  have hdk1 : digits s i (k + 1) := by
   intro x hx
   rw [hs1] at hx
   rcases List.mem_append.1 hx with hx | hx
   ·exact hdk x hx
   ·have : x = get s k := by simpa using hx
    rw [this]; exact hc
  have hv1 : dv 0 (K0 s i (k + 1)) = dv 0 (K0 s i k) * 10 + (get s k - 48) := by rw [hs1, bi0]
  have hmono : dv 0 (K0 s i (k + 1)) ≤ dv 0 (K0 s i j) := by
   have e1 : K0 s i j = K0 s i (k + 1) ++ K0 s (k + 1) j := by
    unfold K0
    have : (s.take j) = s.take (k + 1) ++ (s.take j).drop (k + 1) := by
     conv => lhs; rw [← List.take_append_drop (k + 1) (s.take j)]
     rw [List.take_take, Nat.min_eq_left (by omega)]
    conv => lhs; rw [this]
    rw [List.drop_append_of_le_length (by simp; omega)]
   rw [e1]
   have := aQ9 (K0 s (k + 1) j) (dv 0 (K0 s i (k + 1))) (aQ9 _ 0 (Int.le_refl 0) hdk1) (fun c hc => hd c (by rw [e1]; exact List.mem_append_right _ hc))
   unfold dv at this ⊢
   rw [List.foldl_append]; exact this
  have over : ¬ dv 0 (K0 s i (k + 1)) < 9223372036854775808 → ∀ v : Int, Evt fun n => ∃ v', l5 (S.tab n) s (3, r) t4 (j : Int) v ((k + 1 : Nat) : Int) = some (Sum.inl (s, (bif decide (dv 0 (K0 s i j) < 9223372036854775808) then 2 else 3, r), t4, (j : Int), v', ())) ∧ (dv 0 (K0 s i j) < 9223372036854775808 → v' = dv 0 (K0 s i j)) := fun h v => by
   refine (ar9 (s := s) (3, r) rfl t4 j v ((k + 1 : Nat) : Int)).mono fun n h' => ⟨v, ?_, fun h2 => by omega⟩
   rw [h', decide_eq_false (show ¬ dv 0 (K0 s i j) < 9223372036854775808 by omega)]; rfl
  have w1 : IntKind.u8.wrap (get s k - 48) = get s k - 48 := at3 _ (by omega) (by omega)
  have w2 : IntKind.i64.wrap ((k : Int) + 1) = ((k + 1 : Nat) : Int) := H9 (by omega)
  have h22 : decide (((2, r) : j2.den).1 = 2) = true := rfl
  have hlt : decide ((k : Int) < (j : Int)) = true := by simp only [decide_eq_true_eq]; omega
  by_cases h1 : 922337203685477580 < dv 0 (K0 s i k)
  ·refine (over (by omega) (IntKind.u64.wrap (IntKind.u64.wrap (dv 0 (K0 s i k) * 10) + IntKind.u64.wrap (IntKind.u8.wrap (get s k - 48))))).up fun n h => ?_
   show ∃ v, l5 (S.step (S.tab n)) _ _ _ _ _ _ = _ ∧ _
   rw [A5, j7 hlt, j7 h22, j7 (decide_eq_true h1), j7 (j8 hkl), j9, w2]
   exact h
  ·by_cases h2 : dv 0 (K0 s i k) = 922337203685477580
   ·by_cases h3 : 55 < get s k
    ·refine (over (by omega) (IntKind.u64.wrap (IntKind.u64.wrap (dv 0 (K0 s i k) * 10) + IntKind.u64.wrap (IntKind.u8.wrap (get s k - 48))))).up fun n h => ?_
     show ∃ v, l5 (S.step (S.tab n)) _ _ _ _ _ _ = _ ∧ _
     rw [A5, j7 hlt, j7 h22, l9 (decide_eq_false h1), j7 (decide_eq_true h2), j7 (j8 hkl), j9, j7 (decide_eq_true h3), j7 (j8 hkl), w2]
     exact h
    ·have ih := ae3 hj r t4 d (k + 1) (by omega) (by omega) hd (by omega) hdk1
     refine ih.up fun n h => ?_
     show ∃ v, l5 (S.step (S.tab n)) _ _ _ _ _ _ = _ ∧ _
     rw [A5, j7 hlt, j7 h22, l9 (decide_eq_false h1), j7 (decide_eq_true h2), j7 (j8 hkl), j9, l9 (decide_eq_false h3), j7 (j8 hkl), w2, w1]
     rw [as8 (_ * 10) (by omega) (by omega), as8 (get s k - 48) (by omega) (by omega), as8 _ (by omega) (by omega), ← hv1]
     exact h
   ·have ih := ae3 hj r t4 d (k + 1) (by omega) (by omega) hd (by omega) hdk1
    refine ih.up fun n h => ?_
    show ∃ v, l5 (S.step (S.tab n)) _ _ _ _ _ _ = _ ∧ _
    rw [A5, j7 hlt, j7 h22, l9 (decide_eq_false h1), l9 (decide_eq_false h2), j7 (j8 hkl), j9, w2, w1]
    rw [as8 (_ * 10) (by omega) (by omega), as8 (get s k - 48) (by omega) (by omega), as8 _ (by omega) (by omega), ← hv1]
    exact h
omit hs in
theorem as0 {i j : Nat} (hij : i < j) (hj : j ≤ s.length) (t4 : j2.den) :
  Evt fun n => p8 (S.tab n) s (3, (i : Int), 0, 0, 0, ([] : List Int), ()) t4 (j : Int) = some (Sum.inl (R7 s i j true, -1, ())) := by
 have hl := ar9 (s := s) (3, (i : Int), (j : Int), 0, 0, ([] : List Int), ()) rfl t4 j 0 i
 refine hl.up fun n h => ?_
 show p8 (S.step (S.tab n)) _ _ _ _ = _
 rw [R8]
 simp only
 rw [h]
 simp only [Option.bind_some, B9, Sum.elim_inl]
 rw [j7 (by simp), j7 (F6 (by omega) hj)]; rfl
theorem aO6 {i j : Nat} (hij : i < j) (hj : j ≤ s.length) (t4 : j2.den) (hd : digits s i j) :
  Evt fun n => p8 (S.tab n) s (2, (i : Int), 0, 0, 0, ([] : List Int), ()) t4 (j : Int) = some (Sum.inl (R7 s i j false, -1, ())) := by
 have hl := ae3 hs hj ((i : Int), (j : Int), 0, 0, ([] : List Int), ()) t4 (j - i) i (by omega) (by omega) hd (by rw [S3]; decide) (by intro c hc; rw [S3] at hc; cases hc)
 rw [S3] at hl
 have h0 := aQ9 (K0 s i j) 0 (Int.le_refl 0) hd
 refine hl.up fun n ⟨v, h, hv⟩ => ?_
 show p8 (S.step (S.tab n)) _ _ _ _ = _
 rw [R8]
 simp only
 have h : l5 (S.tab n) s (2, (i : Int), (j : Int), 0, 0, ([] : List Int), ()) t4 (j : Int) 0 (i : Int) = _ := h
 rw [h]
 simp only [Option.bind_some, B9, Sum.elim_inl]
 unfold R7
 rw [Bool.false_or]
 cases hlt : decide (dv 0 (K0 s i j) < 9223372036854775808) with
 | true =>
  rw [decide_eq_true_eq] at hlt
  rw [l9 (by rfl), hv hlt, wrap64 _ (by omega) (by omega)]; rfl
 | false =>
  rw [j7 (by rfl), j7 (F6 (by omega) hj)]; rfl
end Go.Abs.D
end

section
namespace Go.Abs.D
def ak1 (s : List Int) (j : Nat) : Nat := bif decide (get s (j + 1) = 43) || decide (get s (j + 1) = 45) then j + 2 else j + 1
def aU3 (s : List Int) (i j : Nat) (flt : Bool) : Nat ⊕ j2.den :=
 bif decide (get s j = 101) then bif n8 (get s (ak1 s j)) then .inr (R7 s i (ao4 s (ak1 s j)) true) else .inl (ak1 s j) else .inr (R7 s i j flt)
def aS5 (s : List Int) (i j : Nat) : Nat ⊕ j2.den :=
 bif decide (get s j = 46) && n8 (get s (j + 1)) then aU3 s i (ao4 s (j + 1)) true else aU3 s i j false
def P8 (s : List Int) (i : Nat) : Nat ⊕ j2.den :=
 bif decide (get s i = 48) && decide (get s (i + 1) = 120) then M7 s i else aS5 s i (bif decide (get s i = 48) then i + 1 else ao4 s (i + 1))
theorem aj5 {s : List Int} {j : Nat} (h : j ≤ s.length) : ao4 s j ≤ s.length := aC6 Z9 _ _ h
theorem aj4 (s : List Int) (j : Nat) : j ≤ ao4 s j := av9 _ _
theorem I0 {s : List Int} {j : Nat} {c : Int} (h : get s j = c) (hc : c ≠ 0) : j < s.length := by
 rcases Nat.lt_or_ge j s.length with h' | h'
 ·exact h'
 ·rw [H2 h'] at h; exact absurd h.symm hc
theorem ai6 {s : List Int} {j : Nat} (h : n8 (get s j) = true) : j < s.length := by
 rcases Nat.lt_or_ge j s.length with h' | h'
 ·exact h'
 ·rw [H2 h'] at h; cases h
theorem aE7 {s : List Int} {i j : Nat} (h : j ≤ s.length) (hi : i ≤ j) (hd : digits s i j) : digits s i (ao4 s j) := by
 have hle := aj5 h
 have hge := aj4 s j
 obtain ⟨m, hm⟩ : ∃ m, ao4 s j = i + m := ⟨ao4 s j - i, by omega⟩
 intro c hc
 rw [hm] at hc
 refine aJ7 (p := n8) (a := i) m (by omega) (fun k h1 h2 => ?_) c hc
 rcases Nat.lt_or_ge k j with h3 | h3
 ·refine hd _ ?_
  unfold K0 get
  rw [List.mem_iff_getElem?]
  refine ⟨k - i, ?_⟩
  rw [List.getElem?_drop, List.getElem?_take, if_pos (by omega), List.getD_eq_getElem?_getD]
  rw [show i + (k - i) = k by omega, List.getElem?_eq_getElem (by omega)]; rfl
 ·exact aF4 (q := dq s) s.length j k h3 (by show k < ao4 s j; omega)
variable {s : List Int} (hs : s.length ≤ 2097152)
include hs
theorem aT5 {i k w : Nat} (hi : i ≤ 2097152) (hk : k ≤ s.length) : Evt fun n => C1 (S.tab n) s (i : Int) (2, (i : Int), 0, 0, 0, ([] : List Int), ()) (k : Int) (w : Int) =
  some (bif n8 (get s k) then Sum.inr (Sum.inl (s, (i : Int), (2, (i : Int), 0, 0, 0, ([] : List Int), ()), (ao4 s k : Int), (w : Int), ())) else Sum.inl ((2, (i : Int), (k : Int), 0, 0, ([] : List Int), ()), true, ())) := by
 refine ((an1 hs (i : Int) (2, (i : Int), 0, 0, 0, ([] : List Int), ()) (w : Int) k).and n9).up fun n ⟨h, hb⟩ => ?_
 show C1 (S.step (S.tab n)) _ _ _ _ _ = _
 rw [am0]
 by_cases hl : k < s.length
 ·rw [l9 (by simp only [decide_eq_false_iff_not]; omega), j7 (j8 hl), j9, hb.idigit, h]
  simp only [Option.bind_some, B9, Sum.elim_inl]
  cases n8 (get s k) with
  | true => rw [l9 (by rfl)]; rfl
  | false => rw [j7 (by rfl)]; rfl
 ·rw [j7 (by simp only [decide_eq_true_eq]; omega), H2 (by omega)]; rfl
theorem az6 {i j w : Nat} (hij : i < w) (hw : w ≤ j) (hj : j ≤ s.length) (hd : j = w → digits s i j) :
  Evt fun n => ∃ t' b, A2 (S.tab n) s (i : Int) (2, (i : Int), 0, 0, 0, ([] : List Int), ()) (j : Int) (w : Int) = some (Sum.inl (t', b, ())) ∧ IR (aU3 s i j (!decide (j = w))) t' b := by
 have e1 : IntKind.i64.wrap ((j : Int) + 1) = ((j + 1 : Nat) : Int) := H9 (by omega)
 have e2 : IntKind.i64.wrap (((j + 1 : Nat) : Int) + 1) = ((j + 2 : Nat) : Int) := H9 (by omega)
 by_cases he : get s j = 101
 ·have hjl := I0 he (by decide)
  have hkl : ak1 s j ≤ s.length := by
   unfold ak1
   by_cases h : get s (j + 1) = 43
   ·have := I0 h (by decide)
    rw [decide_eq_true h]; simp only [Bool.true_or, cond_true]; omega
   ·by_cases h' : get s (j + 1) = 45
    ·have := I0 h' (by decide)
     rw [decide_eq_true h']; simp only [Bool.or_true, cond_true]; omega
    ·rw [decide_eq_false h, decide_eq_false h']; simp only [Bool.or_false, cond_false]; omega
  have hkj : j < ak1 s j := by unfold ak1; cases decide (get s (j + 1) = 43) || decide (get s (j + 1) = 45) <;> simp
  have key : ∀ T, A2 (S.step T) s (i : Int) (2, (i : Int), 0, 0, 0, ([] : List Int), ()) (j : Int) (w : Int) = (C1 T s (i : Int) (2, (i : Int), 0, 0, 0, ([] : List Int), ()) (ak1 s j : Int) (w : Int)).bind (aa5 (fun y26 => some (Sum.inl y26)) (fun y26 => (v8 T y26.1 y26.2.1 y26.2.2.1 y26.2.2.2.1 y26.2.2.2.2.1).bind (B9 (fun y31 => some (Sum.inl y31))))) := fun T => by
   rw [X4, chk (by decide), j7 (decide_eq_true he), e1, e2]
   unfold ak1
   by_cases hl : j + 1 < s.length
   ·rw [j7 (by simp only [decide_eq_true_eq]; omega), j7 (j8 hl), j7 (j8 hl), j9]
    by_cases h : get s (j + 1) = 43
    ·rw [j7 (decide_eq_true h), decide_eq_true h]; rfl
    ·rw [l9 (decide_eq_false h), decide_eq_false h]
     by_cases h' : get s (j + 1) = 45
     ·rw [j7 (decide_eq_true h'), decide_eq_true h']; rfl
     ·rw [l9 (decide_eq_false h'), decide_eq_false h']; rfl
   ·rw [l9 (by simp only [decide_eq_false_iff_not]; omega), H2 (by omega)]; rfl
  have hex : aU3 s i j (!decide (j = w)) = bif n8 (get s (ak1 s j)) then .inr (R7 s i (ao4 s (ak1 s j)) true) else .inl (ak1 s j) := by
   unfold aU3; rw [decide_eq_true he]; rfl
  have h26 := aT5 hs (i := i) (w := w) (by omega) hkl
  have hge := aj4 s (ak1 s j)
  have h31 := V7 hs (i := i) (j := ao4 s (ak1 s j)) (w := w) (by omega) (aj5 hkl) (fun e => by omega)
  refine (h26.and h31).up fun n ⟨h, h'⟩ => ?_
  show ∃ t' b, A2 (S.step (S.tab n)) _ _ _ _ _ = _ ∧ _
  rw [key, h, hex]
  cases hdg : n8 (get s (ak1 s j)) with
  | true =>
   simp only [cond_true, Option.bind_some, aa5, Sum.elim_inr, Sum.elim_inl]
   rw [h', decide_eq_false (show ¬ ao4 s (ak1 s j) = w by omega)]
   exact ⟨_, _, rfl, rfl, rfl⟩
  | false =>
   simp only [cond_false, Option.bind_some, aa5, Sum.elim_inl]
   exact ⟨_, _, rfl, rfl, rfl⟩
 ·have hex : aU3 s i j (!decide (j = w)) = .inr (R7 s i j (!decide (j = w))) := by
   unfold aU3; rw [decide_eq_false he]; rfl
  refine (V7 hs (by omega) hj hd).up fun n h => ?_
  show ∃ t' b, A2 (S.step (S.tab n)) _ _ _ _ _ = _ ∧ _
  rw [X4, chk (by decide), l9 (decide_eq_false he), h, hex]
  exact ⟨_, _, rfl, rfl, rfl⟩
theorem av5 {i j : Nat} (hij : i < j) (hj : j ≤ s.length) (hd : digits s i j) :
  Evt fun n => ∃ t' b, w8 (S.tab n) s (i : Int) (2, (i : Int), 0, 0, 0, ([] : List Int), ()) (j : Int) = some (Sum.inl (t', b, ())) ∧ IR (aS5 s i j) t' b := by
 have e1 : IntKind.i64.wrap ((j : Int) + 1) = ((j + 1 : Nat) : Int) := H9 (by omega)
 by_cases hf : get s j = 46 ∧ n8 (get s (j + 1)) = true
 ·have hl := ai6 hf.2
  have hge := aj4 s (j + 1)
  have hle := aj5 (s := s) (j := j + 1) (by omega)
  have h20 := al2 hs (i : Int) (2, (i : Int), 0, 0, 0, ([] : List Int), ()) (j : Int) (j + 1)
  have h22 := az6 hs (i := i) (j := ao4 s (j + 1)) (w := j) hij (by omega) hle (fun e => by omega)
  refine ((h20.and h22).and n9).up fun n ⟨⟨h, t', b, h', hr⟩, hb⟩ => ?_
  show ∃ t' b, w8 (S.step (S.tab n)) _ _ _ _ = _ ∧ _
  rw [V8, e1, j7 (by simp only [decide_eq_true_eq]; omega), j7 (j8 (show j < s.length by omega)), j9, j7 (decide_eq_true hf.1), j7 (j8 hl), j9, hb.idigit, hf.2]
  simp only [Option.bind_some]
  rw [j7 rfl, h]
  simp only [Option.bind_some, B9, Sum.elim_inl]
  rw [h']
  refine ⟨t', b, rfl, ?_⟩
  rw [decide_eq_false (show ¬ ao4 s (j + 1) = j by omega)] at hr
  unfold aS5
  rw [decide_eq_true hf.1, hf.2]; exact hr
 ·have hfr : aS5 s i j = aU3 s i j (!decide (j = j)) := by
   unfold aS5
   rw [decide_eq_true (show j = j from rfl)]
   by_cases h : get s j = 46
   ·have : n8 (get s (j + 1)) = false := by
     cases hx : n8 (get s (j + 1)) with
     | true => exact absurd ⟨h, hx⟩ hf
     | false => rfl
    rw [this, Bool.and_false]; rfl
   ·rw [decide_eq_false h]; rfl
  have h22 := az6 hs (i := i) (j := j) (w := j) hij (by omega) hj (fun _ => hd)
  rw [hfr]
  refine (h22.and n9).up fun n ⟨⟨t', b, h', hr⟩, hb⟩ => ?_
  show ∃ t' b, w8 (S.step (S.tab n)) _ _ _ _ = _ ∧ _
  refine ⟨t', b, ?_, hr⟩
  rw [V8, e1]
  by_cases hl : j + 1 < s.length
  ·rw [j7 (by simp only [decide_eq_true_eq]; omega), j7 (j8 (show j < s.length by omega)), j9]
   by_cases h : get s j = 46
   ·have : n8 (get s (j + 1)) = false := by
     cases hx : n8 (get s (j + 1)) with
     | true => exact absurd ⟨h, hx⟩ hf
     | false => rfl
    rw [j7 (decide_eq_true h), j7 (j8 hl), j9, hb.idigit, this]
    simp only [Option.bind_some]
    rw [l9 rfl, h']; rfl
   ·rw [l9 (decide_eq_false h), h']; rfl
  ·rw [l9 (by simp only [decide_eq_false_iff_not]; omega), h']; rfl
omit hs in
theorem af8 {i : Nat} (hi : i < s.length) (h : n8 (get s i) = true) : digits s i (i + 1) := by
 intro c hc
 rw [M5 (Nat.le_refl _) hi, S3] at hc
 have : c = get s i := by simpa using hc
 rw [this]; exact h
theorem aA9 {i : Nat} (hi : i < s.length) (hd : n8 (get s i) = true) : Evt fun n => ∃ t' b, I4 (S.tab n) s (i : Int) = some ((t', b, ()), s5) ∧ IR (P8 s i) t' b := by
 by_cases h0 : get s i = 48
 ·by_cases hx : get s (i + 1) = 120
  ·have hl := I0 hx (by decide)
   have : P8 s i = M7 s i := by unfold P8; rw [decide_eq_true h0, decide_eq_true hx]; rfl
   rw [this]
   exact az5 hs (by omega) h0 hx
  ·have e : P8 s i = aS5 s i (i + 1) := by unfold P8; rw [decide_eq_true h0, decide_eq_false hx]; rfl
   rw [e]
   have e1 : IntKind.i64.wrap ((i : Int) + 1) = ((i + 1 : Nat) : Int) := H9 (by omega)
   refine (av5 hs (i := i) (j := i + 1) (by omega) (by omega) (af8 hi hd)).up fun n ⟨t', b, h', hr⟩ => ⟨t', b, ?_, hr⟩
   show I4 (S.step (S.tab n)) _ _ = _
   rw [O5, e1, j7 (j8 hi), j9, j7 (decide_eq_true h0)]
   by_cases hl : i + 1 < s.length
   ·rw [j7 (by simp only [decide_eq_true_eq]; omega), j7 (j8 hl), j9, l9 (decide_eq_false hx), j7 (j8 hi), l9 (by rw [decide_eq_true h0]; rfl), h']; rfl
   ·rw [l9 (by simp only [decide_eq_false_iff_not]; omega), j7 (j8 hi), l9 (by rw [decide_eq_true h0]; rfl), h']; rfl
 ·have e : P8 s i = aS5 s i (ao4 s (i + 1)) := by unfold P8; rw [decide_eq_false h0]; rfl
  rw [e]
  have e1 : IntKind.i64.wrap ((i : Int) + 1) = ((i + 1 : Nat) : Int) := H9 (by omega)
  have hge := aj4 s (i + 1)
  have hle := aj5 (s := s) (j := i + 1) (by omega)
  have h15 := am8 hs (i : Int) (2, (i : Int), 0, 0, 0, ([] : List Int), ()) (i + 1)
  refine (h15.and (av5 hs (i := i) (j := ao4 s (i + 1)) (by omega) hle (aE7 (by omega) (by omega) (af8 hi hd)))).up fun n ⟨h, t', b, h', hr⟩ => ⟨t', b, ?_, hr⟩
  show I4 (S.step (S.tab n)) _ _ = _
  rw [O5, e1, j7 (j8 hi), j9, l9 (decide_eq_false h0), j7 (j8 hi), j7 (by rw [decide_eq_false h0]; rfl), h]
  simp only [Option.bind_some, B9, Sum.elim_inl]
  rw [h']; rfl
theorem ai2 {i j : Nat} (f : Bool) (hij : i < j) (hj : j ≤ s.length) (t4 : j2.den) (hd : f = false → digits s i j) :
  Evt fun n => ∃ t' b, p9 (S.tab n) s (bif f then 3 else 2, (i : Int), 0, 0, 0, ([] : List Int), ()) t4 (j : Int) = some (Sum.inl (t', b, ())) ∧ SR (aU3 s i j f) t' b := by
 have e1 : IntKind.i64.wrap ((j : Int) + 1) = ((j + 1 : Nat) : Int) := H9 (by omega)
 have e2 : IntKind.i64.wrap (((j + 1 : Nat) : Int) + 1) = ((j + 2 : Nat) : Int) := H9 (by omega)
 by_cases he : get s j = 101
 ·have hjl := I0 he (by decide)
  have hkj : j < ak1 s j := by unfold ak1; cases decide (get s (j + 1) = 43) || decide (get s (j + 1) = 45) <;> simp
  have hex : aU3 s i j f = bif n8 (get s (ak1 s j)) then .inr (R7 s i (ao4 s (ak1 s j)) true) else .inl (ak1 s j) := by
   unfold aU3; rw [decide_eq_true he]; rfl
  have key : ∀ n, Base2 (S.tab n) → p9 (S.step (S.tab n)) s (bif f then 3 else 2, (i : Int), 0, 0, 0, ([] : List Int), ()) t4 (j : Int) =
    brk (!n8 (get s (ak1 s j))) (some (Sum.inl ((3, (i : Int), 0, 0, 0, ([] : List Int), ()), (ak1 s j : Int), ()))) ((q8 (S.tab n) s (3, (i : Int), 0, 0, 0, ([] : List Int), ()) t4 (ak1 s j : Int)).bind (B9 (fun y21 => (p8 (S.tab n) y21.1 y21.2.1 y21.2.2.1 y21.2.2.2.1).bind (B9 (fun y23 => some (Sum.inl y23)))))) := fun n hb => by
   rw [Q8, hb.look]
   simp only [Option.bind_some]
   rw [j7 (decide_eq_true he), e1, e2, hb.look]
   simp only [Option.bind_some]
   unfold ak1
   by_cases h' : get s (j + 1) = 45
   ·rw [j7 (decide_eq_true h'), decide_eq_true h', Bool.or_true, hb.look]
    simp only [Option.bind_some, hb.sdigit, cond_true]
   ·rw [l9 (decide_eq_false h'), decide_eq_false h', Bool.or_false]
    by_cases h : get s (j + 1) = 43
    ·rw [j7 (decide_eq_true h), decide_eq_true h, hb.look]
     simp only [Option.bind_some, hb.sdigit, cond_true]
    ·rw [l9 (decide_eq_false h), decide_eq_false h]
     simp only [Option.bind_some, hb.sdigit, cond_false]
  cases hdg : n8 (get s (ak1 s j)) with
  | true =>
   have hl := ai6 hdg
   have hge := aj4 s (ak1 s j)
   have h21 := ag4 hs (3, (i : Int), 0, 0, 0, ([] : List Int), ()) t4 (ak1 s j)
   have h23 := as0 (s := s) (i := i) (j := ao4 s (ak1 s j)) (by omega) (aj5 (by omega)) t4
   refine ((h21.and h23).and n9).up fun n ⟨⟨h, h'⟩, hb⟩ => ?_
   show ∃ t' b, p9 (S.step (S.tab n)) _ _ _ _ = _ ∧ _
   rw [key n hb, hex, hdg, l9 (by rfl), h]
   simp only [cond_true, Option.bind_some, B9, Sum.elim_inl]
   rw [h']
   exact ⟨_, _, rfl, rfl, rfl⟩
  | false =>
   refine n9.up fun n hb => ?_
   show ∃ t' b, p9 (S.step (S.tab n)) _ _ _ _ = _ ∧ _
   rw [key n hb, hex, hdg, j7 (by rfl)]
   exact ⟨_, _, rfl, rfl⟩
 ·have hex : aU3 s i j f = .inr (R7 s i j f) := by
   unfold aU3; rw [decide_eq_false he]; rfl
  have h23 : Evt fun n => p8 (S.tab n) s (bif f then 3 else 2, (i : Int), 0, 0, 0, ([] : List Int), ()) t4 (j : Int) = some (Sum.inl (R7 s i j f, -1, ())) := by
   cases f with
   | true => exact as0 (s := s) hij hj t4
   | false => exact aO6 hs hij hj t4 (hd rfl)
  refine (h23.and n9).up fun n ⟨h, hb⟩ => ?_
  show ∃ t' b, p9 (S.step (S.tab n)) _ _ _ _ = _ ∧ _
  rw [Q8, hb.look]
  simp only [Option.bind_some]
  rw [l9 (decide_eq_false he), h, hex]
  exact ⟨_, _, rfl, rfl, rfl⟩
theorem aC4 {i j : Nat} (hij : i < j) (hj : j ≤ s.length) (t4 : j2.den) (hd : digits s i j) :
  Evt fun n => ∃ t' b, x7 (S.tab n) s (2, (i : Int), 0, 0, 0, ([] : List Int), ()) t4 (j : Int) = some (Sum.inl (t', b, ())) ∧ SR (aS5 s i j) t' b := by
 have e1 : IntKind.i64.wrap ((j : Int) + 1) = ((j + 1 : Nat) : Int) := H9 (by omega)
 by_cases h : get s j = 46
 ·cases hx : n8 (get s (j + 1)) with
  | true =>
   have hl := ai6 hx
   have hge := aj4 s (j + 1)
   have hle := aj5 (s := s) (j := j + 1) (by omega)
   have h12 := ag6 hs (3, (i : Int), 0, 0, 0, ([] : List Int), ()) t4 (j + 1)
   have h14 := ai2 hs (i := i) (j := ao4 s (j + 1)) true (by omega) hle t4 (fun e => by cases e)
   refine ((h12.and h14).and n9).up fun n ⟨⟨h1, t', b, h2, hr⟩, hb⟩ => ⟨t', b, ?_, ?_⟩
   ·show x7 (S.step (S.tab n)) _ _ _ _ = _
    rw [K7, hb.look]
    simp only [Option.bind_some]
    rw [j7 (decide_eq_true h), e1, hb.look]
    simp only [Option.bind_some, hb.sdigit, hx]
    rw [j7 rfl, h1]
    simp only [Option.bind_some, B9, Sum.elim_inl]
    rw [show ((3 : Int), (i : Int), (0 : Int), (0 : Int), (0 : Int), ([] : List Int), ()) = (bif true then 3 else 2, (i : Int), 0, 0, 0, ([] : List Int), ()) from rfl, h2]; rfl
   ·unfold aS5
    rw [decide_eq_true h, hx]; exact hr
  | false =>
   have h14 := ai2 hs (i := i) (j := j) false hij hj t4 (fun _ => hd)
   refine (h14.and n9).up fun n ⟨⟨t', b, h2, hr⟩, hb⟩ => ⟨t', b, ?_, ?_⟩
   ·show x7 (S.step (S.tab n)) _ _ _ _ = _
    rw [K7, hb.look]
    simp only [Option.bind_some]
    rw [j7 (decide_eq_true h), e1, hb.look]
    simp only [Option.bind_some, hb.sdigit, hx]
    have h2 : p9 (S.tab n) s (2, (i : Int), 0, 0, 0, ([] : List Int), ()) t4 (j : Int) = _ := h2
    rw [l9 rfl, h2]; rfl
   ·unfold aS5
    rw [hx, Bool.and_false]; exact hr
 ·have h14 := ai2 hs (i := i) (j := j) false hij hj t4 (fun _ => hd)
  refine (h14.and n9).up fun n ⟨⟨t', b, h2, hr⟩, hb⟩ => ⟨t', b, ?_, ?_⟩
  ·show x7 (S.step (S.tab n)) _ _ _ _ = _
   rw [K7, hb.look]
   simp only [Option.bind_some]
   have h2 : p9 (S.tab n) s (2, (i : Int), 0, 0, 0, ([] : List Int), ()) t4 (j : Int) = _ := h2
   rw [l9 (decide_eq_false h), h2]; rfl
  ·unfold aS5
   rw [decide_eq_false h]; exact hr
theorem as7 {i : Nat} (hi : i < s.length) (hd : n8 (get s i) = true) : Evt fun n => ∃ t' b, I5 (S.tab n) s (0, (i : Int), 0, 0, 0, ([] : List Int), ()) = some ((t', b, ()), F4) ∧ SR (P8 s i) t' b := by
 have e1 : IntKind.i64.wrap ((i : Int) + 1) = ((i + 1 : Nat) : Int) := H9 (by omega)
 by_cases h0 : get s i = 48
 ·by_cases hx : get s (i + 1) = 120
  ·have hl := I0 hx (by decide)
   have e : P8 s i = M7 s i := by unfold P8; rw [decide_eq_true h0, decide_eq_true hx]; rfl
   rw [e]
   refine ((az1 hs (i := i) (by omega)).and n9).up fun n ⟨⟨t', b, h, hr⟩, hb⟩ => ⟨t', b, ?_, hr⟩
   show I5 (S.step (S.tab n)) _ _ = _
   rw [Q4]
   simp only [e1]
   rw [j7 (j8 hi), j9, j7 (decide_eq_true h0), hb.look]
   simp only [Option.bind_some]
   rw [j7 (decide_eq_true hx), h]; rfl
  ·have e : P8 s i = aS5 s i (i + 1) := by unfold P8; rw [decide_eq_true h0, decide_eq_false hx]; rfl
   rw [e]
   refine ((aC4 hs (i := i) (j := i + 1) (by omega) (by omega) (0, 0, 0, 0, 0, ([] : List Int), ()) (af8 hi hd)).and n9).up fun n ⟨⟨t', b, h, hr⟩, hb⟩ => ⟨t', b, ?_, hr⟩
   show I5 (S.step (S.tab n)) _ _ = _
   rw [Q4]
   simp only [e1]
   rw [j7 (j8 hi), j9, j7 (decide_eq_true h0), hb.look]
   simp only [Option.bind_some]
   rw [l9 (decide_eq_false hx), j7 (j8 hi), l9 (by rw [decide_eq_true h0]; rfl), h]; rfl
 ·have e : P8 s i = aS5 s i (ao4 s (i + 1)) := by unfold P8; rw [decide_eq_false h0]; rfl
  rw [e]
  have hge := aj4 s (i + 1)
  have hle := aj5 (s := s) (j := i + 1) (by omega)
  have h7 := ai5 hs (2, (i : Int), 0, 0, 0, ([] : List Int), ()) (0, 0, 0, 0, 0, ([] : List Int), ()) (i + 1)
  refine (h7.and (aC4 hs (i := i) (j := ao4 s (i + 1)) (by omega) hle (0, 0, 0, 0, 0, ([] : List Int), ()) (aE7 (by omega) (by omega) (af8 hi hd)))).up fun n ⟨h1, t', b, h, hr⟩ => ⟨t', b, ?_, hr⟩
  show I5 (S.step (S.tab n)) _ _ = _
  rw [Q4]
  simp only [e1]
  rw [j7 (j8 hi), j9, l9 (decide_eq_false h0), j7 (j8 hi), j7 (by rw [decide_eq_false h0]; rfl), h1]
  simp only [Option.bind_some, B9, Sum.elim_inl]
  rw [h]; rfl
end Go.Abs.D
end

section
namespace Go.Abs.D
def M3 (s : List Int) : Nat → Nat → List Int → Nat ⊕ (Nat × List Int)
 | 0, j, _ => .inl j
 | k + 1, j, o =>
  bif decide (s.length ≤ j) then .inl j else
  bif decide (get s j = 10) then .inl j else
  bif decide (get s j = 34) then .inr (j + 1, o) else
  bif !decide (get s j = 92) then M3 s k (j + 1) (o ++ [get s j]) else
  bif decide (get s (j + 1) = 110) then M3 s k (j + 2) (o ++ [10]) else
  bif decide (get s (j + 1) = 116) then M3 s k (j + 2) (o ++ [9]) else
  bif decide (get s (j + 1) = 34) then M3 s k (j + 2) (o ++ [34]) else
  bif decide (get s (j + 1) = 92) then M3 s k (j + 2) (o ++ [92]) else
  bif !decide (get s (j + 1) = 120) then .inl (j + 1) else
  bif !J1 (get s (j + 2)) then .inl (j + 2) else
  bif !J1 (get s (j + 3)) then .inl (j + 3) else
  M3 s k (j + 4) (o ++ [Q9 (get s (j + 2)) * 16 + Q9 (get s (j + 3))])
def bn5 (i : Nat) : Nat ⊕ (Nat × List Int) → Nat ⊕ j2.den
 | .inl e => .inl e
 | .inr (e, o) => .inr (4, (i : Int), (e : Int), 0, 0, o.map byte, ())
def bg2 (s : List Int) (i : Nat) : Nat ⊕ j2.den := bn5 i (M3 s s.length (i + 1) [])
variable {s : List Int} (hs : s.length ≤ 2097152)
include hs
omit hs in
theorem aw1 {j : Nat} (h : J1 (get s j) = true) : j < s.length := by
 rcases Nat.lt_or_ge j s.length with h' | h'
 ·exact h'
 ·rw [H2 h'] at h; cases h
omit hs in
theorem bp5 (t4 : j2.den) (o : List Int) (j : Nat) : Evt fun n => E7 (S.tab n) s t4 o (j : Int) 4 = some (Sum.inr (Sum.inl (s, t4, o, (j : Int), ()))) := by
 refine n9.up fun n hb => ?_
 show E7 (S.step (S.tab n)) _ _ _ _ _ = _
 rw [U3, l9 (by decide)]
theorem bq7 (t4 : j2.den) (o : List Int) (j : Nat) (hj : j < s.length) : Evt fun n => E7 (S.tab n) s t4 o (j : Int) 3 =
  some (bif J1 (get s (j + 3)) then Sum.inr (Sum.inl (s, t4, o, (j : Int), ())) else Sum.inl ((t4.1, t4.2.1, ((j + 3 : Nat) : Int), t4.2.2.2), true, ())) := by
 have e : IntKind.i64.wrap ((j : Int) + 3) = ((j + 3 : Nat) : Int) := by rw [wrap64 _ (by omega) (by omega)]; omega
 have e4 : IntKind.i64.wrap ((3 : Int) + 1) = 4 := by decide
 refine ((bp5 (s := s) t4 o j).and n9).up fun n ⟨h, hb⟩ => ?_
 show E7 (S.step (S.tab n)) _ _ _ _ _ = _
 rw [U3, j7 (by decide), e, e4, h]
 by_cases hl : j + 3 < s.length
 ·rw [l9 (by simp only [decide_eq_false_iff_not]; omega), j7 (j8 hl), j9, hb.ihex]
  simp only [Option.bind_some]
  cases J1 (get s (j + 3)) with
  | true => rw [l9 (by rfl)]; rfl
  | false => rw [j7 (by rfl)]; rfl
 ·rw [j7 (by simp only [decide_eq_true_eq]; omega), H2 (by omega)]; rfl
theorem bo8 (t4 : j2.den) (o : List Int) (j : Nat) (hj : j < s.length) : Evt fun n => E7 (S.tab n) s t4 o (j : Int) 2 =
  some (bif J1 (get s (j + 2)) then (bif J1 (get s (j + 3)) then Sum.inr (Sum.inl (s, t4, o, (j : Int), ())) else Sum.inl ((t4.1, t4.2.1, ((j + 3 : Nat) : Int), t4.2.2.2), true, ())) else Sum.inl ((t4.1, t4.2.1, ((j + 2 : Nat) : Int), t4.2.2.2), true, ())) := by
 have e : IntKind.i64.wrap ((j : Int) + 2) = ((j + 2 : Nat) : Int) := by rw [wrap64 _ (by omega) (by omega)]; omega
 have e3 : IntKind.i64.wrap ((2 : Int) + 1) = 3 := by decide
 refine ((bq7 hs t4 o j hj).and n9).up fun n ⟨h, hb⟩ => ?_
 show E7 (S.step (S.tab n)) _ _ _ _ _ = _
 rw [U3, j7 (by decide), e, e3, h]
 by_cases hl : j + 2 < s.length
 ·rw [l9 (by simp only [decide_eq_false_iff_not]; omega), j7 (j8 hl), j9, hb.ihex]
  simp only [Option.bind_some]
  cases J1 (get s (j + 2)) with
  | true => rw [l9 (by rfl)]; rfl
  | false => rw [j7 (by rfl)]; rfl
 ·rw [j7 (by simp only [decide_eq_true_eq]; omega), H2 (show s.length ≤ j + 2 by omega)]; rfl
omit hs in
theorem bq4 (t3 t4 : j2.den) (o : List Int) (j : Nat) : Evt fun n => s8 (S.tab n) s t3 t4 (j : Int) o 3 = some (Sum.inr (Sum.inl (s, t3, t4, (j : Int), o, ()))) := by
 refine n9.up fun n hb => ?_
 show s8 (S.step (S.tab n)) _ _ _ _ _ _ = _
 rw [J8, l9 (by decide)]
omit hs in
theorem bg5 (c : Int) : decide (Q9 c < 0) = !J1 c := by
 rw [← N7]
 by_cases h : 0 ≤ Q9 c
 ·rw [decide_eq_true h, decide_eq_false (by omega)]; rfl
 ·rw [decide_eq_false h, decide_eq_true (by omega)]; rfl
theorem bq5 (t3 t4 : j2.den) (o : List Int) (j : Nat) (hj : j ≤ s.length) : Evt fun n => s8 (S.tab n) s t3 t4 (j : Int) o 2 =
  some (bif J1 (get s (j + 2)) then Sum.inr (Sum.inl (s, t3, t4, (j : Int), o, ())) else Sum.inl (t3, ((j + 2 : Nat) : Int), ())) := by
 have e : IntKind.i64.wrap ((j : Int) + 2) = ((j + 2 : Nat) : Int) := by rw [wrap64 _ (by omega) (by omega)]; omega
 have e3 : IntKind.i64.wrap ((2 : Int) + 1) = 3 := by decide
 refine ((bq4 (s := s) t3 t4 o j).and n9).up fun n ⟨h, hb⟩ => ?_
 show s8 (S.step (S.tab n)) _ _ _ _ _ _ = _
 rw [J8, j7 (by decide), e, e3, h, hb.look]
 simp only [Option.bind_some, hb.shex, bg5]
 cases J1 (get s (j + 2)) with
 | true => rw [l9 (by rfl)]; rfl
 | false => rw [j7 (by rfl)]; rfl
theorem bp9 (t3 t4 : j2.den) (o : List Int) (j : Nat) (hj : j ≤ s.length) : Evt fun n => s8 (S.tab n) s t3 t4 (j : Int) o 1 =
  some (bif J1 (get s (j + 1)) then (bif J1 (get s (j + 2)) then Sum.inr (Sum.inl (s, t3, t4, (j : Int), o, ())) else Sum.inl (t3, ((j + 2 : Nat) : Int), ())) else Sum.inl (t3, ((j + 1 : Nat) : Int), ())) := by
 have e : IntKind.i64.wrap ((j : Int) + 1) = ((j + 1 : Nat) : Int) := H9 (by omega)
 have e3 : IntKind.i64.wrap ((1 : Int) + 1) = 2 := by decide
 refine ((bq5 hs t3 t4 o j hj).and n9).up fun n ⟨h, hb⟩ => ?_
 show s8 (S.step (S.tab n)) _ _ _ _ _ _ = _
 rw [J8, j7 (by decide), e, e3, h, hb.look]
 simp only [Option.bind_some, hb.shex, bg5]
 cases J1 (get s (j + 1)) with
 | true => rw [l9 (by rfl)]; rfl
 | false => rw [j7 (by rfl)]; rfl
def aw0 (c : Int) : Int := bif decide (c = 110) then 0 else bif decide (c = 116) then 1 else bif decide (c = 34) then 2 else bif decide (c = 92) then 3 else -1
omit hs in
theorem bk2 (c : Int) (h : isByte c) : Bld.idx [110, 116, 34, 92] (byte c) 0 = aw0 c := by
 rw [aT0 h]
 unfold aw0
 simp only [Bld.idx]
 by_cases h1 : c = 110
 ·subst h1; rfl
 by_cases h2 : c = 116
 ·subst h2; rfl
 by_cases h3 : c = 34
 ·subst h3; rfl
 by_cases h4 : c = 92
 ·subst h4; rfl
 have e1 := Ne.symm h1
 have e2 := Ne.symm h2
 have e3 := Ne.symm h3
 have e4 := Ne.symm h4
 simp [h1, h2, h3, h4, e1, e2, e3, e4]
omit hs in
theorem bd3 (hb : ∀ c ∈ s, isByte c) (j : Nat) : isByte (get s j) := by
 rcases Nat.lt_or_ge j s.length with h | h
 ·unfold get
  rw [List.getD_eq_getElem?_getD, List.getElem?_eq_getElem h]
  exact hb _ (List.getElem_mem h)
 ·rw [H2 h]; exact ⟨by decide, by decide⟩
omit hs in
theorem ad4 : Evt fun n => ∀ c, isByte c → s6 (S.tab n) [110, 116, 34, 92] c = some (aw0 c, K6) := by
 have h1 : Evt fun n => ∀ c, isByte c → s4 (S.tab n) [110, 116, 34, 92] c = some (aw0 c, K2) := n9.up fun n _ c hc => by
  show s4 (S.step (S.tab n)) _ _ = _
  rw [J0]
  unfold Bld.Y1
  rw [Option.bind_some, bk2 c hc]
 exact h1.up fun n h c hc => by
  show s6 (S.step (S.tab n)) _ _ = _
  rw [Q7, h c hc]; rfl
omit hs in
theorem a92 (a b : Int) (ha : J1 a = true) (hb : J1 b = true) : hv 0 [a, b] = Q9 a * 16 + Q9 b ∧ 0 ≤ Q9 a * 16 + Q9 b ∧ Q9 a * 16 + Q9 b < 256 := by
 have := aa1 ha
 have := aa1 hb
 have := af2 a
 have := af2 b
 refine ⟨?_, by omega, by omega⟩
 show (0 * 16 + Q9 a) * 16 + Q9 b = _
 omega
omit hs in
theorem aK2 {j : Nat} (h : j + 2 ≤ s.length) : K0 s j (j + 2) = [get s j, get s (j + 1)] := by
 rw [show j + 2 = j + 1 + 1 from rfl, M5 (by omega) (by omega), M5 (by omega) (by omega), S3]; rfl
theorem aH8 (hb8 : ∀ c ∈ s, isByte c) (i : Nat) : ∀ (k j : Nat) (o : List Int), s.length ≤ j + k → j ≤ s.length → o.length ≤ j →
  Evt fun n => ∃ t' b, o9 (S.tab n) s (4, (i : Int), 0, 0, 0, ([] : List Int), ()) o (j : Int) = some (Sum.inl (t', b, ())) ∧ IR (bn5 i (M3 s k j o)) t' b := by
 intro k
 induction k with
 | zero =>
  intro j o hk hj ho
  refine n9.up fun n hb => ?_
  show ∃ t' b, o9 (S.step (S.tab n)) _ _ _ _ = _ ∧ _
  rw [F9, j7 (by simp only [decide_eq_true_eq]; omega)]
  exact ⟨_, _, rfl, rfl, rfl⟩
 | succ k ih =>
  intro j o hk hj ho
  have w1 : IntKind.i64.wrap ((j : Int) + 1) = ((j + 1 : Nat) : Int) := H9 (by omega)
  have w2 : IntKind.i64.wrap ((j : Int) + 2) = ((j + 2 : Nat) : Int) := by rw [wrap64 _ (by omega) (by omega)]; omega
  have w4 : IntKind.i64.wrap ((j : Int) + 4) = ((j + 4 : Nat) : Int) := by rw [wrap64 _ (by omega) (by omega)]; omega
  have hf : ∀ x : Int, fits (o.length + [x].length) = true := fun x => F5 (by unfold lim; simp only [List.length_singleton]; omega)
  by_cases hl : s.length ≤ j
  ·have hR : M3 s (k + 1) j o = .inl j := by unfold M3; rw [decide_eq_true hl]; rfl
   rw [hR]
   refine n9.up fun n hb => ?_
   show ∃ t' b, o9 (S.step (S.tab n)) _ _ _ _ = _ ∧ _
   rw [F9, j7 (by simp only [decide_eq_true_eq]; omega)]
   exact ⟨_, _, rfl, rfl, rfl⟩
  have hl' : j < s.length := by omega
  have hin := j8 hl'
  have hnl : decide ((s.length : Int) ≤ (j : Int)) = false := by simp only [decide_eq_false_iff_not]; omega
  by_cases c10 : get s j = 10
  ·have hR : M3 s (k + 1) j o = .inl j := by unfold M3; rw [decide_eq_false hl, decide_eq_true c10]; rfl
   rw [hR]
   refine n9.up fun n hb => ?_
   show ∃ t' b, o9 (S.step (S.tab n)) _ _ _ _ = _ ∧ _
   rw [F9, l9 hnl, j7 hin, j9, j7 (decide_eq_true c10)]
   exact ⟨_, _, rfl, rfl, rfl⟩
  by_cases c34 : get s j = 34
  ·have hR : M3 s (k + 1) j o = .inr (j + 1, o) := by unfold M3; rw [decide_eq_false hl, decide_eq_false c10, decide_eq_true c34]; rfl
   rw [hR]
   refine n9.up fun n hb => ?_
   show ∃ t' b, o9 (S.step (S.tab n)) _ _ _ _ = _ ∧ _
   rw [F9, l9 hnl, j7 hin, j9, l9 (decide_eq_false c10), j7 hin, j7 (decide_eq_true c34), w1]
   exact ⟨_, _, rfl, rfl, rfl⟩
  by_cases c92 : ¬ (get s j = 92)
  ·have hR : M3 s (k + 1) j o = M3 s k (j + 1) (o ++ [get s j]) := by
    conv => lhs; unfold M3
    rw [decide_eq_false hl, decide_eq_false c10, decide_eq_false c34, decide_eq_false c92]; rfl
   rw [hR]
   refine (ih (j + 1) (o ++ [get s j]) (by omega) (by omega) (by simp; omega)).up fun n h => ?_
   show ∃ t' b, o9 (S.step (S.tab n)) _ _ _ _ = _ ∧ _
   rw [F9, l9 hnl, j7 hin, j9, l9 (decide_eq_false c10), j7 hin, l9 (decide_eq_false c34), j7 hin, j7 (by rw [decide_eq_false c92]; rfl), j7 hin, j7 (hf _), w1]
   exact h
  replace c92 := Decidable.not_not.1 c92
  have start : ∀ n, o9 (S.step (S.tab n)) s (4, (i : Int), 0, 0, 0, ([] : List Int), ()) o (j : Int) = _ := fun n => by
   rw [F9, l9 hnl, j7 hin, j9, l9 (decide_eq_false c10), j7 hin, l9 (decide_eq_false c34), j7 hin, l9 (by rw [decide_eq_true c92]; rfl), w1, w2]
  by_cases hl1 : ¬ (j + 1 < s.length)
  ·have hR : M3 s (k + 1) j o = .inl (j + 1) := by
    unfold M3; rw [decide_eq_false hl, decide_eq_false c10, decide_eq_false c34, decide_eq_true c92, H2 (show s.length ≤ j + 1 by omega)]; rfl
   rw [hR]
   refine n9.up fun n hb => ?_
   show ∃ t' b, o9 (S.step (S.tab n)) _ _ _ _ = _ ∧ _
   rw [start, j7 (by simp only [decide_eq_true_eq]; omega)]
   exact ⟨_, _, rfl, rfl, rfl⟩
  replace hl1 := Decidable.not_not.1 hl1
  have hin1 := j8 hl1
  have hnl1 : decide ((s.length : Int) ≤ ((j + 1 : Nat) : Int)) = false := by simp only [decide_eq_false_iff_not]; omega
  have hby := bd3 hb8 (j + 1)
  have short : ∀ (x y : Int), get s (j + 1) = x → aw0 x ≥ 0 → (decide ((0 : Int) ≤ aw0 x) && decide (aw0 x < 4)) = true → ([10, 9, 34, 92] : List Int).getD (aw0 x).toNat 0 = y → M3 s (k + 1) j o = M3 s k (j + 2) (o ++ [y]) →
    Evt fun n => ∃ t' b, o9 (S.tab n) s (4, (i : Int), 0, 0, 0, ([] : List Int), ()) o (j : Int) = some (Sum.inl (t', b, ())) ∧ IR (bn5 i (M3 s (k + 1) j o)) t' b := fun x y hx h0 h4 hy hR => by
   rw [hR]
   refine ((ih (j + 2) (o ++ [y]) (by omega) (by omega) (by simp; omega)).and ad4).up fun n ⟨h, hix⟩ => ?_
   show ∃ t' b, o9 (S.step (S.tab n)) _ _ _ _ = _ ∧ _
   rw [start, l9 hnl1, j7 hin1, j9, hix _ hby, hx]
   simp only [Option.bind_some]
   rw [j7 (by simpa using h0), j7 h4, hy, j7 (hf _)]
   exact h
  by_cases e110 : get s (j + 1) = 110
  ·refine short 110 10 e110 (by decide) (by decide) (by decide) ?_
   conv => lhs; unfold M3
   rw [decide_eq_false hl, decide_eq_false c10, decide_eq_false c34, decide_eq_true c92, e110]; rfl
  by_cases e116 : get s (j + 1) = 116
  ·refine short 116 9 e116 (by decide) (by decide) (by decide) ?_
   conv => lhs; unfold M3
   rw [decide_eq_false hl, decide_eq_false c10, decide_eq_false c34, decide_eq_true c92, e116]; rfl
  by_cases e34 : get s (j + 1) = 34
  ·refine short 34 34 e34 (by decide) (by decide) (by decide) ?_
   conv => lhs; unfold M3
   rw [decide_eq_false hl, decide_eq_false c10, decide_eq_false c34, decide_eq_true c92, e34]; rfl
  by_cases e92 : get s (j + 1) = 92
  ·refine short 92 92 e92 (by decide) (by decide) (by decide) ?_
   conv => lhs; unfold M3
   rw [decide_eq_false hl, decide_eq_false c10, decide_eq_false c34, decide_eq_true c92, e92]; rfl
  have hneg : aw0 (get s (j + 1)) = -1 := by
   unfold aw0; rw [decide_eq_false e110, decide_eq_false e116, decide_eq_false e34, decide_eq_false e92]; rfl
  by_cases e120 : ¬ (get s (j + 1) = 120)
  ·have hR : M3 s (k + 1) j o = .inl (j + 1) := by
    unfold M3; rw [decide_eq_false hl, decide_eq_false c10, decide_eq_false c34, decide_eq_true c92, decide_eq_false e110, decide_eq_false e116, decide_eq_false e34, decide_eq_false e92, decide_eq_false e120]; rfl
   rw [hR]
   refine ad4.up fun n hix => ?_
   show ∃ t' b, o9 (S.step (S.tab n)) _ _ _ _ = _ ∧ _
   rw [start, l9 hnl1, j7 hin1, j9, hix _ hby, hneg]
   simp only [Option.bind_some]
   rw [l9 (by decide), j7 hin1, j7 (by rw [decide_eq_false e120]; rfl)]
   exact ⟨_, _, rfl, rfl, rfl⟩
  replace e120 := Decidable.not_not.1 e120
  have hR : M3 s (k + 1) j o = bif !J1 (get s (j + 2)) then .inl (j + 2) else bif !J1 (get s (j + 3)) then .inl (j + 3) else M3 s k (j + 4) (o ++ [Q9 (get s (j + 2)) * 16 + Q9 (get s (j + 3))]) := by
   conv => lhs; unfold M3
   rw [decide_eq_false hl, decide_eq_false c10, decide_eq_false c34, decide_eq_true c92, e120]; rfl
  have h39 := bo8 hs (4, (i : Int), 0, 0, 0, ([] : List Int), ()) o j hl'
  have go : ∀ n, (∀ c, isByte c → s6 (S.tab n) [110, 116, 34, 92] c = some (aw0 c, K6)) → o9 (S.step (S.tab n)) s (4, (i : Int), 0, 0, 0, ([] : List Int), ()) o (j : Int) = _ := fun n hix => by
   rw [start, l9 hnl1, j7 hin1, j9, hix _ hby, hneg, Option.bind_some, l9 (by decide), j7 hin1, l9 (by rw [decide_eq_true e120]; rfl)]
  rw [hR]
  cases x2 : J1 (get s (j + 2)) with
  | false =>
   refine (h39.and ad4).up fun n ⟨h, hix⟩ => ?_
   show ∃ t' b, o9 (S.step (S.tab n)) _ _ _ _ = _ ∧ _
   rw [go n hix, h, x2]
   exact ⟨_, _, rfl, rfl, rfl⟩
  | true =>
   cases x3 : J1 (get s (j + 3)) with
   | false =>
    refine (h39.and ad4).up fun n ⟨h, hix⟩ => ?_
    show ∃ t' b, o9 (S.step (S.tab n)) _ _ _ _ = _ ∧ _
    rw [go n hix, h, x2, x3]
    exact ⟨_, _, rfl, rfl, rfl⟩
   | true =>
    have hl3 := aw1 x3
    obtain ⟨hv2, hp0, hp1⟩ := a92 _ _ x2 x3
    have hpu := aq5 [get s (j + 2), get s (j + 3)] 8 (.inl ⟨rfl, by simp⟩) (by simp) (by
     intro c hc
     rcases List.mem_cons.1 hc with rfl | hc
     ·exact x2
     ·have : c = get s (j + 3) := by simpa using hc
      rw [this]; exact x3)
    rw [hv2] at hpu
    have h2 := ih (j + 4) (o ++ [Q9 (get s (j + 2)) * 16 + Q9 (get s (j + 3))]) (by omega) (by omega) (by simp; omega)
    refine (((h39.and ad4).and hpu).and h2).up fun n ⟨⟨⟨h, hix⟩, hpu⟩, h2⟩ => ?_
    show ∃ t' b, o9 (S.step (S.tab n)) _ _ _ _ = _ ∧ _
    rw [go n hix, h, x2, x3]
    simp only [cond_true, Option.bind_some, aa5, Sum.elim_inr, Sum.elim_inl, w2, w4]
    rw [j7 (F6 (by omega) (by omega)), ae2, aK2 (s := s) (j := j + 2) (by omega), hpu]
    simp only [Option.bind_some]
    rw [at3 _ hp0 hp1, j7 (hf _)]
    exact h2
end Go.Abs.D
end

section
namespace Go.Abs.D
def LR (r : Nat ⊕ j2.den) (y : (j2.den × Int × Unit) ⊕ (j2.den × j2.den × Int × Unit) ⊕ Empty) : Prop :=
 y.elim (fun y => SR r y.1 y.2.1) fun y => y.elim (fun y => SR r y.1 y.2.2.1) Empty.elim
variable {s : List Int} (hs : s.length ≤ 2097152)
include hs
theorem aB8 (t3 t4 : j2.den) (j : Nat) (o : List Int) (c : Int) (hj : j < s.length) (ho : o.length ≤ j) : Evt fun n => r8 (S.tab n) s t3 t4 (j : Int) o c true = some (Sum.inl (s, t3, t4, (j : Int), o ++ [get s j], ())) := by
 refine n9.up fun n hb => ?_
 show r8 (S.step (S.tab n)) _ _ _ _ _ _ _ = _
 rw [J7, j7 rfl, j7 (j8 hj), j9, j7 (F5 (by unfold lim; simp only [List.length_singleton]; omega))]
omit hs in
theorem aL3 (t3 t4 : j2.den) (j : Nat) (o : List Int) (c : Int) (hc : c ≠ 120) : Evt fun n => r8 (S.tab n) s t3 t4 (j : Int) o c false = some (Sum.inr (Sum.inl (t3, (j : Int), ()))) := by
 refine n9.up fun n hb => ?_
 show r8 (S.step (S.tab n)) _ _ _ _ _ _ _ = _
 rw [J7, l9 rfl, l9 (decide_eq_false hc)]
theorem a13 (t3 t4 : j2.den) (j : Nat) (o : List Int) (hj : j ≤ s.length) (ho : o.length ≤ j) : Evt fun n => r8 (S.tab n) s t3 t4 (j : Int) o 120 false =
  some (bif J1 (get s (j + 1)) then (bif J1 (get s (j + 2)) then Sum.inl (s, t3, t4, ((j + 2 : Nat) : Int), o ++ [Q9 (get s (j + 1)) * 16 + Q9 (get s (j + 2))], ()) else Sum.inr (Sum.inl (t3, ((j + 2 : Nat) : Int), ()))) else Sum.inr (Sum.inl (t3, ((j + 1 : Nat) : Int), ()))) := by
 have w1 : IntKind.i64.wrap ((j : Int) + 1) = ((j + 1 : Nat) : Int) := H9 (by omega)
 have w2 : IntKind.i64.wrap ((j : Int) + 2) = ((j + 2 : Nat) : Int) := by rw [wrap64 _ (by omega) (by omega)]; omega
 refine ((bp9 hs t3 t4 o j hj).and n9).up fun n ⟨h, hb⟩ => ?_
 show r8 (S.step (S.tab n)) _ _ _ _ _ _ _ = _
 rw [J7, l9 rfl, j7 (by rfl), h]
 cases x1 : J1 (get s (j + 1)) with
 | false => rfl
 | true =>
  cases x2 : J1 (get s (j + 2)) with
  | false => rfl
  | true =>
   have hl2 := aw1 x2
   obtain ⟨_, hp0, hp1⟩ := a92 _ _ x1 x2
   have h0 := aa1 x1
   have h0' := aa1 x2
   have h1 := af2 (get s (j + 1))
   have h1' := af2 (get s (j + 2))
   have e1 : IntKind.i64.wrap (16 * Q9 (get s (j + 1))) = 16 * Q9 (get s (j + 1)) := wrap64 _ (by omega) (by omega)
   have e2 : IntKind.i64.wrap (16 * Q9 (get s (j + 1)) + Q9 (get s (j + 2))) = Q9 (get s (j + 1)) * 16 + Q9 (get s (j + 2)) := by rw [wrap64 _ (by omega) (by omega)]; omega
   simp only [cond_true, Option.bind_some, aa5, Sum.elim_inr, Sum.elim_inl, w1, w2]
   rw [j7 (j8 (show j + 1 < s.length by omega)), j9, hb.shex, Option.bind_some, j7 (j8 hl2), j9, hb.shex, Option.bind_some]
   simp only [e1, e2]
   rw [at3 _ hp0 hp1, j7 (F5 (by unfold lim; simp only [List.length_singleton]; omega))]
theorem aI9 (t4 : j2.den) (i : Nat) : ∀ (k j : Nat) (o : List Int), s.length ≤ j + k → j ≤ s.length → o.length ≤ j →
  Evt fun n => ∃ y, j5 (S.tab n) s (4, (i : Int), 0, 0, 0, ([] : List Int), ()) t4 (j : Int) o = some y ∧ LR (bn5 i (M3 s k j o)) y := by
 intro k
 induction k with
 | zero =>
  intro j o hk hj ho
  refine n9.up fun n hb => ?_
  show ∃ y, j5 (S.step (S.tab n)) _ _ _ _ _ = _ ∧ _
  rw [B0, l9 (by simp only [decide_eq_false_iff_not]; omega)]
  exact ⟨_, rfl, rfl⟩
 | succ k ih =>
  intro j o hk hj ho
  have w1 : IntKind.i64.wrap ((j : Int) + 1) = ((j + 1 : Nat) : Int) := H9 (by omega)
  have w2 : IntKind.i64.wrap (((j + 1 : Nat) : Int) + 1) = ((j + 2 : Nat) : Int) := by rw [wrap64 _ (by omega) (by omega)]; omega
  have w4 : IntKind.i64.wrap (((j + 1 + 2 : Nat) : Int) + 1) = ((j + 4 : Nat) : Int) := by rw [wrap64 _ (by omega) (by omega)]; omega
  have hf : ∀ x : Int, fits (o.length + [x].length) = true := fun x => F5 (by unfold lim; simp only [List.length_singleton]; omega)
  have hf1 : fits (o.length + 1) = true := F5 (by unfold lim; omega)
  by_cases hl : s.length ≤ j
  ·have hR : M3 s (k + 1) j o = .inl j := by unfold M3; rw [decide_eq_true hl]; rfl
   rw [hR]
   refine n9.up fun n hb => ?_
   show ∃ y, j5 (S.step (S.tab n)) _ _ _ _ _ = _ ∧ _
   rw [B0, l9 (by simp only [decide_eq_false_iff_not]; omega)]
   exact ⟨_, rfl, rfl⟩
  have hl' : j < s.length := by omega
  have hin := j8 hl'
  have hlt : decide ((j : Int) < (s.length : Int)) = true := by simp only [decide_eq_true_eq]; omega
  by_cases c10 : get s j = 10
  ·have hR : M3 s (k + 1) j o = .inl j := by unfold M3; rw [decide_eq_false hl, decide_eq_true c10]; rfl
   rw [hR]
   refine n9.up fun n hb => ?_
   show ∃ y, j5 (S.step (S.tab n)) _ _ _ _ _ = _ ∧ _
   rw [B0, j7 hlt, j7 hin, j9, l9 (decide_eq_false (by omega)), j7 (decide_eq_true c10)]
   exact ⟨_, rfl, rfl⟩
  by_cases c34 : get s j = 34
  ·have hR : M3 s (k + 1) j o = .inr (j + 1, o) := by unfold M3; rw [decide_eq_false hl, decide_eq_false c10, decide_eq_true c34]; rfl
   rw [hR]
   refine n9.up fun n hb => ?_
   show ∃ y, j5 (S.step (S.tab n)) _ _ _ _ _ = _ ∧ _
   rw [B0, j7 hlt, j7 hin, j9, j7 (decide_eq_true c34), w1]
   exact ⟨_, rfl, rfl, rfl⟩
  by_cases c92 : ¬ (get s j = 92)
  ·have hR : M3 s (k + 1) j o = M3 s k (j + 1) (o ++ [get s j]) := by
    conv => lhs; unfold M3
    rw [decide_eq_false hl, decide_eq_false c10, decide_eq_false c34, decide_eq_false c92]; rfl
   rw [hR]
   refine (ih (j + 1) (o ++ [get s j]) (by omega) (by omega) (by simp; omega)).up fun n h => ?_
   show ∃ y, j5 (S.step (S.tab n)) _ _ _ _ _ = _ ∧ _
   rw [B0, j7 hlt, j7 hin, j9, l9 (decide_eq_false c34), l9 (decide_eq_false c10), j7 (by rw [decide_eq_false c92]; rfl), j7 (hf _), w1]
   exact h
  replace c92 := Decidable.not_not.1 c92
  have start : ∀ n, Base2 (S.tab n) → j5 (S.step (S.tab n)) s (4, (i : Int), 0, 0, 0, ([] : List Int), ()) t4 (j : Int) o = _ := fun n hb => by
   rw [B0, j7 hlt, j7 hin, j9, l9 (decide_eq_false c34), l9 (decide_eq_false c10), l9 (by rw [decide_eq_true c92]; rfl), w1, w2, hb.look, Option.bind_some]
  by_cases e110 : get s (j + 1) = 110
  ·have hl1 := I0 e110 (by decide)
   have hR : M3 s (k + 1) j o = M3 s k (j + 2) (o ++ [10]) := by
    conv => lhs; unfold M3
    rw [decide_eq_false hl, decide_eq_false c10, decide_eq_false c34, decide_eq_true c92, e110]; rfl
   rw [hR]
   refine ((ih (j + 2) (o ++ [10]) (by omega) (by omega) (by simp; omega)).and n9).up fun n ⟨h, hb⟩ => ?_
   show ∃ y, j5 (S.step (S.tab n)) _ _ _ _ _ = _ ∧ _
   rw [start n hb, j7 (decide_eq_true e110), j7 hf1]
   exact h
  by_cases e116 : get s (j + 1) = 116
  ·have hl1 := I0 e116 (by decide)
   have hR : M3 s (k + 1) j o = M3 s k (j + 2) (o ++ [9]) := by
    conv => lhs; unfold M3
    rw [decide_eq_false hl, decide_eq_false c10, decide_eq_false c34, decide_eq_true c92, e116]; rfl
   rw [hR]
   refine ((ih (j + 2) (o ++ [9]) (by omega) (by omega) (by simp; omega)).and n9).up fun n ⟨h, hb⟩ => ?_
   show ∃ y, j5 (S.step (S.tab n)) _ _ _ _ _ = _ ∧ _
   rw [start n hb, l9 (decide_eq_false e110), j7 (decide_eq_true e116), j7 hf1]
   exact h
  by_cases e34 : get s (j + 1) = 34
  ·have hl1 := I0 e34 (by decide)
   have hR : M3 s (k + 1) j o = M3 s k (j + 2) (o ++ [34]) := by
    conv => lhs; unfold M3
    rw [decide_eq_false hl, decide_eq_false c10, decide_eq_false c34, decide_eq_true c92, e34]; rfl
   rw [hR]
   have h24 := aB8 hs (4, (i : Int), 0, 0, 0, ([] : List Int), ()) t4 (j + 1) o (get s (j + 1)) hl1 (by omega)
   refine (((ih (j + 2) (o ++ [34]) (by omega) (by omega) (by simp; omega)).and n9).and h24).up fun n ⟨⟨h, hb⟩, h24⟩ => ?_
   show ∃ y, j5 (S.step (S.tab n)) _ _ _ _ _ = _ ∧ _
   rw [start n hb, l9 (decide_eq_false e110), l9 (decide_eq_false e116), j7 (decide_eq_true e34)]
   simp only
   rw [decide_eq_true e34, h24, e34]
   simp only [Option.bind_some, aa5, Sum.elim_inl, w2]
   exact h
  by_cases e92 : get s (j + 1) = 92
  ·have hl1 := I0 e92 (by decide)
   have hR : M3 s (k + 1) j o = M3 s k (j + 2) (o ++ [92]) := by
    conv => lhs; unfold M3
    rw [decide_eq_false hl, decide_eq_false c10, decide_eq_false c34, decide_eq_true c92, e92]; rfl
   rw [hR]
   have h24 := aB8 hs (4, (i : Int), 0, 0, 0, ([] : List Int), ()) t4 (j + 1) o (get s (j + 1)) hl1 (by omega)
   refine (((ih (j + 2) (o ++ [92]) (by omega) (by omega) (by simp; omega)).and n9).and h24).up fun n ⟨⟨h, hb⟩, h24⟩ => ?_
   show ∃ y, j5 (S.step (S.tab n)) _ _ _ _ _ = _ ∧ _
   rw [start n hb, l9 (decide_eq_false e110), l9 (decide_eq_false e116), l9 (decide_eq_false e34)]
   simp only
   rw [decide_eq_true e92, h24, e92]
   simp only [Option.bind_some, aa5, Sum.elim_inl, w2]
   exact h
  by_cases e120 : ¬ (get s (j + 1) = 120)
  ·have hR : M3 s (k + 1) j o = .inl (j + 1) := by
    unfold M3; rw [decide_eq_false hl, decide_eq_false c10, decide_eq_false c34, decide_eq_true c92, decide_eq_false e110, decide_eq_false e116, decide_eq_false e34, decide_eq_false e92, decide_eq_false e120]; rfl
   rw [hR]
   have h24 := aL3 (s := s) (4, (i : Int), 0, 0, 0, ([] : List Int), ()) t4 (j + 1) o (get s (j + 1)) e120
   refine (n9.and h24).up fun n ⟨hb, h24⟩ => ?_
   show ∃ y, j5 (S.step (S.tab n)) _ _ _ _ _ = _ ∧ _
   rw [start n hb, l9 (decide_eq_false e110), l9 (decide_eq_false e116), l9 (decide_eq_false e34)]
   simp only
   rw [decide_eq_false e92, h24]
   exact ⟨_, rfl, rfl⟩
  replace e120 := Decidable.not_not.1 e120
  have hl1 := I0 e120 (by decide)
  have hR : M3 s (k + 1) j o = bif !J1 (get s (j + 2)) then .inl (j + 2) else bif !J1 (get s (j + 3)) then .inl (j + 3) else M3 s k (j + 4) (o ++ [Q9 (get s (j + 2)) * 16 + Q9 (get s (j + 3))]) := by
   conv => lhs; unfold M3
   rw [decide_eq_false hl, decide_eq_false c10, decide_eq_false c34, decide_eq_true c92, e120]; rfl
  rw [hR]
  have h24 := a13 hs (4, (i : Int), 0, 0, 0, ([] : List Int), ()) t4 (j + 1) o (by omega) (by omega)
  have e12 : j + 1 + 1 = j + 2 := rfl
  have e13 : j + 1 + 2 = j + 3 := rfl
  rw [e12, e13] at h24
  have go : ∀ n, Base2 (S.tab n) → j5 (S.step (S.tab n)) s (4, (i : Int), 0, 0, 0, ([] : List Int), ()) t4 (j : Int) o = (r8 (S.tab n) s (4, (i : Int), 0, 0, 0, ([] : List Int), ()) t4 ((j + 1 : Nat) : Int) o 120 false).bind (aa5 (fun y24 => j5 (S.tab n) y24.1 y24.2.1 y24.2.2.1 (IntKind.i64.wrap (y24.2.2.2.1 + (1 : Int))) y24.2.2.2.2.1) (fun y24 => some (Sum.inl y24))) := fun n hb => by
   rw [start n hb, l9 (decide_eq_false e110), l9 (decide_eq_false e116), l9 (decide_eq_false e34)]
   simp only
   rw [decide_eq_false e92, e120]
  cases x2 : J1 (get s (j + 2)) with
  | false =>
   refine (h24.and n9).up fun n ⟨h, hb⟩ => ?_
   show ∃ y, j5 (S.step (S.tab n)) _ _ _ _ _ = _ ∧ _
   rw [go n hb, h, x2]
   exact ⟨_, rfl, rfl⟩
  | true =>
   cases x3 : J1 (get s (j + 3)) with
   | false =>
    refine (h24.and n9).up fun n ⟨h, hb⟩ => ?_
    show ∃ y, j5 (S.step (S.tab n)) _ _ _ _ _ = _ ∧ _
    rw [go n hb, h, x2, x3]
    exact ⟨_, rfl, rfl⟩
   | true =>
    have hl3 := aw1 x3
    have h2 := ih (j + 4) (o ++ [Q9 (get s (j + 2)) * 16 + Q9 (get s (j + 3))]) (by omega) (by omega) (by simp; omega)
    refine ((h24.and n9).and h2).up fun n ⟨⟨h, hb⟩, h2⟩ => ?_
    show ∃ y, j5 (S.step (S.tab n)) _ _ _ _ _ = _ ∧ _
    rw [go n hb, h, x2, x3]
    have w5 : IntKind.i64.wrap (((j + 3 : Nat) : Int) + 1) = ((j + 4 : Nat) : Int) := w4
    simp only [cond_true, Option.bind_some, aa5, Sum.elim_inl, w5]
    exact h2
theorem as9 {i : Nat} (hi : i < s.length) : Evt fun n => ∃ t' b, S6 (S.tab n) s (0, (i : Int), 0, 0, 0, ([] : List Int), ()) = some ((t', b, ()), U1) ∧ SR (bg2 s i) t' b := by
 have e1 : IntKind.i64.wrap ((i : Int) + 1) = ((i + 1 : Nat) : Int) := H9 (by omega)
 refine (aI9 hs (0, 0, 0, 0, 0, ([] : List Int), ()) i s.length (i + 1) [] (by omega) (by omega) (by simp)).up fun n ⟨y, h, hr⟩ => ?_
 show ∃ t' b, S6 (S.step (S.tab n)) _ _ = _ ∧ _
 rw [at1]
 simp only [e1]
 rw [h, Option.bind_some]
 rcases y with y | y | y
 ·exact ⟨y.1, y.2.1, rfl, hr⟩
 ·exact ⟨y.1, y.2.2.1, rfl, hr⟩
 ·exact y.elim
end Go.Abs.D
end
