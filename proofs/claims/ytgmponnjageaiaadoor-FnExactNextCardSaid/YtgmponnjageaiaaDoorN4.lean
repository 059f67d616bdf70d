/- What is here: what strings.Builder's functions and IndexByte answer, as plain functions. What is here: the tables of the program and what the library's functions on numbers answer, as plain functions. What is here: the package variables of the program, as plain data. What is here: the contract of the library's IndexByteString. What is here: the numbers of the library's functions in this program, and that they are laid as the kit's shelf wants them. What is here: contracts of strconv.ParseInt and strconv.FormatInt, from the kit's shelf. What is here: the contracts of all functions of the seat. What is here: the grammar's two tables, plain: what a symbol becomes ahead of a token, in the program's symbols and in the reference's, and that they say the same. What is here: stacks of both grammars: those of one normal form take the same tokens and stay of one normal form. What is here: letters, digits; the small functions of both scanners. What is here: the loops of both scanners that go on over letters and digits. What is here: words. What is here: hexadecimal numbers. What is here: hexadecimal number tokens on both sides. What is here: decimal and float tokens on both sides. What is here: number tokens on both sides. -/
import Derived.Test.YtgmponnjageaiaaDoorN3
import Derived.Lib.ParseIntB
import Derived.Lib.ItoaNum
import Derived.Lib.LaidTab
import Derived.Shelf.Strconv.Itoa4
import Derived.Test.YtgmponnjageaiaaDoorProg
import Derived.Test.YtgmponnjageaiaaDoorRows
import Derived.Test.YtgmponnjageaiaaDoorTie
import Derived.Shelf.Strconv.ParseIntPublic10
import Derived.KernelRfl
import Derived.WalkKit
import Derived.ProofKit
import Derived.OpenShut
import Derived.ShutString
import Derived.ChangeOld
import Derived.Below
import Derived.SizedLaws
import Derived.LaidMore
import Derived.Lay
import Derived.SevenTiedAt
import Derived.Stop.Joined
set_option linter.unusedVariables false
set_option linter.unusedSimpArgs false
set_option maxRecDepth 100000
section
namespace Go.Abs.Bld
def places : List (Nat × Nat × Nat) := []
@[reducible] def bp : VSp := .one (.ptr false (0, places) .bld)
def idx : List Int → Int → Int → Int
 | [], _, _ => -1
 | x :: r, c, n => bif decide (x = c) then n else idx r c (n + 1)
def ar3 (x : List Int × Int × Unit) : Option (Int × Unit × Unit × Unit) := some (idx x.1 (byte x.2.1) 0, (), (), ())
end Go.Abs.Bld
end

section
namespace Go.Abs.Lx
def words : List (List Int) := [[97, 110, 100], [98, 114, 101, 97, 107], [99, 97, 116, 99, 104], [99, 111, 110, 115, 116], [100, 101, 102, 101, 114], [101, 108, 105, 102], [101, 108, 115, 101], [102, 97, 108, 115, 101], [102, 110], [102, 111, 114], [105, 102], [105, 110], [108, 101, 116], [110, 101, 120, 116], [110, 105, 108], [110, 111, 116], [111, 114], [114, 101, 116, 117, 114, 110], [116, 104, 114, 111, 119], [116, 114, 117, 101], [116, 114, 121], [119, 104, 105, 108, 101]]
def ab0 : List (List Int) := [[40], [41], [123], [125], [91], [93], [44], [61], [46], [46, 46, 46], [35]]
def aw4 : List (List Int) := [[43], [45], [42], [47], [47, 47], [37], [38], [124], [126], [60, 60], [62, 62], [46, 46], [61, 61], [126, 61], [60], [60, 61], [62], [62, 61]]
def u8s (l : List Int) : List UInt8 := l.map fun c => c.toNat.toUInt8
def ad6 (x : List Int × Int × Int × Unit) : Option ((Int × Bool × Unit) × Unit × Unit × Unit × Unit) :=
 bif decide (x.2.1 = 10) && decide (x.2.2.1 = 64) && fits x.1.length then
  match Lib.parseIntB 64 (u8s x.1) with
  | .ok v => some ((v, true, ()), (), (), (), ())
  | .range => some ((Lib.intSat 64 (u8s x.1), false, ()), (), (), (), ())
  | _ => none
 else none
def bP0 : List Cell := Lib.pow10Tab.map fun z => .v (.int .u64) z
def tables (k : Nat) : Option (List Cell) := bif Nat.beq k 6 then some bP0 else bif Nat.beq k 5 then some [.err false] else none
theorem bd0 (s : ByteArray) : u8s (bytesOf s) = s.data.toList := by
 unfold u8s bytesOf
 rw [List.map_map]
 have : ((fun c : Int => c.toNat.toUInt8) ∘ fun b : UInt8 => (b.toNat : Int)) = id := by
  funext b
  simp
 rw [this, List.map_id]
end Go.Abs.Lx
end

section
set_option maxRecDepth 100000
namespace Go.Abs.D
open Go.Proofs
abbrev j7 : Ty := (.pr (.int .i64) (.pr (.int .i64) (.pr (.int .i64) (.pr (.int .i64) (.pr (.int .i64) (.pr .str .un))))))
abbrev O4 : Ty := (.pr (.int .i64) (.pr (.int .i64) .un))
abbrev vs0 : VSp := .one (.ptr true (42, []) (.pr (.pub (.int .i64)) (.pr (.pub (.int .i64)) (.pr (.pub (.int .i64)) (.pr (.pub (.int .i64)) (.pr (.pub (.int .i64)) (.pr (.pub .str) .un)))))))
abbrev vs1 : VSp := .one (.pub (.int .i64))
abbrev vs2 : VSp := .one (.pub .str)
abbrev vs3 : VSp := .agg (.pr (.pub (.int .i64)) (.pr (.pub (.int .i64)) (.pr (.pub (.int .i64)) (.pr (.pub (.int .i64)) (.pr (.pub (.int .i64)) (.pr (.pub .str) .un))))))
abbrev vs4 : VSp := .one (.pub .bool)
abbrev vs5 : VSp := .one (.ptr true (30, []) (.pr (.own O4 true) .un))
abbrev vs6 : VSp := .one (.own (.int .i64) true)
abbrev vs7 : VSp := .one (.pub (.int .u64))
abbrev vs8 : VSp := .one (.pub (.sl (.int .i64)))
abbrev vs9 : VSp := .one (.own j7 true)
abbrev aV2 : VSp := .one (.pub .cl)
abbrev bl5 : VSp := .one (.pub (.int .u8))
abbrev bC2 : VSp := .one (.own (.int .u8) true)
abbrev bF2 : VSp := .one (.own .str true)
abbrev bN2 : VSp := .one (.pub (.int .i32))
abbrev bR2 : VSp := .one (.ptr true (3, []) (.pub (.int .i64)))
abbrev bQ4 : VSp := .one (.pub (.sl (.int .u8)))
abbrev bF7 : VSp := .one .err
def sig (f : Nat) : Sig :=
 bif Nat.beq f 24 then ⟨[vs5, vs1, vs1], .val vs1⟩ else
 bif Nat.beq f 13 then ⟨[vs5], .val vs1⟩ else
 bif Nat.beq f 25 then ⟨[vs2, vs1], .val bl5⟩ else
 bif Nat.beq f 14 then ⟨[vs2, vs1], .val vs1⟩ else
 bif Nat.beq f 26 then ⟨[bl5], .val vs4⟩ else
 bif Nat.beq f 28 then ⟨[bl5], .val vs4⟩ else
 bif Nat.beq f 52 then ⟨[], .val bF2⟩ else
 bif Nat.beq f 27 then ⟨[vs2, vs3], .tup [vs3, vs1]⟩ else
 bif Nat.beq f 54 then ⟨[bl5], .val vs1⟩ else
 bif Nat.beq f 53 then ⟨[vs2, vs3], .tup [vs3, vs1]⟩ else
 bif Nat.beq f 29 then ⟨[vs2, vs3], .tup [vs3, vs1]⟩ else
 bif Nat.beq f 30 then ⟨[vs2, vs3], .tup [vs3, vs1]⟩ else
 bif Nat.beq f 31 then ⟨[], .val bF2⟩ else
 bif Nat.beq f 32 then ⟨[vs2], .val vs1⟩ else
 bif Nat.beq f 15 then ⟨[vs2, vs1], .tup [vs3, vs1]⟩ else
 bif Nat.beq f 55 then ⟨[vs6], .val vs6⟩ else
 bif Nat.beq f 56 then ⟨[vs1], .tup [vs6, vs4]⟩ else
 bif Nat.beq f 67 then ⟨[vs1], .val vs4⟩ else
 bif Nat.beq f 57 then ⟨[vs1], .val vs4⟩ else
 bif Nat.beq f 68 then ⟨[vs1, vs1, vs1], .val vs6⟩ else
 bif Nat.beq f 58 then ⟨[vs1, vs1], .tup [vs6, vs4]⟩ else
 bif Nat.beq f 69 then ⟨[vs1], .tup [vs6, vs4]⟩ else
 bif Nat.beq f 70 then ⟨[vs1], .val vs4⟩ else
 bif Nat.beq f 59 then ⟨[vs1, vs1], .tup [vs6, vs4]⟩ else
 bif Nat.beq f 33 then ⟨[vs1, vs1], .tup [vs6, vs4]⟩ else
 bif Nat.beq f 16 then ⟨[vs5, vs1, vs1], .tup [vs1, vs4]⟩ else
 bif Nat.beq f 10 then ⟨[vs5, vs1], .val vs6⟩ else
 bif Nat.beq f 60 then ⟨[vs1], .val vs2⟩ else
 bif Nat.beq f 34 then ⟨[vs8, vs2], .val vs4⟩ else
 bif Nat.beq f 17 then ⟨[vs2, vs1, vs8], .val vs1⟩ else
 bif Nat.beq f 9 then ⟨[vs5, vs2], .tup [vs9, vs1, vs1]⟩ else
 bif Nat.beq f 4 then ⟨[vs2], .val vs6⟩ else
 bif Nat.beq f 18 then ⟨[], .val aV2⟩ else
 bif Nat.beq f 61 then ⟨[vs2, vs2], .val vs4⟩ else
 bif Nat.beq f 35 then ⟨[vs2, vs2], .val vs4⟩ else
 bif Nat.beq f 19 then ⟨[vs2, vs1], .val vs1⟩ else
 bif Nat.beq f 44 then ⟨[vs8], .tup [vs8, vs4, vs4]⟩ else
 bif Nat.beq f 48 then ⟨[vs1], .val vs4⟩ else
 bif Nat.beq f 45 then ⟨[], .tup [vs6, vs4, vs4]⟩ else
 bif Nat.beq f 46 then ⟨[], .tup [vs6, vs4, vs4]⟩ else
 bif Nat.beq f 51 then ⟨[vs1], .val vs4⟩ else
 bif Nat.beq f 49 then ⟨[vs1], .val vs4⟩ else
 bif Nat.beq f 47 then ⟨[vs1, vs1, bR2], .tup [vs6, vs4]⟩ else
 bif Nat.beq f 66 then ⟨[vs1, vs1, vs1], .val vs4⟩ else
 bif Nat.beq f 50 then ⟨[vs1], .val vs4⟩ else
 bif Nat.beq f 23 then ⟨[vs1, vs1], .tup [vs8, vs4, vs4]⟩ else
 bif Nat.beq f 12 then ⟨[aV2, vs1], .val vs4⟩ else
 bif Nat.beq f 20 then ⟨[aV2, vs1], .val aV2⟩ else
 bif Nat.beq f 36 then ⟨[bl5], .val vs4⟩ else
 bif Nat.beq f 37 then ⟨[bl5], .val vs4⟩ else
 bif Nat.beq f 38 then ⟨[vs2], .val vs1⟩ else
 bif Nat.beq f 41 then ⟨[bl5], .val vs4⟩ else
 bif Nat.beq f 73 then ⟨[bl5], .val bl5⟩ else
 bif Nat.beq f 74 then ⟨[vs2], .val vs4⟩ else
 bif Nat.beq f 64 then ⟨[vs2, vs1, vs1], .tup [vs7, bF7]⟩ else
 bif Nat.beq f 42 then ⟨[vs2, vs1, vs1], .tup [vs7, bF7]⟩ else
 bif Nat.beq f 39 then ⟨[vs2, vs1], .tup [vs3, vs4]⟩ else
 bif Nat.beq f 63 then ⟨[vs2, bl5], .val vs1⟩ else
 bif Nat.beq f 40 then ⟨[vs2, bl5], .val vs1⟩ else
 bif Nat.beq f 43 then ⟨[vs1], .val vs2⟩ else
 bif Nat.beq f 21 then ⟨[vs2, vs1], .tup [vs3, vs4]⟩ else
 bif Nat.beq f 22 then ⟨[aV2, vs2, vs1], .val vs1⟩ else
 bif Nat.beq f 11 then ⟨[vs2], .tup [vs9, aV2, vs1]⟩ else
 bif Nat.beq f 5 then ⟨[vs2], .val vs6⟩ else
 bif Nat.beq f 6 then ⟨[vs8, vs8], .val vs4⟩ else
 bif Nat.beq f 7 then ⟨[.one (.lnd (.int .i64) true), vs1], .val vs1⟩ else
 bif Nat.beq f 8 then ⟨[vs8, vs1], .val vs1⟩ else
 bif Nat.beq f 3 then ⟨[vs2], .val vs4⟩ else
 ⟨[], .none⟩
def fns : List Nat := [24, 13, 25, 14, 26, 28, 52, 27, 54, 53, 29, 30, 31, 32, 15, 55, 56, 67, 57, 68, 58, 69, 70, 59, 33, 16, 10, 60, 34, 17, 9, 4, 18, 61, 35, 19, 44, 48, 45, 46, 51, 49, 47, 66, 50, 23, 12, 20, 36, 37, 38, 41, 73, 74, 64, 42, 39, 63, 40, 43, 21, 22, 11, 5, 6, 7, 8, 3]
def known (f : Nat) : Bool := fns.any (Nat.beq f)
def av4 (f : Nat) : List Nat :=
 bif Nat.beq f 24 then [0] else
 bif Nat.beq f 13 then [0] else
 bif Nat.beq f 16 then [0] else
 bif Nat.beq f 10 then [0] else
 bif Nat.beq f 9 then [0] else
 bif Nat.beq f 47 then [2] else
 bif Nat.beq f 7 then [0] else
 []
def kk (f : Nat) (k : Bool) (r a : Nat) (b : Bool) (c : Nat) : Bool := Nat.beq f a && k == b && Nat.beq r c
def aj2 (f : Nat) (k : Bool) (r : Nat) : Bool := kk f k r 5 true 8 || kk f k r 6 true 4 || kk f k r 7 true 2 || kk f k r 8 true 2 || kk f k r 9 true 5 || kk f k r 9 false 12 || kk f k r 9 false 16 || kk f k r 10 true 4 || kk f k r 11 true 4 || kk f k r 12 true 1 || kk f k r 14 true 1 || kk f k r 14 true 7 || kk f k r 15 true 14 || kk f k r 16 true 1 || kk f k r 16 true 10 || kk f k r 17 true 2 || kk f k r 19 true 1 || kk f k r 19 true 6 || kk f k r 20 true 1 || kk f k r 20 true 13 || kk f k r 21 true 5 || kk f k r 21 true 18 || kk f k r 21 true 39 || kk f k r 21 true 49 || kk f k r 22 false 4 || kk f k r 22 true 5 || kk f k r 22 true 10 || kk f k r 22 true 15 || kk f k r 23 false 25 || kk f k r 27 true 2 || kk f k r 27 true 8 || kk f k r 29 true 7 || kk f k r 29 false 9 || kk f k r 29 true 12 || kk f k r 29 false 14 || kk f k r 29 true 21 || kk f k r 29 false 23 || kk f k r 29 true 26 || kk f k r 30 true 4 || kk f k r 30 false 24 || kk f k r 30 true 27 || kk f k r 32 true 3 || kk f k r 32 true 9 || kk f k r 33 false 52 || kk f k r 33 false 53 || kk f k r 34 true 4 || kk f k r 38 true 2 || kk f k r 39 true 5 || kk f k r 39 true 15 || kk f k r 39 false 17 || kk f k r 39 true 20 || kk f k r 39 false 22 || kk f k r 39 false 26 || kk f k r 39 true 29 || kk f k r 39 false 31 || kk f k r 53 true 3 || kk f k r 56 false 16 || kk f k r 58 false 6 || kk f k r 58 false 13 || kk f k r 58 false 22 || kk f k r 59 false 24 || kk f k r 60 true 7 || kk f k r 64 false 21 || kk f k r 64 false 25 || kk f k r 64 false 32 || kk f k r 64 true 36 || kk f k r 64 false 46 || kk f k r 74 false 5 || kk f k r 74 false 10 || kk f k r 74 true 10
def cut (f : Nat) (k : Bool) (r : Nat) : Cut :=
 bif kk f k r 5 true 8 then ⟨[4, 6, 7], [aV2, vs6, vs1], [⟨.exit 0, [6], [vs6], []⟩], []⟩ else
 bif kk f k r 6 true 4 then ⟨[0, 1, 5], [vs8, vs8, vs1], [⟨.ret, [4], [vs4], []⟩, ⟨.exit 0, [], [], []⟩], []⟩ else
 bif kk f k r 7 true 2 then ⟨[0, 1, 5], [vs6, vs1, vs1], [⟨.exit 0, [0, 1], [vs6, vs1], []⟩], []⟩ else
 bif kk f k r 8 true 2 then ⟨[0, 1, 5], [vs8, vs1, vs1], [⟨.ret, [4], [vs1], []⟩, ⟨.exit 0, [1], [vs1], []⟩], []⟩ else
 bif kk f k r 9 true 5 then ⟨[0, 1, 7, 8, 9, 10], [vs5, vs2, vs1, vs9, vs1, vs1], [⟨.ret, [0, 4, 5, 6], [vs5, vs9, vs1, vs1], []⟩, ⟨.exit 0, [0, 1, 7, 8, 9], [vs5, vs2, vs1, vs9, vs1], []⟩], []⟩ else
 bif kk f k r 9 false 12 then ⟨[0, 1, 7, 8, 9, 10, 11, 12, 13], [vs5, vs2, vs1, vs9, vs1, vs1, vs0, vs1, vs1], [⟨.exit 1, [0, 1, 7, 8, 9, 10], [vs5, vs2, vs1, vs9, vs1, vs1], []⟩, ⟨.ret, [0, 4, 5, 6], [vs5, vs9, vs1, vs1], []⟩, ⟨.normal, [0, 1, 7, 8, 9, 10], [vs5, vs2, vs1, vs9, vs1, vs1], []⟩], []⟩ else
 bif kk f k r 9 false 16 then ⟨[0, 1, 7, 8, 9, 10, 11, 12, 13, 14, 15], [vs5, vs2, vs1, vs9, vs1, vs1, vs0, vs1, vs1, vs1, vs4], [⟨.exit 1, [0, 1, 7, 8, 9, 10], [vs5, vs2, vs1, vs9, vs1, vs1], []⟩, ⟨.ret, [0, 4, 5, 6], [vs5, vs9, vs1, vs1], []⟩, ⟨.normal, [0, 1, 7, 8, 9, 10], [vs5, vs2, vs1, vs9, vs1, vs1], []⟩], []⟩ else
 bif kk f k r 10 true 4 then ⟨[0, 1, 5, 6, 7], [vs5, vs1, vs6, vs1, vs1], [⟨.exit 0, [0, 5], [vs5, vs6], []⟩], []⟩ else
 bif kk f k r 11 true 4 then ⟨[0, 2, 3, 5, 6], [vs2, vs9, aV2, vs1, vs1], [⟨.ret, [2, 3, 4], [vs9, aV2, vs1], []⟩, ⟨.exit 0, [2, 3], [vs9, aV2], []⟩], []⟩ else
 bif kk f k r 12 true 1 then ⟨[0, 1], [aV2, vs1], [⟨.ret, [4], [vs4], []⟩, ⟨.exit 0, [], [], []⟩], []⟩ else
 bif kk f k r 14 true 1 then ⟨[0, 1], [vs2, vs1], [⟨.ret, [4], [vs1], []⟩, ⟨.exit 0, [1], [vs1], []⟩], []⟩ else
 bif kk f k r 14 true 7 then ⟨[0, 1], [vs2, vs1], [⟨.exit 2, [0, 1], [vs2, vs1], []⟩], []⟩ else
 bif kk f k r 15 true 14 then ⟨[0, 1, 4, 6, 43, 44, 45], [vs2, vs1, vs0, vs0, bF2, vs1, vs1], [⟨.ret, [4, 5], [vs0, vs1], []⟩, ⟨.exit 0, [1, 4, 6], [vs1, vs0, vs0], []⟩], []⟩ else
 bif kk f k r 16 true 1 then ⟨[0, 1, 2], [vs5, vs1, vs1], [⟨.ret, [0, 6, 7], [vs5, vs1, vs4], []⟩, ⟨.exit 0, [0, 1], [vs5, vs1], []⟩], []⟩ else
 bif kk f k r 16 true 10 then ⟨[0, 1, 2, 9, 11], [vs5, vs1, vs1, vs6, vs1], [⟨.exit 2, [0, 1, 2], [vs5, vs1, vs1], []⟩], []⟩ else
 bif kk f k r 17 true 2 then ⟨[0, 1, 2, 7], [vs2, vs1, vs8, vs1], [⟨.exit 0, [1, 7], [vs1, vs1], []⟩], []⟩ else
 bif kk f k r 19 true 1 then ⟨[0, 1], [vs2, vs1], [⟨.ret, [4], [vs1], []⟩, ⟨.exit 0, [1], [vs1], []⟩], []⟩ else
 bif kk f k r 19 true 6 then ⟨[0, 1], [vs2, vs1], [⟨.exit 3, [0, 1], [vs2, vs1], []⟩], []⟩ else
 bif kk f k r 20 true 1 then ⟨[0, 1], [aV2, vs1], [⟨.ret, [4], [aV2], []⟩, ⟨.exit 0, [], [], []⟩], []⟩ else
 bif kk f k r 20 true 13 then ⟨[0, 1, 5, 8], [aV2, vs1, vs8, vs1], [⟨.exit 3, [0, 1], [aV2, vs1], []⟩], []⟩ else
 bif kk f k r 21 true 5 then ⟨[0, 1, 4, 7], [vs2, vs1, vs0, vs1], [⟨.exit 1, [0, 1, 4, 7], [vs2, vs1, vs0, vs1], []⟩], []⟩ else
 bif kk f k r 21 true 18 then ⟨[0, 4, 8, 9], [vs2, vs0, bC2, vs1], [⟨.ret, [4, 5], [vs0, vs4], []⟩], []⟩ else
 bif kk f k r 21 true 39 then ⟨[0, 4, 8, 9, 11], [vs2, vs0, bC2, vs1, vs1], [⟨.ret, [4, 5], [vs0, vs4], []⟩, ⟨.exit 5, [0, 4, 8, 9], [vs2, vs0, bC2, vs1], []⟩], []⟩ else
 bif kk f k r 21 true 49 then ⟨[0, 1, 4, 14, 15], [vs2, vs1, vs0, vs1, vs1], [⟨.exit 7, [1, 4], [vs1, vs0], []⟩], []⟩ else
 bif kk f k r 22 false 4 then ⟨[0, 1, 2, 7], [aV2, vs2, vs1, vs1], [⟨.ret, [6], [vs1], []⟩], []⟩ else
 bif kk f k r 22 true 5 then ⟨[0, 1, 2, 7, 8], [aV2, vs2, vs1, vs1, vs1], [⟨.exit 0, [0, 1, 2, 7], [aV2, vs2, vs1, vs1], []⟩], []⟩ else
 bif kk f k r 22 true 10 then ⟨[0, 1, 2, 7, 8, 9, 10], [aV2, vs2, vs1, vs1, vs1, vs2, vs1], [⟨.exit 2, [0, 1, 2, 7, 8, 10], [aV2, vs2, vs1, vs1, vs1, vs1], []⟩], []⟩ else
 bif kk f k r 22 true 15 then ⟨[1, 2, 7, 11], [vs2, vs1, vs1, vs1], [⟨.exit 4, [7, 11], [vs1, vs1], []⟩], []⟩ else
 bif kk f k r 23 false 25 then ⟨[3, 41, 90], [bR2, vs1, vs4], [⟨.ret, [4, 5, 6], [vs8, vs4, vs4], []⟩, ⟨.normal, [], [], [(8, 45, [])]⟩], [(7, 44, []), (8, 45, [])]⟩ else
 bif kk f k r 27 true 2 then ⟨[0, 3, 4, 6], [vs2, vs0, vs0, vs1], [⟨.exit 0, [0, 3, 4, 6], [vs2, vs0, vs0, vs1], []⟩], []⟩ else
 bif kk f k r 27 true 8 then ⟨[3, 4, 7, 32, 33, 34], [vs0, vs0, vs2, bF2, vs1, vs1], [⟨.ret, [4, 5], [vs0, vs1], []⟩, ⟨.exit 2, [3, 4, 7], [vs0, vs0, vs2], []⟩], []⟩ else
 bif kk f k r 29 true 7 then ⟨[0, 3, 4, 6], [vs2, vs0, vs0, vs1], [⟨.exit 0, [0, 3, 4, 6], [vs2, vs0, vs0, vs1], []⟩], []⟩ else
 bif kk f k r 29 false 9 then ⟨[0, 3, 4, 6], [vs2, vs0, vs0, vs1], [⟨.ret, [4, 5], [vs0, vs1], []⟩], []⟩ else
 bif kk f k r 29 true 12 then ⟨[0, 3, 4, 6], [vs2, vs0, vs0, vs1], [⟨.exit 2, [0, 3, 4, 6], [vs2, vs0, vs0, vs1], []⟩], []⟩ else
 bif kk f k r 29 false 14 then ⟨[0, 3, 4, 6], [vs2, vs0, vs0, vs1], [⟨.ret, [4, 5], [vs0, vs1], []⟩], []⟩ else
 bif kk f k r 29 true 21 then ⟨[0, 3, 4, 6], [vs2, vs0, vs0, vs1], [⟨.exit 4, [0, 3, 4, 6], [vs2, vs0, vs0, vs1], []⟩], []⟩ else
 bif kk f k r 29 false 23 then ⟨[0, 3, 4, 6], [vs2, vs0, vs0, vs1], [⟨.ret, [4, 5], [vs0, vs1], []⟩], []⟩ else
 bif kk f k r 29 true 26 then ⟨[0, 3, 4, 6, 7, 8], [vs2, vs0, vs0, vs1, vs7, vs1], [⟨.exit 6, [0, 3, 4, 6, 7], [vs2, vs0, vs0, vs1, vs7], []⟩], []⟩ else
 bif kk f k r 30 true 4 then ⟨[0, 3, 4, 6, 7], [vs2, vs0, vs0, vs1, bC2], [⟨.ret, [4, 5], [vs0, vs1], []⟩, ⟨.exit 0, [3, 4, 6], [vs0, vs0, vs1], []⟩], []⟩ else
 bif kk f k r 30 false 24 then ⟨[0, 3, 4, 6, 7, 46, 59], [vs2, vs0, vs0, vs1, bC2, bl5, vs4], [⟨.normal, [0, 3, 4, 6, 7], [vs2, vs0, vs0, vs1, bC2], []⟩, ⟨.ret, [4, 5], [vs0, vs1], []⟩], []⟩ else
 bif kk f k r 30 true 27 then ⟨[0, 3, 4, 6, 7, 9], [vs2, vs0, vs0, vs1, bC2, vs1], [⟨.ret, [4, 5], [vs0, vs1], []⟩, ⟨.exit 3, [0, 3, 4, 6, 7], [vs2, vs0, vs0, vs1, bC2], []⟩], []⟩ else
 bif kk f k r 32 true 3 then ⟨[0, 3, 4], [vs2, bF2, vs1], [⟨.ret, [2], [vs1], []⟩, ⟨.exit 0, [0], [vs2], []⟩], []⟩ else
 bif kk f k r 32 true 9 then ⟨[0, 24, 25, 26], [vs2, bF2, vs1, vs1], [⟨.ret, [2], [vs1], []⟩, ⟨.exit 2, [], [], []⟩], []⟩ else
 bif kk f k r 33 false 52 then ⟨[0, 1, 93], [vs1, vs1, vs4], [⟨.ret, [4, 5], [vs6, vs4], []⟩, ⟨.normal, [0, 1], [vs1, vs1], []⟩], []⟩ else
 bif kk f k r 33 false 53 then ⟨[0, 1], [vs1, vs1], [⟨.ret, [4, 5], [vs6, vs4], []⟩], []⟩ else
 bif kk f k r 34 true 4 then ⟨[1, 16, 17, 18], [vs2, vs8, vs1, vs1], [⟨.ret, [4], [vs4], []⟩, ⟨.exit 0, [], [], []⟩], []⟩ else
 bif kk f k r 38 true 2 then ⟨[0, 5, 6, 7], [vs2, .one (.pub (.sl .str)), vs1, vs1], [⟨.ret, [2], [vs1], []⟩, ⟨.exit 0, [], [], []⟩], []⟩ else
 bif kk f k r 39 true 5 then ⟨[0, 1, 4, 6], [vs2, vs1, vs0, vs1], [⟨.exit 0, [0, 1, 4, 6], [vs2, vs1, vs0, vs1], []⟩], []⟩ else
 bif kk f k r 39 true 15 then ⟨[0, 1, 4, 6], [vs2, vs1, vs0, vs1], [⟨.exit 2, [0, 1, 4, 6], [vs2, vs1, vs0, vs1], []⟩], []⟩ else
 bif kk f k r 39 false 17 then ⟨[0, 1, 4, 6], [vs2, vs1, vs0, vs1], [⟨.ret, [4, 5], [vs0, vs4], []⟩], []⟩ else
 bif kk f k r 39 true 20 then ⟨[0, 1, 4, 6, 9], [vs2, vs1, vs0, vs1, vs1], [⟨.exit 4, [0, 1, 4, 6, 9], [vs2, vs1, vs0, vs1, vs1], []⟩], []⟩ else
 bif kk f k r 39 false 22 then ⟨[0, 1, 4, 6, 9], [vs2, vs1, vs0, vs1, vs1], [⟨.ret, [4, 5], [vs0, vs4], []⟩], []⟩ else
 bif kk f k r 39 false 26 then ⟨[0, 1, 4, 6, 9], [vs2, vs1, vs0, vs1, vs1], [⟨.ret, [4, 5], [vs0, vs4], []⟩, ⟨.normal, [0, 1, 4, 6, 9], [vs2, vs1, vs0, vs1, vs1], []⟩], []⟩ else
 bif kk f k r 39 true 29 then ⟨[0, 1, 4, 6, 9], [vs2, vs1, vs0, vs1, vs1], [⟨.exit 6, [0, 1, 4, 6, 9], [vs2, vs1, vs0, vs1, vs1], []⟩], []⟩ else
 bif kk f k r 39 false 31 then ⟨[0, 1, 4, 6, 9], [vs2, vs1, vs0, vs1, vs1], [⟨.ret, [4, 5], [vs0, vs4], []⟩], []⟩ else
 bif kk f k r 53 true 3 then ⟨[0, 3, 4, 6, 7], [vs2, vs0, vs0, vs1, vs7], [⟨.ret, [4, 5], [vs0, vs1], []⟩, ⟨.exit 0, [3, 4, 6, 7], [vs0, vs0, vs1, vs7], []⟩], []⟩ else
 bif kk f k r 56 false 16 then ⟨[0, 4, 35], [vs1, vs1, vs4], [⟨.ret, [2, 3], [vs6, vs4], []⟩, ⟨.normal, [], [], []⟩], []⟩ else
 bif kk f k r 58 false 6 then ⟨[0, 1, 6, 9, 10], [vs1, vs1, vs6, vs1, vs4], [⟨.normal, [0, 1, 6], [vs1, vs1, vs6], []⟩], []⟩ else
 bif kk f k r 58 false 13 then ⟨[0, 1, 6], [vs1, vs1, vs6], [⟨.ret, [4, 5], [vs6, vs4], []⟩], []⟩ else
 bif kk f k r 58 false 22 then ⟨[0, 1], [vs1, vs1], [⟨.ret, [4, 5], [vs6, vs4], []⟩], []⟩ else
 bif kk f k r 59 false 24 then ⟨[0, 1, 6, 49], [vs1, vs1, vs1, vs4], [⟨.ret, [4, 5], [vs6, vs4], []⟩, ⟨.normal, [1], [vs1], []⟩], []⟩ else
 bif kk f k r 60 true 7 then ⟨[0, 23, 24, 25], [vs1, bF2, vs1, vs1], [⟨.ret, [2], [vs2], []⟩, ⟨.exit 0, [], [], []⟩], []⟩ else
 bif kk f k r 64 false 21 then ⟨[0, 1, 2, 8, 9], [vs2, vs1, vs1, vs4, vs2], [⟨.ret, [6, 7], [vs7, bF7], []⟩], []⟩ else
 bif kk f k r 64 false 25 then ⟨[0, 1, 2, 8, 9], [vs2, vs1, vs1, vs4, vs2], [⟨.ret, [6, 7], [vs7, bF7], []⟩], []⟩ else
 bif kk f k r 64 false 32 then ⟨[0, 1, 2, 8, 9, 10], [vs2, vs1, vs1, vs4, vs2, vs7], [⟨.ret, [6, 7], [vs7, bF7], []⟩], []⟩ else
 bif kk f k r 64 true 36 then ⟨[1, 8, 9, 10, 11, 12, 13, 99, 100, 101], [vs1, vs4, vs2, vs7, vs7, vs4, vs7, bQ4, vs1, vs1], [⟨.ret, [6, 7], [vs7, bF7], []⟩, ⟨.exit 3, [9, 12, 13], [vs2, vs4, vs7], []⟩], []⟩ else
 bif kk f k r 64 false 46 then ⟨[1, 8, 9, 10, 11, 12, 13, 16, 99, 100, 101], [vs1, vs4, vs2, vs7, vs7, vs4, vs7, bl5, bQ4, vs1, vs1], [⟨.ret, [6, 7], [vs7, bF7], []⟩, ⟨.normal, [1, 8, 9, 10, 11, 12, 13, 99, 100, 101], [vs1, vs4, vs2, vs7, vs7, vs4, vs7, bQ4, vs1, vs1], []⟩], []⟩ else
 bif kk f k r 74 false 5 then ⟨[0, 3, 4], [vs2, bN2, vs1], [⟨.ret, [2], [vs4], []⟩], []⟩ else
 bif kk f k r 74 false 10 then ⟨[0, 3, 4, 5], [vs2, bN2, vs1, vs4], [⟨.ret, [2], [vs4], []⟩], []⟩ else
 bif kk f k r 74 true 10 then ⟨[0, 3, 4, 5], [vs2, bN2, vs1, vs4], [⟨.ret, [2], [vs4], []⟩, ⟨.exit 0, [3], [bN2], []⟩], []⟩ else
 ⟨[], [], [], []⟩
def lib (f : Nat) : Option Callee :=
 bif Nat.beq f 72 then some ⟨⟨[.one (.pub .str), .one (.pub (.int .u8))], .val (.one (.pub (.int .i64)))⟩, Bld.ar3⟩ else
 bif Nat.beq f 62 then some ⟨⟨[.one (.pub .str), .one (.pub (.int .i64)), .one (.pub (.int .i64))], .tup [.one (.pub (.int .i64)), .one .err]⟩, Lx.ad6⟩ else
 none
noncomputable def S : Sys := { P := Tryd.prog, glob := fun k => bif Nat.beq k 0 then some [.v (.sl .str) Lx.words] else bif Nat.beq k 1 then some [.v (.sl .str) Lx.ab0] else bif Nat.beq k 2 then some [.v (.sl .str) Lx.aw4] else Lx.tables k, cl := 35, sig := sig, known := known, av4 := av4, aj2 := aj2, cut := cut, lib := lib, bors := [(3, 6), (3, 8)], trim := fun f => Nat.beq f 10 }
theorem bL7 : (fns.all S.bI3) = true := by kernel_rfl
theorem eF {f : FuncId} {fn : Func} (h : S.P.funcs[f]? = some fn) {T : S.Tab} {x : (S.sig f).dom.den} {y : Option (S.sig f).cod.den} (e : bb0 (S.env T f fn.ntmps) fn (S.sig f) (S.bk1 T f) x = y) : (S.step T).fn f x = y := (Sys.bH6 (S := S) h T x).trans e
theorem eL {f : FuncId} {fn : Func} {c : Code} (h : S.P.funcs[f]? = some fn) (hb : fn.body = some c) {T : S.Tab} {r : Nat} {x : (A6 (S.cut f true r).as).den} {y : Option (ai4 (S.cut f true r).ws)} (e : (S.cut f true r).round (S.env T f fn.ntmps) (S.bk1 T f) (T5 true r (r9 c)) (T.pc f true r) x = y) : (S.step T).pc f true r x = y := (Sys.bx3 (S := S) h hb T x).trans e
theorem eJ {f : FuncId} {fn : Func} {c : Code} (h : S.P.funcs[f]? = some fn) (hb : fn.body = some c) {T : S.Tab} {r : Nat} {x : (A6 (S.cut f false r).as).den} {y : Option (ai4 (S.cut f false r).ws)} (e : (S.cut f false r).tail (S.env T f fn.ntmps) (S.bk1 T f) (T5 false r (r9 c)) x = y) : (S.step T).pc f false r x = y := (Sys.by4 (S := S) h hb T x).trans e
def N6 (T : S.Tab) (t0 : List O4.den × Unit) (t1 : Int) (t2 : Int) : Option (Int × (List O4.den × Unit) × Unit × Unit × Unit) := T.fn 24 (t0, t1, t2, ())
def Y0 (T : S.Tab) (t0 : List O4.den × Unit) : Option (Int × (List O4.den × Unit) × Unit) := T.fn 13 (t0, ())
abbrev ak4 : Unit × Unit × Unit := ((), ((), ()))
def x7 (T : S.Tab) (t0 : List Int) (t1 : Int) : Option (Int × Unit × Unit × Unit) := T.fn 25 (t0, t1, ())
abbrev ad7 : Unit × Unit × Unit := ((), ((), ()))
def I9 (T : S.Tab) (t0 : List Int) (t1 : Int) : Option (Int × Unit × Unit × Unit) := T.fn 14 (t0, t1, ())
def s9 (T : S.Tab) (t0 : List Int) (t1 : Int) : Option ((Int × Unit) ⊕ (Int × Unit) ⊕ Empty) := T.pc 14 true 1 (t0, t1, ())
def F3 (T : S.Tab) (t0 : List Int) (t1 : Int) : Option ((List Int × Int × Unit) ⊕ Empty) := T.pc 14 true 7 (t0, t1, ())
abbrev H3 : Unit × Unit := ((), ())
def N5 (T : S.Tab) (t0 : Int) : Option (Bool × Unit × Unit) := T.fn 26 (t0, ())
abbrev ah4 : Unit × Unit := ((), ())
def A3 (T : S.Tab) (t0 : Int) : Option (Bool × Unit × Unit) := T.fn 28 (t0, ())
abbrev at0 : Unit := ()
def ag3 (T : S.Tab) : Option (List (List Int) × Unit) := T.fn 52 ()
abbrev al7 : Unit × (Unit × Unit × Unit × Unit × Unit × Unit × Unit) × Unit := ((), (((), ((), ((), ((), ((), ((), ())))))), ()))
def ak5 (T : S.Tab) (t0 : List Int) (t1 : j7.den) : Option ((j7.den × Int × Unit) × Unit × (Unit × Unit × Unit × Unit × Unit × Unit × Unit) × Unit) := T.fn 27 (t0, t1, ())
def G4 (T : S.Tab) (t0 : List Int) (t3 : j7.den) (t4 : j7.den) (t6 : Int) : Option ((List Int × j7.den × j7.den × Int × Unit) ⊕ Empty) := T.pc 27 true 2 (t0, t3, t4, t6, ())
def G5 (T : S.Tab) (t3 : j7.den) (t4 : j7.den) (t7 : List Int) (t32 : List (List Int)) (t33 : Int) (t34 : Int) : Option ((j7.den × Int × Unit) ⊕ (j7.den × j7.den × List Int × Unit) ⊕ Empty) := T.pc 27 true 8 (t3, t4, t7, t32, t33, t34, ())
abbrev Y8 : Unit × Unit := ((), ())
def X0 (T : S.Tab) (t0 : Int) : Option (Int × Unit × Unit) := T.fn 54 (t0, ())
abbrev Y2 : Unit × (Unit × Unit × Unit × Unit × Unit × Unit × Unit) × Unit := ((), (((), ((), ((), ((), ((), ((), ())))))), ()))
def af6 (T : S.Tab) (t0 : List Int) (t1 : j7.den) : Option ((j7.den × Int × Unit) × Unit × (Unit × Unit × Unit × Unit × Unit × Unit × Unit) × Unit) := T.fn 53 (t0, t1, ())
def E3 (T : S.Tab) (t0 : List Int) (t3 : j7.den) (t4 : j7.den) (t6 : Int) (t7 : Int) : Option ((j7.den × Int × Unit) ⊕ (j7.den × j7.den × Int × Int × Unit) ⊕ Empty) := T.pc 53 true 3 (t0, t3, t4, t6, t7, ())
abbrev M5 : Unit × (Unit × Unit × Unit × Unit × Unit × Unit × Unit) × Unit := ((), (((), ((), ((), ((), ((), ((), ())))))), ()))
def Q1 (T : S.Tab) (t0 : List Int) (t1 : j7.den) : Option ((j7.den × Int × Unit) × Unit × (Unit × Unit × Unit × Unit × Unit × Unit × Unit) × Unit) := T.fn 29 (t0, t1, ())
def D3 (T : S.Tab) (t0 : List Int) (t3 : j7.den) (t4 : j7.den) (t6 : Int) : Option ((j7.den × Int × Unit) ⊕ Empty) := T.pc 29 false 9 (t0, t3, t4, t6, ())
def A2 (T : S.Tab) (t0 : List Int) (t3 : j7.den) (t4 : j7.den) (t6 : Int) : Option ((j7.den × Int × Unit) ⊕ Empty) := T.pc 29 false 14 (t0, t3, t4, t6, ())
def A0 (T : S.Tab) (t0 : List Int) (t3 : j7.den) (t4 : j7.den) (t6 : Int) : Option ((j7.den × Int × Unit) ⊕ Empty) := T.pc 29 false 23 (t0, t3, t4, t6, ())
def D1 (T : S.Tab) (t0 : List Int) (t3 : j7.den) (t4 : j7.den) (t6 : Int) : Option ((List Int × j7.den × j7.den × Int × Unit) ⊕ Empty) := T.pc 29 true 7 (t0, t3, t4, t6, ())
def D6 (T : S.Tab) (t0 : List Int) (t3 : j7.den) (t4 : j7.den) (t6 : Int) : Option ((List Int × j7.den × j7.den × Int × Unit) ⊕ Empty) := T.pc 29 true 12 (t0, t3, t4, t6, ())
def A1 (T : S.Tab) (t0 : List Int) (t3 : j7.den) (t4 : j7.den) (t6 : Int) : Option ((List Int × j7.den × j7.den × Int × Unit) ⊕ Empty) := T.pc 29 true 21 (t0, t3, t4, t6, ())
def r5 (T : S.Tab) (t0 : List Int) (t3 : j7.den) (t4 : j7.den) (t6 : Int) (t7 : Int) (t8 : Int) : Option ((List Int × j7.den × j7.den × Int × Int × Unit) ⊕ Empty) := T.pc 29 true 26 (t0, t3, t4, t6, t7, t8, ())
abbrev ac4 : Unit × (Unit × Unit × Unit × Unit × Unit × Unit × Unit) × Unit := ((), (((), ((), ((), ((), ((), ((), ())))))), ()))
def aa8 (T : S.Tab) (t0 : List Int) (t1 : j7.den) : Option ((j7.den × Int × Unit) × Unit × (Unit × Unit × Unit × Unit × Unit × Unit × Unit) × Unit) := T.fn 30 (t0, t1, ())
def A8 (T : S.Tab) (t0 : List Int) (t3 : j7.den) (t4 : j7.den) (t6 : Int) (t7 : List Int) (t46 : Int) (t59 : Bool) : Option ((List Int × j7.den × j7.den × Int × List Int × Unit) ⊕ (j7.den × Int × Unit) ⊕ Empty) := T.pc 30 false 24 (t0, t3, t4, t6, t7, t46, t59, ())
def p8 (T : S.Tab) (t0 : List Int) (t3 : j7.den) (t4 : j7.den) (t6 : Int) (t7 : List Int) : Option ((j7.den × Int × Unit) ⊕ (j7.den × j7.den × Int × Unit) ⊕ Empty) := T.pc 30 true 4 (t0, t3, t4, t6, t7, ())
def C2 (T : S.Tab) (t0 : List Int) (t3 : j7.den) (t4 : j7.den) (t6 : Int) (t7 : List Int) (t9 : Int) : Option ((j7.den × Int × Unit) ⊕ (List Int × j7.den × j7.den × Int × List Int × Unit) ⊕ Empty) := T.pc 30 true 27 (t0, t3, t4, t6, t7, t9, ())
abbrev au3 : Unit := ()
def P8 (T : S.Tab) : Option (List (List Int) × Unit) := T.fn 31 ()
abbrev L4 : Unit × Unit := ((), ())
def L7 (T : S.Tab) (t0 : List Int) : Option (Int × Unit × Unit) := T.fn 32 (t0, ())
def D9 (T : S.Tab) (t0 : List Int) (t3 : List (List Int)) (t4 : Int) : Option ((Int × Unit) ⊕ (List Int × Unit) ⊕ Empty) := T.pc 32 true 3 (t0, t3, t4, ())
def G2 (T : S.Tab) (t0 : List Int) (t24 : List (List Int)) (t25 : Int) (t26 : Int) : Option ((Int × Unit) ⊕ (Unit) ⊕ Empty) := T.pc 32 true 9 (t0, t24, t25, t26, ())
abbrev C1 : Unit × Unit × Unit := ((), ((), ()))
def D5 (T : S.Tab) (t0 : List Int) (t1 : Int) : Option ((j7.den × Int × Unit) × Unit × Unit × Unit) := T.fn 15 (t0, t1, ())
def C7 (T : S.Tab) (t0 : List Int) (t1 : Int) (t4 : j7.den) (t6 : j7.den) (t43 : List (List Int)) (t44 : Int) (t45 : Int) : Option ((j7.den × Int × Unit) ⊕ (Int × j7.den × j7.den × Unit) ⊕ Empty) := T.pc 15 true 14 (t0, t1, t4, t6, t43, t44, t45, ())
abbrev aE5 : Unit × Unit := ((), ())
def l5 (T : S.Tab) (t0 : List Int) : Option (List Int × Unit × Unit) := T.fn 55 (t0, ())
abbrev s8 : Unit × Unit := ((), ())
def ad9 (T : S.Tab) (t0 : Int) : Option ((List Int × Bool × Unit) × Unit × Unit) := T.fn 56 (t0, ())
def M4 (T : S.Tab) (t0 : Int) (t4 : Int) (t35 : Bool) : Option ((List Int × Bool × Unit) ⊕ (Unit) ⊕ Empty) := T.pc 56 false 16 (t0, t4, t35, ())
abbrev H0 : Unit × Unit := ((), ())
def x8 (T : S.Tab) (t0 : Int) : Option (Bool × Unit × Unit) := T.fn 67 (t0, ())
abbrev j8 : Unit × Unit := ((), ())
def B4 (T : S.Tab) (t0 : Int) : Option (Bool × Unit × Unit) := T.fn 57 (t0, ())
abbrev H4 : Unit × Unit × Unit × Unit := ((), ((), ((), ())))
def B8 (T : S.Tab) (t0 : Int) (t1 : Int) (t2 : Int) : Option (List Int × Unit × Unit × Unit × Unit) := T.fn 68 (t0, t1, t2, ())
abbrev K0 : Unit × Unit × Unit := ((), ((), ()))
def S3 (T : S.Tab) (t0 : Int) (t1 : Int) : Option ((List Int × Bool × Unit) × Unit × Unit × Unit) := T.fn 58 (t0, t1, ())
def F9 (T : S.Tab) (t0 : Int) (t1 : Int) (t6 : List Int) (t9 : Int) (t10 : Bool) : Option ((Int × Int × List Int × Unit) ⊕ Empty) := T.pc 58 false 6 (t0, t1, t6, t9, t10, ())
def E5 (T : S.Tab) (t0 : Int) (t1 : Int) (t6 : List Int) : Option ((List Int × Bool × Unit) ⊕ Empty) := T.pc 58 false 13 (t0, t1, t6, ())
def E8 (T : S.Tab) (t0 : Int) (t1 : Int) : Option ((List Int × Bool × Unit) ⊕ Empty) := T.pc 58 false 22 (t0, t1, ())
abbrev D2 : Unit × Unit := ((), ())
def ac9 (T : S.Tab) (t0 : Int) : Option ((List Int × Bool × Unit) × Unit × Unit) := T.fn 69 (t0, ())
abbrev O3 : Unit × Unit := ((), ())
def Y4 (T : S.Tab) (t0 : Int) : Option (Bool × Unit × Unit) := T.fn 70 (t0, ())
abbrev o8 : Unit × Unit × Unit := ((), ((), ()))
def S4 (T : S.Tab) (t0 : Int) (t1 : Int) : Option ((List Int × Bool × Unit) × Unit × Unit × Unit) := T.fn 59 (t0, t1, ())
def H5 (T : S.Tab) (t0 : Int) (t1 : Int) (t6 : Int) (t49 : Bool) : Option ((List Int × Bool × Unit) ⊕ (Int × Unit) ⊕ Empty) := T.pc 59 false 24 (t0, t1, t6, t49, ())
abbrev b9 : Unit × Unit × Unit := ((), ((), ()))
def I6 (T : S.Tab) (t0 : Int) (t1 : Int) : Option ((List Int × Bool × Unit) × Unit × Unit × Unit) := T.fn 33 (t0, t1, ())
def u6 (T : S.Tab) (t0 : Int) (t1 : Int) (t93 : Bool) : Option ((List Int × Bool × Unit) ⊕ (O4.den) ⊕ Empty) := T.pc 33 false 52 (t0, t1, t93, ())
def u7 (T : S.Tab) (t0 : Int) (t1 : Int) : Option ((List Int × Bool × Unit) ⊕ Empty) := T.pc 33 false 53 (t0, t1, ())
def Q5 (T : S.Tab) (t0 : List O4.den × Unit) (t1 : Int) (t2 : Int) : Option ((Int × Bool × Unit) × (List O4.den × Unit) × Unit × Unit × Unit) := T.fn 16 (t0, t1, t2, ())
def u9 (T : S.Tab) (t0 : List O4.den × Unit) (t1 : Int) (t2 : Int) : Option (((List O4.den × Unit) × Int × Bool × Unit) ⊕ ((List O4.den × Unit) × Int × Unit) ⊕ Empty) := T.pc 16 true 1 (t0, t1, t2, ())
def G0 (T : S.Tab) (t0 : List O4.den × Unit) (t1 : Int) (t2 : Int) (t9 : List Int) (t11 : Int) : Option (((List O4.den × Unit) × O4.den) ⊕ Empty) := T.pc 16 true 10 (t0, t1, t2, t9, t11, ())
def U6 (T : S.Tab) (t0 : List O4.den × Unit) (t1 : Int) : Option (List Int × (List O4.den × Unit) × Unit × Unit) := T.fn 10 (t0, t1, ())
def E2 (T : S.Tab) (t0 : List O4.den × Unit) (t1 : Int) (t5 : List Int) (t6 : Int) (t7 : Int) : Option (((List O4.den × Unit) × List Int × Unit) ⊕ Empty) := T.pc 10 true 4 (t0, t1, t5, t6, t7, ())
abbrev x9 : Unit × Unit := ((), ())
def w6 (T : S.Tab) (t0 : Int) : Option (List Int × Unit × Unit) := T.fn 60 (t0, ())
def C5 (T : S.Tab) (t0 : Int) (t23 : List (List Int)) (t24 : Int) (t25 : Int) : Option ((List Int × Unit) ⊕ (Unit) ⊕ Empty) := T.pc 60 true 7 (t0, t23, t24, t25, ())
abbrev E0 : Unit × Unit × Unit := ((), ((), ()))
def Y3 (T : S.Tab) (t0 : List Int) (t1 : List Int) : Option (Bool × Unit × Unit × Unit) := T.fn 34 (t0, t1, ())
def l8 (T : S.Tab) (t1 : List Int) (t16 : List Int) (t17 : Int) (t18 : Int) : Option ((Bool × Unit) ⊕ (Unit) ⊕ Empty) := T.pc 34 true 4 (t1, t16, t17, t18, ())
abbrev au5 : Unit × Unit × Unit × Unit := ((), ((), ((), ())))
def Y5 (T : S.Tab) (t0 : List Int) (t1 : Int) (t2 : List Int) : Option (Int × Unit × Unit × Unit × Unit) := T.fn 17 (t0, t1, t2, ())
def z6 (T : S.Tab) (t0 : List Int) (t1 : Int) (t2 : List Int) (t7 : Int) : Option ((O4.den) ⊕ Empty) := T.pc 17 true 2 (t0, t1, t2, t7, ())
def X4 (T : S.Tab) (t0 : List O4.den × Unit) (t1 : List Int) : Option ((List j7.den × O4.den) × (List O4.den × Unit) × Unit × Unit) := T.fn 9 (t0, t1, ())
def u5 (T : S.Tab) (t0 : List O4.den × Unit) (t1 : List Int) (t7 : Int) (t8 : List j7.den) (t9 : Int) (t10 : Int) (t11 : j7.den) (t12 : Int) (t13 : Int) : Option (((List O4.den × Unit) × List Int × Int × List j7.den × O4.den) ⊕ ((List O4.den × Unit) × List j7.den × O4.den) ⊕ ((List O4.den × Unit) × List Int × Int × List j7.den × O4.den) ⊕ Empty) := T.pc 9 false 12 (t0, t1, t7, t8, t9, t10, t11, t12, t13, ())
def z7 (T : S.Tab) (t0 : List O4.den × Unit) (t1 : List Int) (t7 : Int) (t8 : List j7.den) (t9 : Int) (t10 : Int) (t11 : j7.den) (t12 : Int) (t13 : Int) (t14 : Int) (t15 : Bool) : Option (((List O4.den × Unit) × List Int × Int × List j7.den × O4.den) ⊕ ((List O4.den × Unit) × List j7.den × O4.den) ⊕ ((List O4.den × Unit) × List Int × Int × List j7.den × O4.den) ⊕ Empty) := T.pc 9 false 16 (t0, t1, t7, t8, t9, t10, t11, t12, t13, t14, t15, ())
def p4 (T : S.Tab) (t0 : List O4.den × Unit) (t1 : List Int) (t7 : Int) (t8 : List j7.den) (t9 : Int) (t10 : Int) : Option (((List O4.den × Unit) × List j7.den × O4.den) ⊕ ((List O4.den × Unit) × List Int × Int × List j7.den × Int × Unit) ⊕ Empty) := T.pc 9 true 5 (t0, t1, t7, t8, t9, t10, ())
abbrev al8 : Unit × Unit := ((), ())
def aj6 (T : S.Tab) (t0 : List Int) : Option (List Int × Unit × Unit) := T.fn 4 (t0, ())
abbrev as8 : Unit := ()
def af8 (T : S.Tab) : Option (List Int × Unit) := T.fn 18 ()
abbrev L8 : Unit × Unit × Unit := ((), ((), ()))
def I8 (T : S.Tab) (t0 : List Int) (t1 : List Int) : Option (Bool × Unit × Unit × Unit) := T.fn 61 (t0, t1, ())
abbrev U0 : Unit × Unit × Unit := ((), ((), ()))
def J2 (T : S.Tab) (t0 : List Int) (t1 : List Int) : Option (Bool × Unit × Unit × Unit) := T.fn 35 (t0, t1, ())
abbrev U3 : Unit × Unit × Unit := ((), ((), ()))
def K1 (T : S.Tab) (t0 : List Int) (t1 : Int) : Option (Int × Unit × Unit × Unit) := T.fn 19 (t0, t1, ())
def A4 (T : S.Tab) (t0 : List Int) (t1 : Int) : Option ((Int × Unit) ⊕ (Int × Unit) ⊕ Empty) := T.pc 19 true 1 (t0, t1, ())
def K5 (T : S.Tab) (t0 : List Int) (t1 : Int) : Option ((List Int × Int × Unit) ⊕ Empty) := T.pc 19 true 6 (t0, t1, ())
abbrev aA0 : Unit × Unit := ((), ())
def l6 (T : S.Tab) (t0 : List Int) : Option ((List Int × Bool × Bool × Unit) × Unit × Unit) := T.fn 44 (t0, ())
abbrev j2 : Unit × Unit := ((), ())
def W6 (T : S.Tab) (t0 : Int) : Option (Bool × Unit × Unit) := T.fn 48 (t0, ())
abbrev ay2 : Unit := ()
def w9 (T : S.Tab) : Option ((List Int × Bool × Bool × Unit) × Unit) := T.fn 45 ()
abbrev aw9 : Unit := ()
def C3 (T : S.Tab) : Option ((List Int × Bool × Bool × Unit) × Unit) := T.fn 46 ()
abbrev D7 : Unit × Unit := ((), ())
def s5 (T : S.Tab) (t0 : Int) : Option (Bool × Unit × Unit) := T.fn 51 (t0, ())
abbrev j9 : Unit × Unit := ((), ())
def E6 (T : S.Tab) (t0 : Int) : Option (Bool × Unit × Unit) := T.fn 49 (t0, ())
def H6 (T : S.Tab) (t0 : Int) (t1 : Int) (t2 : Int) : Option ((List Int × Bool × Unit) × Unit × Unit × Int × Unit) := T.fn 47 (t0, t1, t2, ())
abbrev ap3 : Unit × Unit × Unit × Unit := ((), ((), ((), ())))
def ag9 (T : S.Tab) (t0 : Int) (t1 : Int) (t2 : Int) : Option (Bool × Unit × Unit × Unit × Unit) := T.fn 66 (t0, t1, t2, ())
abbrev K4 : Unit × Unit := ((), ())
def S6 (T : S.Tab) (t0 : Int) : Option (Bool × Unit × Unit) := T.fn 50 (t0, ())
abbrev b8 : Unit × Unit × Unit := ((), ((), ()))
def P6 (T : S.Tab) (t0 : Int) (t1 : Int) : Option ((List Int × Bool × Bool × Unit) × Unit × Unit × Unit) := T.fn 23 (t0, t1, ())
def Q7 (T : S.Tab) (t3 : Int) (t41 : Int) (t90 : Bool) : Option ((List Int × Bool × Bool × Unit) ⊕ (Unit) ⊕ Empty) := T.pc 23 false 25 (t3, t41, t90, ())
abbrev U2 : Unit × Unit × Unit := ((), ((), ()))
def O5 (T : S.Tab) (t0 : List Int) (t1 : Int) : Option (Bool × Unit × Unit × Unit) := T.fn 12 (t0, t1, ())
def T1 (T : S.Tab) (t0 : List Int) (t1 : Int) : Option ((Bool × Unit) ⊕ (Unit) ⊕ Empty) := T.pc 12 true 1 (t0, t1, ())
abbrev ac8 : Unit × Unit × Unit := ((), ((), ()))
def Y6 (T : S.Tab) (t0 : List Int) (t1 : Int) : Option (List Int × Unit × Unit × Unit) := T.fn 20 (t0, t1, ())
def x4 (T : S.Tab) (t0 : List Int) (t1 : Int) : Option ((List Int × Unit) ⊕ (Unit) ⊕ Empty) := T.pc 20 true 1 (t0, t1, ())
def K6 (T : S.Tab) (t0 : List Int) (t1 : Int) (t5 : List Int) (t8 : Int) : Option ((List Int × Int × Unit) ⊕ Empty) := T.pc 20 true 13 (t0, t1, t5, t8, ())
abbrev L5 : Unit × Unit := ((), ())
def S9 (T : S.Tab) (t0 : Int) : Option (Bool × Unit × Unit) := T.fn 36 (t0, ())
abbrev ao6 : Unit × Unit := ((), ())
def M8 (T : S.Tab) (t0 : Int) : Option (Bool × Unit × Unit) := T.fn 37 (t0, ())
abbrev av8 : Unit × Unit := ((), ())
def ay8 (T : S.Tab) (t0 : List Int) : Option (Int × Unit × Unit) := T.fn 38 (t0, ())
def K9 (T : S.Tab) (t0 : List Int) (t5 : List (List Int)) (t6 : Int) (t7 : Int) : Option ((Int × Unit) ⊕ (Unit) ⊕ Empty) := T.pc 38 true 2 (t0, t5, t6, t7, ())
abbrev aj9 : Unit × Unit := ((), ())
def ap1 (T : S.Tab) (t0 : Int) : Option (Bool × Unit × Unit) := T.fn 41 (t0, ())
abbrev aj3 : Unit × Unit := ((), ())
def o9 (T : S.Tab) (t0 : Int) : Option (Int × Unit × Unit) := T.fn 73 (t0, ())
def an3 (T : S.Tab) (t0 : List Int) : Option (Bool × Unit × Unit) := T.fn 74 (t0, ())
abbrev j3 : Unit × Unit × Unit × Unit := ((), ((), ((), ())))
def N9 (T : S.Tab) (t0 : List Int) (t1 : Int) (t2 : Int) : Option ((Int × Bool × Unit) × Unit × Unit × Unit × Unit) := T.fn 64 (t0, t1, t2, ())
def j1 (T : S.Tab) (t0 : List Int) (t1 : Int) (t2 : Int) (t8 : Bool) (t9 : List Int) : Option ((Int × Bool × Unit) ⊕ Empty) := T.pc 64 false 21 (t0, t1, t2, t8, t9, ())
def E1 (T : S.Tab) (t0 : List Int) (t1 : Int) (t2 : Int) (t8 : Bool) (t9 : List Int) : Option ((Int × Bool × Unit) ⊕ Empty) := T.pc 64 false 25 (t0, t1, t2, t8, t9, ())
def C0 (T : S.Tab) (t0 : List Int) (t1 : Int) (t2 : Int) (t8 : Bool) (t9 : List Int) (t10 : Int) : Option ((Int × Bool × Unit) ⊕ Empty) := T.pc 64 false 32 (t0, t1, t2, t8, t9, t10, ())
def z8 (T : S.Tab) (t1 : Int) (t8 : Bool) (t9 : List Int) (t10 : Int) (t11 : Int) (t12 : Bool) (t13 : Int) (t16 : Int) (t99 : List Int) (t100 : Int) (t101 : Int) : Option ((Int × Bool × Unit) ⊕ (Int × Bool × List Int × Int × Int × Bool × Int × List Int × O4.den) ⊕ Empty) := T.pc 64 false 46 (t1, t8, t9, t10, t11, t12, t13, t16, t99, t100, t101, ())
def p9 (T : S.Tab) (t1 : Int) (t8 : Bool) (t9 : List Int) (t10 : Int) (t11 : Int) (t12 : Bool) (t13 : Int) (t99 : List Int) (t100 : Int) (t101 : Int) : Option ((Int × Bool × Unit) ⊕ (List Int × Bool × Int × Unit) ⊕ Empty) := T.pc 64 true 36 (t1, t8, t9, t10, t11, t12, t13, t99, t100, t101, ())
abbrev ad4 : Unit × Unit × Unit × Unit := ((), ((), ((), ())))
def F6 (T : S.Tab) (t0 : List Int) (t1 : Int) (t2 : Int) : Option ((Int × Bool × Unit) × Unit × Unit × Unit × Unit) := T.fn 42 (t0, t1, t2, ())
abbrev B9 : Unit × Unit × Unit := ((), ((), ()))
def P7 (T : S.Tab) (t0 : List Int) (t1 : Int) : Option ((j7.den × Bool × Unit) × Unit × Unit × Unit) := T.fn 39 (t0, t1, ())
def C8 (T : S.Tab) (t0 : List Int) (t1 : Int) (t4 : j7.den) (t6 : Int) : Option ((j7.den × Bool × Unit) ⊕ Empty) := T.pc 39 false 17 (t0, t1, t4, t6, ())
def E4 (T : S.Tab) (t0 : List Int) (t1 : Int) (t4 : j7.den) (t6 : Int) (t9 : Int) : Option ((j7.den × Bool × Unit) ⊕ Empty) := T.pc 39 false 22 (t0, t1, t4, t6, t9, ())
def G9 (T : S.Tab) (t0 : List Int) (t1 : Int) (t4 : j7.den) (t6 : Int) (t9 : Int) : Option ((j7.den × Bool × Unit) ⊕ (List Int × Int × j7.den × O4.den) ⊕ Empty) := T.pc 39 false 26 (t0, t1, t4, t6, t9, ())
def C4 (T : S.Tab) (t0 : List Int) (t1 : Int) (t4 : j7.den) (t6 : Int) (t9 : Int) : Option ((j7.den × Bool × Unit) ⊕ Empty) := T.pc 39 false 31 (t0, t1, t4, t6, t9, ())
def J1 (T : S.Tab) (t0 : List Int) (t1 : Int) (t4 : j7.den) (t6 : Int) : Option ((List Int × Int × j7.den × Int × Unit) ⊕ Empty) := T.pc 39 true 5 (t0, t1, t4, t6, ())
def C9 (T : S.Tab) (t0 : List Int) (t1 : Int) (t4 : j7.den) (t6 : Int) : Option ((List Int × Int × j7.den × Int × Unit) ⊕ Empty) := T.pc 39 true 15 (t0, t1, t4, t6, ())
def G8 (T : S.Tab) (t0 : List Int) (t1 : Int) (t4 : j7.den) (t6 : Int) (t9 : Int) : Option ((List Int × Int × j7.den × O4.den) ⊕ Empty) := T.pc 39 true 20 (t0, t1, t4, t6, t9, ())
def G7 (T : S.Tab) (t0 : List Int) (t1 : Int) (t4 : j7.den) (t6 : Int) (t9 : Int) : Option ((List Int × Int × j7.den × O4.den) ⊕ Empty) := T.pc 39 true 29 (t0, t1, t4, t6, t9, ())
abbrev S2 : Unit × Unit × Unit := ((), ((), ()))
def J0 (T : S.Tab) (t0 : List Int) (t1 : Int) : Option (Int × Unit × Unit × Unit) := T.fn 63 (t0, t1, ())
abbrev T2 : Unit × Unit × Unit := ((), ((), ()))
def M3 (T : S.Tab) (t0 : List Int) (t1 : Int) : Option (Int × Unit × Unit × Unit) := T.fn 40 (t0, t1, ())
abbrev U5 : Unit × Unit := ((), ())
def ah9 (T : S.Tab) (t0 : Int) : Option (List Int × Unit × Unit) := T.fn 43 (t0, ())
abbrev J9 : Unit × Unit × Unit := ((), ((), ()))
def Q2 (T : S.Tab) (t0 : List Int) (t1 : Int) : Option ((j7.den × Bool × Unit) × Unit × Unit × Unit) := T.fn 21 (t0, t1, ())
def N3 (T : S.Tab) (t0 : List Int) (t1 : Int) (t4 : j7.den) (t7 : Int) : Option ((List Int × Int × j7.den × Int × Unit) ⊕ Empty) := T.pc 21 true 5 (t0, t1, t4, t7, ())
def x5 (T : S.Tab) (t0 : List Int) (t4 : j7.den) (t8 : List Int) (t9 : Int) : Option ((j7.den × Bool × Unit) ⊕ Empty) := T.pc 21 true 18 (t0, t4, t8, t9, ())
def K7 (T : S.Tab) (t0 : List Int) (t4 : j7.den) (t8 : List Int) (t9 : Int) (t11 : Int) : Option ((j7.den × Bool × Unit) ⊕ (List Int × j7.den × List Int × Int × Unit) ⊕ Empty) := T.pc 21 true 39 (t0, t4, t8, t9, t11, ())
def G6 (T : S.Tab) (t0 : List Int) (t1 : Int) (t4 : j7.den) (t14 : Int) (t15 : Int) : Option ((Int × j7.den × Unit) ⊕ Empty) := T.pc 21 true 49 (t0, t1, t4, t14, t15, ())
abbrev S5 : Unit × Unit × Unit × Unit := ((), ((), ((), ())))
def N1 (T : S.Tab) (t0 : List Int) (t1 : List Int) (t2 : Int) : Option (Int × Unit × Unit × Unit × Unit) := T.fn 22 (t0, t1, t2, ())
def J5 (T : S.Tab) (t0 : List Int) (t1 : List Int) (t2 : Int) (t7 : Int) : Option ((Int × Unit) ⊕ Empty) := T.pc 22 false 4 (t0, t1, t2, t7, ())
def B5 (T : S.Tab) (t0 : List Int) (t1 : List Int) (t2 : Int) (t7 : Int) (t8 : Int) : Option ((List Int × List Int × O4.den) ⊕ Empty) := T.pc 22 true 5 (t0, t1, t2, t7, t8, ())
def F2 (T : S.Tab) (t0 : List Int) (t1 : List Int) (t2 : Int) (t7 : Int) (t8 : Int) (t9 : List Int) (t10 : Int) : Option ((List Int × List Int × Int × Int × O4.den) ⊕ Empty) := T.pc 22 true 10 (t0, t1, t2, t7, t8, t9, t10, ())
def D4 (T : S.Tab) (t1 : List Int) (t2 : Int) (t7 : Int) (t11 : Int) : Option ((O4.den) ⊕ Empty) := T.pc 22 true 15 (t1, t2, t7, t11, ())
abbrev am1 : Unit × Unit := ((), ())
def ai0 (T : S.Tab) (t0 : List Int) : Option ((List j7.den × List Int × Int × Unit) × Unit × Unit) := T.fn 11 (t0, ())
def q9 (T : S.Tab) (t0 : List Int) (t2 : List j7.den) (t3 : List Int) (t5 : Int) (t6 : Int) : Option ((List j7.den × List Int × Int × Unit) ⊕ (List j7.den × List Int × Unit) ⊕ Empty) := T.pc 11 true 4 (t0, t2, t3, t5, t6, ())
abbrev ak1 : Unit × Unit := ((), ())
def ac3 (T : S.Tab) (t0 : List Int) : Option (List Int × Unit × Unit) := T.fn 5 (t0, ())
def H2 (T : S.Tab) (t4 : List Int) (t6 : List Int) (t7 : Int) : Option ((List Int × Unit) ⊕ Empty) := T.pc 5 true 8 (t4, t6, t7, ())
abbrev aa6 : Unit × Unit × Unit := ((), ((), ()))
def ac5 (T : S.Tab) (t0 : List Int) (t1 : List Int) : Option (Bool × Unit × Unit × Unit) := T.fn 6 (t0, t1, ())
def L6 (T : S.Tab) (t0 : List Int) (t1 : List Int) (t5 : Int) : Option ((Bool × Unit) ⊕ (Unit) ⊕ Empty) := T.pc 6 true 4 (t0, t1, t5, ())
def ab3 (T : S.Tab) (t0 : List Int) (t1 : Int) : Option (Int × List Int × Unit × Unit) := T.fn 7 (t0, t1, ())
def H9 (T : S.Tab) (t0 : List Int) (t1 : Int) (t5 : Int) : Option ((List Int × Int × Unit) ⊕ Empty) := T.pc 7 true 2 (t0, t1, t5, ())
abbrev ac7 : Unit × Unit × Unit := ((), ((), ()))
def V0 (T : S.Tab) (t0 : List Int) (t1 : Int) : Option (Int × Unit × Unit × Unit) := T.fn 8 (t0, t1, ())
def H8 (T : S.Tab) (t0 : List Int) (t1 : Int) (t5 : Int) : Option ((Int × Unit) ⊕ (Int × Unit) ⊕ Empty) := T.pc 8 true 2 (t0, t1, t5, ())
abbrev B0 : Unit × Unit := ((), ())
def S7 (T : S.Tab) (t0 : List Int) : Option (Bool × Unit × Unit) := T.fn 3 (t0, ())
theorem aH2 (T : S.Tab) (t0 : List O4.den × Unit) (t1 : Int) (t2 : Int) : N6 (S.step T) t0 t1 t2 =
 brk (fits (t0.1.length + ([(t2, t1, ())] : List O4.den).length)) (
 some (IntKind.i64.wrap (((t0.1 ++ ([(t2, t1, ())] : List O4.den)).length : Int) - 1), (t0.1 ++ ([(t2, t1, ())] : List O4.den), ()), (), (), ())) none
 := eF Tryd.func24 (by kernel_rfl)
theorem aD4 (T : S.Tab) (t0 : List O4.den × Unit) : Y0 (S.step T) t0 =
 (N6 T t0 (-1 : Int) 6).bind fun d5 =>
 (N6 T d5.2.1 d5.1 100).bind fun d8 =>
 some (d8.1, d8.2.1, ())
 := eF Tryd.func13 (by kernel_rfl)
theorem aQ3 (T : S.Tab) (t0 : List Int) (t1 : Int) : x7 (S.step T) t0 t1 =
 brk (decide (t1 < (t0.length : Int))) (
 brk (decide (0 ≤ t1) && decide (t1 < (t0.length : Int))) (
 some (t0.getD t1.toNat 0, ak4)) none) (
 some (0, ak4))
 := eF Tryd.func25 (by kernel_rfl)
theorem aI2 (T : S.Tab) (t0 : List Int) (t1 : Int) : I9 (S.step T) t0 t1 =
 (s9 T t0 t1).bind (N0
  (fun y1 =>
 some (y1.1, ad7))
  (fun y1 =>
 some (y1.1, ad7)))
 := eF Tryd.func14 (by kernel_rfl)
theorem B7 (T : S.Tab) (t0 : List Int) (t1 : Int) : s9 (S.step T) t0 t1 =
 brk (decide (t1 < (t0.length : Int))) (
 brk (decide (0 ≤ t1) && decide (t1 < (t0.length : Int))) (
 brk (decide (t0.getD t1.toNat 0 = 32)) (
  s9 T t0 (IntKind.i64.wrap (t1 + 1))) (
  brk (decide (t0.getD t1.toNat 0 = 9)) (
  s9 T t0 (IntKind.i64.wrap (t1 + 1))) (
  brk (decide (t0.getD t1.toNat 0 = 13)) (
   s9 T t0 (IntKind.i64.wrap (t1 + 1))) (
   brk (!decide (t0.getD t1.toNat 0 = 45)) (
   some (Sum.inl (t1, ()))) (
   (x7 T t0 (IntKind.i64.wrap (t1 + 1))).bind fun d31 =>
   brk (!decide (d31.1 = 45)) (
    some (Sum.inl (t1, ()))) (
    (F3 T t0 t1).bind (A9
     (fun y7 =>
    s9 T y7.1 y7.2.1)))))))) none) (
 some (Sum.inr (Sum.inl (t1, ()))))
 := eL Tryd.func14 rfl (by kernel_rfl)
theorem ab6 (T : S.Tab) (t0 : List Int) (t1 : Int) : F3 (S.step T) t0 t1 =
 brk (decide (t1 < (t0.length : Int))) (
 brk (decide (0 ≤ t1) && decide (t1 < (t0.length : Int))) (
 brk (!decide (t0.getD t1.toNat 0 = 10)) (
  F3 T t0 (IntKind.i64.wrap (t1 + 1))) (
  some (Sum.inl (t0, t1, ())))) none) (
 some (Sum.inl (t0, t1, ())))
 := eL Tryd.func14 rfl (by kernel_rfl)
theorem aH4 (T : S.Tab) (t0 : Int) : N5 (S.step T) t0 =
 brk (decide (97 ≤ t0)) (
 brk (decide (t0 ≤ 122)) (
  some (true, H3)) (
  brk (decide (65 ≤ t0)) (
  brk (decide (t0 ≤ 90)) (
   some (true, H3)) (
   some (decide (t0 = 95), H3))) (
  some (decide (t0 = 95), H3)))) (
 brk (decide (65 ≤ t0)) (
  brk (decide (t0 ≤ 90)) (
  some (true, H3)) (
  some (decide (t0 = 95), H3))) (
  some (decide (t0 = 95), H3)))
 := eF Tryd.func26 (by kernel_rfl)
theorem aM6 (T : S.Tab) (t0 : Int) : A3 (S.step T) t0 =
 brk (decide (48 ≤ t0)) (
 some (decide (t0 ≤ 57), ah4)) (
 some (false, ah4))
 := eF Tryd.func28 (by kernel_rfl)
theorem aP3 (T : S.Tab) : ag3 (S.step T) =
 some (([([97, 110, 100] : List Int), ([98, 114, 101, 97, 107] : List Int), ([99, 97, 116, 99, 104] : List Int), ([99, 111, 110, 115, 116] : List Int), ([100, 101, 102, 101, 114] : List Int), ([101, 108, 105, 102] : List Int), ([101, 108, 115, 101] : List Int), ([102, 97, 108, 115, 101] : List Int), ([102, 110] : List Int), ([102, 111, 114] : List Int), ([105, 102] : List Int), ([105, 110] : List Int), ([108, 101, 116] : List Int), ([110, 101, 120, 116] : List Int), ([110, 105, 108] : List Int), ([110, 111, 116] : List Int), ([111, 114] : List Int), ([114, 101, 116, 117, 114, 110] : List Int), ([116, 104, 114, 111, 119] : List Int), ([116, 114, 117, 101] : List Int), ([116, 114, 121] : List Int), ([119, 104, 105, 108, 101] : List Int)] : List (List Int)), at0)
 := eF Tryd.func52 (by kernel_rfl)
theorem aR0 (T : S.Tab) (t0 : List Int) (t1 : j7.den) : ak5 (S.step T) t0 t1 =
 (G4 T t0 t1 (0, 0, 0, 0, 0, ([] : List Int), ()) t1.2.1).bind (A9
  (fun y2 =>
 brk (bounds y2.1.length y2.2.1.2.1 y2.2.2.2.1) (
 (ag3 T).bind fun d32 =>
 (G5 T (1, y2.2.1.2.1, y2.2.2.2.1, y2.2.1.2.2.2) y2.2.2.1 (sub y2.1 y2.2.1.2.1 y2.2.2.2.1) d32.1 (d32.1.length : Int) 0).bind (N0
  (fun y8 =>
  some (y8, al7))
  (fun y8 =>
  some (((y8.1.1, y8.1.2.1, y8.1.2.2.1, y8.1.2.2.2.1, y8.1.2.2.2.2.1, y8.2.2), (-1 : Int), ()), al7)))) none))
 := eF Tryd.func27 (by kernel_rfl)
theorem aj4 (T : S.Tab) (t0 : List Int) (t3 : j7.den) (t4 : j7.den) (t6 : Int) : G4 (S.step T) t0 t3 t4 t6 =
 (x7 T t0 t6).bind fun d14 =>
 (N5 T d14.1).bind fun d15 =>
 brk (d15.1) (
 G4 T t0 t3 t4 (IntKind.i64.wrap (t6 + 1))) (
 (x7 T t0 t6).bind fun d19 =>
 (A3 T d19.1).bind fun d20 =>
 brk (d20.1) (
  G4 T t0 t3 t4 (IntKind.i64.wrap (t6 + 1))) (
  some (Sum.inl (t0, t3, t4, t6, ()))))
 := eL Tryd.func27 rfl (by kernel_rfl)
theorem aj5 (T : S.Tab) (t3 : j7.den) (t4 : j7.den) (t7 : List Int) (t32 : List (List Int)) (t33 : Int) (t34 : Int) : G5 (S.step T) t3 t4 t7 t32 t33 t34 =
 brk (decide (t34 < t33)) (
 brk (decide (0 ≤ t34) && decide (t34 < (t32.length : Int))) (
 brk (decide ((t32.getD t34.toNat []) = t7)) (
  some (Sum.inl ((IntKind.i64.wrap (10 + t34), t3.2), (-1 : Int), ()))) (
  G5 T t3 t4 t7 t32 t33 (IntKind.i64.wrap (t34 + 1)))) none) (
 some (Sum.inr (Sum.inl (t3, t4, t7, ()))))
 := eL Tryd.func27 rfl (by kernel_rfl)
theorem a03 (T : S.Tab) (t0 : Int) : X0 (S.step T) t0 =
 (A3 T t0).bind fun d4 =>
 brk (d4.1) (
 some (IntKind.i64.wrap (IntKind.u8.wrap (t0 - 48)), Y8)) (
 brk (decide (97 ≤ t0)) (
  brk (decide (t0 ≤ 102)) (
  some (IntKind.i64.wrap ((IntKind.i64.wrap (IntKind.u8.wrap (t0 - 97))) + 10), Y8)) (
  some ((-1 : Int), Y8))) (
  some ((-1 : Int), Y8)))
 := eF Tryd.func54 (by kernel_rfl)
theorem aM5 (T : S.Tab) (t0 : List Int) (t1 : j7.den) : af6 (S.step T) t0 t1 =
 (E3 T t0 t1 (0, 0, 0, 0, 0, ([] : List Int), ()) (IntKind.i64.wrap (t1.2.1 + 2)) 0).bind (N0
  (fun y3 =>
 some (y3, Y2))
  (fun y3 =>
 brk (decide (y3.2.2.1 = IntKind.i64.wrap (y3.1.2.1 + 2))) (
  some ((y3.1, y3.2.2.1, ()), Y2)) (
  some (((y3.1.1, y3.1.2.1, y3.2.2.1, y3.1.2.2.2.1, IntKind.i64.wrap y3.2.2.2.1, y3.1.2.2.2.2.2), (-1 : Int), ()), Y2))))
 := eF Tryd.func53 (by kernel_rfl)
theorem P4 (T : S.Tab) (t0 : List Int) (t3 : j7.den) (t4 : j7.den) (t6 : Int) (t7 : Int) : E3 (S.step T) t0 t3 t4 t6 t7 =
 (x7 T t0 t6).bind fun d13 =>
 (X0 T d13.1).bind fun d14 =>
 brk (decide (0 ≤ d14.1)) (
 brk (decide (IntKind.i64.wrap (t6 - t3.2.1) = 18)) (
  some (Sum.inl (t3, t6, ()))) (
  brk (decide (0 ≤ t6) && decide (t6 < (t0.length : Int))) (
  (X0 T (t0.getD t6.toNat 0)).bind fun d28 =>
  E3 T t0 t3 t4 (IntKind.i64.wrap (t6 + 1)) (IntKind.u64.wrap ((IntKind.u64.wrap (t7 * 16)) + (IntKind.u64.wrap d28.1)))) none)) (
 some (Sum.inr (Sum.inl (t3, t4, t6, t7, ()))))
 := eL Tryd.func53 rfl (by kernel_rfl)
theorem Z7 (T : S.Tab) (t0 : List Int) (t1 : j7.den) : Q1 (S.step T) t0 t1 =
 brk (decide (0 ≤ t1.2.1) && decide (t1.2.1 < (t0.length : Int))) (
 brk (decide (t0.getD t1.2.1.toNat 0 = 48)) (
 (x7 T t0 (IntKind.i64.wrap (t1.2.1 + 1))).bind fun d20 =>
 brk (decide (d20.1 = 120)) (
  (af6 T t0 (2, t1.2)).bind fun d25 =>
  some (d25.1, M5)) (
  brk (decide (0 ≤ t1.2.1) && decide (t1.2.1 < (t0.length : Int))) (
  brk (!decide (t0.getD t1.2.1.toNat 0 = 48)) (
  (D1 T t0 (2, t1.2) (0, 0, 0, 0, 0, ([] : List Int), ()) (IntKind.i64.wrap (t1.2.1 + 1))).bind (A9
   (fun y7 =>
   (D3 T y7.1 y7.2.1 y7.2.2.1 y7.2.2.2.1).bind (A9
    (fun y9 =>
   some (y9, M5)))))) (
  (D3 T t0 (2, t1.2) (0, 0, 0, 0, 0, ([] : List Int), ()) (IntKind.i64.wrap (t1.2.1 + 1))).bind (A9
   (fun y9 =>
   some (y9, M5))))) none)) (
 brk (decide (0 ≤ t1.2.1) && decide (t1.2.1 < (t0.length : Int))) (
 brk (!decide (t0.getD t1.2.1.toNat 0 = 48)) (
  (D1 T t0 (2, t1.2) (0, 0, 0, 0, 0, ([] : List Int), ()) (IntKind.i64.wrap (t1.2.1 + 1))).bind (A9
   (fun y7 =>
  (D3 T y7.1 y7.2.1 y7.2.2.1 y7.2.2.2.1).bind (A9
   (fun y9 =>
   some (y9, M5)))))) (
  (D3 T t0 (2, t1.2) (0, 0, 0, 0, 0, ([] : List Int), ()) (IntKind.i64.wrap (t1.2.1 + 1))).bind (A9
   (fun y9 =>
  some (y9, M5))))) none)) none
 := eF Tryd.func29 (by kernel_rfl)
theorem T6 (T : S.Tab) (t0 : List Int) (t3 : j7.den) (t4 : j7.den) (t6 : Int) : D3 (S.step T) t0 t3 t4 t6 =
 (x7 T t0 t6).bind fun d43 =>
 brk (decide (d43.1 = 46)) (
 (x7 T t0 (IntKind.i64.wrap (t6 + 1))).bind fun d49 =>
 (A3 T d49.1).bind fun d50 =>
 brk (d50.1) (
  (D6 T t0 (3, t3.2) t4 (IntKind.i64.wrap (t6 + 1))).bind (A9
   (fun y12 =>
  (A2 T y12.1 y12.2.1 y12.2.2.1 y12.2.2.2.1).bind (A9
   (fun y14 =>
   some (Sum.inl y14)))))) (
  (A2 T t0 t3 t4 t6).bind (A9
   (fun y14 =>
  some (Sum.inl y14))))) (
 (A2 T t0 t3 t4 t6).bind (A9
  (fun y14 =>
  some (Sum.inl y14))))
 := eJ Tryd.func29 rfl (by kernel_rfl)
theorem aa3 (T : S.Tab) (t0 : List Int) (t3 : j7.den) (t4 : j7.den) (t6 : Int) : A2 (S.step T) t0 t3 t4 t6 =
 (x7 T t0 t6).bind fun d63 =>
 brk (decide (d63.1 = 101)) (
 (x7 T t0 (IntKind.i64.wrap (t6 + 1))).bind fun d70 =>
 brk (decide (d70.1 = 45)) (
  (x7 T t0 (IntKind.i64.wrap ((IntKind.i64.wrap (t6 + 1)) + 1))).bind fun d82 =>
  (A3 T d82.1).bind fun d83 =>
  brk (!d83.1) (
  some (Sum.inl ((3, t3.2), IntKind.i64.wrap ((IntKind.i64.wrap (t6 + 1)) + 1), ()))) (
  (A1 T t0 (3, t3.2) t4 (IntKind.i64.wrap ((IntKind.i64.wrap (t6 + 1)) + 1))).bind (A9
   (fun y21 =>
   (A0 T y21.1 y21.2.1 y21.2.2.1 y21.2.2.2.1).bind (A9
    (fun y23 =>
   some (Sum.inl y23))))))) (
  (x7 T t0 (IntKind.i64.wrap (t6 + 1))).bind fun d75 =>
  brk (decide (d75.1 = 43)) (
  (x7 T t0 (IntKind.i64.wrap ((IntKind.i64.wrap (t6 + 1)) + 1))).bind fun d82 =>
  (A3 T d82.1).bind fun d83 =>
  brk (!d83.1) (
   some (Sum.inl ((3, t3.2), IntKind.i64.wrap ((IntKind.i64.wrap (t6 + 1)) + 1), ()))) (
   (A1 T t0 (3, t3.2) t4 (IntKind.i64.wrap ((IntKind.i64.wrap (t6 + 1)) + 1))).bind (A9
    (fun y21 =>
   (A0 T y21.1 y21.2.1 y21.2.2.1 y21.2.2.2.1).bind (A9
    (fun y23 =>
    some (Sum.inl y23))))))) (
  (x7 T t0 (IntKind.i64.wrap (t6 + 1))).bind fun d82 =>
  (A3 T d82.1).bind fun d83 =>
  brk (!d83.1) (
   some (Sum.inl ((3, t3.2), IntKind.i64.wrap (t6 + 1), ()))) (
   (A1 T t0 (3, t3.2) t4 (IntKind.i64.wrap (t6 + 1))).bind (A9
    (fun y21 =>
   (A0 T y21.1 y21.2.1 y21.2.2.1 y21.2.2.2.1).bind (A9
    (fun y23 =>
    some (Sum.inl y23))))))))) (
 (A0 T t0 t3 t4 t6).bind (A9
  (fun y23 =>
  some (Sum.inl y23))))
 := eJ Tryd.func29 rfl (by kernel_rfl)
theorem aa1 (T : S.Tab) (t0 : List Int) (t3 : j7.den) (t4 : j7.den) (t6 : Int) : A0 (S.step T) t0 t3 t4 t6 =
 (r5 T t0 (t3.1, t3.2.1, t6, t3.2.2.2) t4 t6 0 t3.2.1).bind (A9
  (fun y26 =>
 brk (decide (y26.2.1.1 = 3)) (
  brk (bounds y26.1.length y26.2.1.2.1 y26.2.2.2.1) (
  some (Sum.inl ((y26.2.1.1, y26.2.1.2.1, y26.2.1.2.2.1, y26.2.1.2.2.2.1, y26.2.1.2.2.2.2.1, sub y26.1 y26.2.1.2.1 y26.2.2.2.1, ()), (-1 : Int), ()))) none) (
  some (Sum.inl ((y26.2.1.1, y26.2.1.2.1, y26.2.1.2.2.1, y26.2.1.2.2.2.1, IntKind.i64.wrap y26.2.2.2.2.1, y26.2.1.2.2.2.2.2), (-1 : Int), ())))))
 := eJ Tryd.func29 rfl (by kernel_rfl)
theorem ac6 (T : S.Tab) (t0 : List Int) (t3 : j7.den) (t4 : j7.den) (t6 : Int) : D1 (S.step T) t0 t3 t4 t6 =
 (x7 T t0 t6).bind fun d37 =>
 (A3 T d37.1).bind fun d38 =>
 brk (d38.1) (
 D1 T t0 t3 t4 (IntKind.i64.wrap (t6 + 1))) (
 some (Sum.inl (t0, t3, t4, t6, ())))
 := eL Tryd.func29 rfl (by kernel_rfl)
theorem Z9 (T : S.Tab) (t0 : List Int) (t3 : j7.den) (t4 : j7.den) (t6 : Int) : D6 (S.step T) t0 t3 t4 t6 =
 (x7 T t0 t6).bind fun d57 =>
 (A3 T d57.1).bind fun d58 =>
 brk (d58.1) (
 D6 T t0 t3 t4 (IntKind.i64.wrap (t6 + 1))) (
 some (Sum.inl (t0, t3, t4, t6, ())))
 := eL Tryd.func29 rfl (by kernel_rfl)
theorem aa2 (T : S.Tab) (t0 : List Int) (t3 : j7.den) (t4 : j7.den) (t6 : Int) : A1 (S.step T) t0 t3 t4 t6 =
 (x7 T t0 t6).bind fun d89 =>
 (A3 T d89.1).bind fun d90 =>
 brk (d90.1) (
 A1 T t0 t3 t4 (IntKind.i64.wrap (t6 + 1))) (
 some (Sum.inl (t0, t3, t4, t6, ())))
 := eL Tryd.func29 rfl (by kernel_rfl)
theorem F1 (T : S.Tab) (t0 : List Int) (t3 : j7.den) (t4 : j7.den) (t6 : Int) (t7 : Int) (t8 : Int) : r5 (S.step T) t0 t3 t4 t6 t7 t8 =
 brk (decide (t8 < t6)) (
 brk (decide (t3.1 = 2)) (
  brk (decide (922337203685477580 < t7)) (
  brk (decide (0 ≤ t8) && decide (t8 < (t0.length : Int))) (
  r5 T t0 (3, t3.2) t4 t6 (IntKind.u64.wrap ((IntKind.u64.wrap (t7 * 10)) + (IntKind.u64.wrap (IntKind.u8.wrap ((t0.getD t8.toNat 0) - 48))))) (IntKind.i64.wrap (t8 + 1))) none) (
  brk (decide (t7 = 922337203685477580)) (
   brk (decide (0 ≤ t8) && decide (t8 < (t0.length : Int))) (
   brk (decide (55 < t0.getD t8.toNat 0)) (
   brk (decide (0 ≤ t8) && decide (t8 < (t0.length : Int))) (
   r5 T t0 (3, t3.2) t4 t6 (IntKind.u64.wrap ((IntKind.u64.wrap (t7 * 10)) + (IntKind.u64.wrap (IntKind.u8.wrap ((t0.getD t8.toNat 0) - 48))))) (IntKind.i64.wrap (t8 + 1))) none) (
   brk (decide (0 ≤ t8) && decide (t8 < (t0.length : Int))) (
   r5 T t0 t3 t4 t6 (IntKind.u64.wrap ((IntKind.u64.wrap (t7 * 10)) + (IntKind.u64.wrap (IntKind.u8.wrap ((t0.getD t8.toNat 0) - 48))))) (IntKind.i64.wrap (t8 + 1))) none)) none) (
   brk (decide (0 ≤ t8) && decide (t8 < (t0.length : Int))) (
   r5 T t0 t3 t4 t6 (IntKind.u64.wrap ((IntKind.u64.wrap (t7 * 10)) + (IntKind.u64.wrap (IntKind.u8.wrap ((t0.getD t8.toNat 0) - 48))))) (IntKind.i64.wrap (t8 + 1))) none))) (
  some (Sum.inl (t0, t3, t4, t6, t7, ())))) (
 some (Sum.inl (t0, t3, t4, t6, t7, ())))
 := eL Tryd.func29 rfl (by kernel_rfl)
theorem aH3 (T : S.Tab) (t0 : List Int) (t1 : j7.den) : aa8 (S.step T) t0 t1 =
 (p8 T t0 (4, t1.2) (0, 0, 0, 0, 0, ([] : List Int), ()) (IntKind.i64.wrap (t1.2.1 + 1)) []).bind (N0
  (fun y4 =>
 some (y4, ac4))
  (fun y4 =>
 some ((y4.1, y4.2.2), ac4)))
 := eF Tryd.func30 (by kernel_rfl)
theorem R7 (T : S.Tab) (t0 : List Int) (t3 : j7.den) (t4 : j7.den) (t6 : Int) (t7 : List Int) (t46 : Int) (t59 : Bool) : A8 (S.step T) t0 t3 t4 t6 t7 t46 t59 =
 brk (t59) (
 brk (decide (0 ≤ t6) && decide (t6 < (t0.length : Int))) (
 brk (fits (t7.length + ([t0.getD t6.toNat 0] : List Int).length)) (
 some (Sum.inl (t0, t3, t4, t6, t7 ++ ([t0.getD t6.toNat 0] : List Int), ()))) none) none) (
 brk (decide (t46 = 120)) (
  (C2 T t0 t3 t4 t6 t7 1).bind (N0
   (fun y27 =>
  some (Sum.inr (Sum.inl y27)))
   (fun y27 =>
  brk (decide (0 ≤ IntKind.i64.wrap (y27.2.2.2.1 + 1)) && decide (IntKind.i64.wrap (y27.2.2.2.1 + 1) < (y27.1.length : Int))) (
  (X0 T (y27.1.getD ((IntKind.i64.wrap (y27.2.2.2.1 + 1)).toNat) 0)).bind fun d90 =>
  brk (decide (0 ≤ IntKind.i64.wrap (y27.2.2.2.1 + 2)) && decide (IntKind.i64.wrap (y27.2.2.2.1 + 2) < (y27.1.length : Int))) (
  (X0 T (y27.1.getD ((IntKind.i64.wrap (y27.2.2.2.1 + 2)).toNat) 0)).bind fun d96 =>
  brk (fits (y27.2.2.2.2.1.length + ([IntKind.u8.wrap (IntKind.i64.wrap ((IntKind.i64.wrap (16 * d90.1)) + d96.1))] : List Int).length)) (
  some (Sum.inl (y27.1, y27.2.1, y27.2.2.1, IntKind.i64.wrap (y27.2.2.2.1 + 2), y27.2.2.2.2.1 ++ ([IntKind.u8.wrap (IntKind.i64.wrap ((IntKind.i64.wrap (16 * d90.1)) + d96.1))] : List Int), ()))) none) none) none))) (
  some (Sum.inr (Sum.inl (t3, t6, ())))))
 := eJ Tryd.func30 rfl (by kernel_rfl)
theorem F7 (T : S.Tab) (t0 : List Int) (t3 : j7.den) (t4 : j7.den) (t6 : Int) (t7 : List Int) : p8 (S.step T) t0 t3 t4 t6 t7 =
 brk (decide (t6 < (t0.length : Int))) (
 brk (decide (0 ≤ t6) && decide (t6 < (t0.length : Int))) (
 brk (decide (t0.getD t6.toNat 0 = 34)) (
  some (Sum.inl ((t3.1, t3.2.1, IntKind.i64.wrap (t6 + 1), t3.2.2.2.1, t3.2.2.2.2.1, t7.map byte, ()), (-1 : Int), ()))) (
  brk (decide (t0.getD t6.toNat 0 = 10)) (
  some (Sum.inl (t3, t6, ()))) (
  brk (!decide (t0.getD t6.toNat 0 = 92)) (
   brk (fits (t7.length + ([t0.getD t6.toNat 0] : List Int).length)) (
   p8 T t0 t3 t4 (IntKind.i64.wrap (t6 + 1)) (t7 ++ ([t0.getD t6.toNat 0] : List Int))) none) (
   (x7 T t0 (IntKind.i64.wrap (t6 + 1))).bind fun d46 =>
   brk (decide (d46.1 = 110)) (
   brk (fits (t7.length + 1)) (
   p8 T t0 t3 t4 (IntKind.i64.wrap ((IntKind.i64.wrap (t6 + 1)) + 1)) (t7 ++ ([10] : List Int))) none) (
   brk (decide (d46.1 = 116)) (
    brk (fits (t7.length + 1)) (
    p8 T t0 t3 t4 (IntKind.i64.wrap ((IntKind.i64.wrap (t6 + 1)) + 1)) (t7 ++ ([9] : List Int))) none) (
    brk (decide (d46.1 = 34)) (
    (A8 T t0 t3 t4 (IntKind.i64.wrap (t6 + 1)) t7 d46.1 (decide (d46.1 = 34))).bind (N0
     (fun y24 =>
     p8 T y24.1 y24.2.1 y24.2.2.1 (IntKind.i64.wrap (y24.2.2.2.1 + 1)) y24.2.2.2.2.1)
     (fun y24 =>
     some (Sum.inl y24)))) (
    (A8 T t0 t3 t4 (IntKind.i64.wrap (t6 + 1)) t7 d46.1 (decide (d46.1 = 92))).bind (N0
     (fun y24 =>
     p8 T y24.1 y24.2.1 y24.2.2.1 (IntKind.i64.wrap (y24.2.2.2.1 + 1)) y24.2.2.2.2.1)
     (fun y24 =>
     some (Sum.inl y24)))))))))) none) (
 some (Sum.inr (Sum.inl (t3, t4, t6, ()))))
 := eL Tryd.func30 rfl (by kernel_rfl)
theorem R6 (T : S.Tab) (t0 : List Int) (t3 : j7.den) (t4 : j7.den) (t6 : Int) (t7 : List Int) (t9 : Int) : C2 (S.step T) t0 t3 t4 t6 t7 t9 =
 brk (decide (t9 < 3)) (
 (x7 T t0 (IntKind.i64.wrap (t6 + t9))).bind fun d78 =>
 (X0 T d78.1).bind fun d79 =>
 brk (decide (d79.1 < 0)) (
  some (Sum.inl (t3, IntKind.i64.wrap (t6 + t9), ()))) (
  C2 T t0 t3 t4 t6 t7 (IntKind.i64.wrap (t9 + 1)))) (
 some (Sum.inr (Sum.inl (t0, t3, t4, t6, t7, ()))))
 := eL Tryd.func30 rfl (by kernel_rfl)
theorem aO0 (T : S.Tab) : P8 (S.step T) =
 some (([([46, 46, 46] : List Int), ([46, 46] : List Int), ([46] : List Int), ([60, 60] : List Int), ([60, 61] : List Int), ([60] : List Int), ([62, 62] : List Int), ([62, 61] : List Int), ([62] : List Int), ([61, 61] : List Int), ([61] : List Int), ([126, 61] : List Int), ([126] : List Int), ([47, 47] : List Int), ([47] : List Int), ([40] : List Int), ([41] : List Int), ([123] : List Int), ([125] : List Int), ([91] : List Int), ([93] : List Int), ([44] : List Int), ([59] : List Int), ([35] : List Int), ([43] : List Int), ([45] : List Int), ([42] : List Int), ([37] : List Int), ([38] : List Int), ([124] : List Int)] : List (List Int)), au3)
 := eF Tryd.func31 (by kernel_rfl)
theorem aP5 (T : S.Tab) (t0 : List Int) : L7 (S.step T) t0 =
 (D9 T t0 ([([] : List Int), ([43] : List Int), ([45] : List Int), ([42] : List Int), ([47] : List Int), ([47, 47] : List Int), ([37] : List Int), ([38] : List Int), ([124] : List Int), ([126] : List Int), ([60, 60] : List Int), ([62, 62] : List Int), ([46, 46] : List Int), ([61, 61] : List Int), ([126, 61] : List Int), ([60] : List Int), ([60, 61] : List Int), ([62] : List Int), ([62, 61] : List Int)] : List (List Int)) 1).bind (N0
  (fun y3 =>
 some (y3.1, L4))
  (fun y3 =>
 (G2 T y3.1 ([([40] : List Int), ([41] : List Int), ([123] : List Int), ([125] : List Int), ([91] : List Int), ([93] : List Int), ([44] : List Int), ([61] : List Int), ([46] : List Int), ([46, 46, 46] : List Int), ([35] : List Int)] : List (List Int)) (([([40] : List Int), ([41] : List Int), ([123] : List Int), ([125] : List Int), ([91] : List Int), ([93] : List Int), ([44] : List Int), ([61] : List Int), ([46] : List Int), ([46, 46, 46] : List Int), ([35] : List Int)] : List (List Int)).length : Int) 0).bind (N0
  (fun y9 =>
  some (y9.1, L4))
  (fun y9 =>
  some (5, L4)))))
 := eF Tryd.func32 (by kernel_rfl)
theorem ai7 (T : S.Tab) (t0 : List Int) (t3 : List (List Int)) (t4 : Int) : D9 (S.step T) t0 t3 t4 =
 brk (decide (t4 < (t3.length : Int))) (
 brk (decide (0 ≤ t4) && decide (t4 < (t3.length : Int))) (
 brk (decide ((t3.getD t4.toNat []) = t0)) (
  some (Sum.inl (IntKind.i64.wrap (60 + t4), ()))) (
  D9 T t0 t3 (IntKind.i64.wrap (t4 + 1)))) none) (
 some (Sum.inr (Sum.inl (t0, ()))))
 := eL Tryd.func32 rfl (by kernel_rfl)
theorem ai6 (T : S.Tab) (t0 : List Int) (t24 : List (List Int)) (t25 : Int) (t26 : Int) : G2 (S.step T) t0 t24 t25 t26 =
 brk (decide (t26 < t25)) (
 brk (decide (0 ≤ t26) && decide (t26 < (t24.length : Int))) (
 brk (decide ((t24.getD t26.toNat []) = t0)) (
  some (Sum.inl (IntKind.i64.wrap (40 + t26), ()))) (
  G2 T t0 t24 t25 (IntKind.i64.wrap (t26 + 1)))) none) (
 some (Sum.inr (Sum.inl ())))
 := eL Tryd.func32 rfl (by kernel_rfl)
theorem at5 (T : S.Tab) (t0 : List Int) (t1 : Int) : D5 (S.step T) t0 t1 =
 brk (decide (0 ≤ t1) && decide (t1 < (t0.length : Int))) (
 brk (decide (t0.getD t1.toNat 0 = 10)) (
 some (((7, t1, IntKind.i64.wrap (t1 + 1), 0, 0, ([] : List Int), ()), (-1 : Int), ()), C1)) (
 (N5 T (t0.getD t1.toNat 0)).bind fun d23 =>
 brk (d23.1) (
  (ak5 T t0 (0, t1, 0, 0, 0, ([] : List Int), ())).bind fun d26 =>
  some (d26.1, C1)) (
  (A3 T (t0.getD t1.toNat 0)).bind fun d30 =>
  brk (d30.1) (
  (Q1 T t0 (0, t1, 0, 0, 0, ([] : List Int), ())).bind fun d33 =>
  some (d33.1, C1)) (
  brk (decide (t0.getD t1.toNat 0 = 34)) (
   (aa8 T t0 (0, t1, 0, 0, 0, ([] : List Int), ())).bind fun d40 =>
   some (d40.1, C1)) (
   (P8 T).bind fun d43 =>
   (C7 T t0 t1 (0, 0, 0, 0, 0, ([] : List Int), ()) (0, t1, 0, 0, 0, ([] : List Int), ()) d43.1 (d43.1.length : Int) 0).bind (N0
    (fun y14 =>
   some (y14, C1))
    (fun y14 =>
   some ((y14.2.2.1, y14.1, ()), C1)))))))) none
 := eF Tryd.func15 (by kernel_rfl)
theorem af9 (T : S.Tab) (t0 : List Int) (t1 : Int) (t4 : j7.den) (t6 : j7.den) (t43 : List (List Int)) (t44 : Int) (t45 : Int) : C7 (S.step T) t0 t1 t4 t6 t43 t44 t45 =
 brk (decide (t45 < t44)) (
 brk (decide (0 ≤ t45) && decide (t45 < (t43.length : Int))) (
 brk (decide (((t43.getD t45.toNat []).length : Int) ≤ IntKind.i64.wrap ((t0.length : Int) - t1))) (
  brk (bounds t0.length t1 (IntKind.i64.wrap (t1 + ((t43.getD t45.toNat []).length : Int)))) (
  brk (decide ((sub t0 t1 (IntKind.i64.wrap (t1 + ((t43.getD t45.toNat []).length : Int)))) = (t43.getD t45.toNat []))) (
  (L7 T (t43.getD t45.toNat [])).bind fun d68 =>
  some (Sum.inl ((d68.1, t6.2.1, IntKind.i64.wrap (t1 + ((t43.getD t45.toNat []).length : Int)), t6.2.2.2), (-1 : Int), ()))) (
  C7 T t0 t1 t4 t6 t43 t44 (IntKind.i64.wrap (t45 + 1)))) none) (
  C7 T t0 t1 t4 t6 t43 t44 (IntKind.i64.wrap (t45 + 1)))) none) (
 some (Sum.inr (Sum.inl (t1, t4, t6, ()))))
 := eL Tryd.func15 rfl (by kernel_rfl)
theorem aX0 (T : S.Tab) (t0 : List Int) : l5 (S.step T) t0 =
 some (t0, aE5)
 := eF Tryd.func55 (by kernel_rfl)
theorem aQ1 (T : S.Tab) (t0 : Int) : ad9 (S.step T) t0 =
 brk (decide (t0 = 22)) (
 (l5 T ([t0, 1, 104, 103] : List Int)).bind fun d9 =>
 some ((d9.1, true, ()), s8)) (
 brk (decide (t0 = 13)) (
  (l5 T ([t0, 1, 47, 119] : List Int)).bind fun d14 =>
  some ((d14.1, true, ()), s8)) (
  brk (decide (t0 = 18)) (
  (l5 T ([t0, 1, 133] : List Int)).bind fun d19 =>
  some ((d19.1, true, ()), s8)) (
  brk (decide (t0 = 20)) (
   (l5 T ([t0, 119, 132, 105] : List Int)).bind fun d24 =>
   some ((d24.1, true, ()), s8)) (
   brk (decide (t0 = 31)) (
   (l5 T ([t0, 119, 132] : List Int)).bind fun d29 =>
   some ((d29.1, true, ()), s8)) (
   brk (decide (t0 = 19)) (
    (l5 T ([t0, 1, 106] : List Int)).bind fun d34 =>
    some ((d34.1, true, ()), s8)) (
    brk (decide (t0 = 11)) (
    (M4 T t0 t0 (decide (t0 = 11))).bind (N0
     (fun y16 =>
     some (y16, s8))
     (fun y16 =>
     some (([], false, ()), s8)))) (
    (M4 T t0 t0 (decide (t0 = 23))).bind (N0
     (fun y16 =>
     some (y16, s8))
     (fun y16 =>
     some (([], false, ()), s8))))))))))
 := eF Tryd.func56 (by kernel_rfl)
theorem ax5 (T : S.Tab) (t0 : Int) (t4 : Int) (t35 : Bool) : M4 (S.step T) t0 t4 t35 =
 brk (t35) (
 (l5 T ([t0] : List Int)).bind fun d40 =>
 some (Sum.inl (d40.1, true, ()))) (
 brk (decide (t4 = 27)) (
  (l5 T ([t0, 108] : List Int)).bind fun d45 =>
  some (Sum.inl (d45.1, true, ()))) (
  brk (decide (t4 = 30)) (
  (l5 T ([t0, 132, 12, 1, 109, 132] : List Int)).bind fun d50 =>
  some (Sum.inl (d50.1, true, ()))) (
  brk (decide (t4 = 28)) (
   (l5 T ([t0, 119] : List Int)).bind fun d55 =>
   some (Sum.inl (d55.1, true, ()))) (
   brk (decide (t4 = 14)) (
   (l5 T ([t0, 116] : List Int)).bind fun d60 =>
   some (Sum.inl (d60.1, true, ()))) (
   brk (decide (t4 = 42)) (
    (l5 T ([132] : List Int)).bind fun d64 =>
    some (Sum.inl (d64.1, true, ()))) (
    brk (decide (t4 = 1)) (
    (l5 T ([t0, 110] : List Int)).bind fun d69 =>
    some (Sum.inl (d69.1, true, ()))) (
    brk (decide (t4 = 40)) (
     (l5 T ([t0, 119, 41, 112] : List Int)).bind fun d74 =>
     some (Sum.inl (d74.1, true, ()))) (
     some (Sum.inr (Sum.inl ()))))))))))
 := eJ Tryd.func56 rfl (by kernel_rfl)
theorem aH7 (T : S.Tab) (t0 : Int) : x8 (S.step T) t0 =
 brk (decide (t0 = 25)) (
 some (true, H0)) (
 brk (decide (t0 = 50)) (
  some (true, H0)) (
  brk (decide (t0 = 62)) (
  some (true, H0)) (
  some (decide (t0 = 69), H0))))
 := eF Tryd.func67 (by kernel_rfl)
theorem aH5 (T : S.Tab) (t0 : Int) : B4 (S.step T) t0 =
 brk (decide (t0 = 1)) (
 brk (decide (t0 = 1)) (
  some (true, j8)) (
  (x8 T t0).bind fun d17 =>
  some (d17.1, j8))) (
 brk (decide (t0 = 2)) (
  brk (decide (t0 = 2)) (
  some (true, j8)) (
  (x8 T t0).bind fun d17 =>
  some (d17.1, j8))) (
  brk (decide (t0 = 3)) (
  brk (decide (t0 = 3)) (
   some (true, j8)) (
   (x8 T t0).bind fun d17 =>
   some (d17.1, j8))) (
  brk (decide (t0 = 4)) (
   brk (decide (t0 = 4)) (
   some (true, j8)) (
   (x8 T t0).bind fun d17 =>
   some (d17.1, j8))) (
   brk (decide (t0 = 24)) (
   brk (decide (t0 = 24)) (
    some (true, j8)) (
    (x8 T t0).bind fun d17 =>
    some (d17.1, j8))) (
   brk (decide (t0 = 29)) (
    brk (decide (t0 = 29)) (
    some (true, j8)) (
    (x8 T t0).bind fun d17 =>
    some (d17.1, j8))) (
    brk (decide (t0 = 17)) (
    brk (decide (t0 = 17)) (
     some (true, j8)) (
     (x8 T t0).bind fun d17 =>
     some (d17.1, j8))) (
    brk (decide (t0 = 49)) (
     brk (decide (t0 = 49)) (
     some (true, j8)) (
     (x8 T t0).bind fun d17 =>
     some (d17.1, j8))) (
     brk (decide (t0 = 18)) (
     brk (decide (t0 = 18)) (
      some (true, j8)) (
      (x8 T t0).bind fun d17 =>
      some (d17.1, j8))) (
     brk (decide (t0 = 40)) (
      brk (decide (t0 = 40)) (
      some (true, j8)) (
      (x8 T t0).bind fun d17 =>
      some (d17.1, j8))) (
      brk (decide (t0 = 42)) (
      some (true, j8)) (
      (x8 T t0).bind fun d17 =>
      some (d17.1, j8))))))))))))
 := eF Tryd.func57 (by kernel_rfl)
theorem aG3 (T : S.Tab) (t0 : Int) (t1 : Int) (t2 : Int) : B8 (S.step T) t0 t1 t2 =
 brk (decide (t0 = 48)) (
 (l5 T ([t0, 1, t1] : List Int)).bind fun d13 =>
 some (d13.1, H4)) (
 brk (decide (t0 = 44)) (
  (l5 T ([t0, 119, 45, t1] : List Int)).bind fun d19 =>
  some (d19.1, H4)) (
  brk (decide (t0 = 40)) (
  (l5 T ([t0, 123, 41, t2] : List Int)).bind fun d25 =>
  some (d25.1, H4)) (
  some ([], H4))))
 := eF Tryd.func68 (by kernel_rfl)
theorem aC6 (T : S.Tab) (t0 : Int) (t1 : Int) : S3 (S.step T) t0 t1 =
 brk (decide (t0 = 110)) (
 (F9 T t0 t1 [] t0 (decide (t0 = 110))).bind (A9
  (fun y6 =>
  (E5 T y6.1 y6.2.1 y6.2.2.1).bind (A9
   (fun y13 =>
  some (y13, K0)))))) (
 brk (decide (t0 = 111)) (
  (F9 T t0 t1 [] t0 (decide (t0 = 111))).bind (A9
   (fun y6 =>
  (E5 T y6.1 y6.2.1 y6.2.2.1).bind (A9
   (fun y13 =>
   some (y13, K0)))))) (
  (F9 T t0 t1 [] t0 (decide (t0 = 112))).bind (A9
   (fun y6 =>
  (E5 T y6.1 y6.2.1 y6.2.2.1).bind (A9
   (fun y13 =>
   some (y13, K0)))))))
 := eF Tryd.func58 (by kernel_rfl)
theorem ar9 (T : S.Tab) (t0 : Int) (t1 : Int) (t6 : List Int) (t9 : Int) (t10 : Bool) : F9 (S.step T) t0 t1 t6 t9 t10 =
 brk (t10) (
 (B8 T t1 110 111).bind fun d15 =>
 some (Sum.inl (t0, t1, d15.1, ()))) (
 brk (decide (t9 = 114)) (
  brk (decide (t9 = 114)) (
  (B8 T t1 114 115).bind fun d20 =>
  some (Sum.inl (t0, t1, d20.1, ()))) (
  brk (decide (t9 = 117)) (
   brk (decide (t9 = 117)) (
   (B8 T t1 117 118).bind fun d25 =>
   some (Sum.inl (t0, t1, d25.1, ()))) (
   some (Sum.inl (t0, t1, t6, ())))) (
   brk (decide (t9 = 118)) (
   (B8 T t1 117 118).bind fun d25 =>
   some (Sum.inl (t0, t1, d25.1, ()))) (
   some (Sum.inl (t0, t1, t6, ())))))) (
  brk (decide (t9 = 115)) (
  (B8 T t1 114 115).bind fun d20 =>
  some (Sum.inl (t0, t1, d20.1, ()))) (
  brk (decide (t9 = 117)) (
   brk (decide (t9 = 117)) (
   (B8 T t1 117 118).bind fun d25 =>
   some (Sum.inl (t0, t1, d25.1, ()))) (
   some (Sum.inl (t0, t1, t6, ())))) (
   brk (decide (t9 = 118)) (
   (B8 T t1 117 118).bind fun d25 =>
   some (Sum.inl (t0, t1, d25.1, ()))) (
   some (Sum.inl (t0, t1, t6, ())))))))
 := eJ Tryd.func58 rfl (by kernel_rfl)
theorem ao0 (T : S.Tab) (t0 : Int) (t1 : Int) (t6 : List Int) : E5 (S.step T) t0 t1 t6 =
 brk (decide (0 < (t6.length : Int))) (
 some (Sum.inl (t6, true, ()))) (
 brk (decide (t0 = 111)) (
  some (Sum.inl ([], true, ()))) (
  brk (decide (t0 = 118)) (
  some (Sum.inl ([], true, ()))) (
  brk (decide (t0 = 110)) (
   brk (decide (t1 = 46)) (
   (l5 T ([t1, 113] : List Int)).bind fun d46 =>
   some (Sum.inl (d46.1, true, ()))) (
   brk (decide (t1 = 47)) (
    (l5 T ([t1, 124] : List Int)).bind fun d51 =>
    some (Sum.inl (d51.1, true, ()))) (
    (E8 T t0 t1).bind (A9
     (fun y22 =>
    some (Sum.inl y22)))))) (
   brk (decide (t0 = 114)) (
   brk (decide (t1 = 46)) (
    (l5 T ([t1, 113] : List Int)).bind fun d46 =>
    some (Sum.inl (d46.1, true, ()))) (
    brk (decide (t1 = 47)) (
    (l5 T ([t1, 124] : List Int)).bind fun d51 =>
    some (Sum.inl (d51.1, true, ()))) (
    (E8 T t0 t1).bind (A9
     (fun y22 =>
     some (Sum.inl y22)))))) (
   (E8 T t0 t1).bind (A9
    (fun y22 =>
    some (Sum.inl y22))))))))
 := eJ Tryd.func58 rfl (by kernel_rfl)
theorem ao1 (T : S.Tab) (t0 : Int) (t1 : Int) : E8 (S.step T) t0 t1 =
 brk (decide (t0 = 113)) (
 brk (decide (t0 = 116)) (
  brk (decide (t1 = 1)) (
  (l5 T ([t1, 117] : List Int)).bind fun d65 =>
  some (Sum.inl (d65.1, true, ()))) (
  brk (decide (t1 = 40)) (
   (l5 T ([t1, 119, 41, 117] : List Int)).bind fun d71 =>
   some (Sum.inl (d71.1, true, ()))) (
   some (Sum.inl ([], false, ()))))) (
  brk (decide (t1 = 1)) (
  (l5 T ([t1, 114] : List Int)).bind fun d65 =>
  some (Sum.inl (d65.1, true, ()))) (
  brk (decide (t1 = 40)) (
   (l5 T ([t1, 119, 41, 115] : List Int)).bind fun d71 =>
   some (Sum.inl (d71.1, true, ()))) (
   some (Sum.inl ([], false, ())))))) (
 brk (decide (t0 = 116)) (
  brk (decide (t0 = 116)) (
  brk (decide (t1 = 1)) (
   (l5 T ([t1, 117] : List Int)).bind fun d65 =>
   some (Sum.inl (d65.1, true, ()))) (
   brk (decide (t1 = 40)) (
   (l5 T ([t1, 119, 41, 117] : List Int)).bind fun d71 =>
   some (Sum.inl (d71.1, true, ()))) (
   some (Sum.inl ([], false, ()))))) (
  brk (decide (t1 = 1)) (
   (l5 T ([t1, 114] : List Int)).bind fun d65 =>
   some (Sum.inl (d65.1, true, ()))) (
   brk (decide (t1 = 40)) (
   (l5 T ([t1, 119, 41, 115] : List Int)).bind fun d71 =>
   some (Sum.inl (d71.1, true, ()))) (
   some (Sum.inl ([], false, ())))))) (
  some (Sum.inl ([], false, ()))))
 := eJ Tryd.func58 rfl (by kernel_rfl)
theorem aP9 (T : S.Tab) (t0 : Int) : ac9 (S.step T) t0 =
 (x8 T t0).bind fun d5 =>
 brk (d5.1) (
 (l5 T ([t0, 120] : List Int)).bind fun d8 =>
 some ((d8.1, true, ()), D2)) (
 brk (decide (t0 = 1)) (
  (l5 T ([t0, 122] : List Int)).bind fun d14 =>
  some ((d14.1, true, ()), D2)) (
  brk (decide (t0 = 40)) (
  (l5 T ([t0, 119, 41, 122] : List Int)).bind fun d19 =>
  some ((d19.1, true, ()), D2)) (
  brk (decide (t0 = 42)) (
   (l5 T ([t0, 129, 43] : List Int)).bind fun d24 =>
   some ((d24.1, true, ()), D2)) (
   brk (decide (t0 = 18)) (
   (l5 T ([t0, 133] : List Int)).bind fun d29 =>
   some ((d29.1, true, ()), D2)) (
   (l5 T ([t0] : List Int)).bind fun d32 =>
   (B4 T t0).bind fun d34 =>
   some ((d32.1, d34.1, ()), D2))))))
 := eF Tryd.func69 (by kernel_rfl)
theorem aL6 (T : S.Tab) (t0 : Int) : Y4 (S.step T) t0 =
 brk (decide (t0 = 10)) (
 some (true, O3)) (
 brk (decide (t0 = 26)) (
  some (true, O3)) (
  some (decide (60 < t0), O3)))
 := eF Tryd.func70 (by kernel_rfl)
theorem aD6 (T : S.Tab) (t0 : Int) (t1 : Int) : S4 (S.step T) t0 t1 =
 brk (decide (t0 = 119)) (
 (l5 T ([120, 121] : List Int)).bind fun d10 =>
 (B4 T t1).bind fun d12 =>
 some ((d10.1, d12.1, ()), o8)) (
 brk (decide (t0 = 120)) (
  (ac9 T t1).bind fun d16 =>
  some (d16.1, o8)) (
  brk (decide (t0 = 121)) (
  (Y4 T t1).bind fun d22 =>
  brk (d22.1) (
   (l5 T ([t1, 119] : List Int)).bind fun d25 =>
   some ((d25.1, true, ()), o8)) (
   some (([], true, ()), o8))) (
  brk (decide (t0 = 122)) (
   (B8 T t1 122 122).bind fun d29 =>
   some ((d29.1, true, ()), o8)) (
   brk (decide (t0 = 123)) (
   (B4 T t1).bind fun d33 =>
   brk (d33.1) (
    (l5 T ([124] : List Int)).bind fun d35 =>
    some ((d35.1, true, ()), o8)) (
    some (([], true, ()), o8))) (
   brk (decide (t0 = 124)) (
    (l5 T ([119, 125] : List Int)).bind fun d39 =>
    (B4 T t1).bind fun d41 =>
    some ((d39.1, d41.1, ()), o8)) (
    brk (decide (t0 = 125)) (
    brk (decide (t1 = 46)) (
     (l5 T ([t1, 119, 125] : List Int)).bind fun d48 =>
     some ((d48.1, true, ()), o8)) (
     some (([], true, ()), o8))) (
    brk (decide (t0 = 126)) (
     (H5 T t0 t1 t0 (decide (t0 = 126))).bind (N0
      (fun y24 =>
     some (y24, o8))
      (fun y24 =>
     (l5 T ([40, 126, 41, 132] : List Int)).bind fun d115 =>
     some ((d115.1, decide (y24.1 = 40), ()), o8)))) (
     (H5 T t0 t1 t0 (decide (t0 = 128))).bind (N0
      (fun y24 =>
     some (y24, o8))
      (fun y24 =>
     (l5 T ([40, 126, 41, 132] : List Int)).bind fun d115 =>
     some ((d115.1, decide (y24.1 = 40), ()), o8)))))))))))
 := eF Tryd.func59 (by kernel_rfl)
theorem ap4 (T : S.Tab) (t0 : Int) (t1 : Int) (t6 : Int) (t49 : Bool) : H5 (S.step T) t0 t1 t6 t49 =
 brk (t49) (
 brk (decide (t1 = 1)) (
  (l5 T ([t1, 127] : List Int)).bind fun d56 =>
  some (Sum.inl (d56.1, true, ()))) (
  brk (decide (t1 = 49)) (
  (l5 T ([t1] : List Int)).bind fun d61 =>
  some (Sum.inl (d61.1, true, ()))) (
  some (Sum.inl ([], decide (t0 = 126), ()))))) (
 brk (decide (t6 = 127)) (
  brk (decide (t1 = 46)) (
  (l5 T ([t1, 128] : List Int)).bind fun d70 =>
  some (Sum.inl (d70.1, true, ()))) (
  some (Sum.inl ([], true, ())))) (
  brk (decide (t6 = 129)) (
  (B4 T t1).bind fun d74 =>
  brk (d74.1) (
   (l5 T ([131, 130] : List Int)).bind fun d84 =>
   some (Sum.inl (d84.1, true, ()))) (
   brk (decide (t1 = 48)) (
   (l5 T ([131, 130] : List Int)).bind fun d84 =>
   some (Sum.inl (d84.1, true, ()))) (
   brk (decide (t1 = 44)) (
    (l5 T ([131, 130] : List Int)).bind fun d84 =>
    some (Sum.inl (d84.1, true, ()))) (
    some (Sum.inl ([], true, ())))))) (
  brk (decide (t6 = 130)) (
   brk (decide (t1 = 46)) (
   (l5 T ([t1, 129] : List Int)).bind fun d91 =>
   some (Sum.inl (d91.1, true, ()))) (
   some (Sum.inl ([], true, ())))) (
   brk (decide (t6 = 131)) (
   brk (decide (t1 = 48)) (
    (l5 T ([t1, 1, 47, 119] : List Int)).bind fun d98 =>
    some (Sum.inl (d98.1, true, ()))) (
    brk (decide (t1 = 44)) (
    (l5 T ([t1, 119, 45, 47, 119] : List Int)).bind fun d103 =>
    some (Sum.inl (d103.1, true, ()))) (
    (l5 T ([119] : List Int)).bind fun d105 =>
    (B4 T t1).bind fun d107 =>
    some (Sum.inl (d105.1, d107.1, ()))))) (
   brk (decide (t6 = 132)) (
    (l5 T ([42, 100, 43] : List Int)).bind fun d111 =>
    some (Sum.inl (d111.1, decide (t1 = 42), ()))) (
    some (Sum.inr (Sum.inl (t1, ())))))))))
 := eJ Tryd.func59 rfl (by kernel_rfl)
theorem aI4 (T : S.Tab) (t0 : Int) (t1 : Int) : I6 (S.step T) t0 t1 =
 brk (decide (t0 = 100)) (
 brk (decide (t1 = 5)) (
  (l5 T ([t1, 100] : List Int)).bind fun d15 =>
  some ((d15.1, true, ()), b9)) (
  (ad9 T t1).bind fun d18 =>
  brk (d18.1.2.1) (
  brk (fits (d18.1.1.length + 1)) (
  some ((d18.1.1 ++ ([101] : List Int), true, ()), b9)) none) (
  some (([], true, ()), b9)))) (
 brk (decide (t0 = 101)) (
  brk (decide (t1 = 5)) (
  (l5 T ([t1, 100] : List Int)).bind fun d31 =>
  some ((d31.1, true, ()), b9)) (
  some (([], true, ()), b9))) (
  brk (decide (t0 = 103)) (
  brk (decide (t1 = 47)) (
   (l5 T ([t1, 124] : List Int)).bind fun d38 =>
   some ((d38.1, true, ()), b9)) (
   some (([], true, ()), b9))) (
  brk (decide (t0 = 104)) (
   brk (decide (t1 = 46)) (
   (l5 T ([t1, 1, 104] : List Int)).bind fun d45 =>
   some ((d45.1, true, ()), b9)) (
   some (([], true, ()), b9))) (
   brk (decide (t0 = 105)) (
   brk (decide (t1 = 15)) (
    (l5 T ([t1, 119, 132, 105] : List Int)).bind fun d52 =>
    some ((d52.1, true, ()), b9)) (
    brk (decide (t1 = 16)) (
    (l5 T ([t1, 132] : List Int)).bind fun d57 =>
    some ((d57.1, true, ()), b9)) (
    some (([], true, ()), b9)))) (
   brk (decide (t0 = 106)) (
    brk (decide (t1 = 47)) (
    (l5 T ([t1, 119, 46, 119, 107, 132] : List Int)).bind fun d64 =>
    some ((d64.1, true, ()), b9)) (
    (l5 T ([104, 21, 119, 132] : List Int)).bind fun d66 =>
    brk (decide (t1 = 46)) (
     some ((d66.1, true, ()), b9)) (
     some ((d66.1, decide (t1 = 21), ()), b9)))) (
    brk (decide (t0 = 107)) (
    brk (decide (t1 = 46)) (
     (l5 T ([t1, 119] : List Int)).bind fun d79 =>
     some ((d79.1, true, ()), b9)) (
     some (([], true, ()), b9))) (
    brk (decide (t0 = 108)) (
     (B4 T t1).bind fun d83 =>
     brk (d83.1) (
     (l5 T ([124] : List Int)).bind fun d85 =>
     some ((d85.1, true, ()), b9)) (
     some (([], true, ()), b9))) (
     brk (decide (t0 = 109)) (
     brk (decide (t1 = 46)) (
      (l5 T ([t1, 1] : List Int)).bind fun d92 =>
      some ((d92.1, true, ()), b9)) (
      some (([], true, ()), b9))) (
     brk (decide (t0 = 110)) (
      (u6 T t0 t1 (decide (t0 = 110))).bind (N0
       (fun y52 =>
      some (y52, b9))
       (fun y52 =>
      (u7 T y52.1 y52.2.1).bind (A9
       (fun y53 =>
       some (y53, b9)))))) (
      brk (decide (t0 = 111)) (
      (u6 T t0 t1 (decide (t0 = 111))).bind (N0
       (fun y52 =>
       some (y52, b9))
       (fun y52 =>
       (u7 T y52.1 y52.2.1).bind (A9
        (fun y53 =>
       some (y53, b9)))))) (
      brk (decide (t0 = 112)) (
       (u6 T t0 t1 (decide (t0 = 112))).bind (N0
        (fun y52 =>
       some (y52, b9))
        (fun y52 =>
       (u7 T y52.1 y52.2.1).bind (A9
        (fun y53 =>
        some (y53, b9)))))) (
       brk (decide (t0 = 113)) (
       (u6 T t0 t1 (decide (t0 = 113))).bind (N0
        (fun y52 =>
        some (y52, b9))
        (fun y52 =>
        (u7 T y52.1 y52.2.1).bind (A9
         (fun y53 =>
        some (y53, b9)))))) (
       brk (decide (t0 = 114)) (
        (u6 T t0 t1 (decide (t0 = 114))).bind (N0
         (fun y52 =>
        some (y52, b9))
         (fun y52 =>
        (u7 T y52.1 y52.2.1).bind (A9
         (fun y53 =>
         some (y53, b9)))))) (
        brk (decide (t0 = 115)) (
        (u6 T t0 t1 (decide (t0 = 115))).bind (N0
         (fun y52 =>
         some (y52, b9))
         (fun y52 =>
         (u7 T y52.1 y52.2.1).bind (A9
          (fun y53 =>
         some (y53, b9)))))) (
        brk (decide (t0 = 116)) (
         (u6 T t0 t1 (decide (t0 = 116))).bind (N0
          (fun y52 =>
         some (y52, b9))
          (fun y52 =>
         (u7 T y52.1 y52.2.1).bind (A9
          (fun y53 =>
          some (y53, b9)))))) (
         brk (decide (t0 = 117)) (
         (u6 T t0 t1 (decide (t0 = 117))).bind (N0
          (fun y52 =>
          some (y52, b9))
          (fun y52 =>
          (u7 T y52.1 y52.2.1).bind (A9
           (fun y53 =>
          some (y53, b9)))))) (
         (u6 T t0 t1 (decide (t0 = 118))).bind (N0
          (fun y52 =>
          some (y52, b9))
          (fun y52 =>
          (u7 T y52.1 y52.2.1).bind (A9
           (fun y53 =>
          some (y53, b9))))))))))))))))))))))
 := eF Tryd.func33 (by kernel_rfl)
theorem as5 (T : S.Tab) (t0 : Int) (t1 : Int) (t93 : Bool) : u6 (S.step T) t0 t1 t93 =
 brk (t93) (
 (S3 T t0 t1).bind fun d105 =>
 some (Sum.inl d105.1)) (
 some (Sum.inr (Sum.inl (t0, t1, ()))))
 := eJ Tryd.func33 rfl (by kernel_rfl)
theorem as3 (T : S.Tab) (t0 : Int) (t1 : Int) : u7 (S.step T) t0 t1 =
 (S4 T t0 t1).bind fun d110 =>
 some (Sum.inl d110.1)
 := eJ Tryd.func33 rfl (by kernel_rfl)
theorem aG4 (T : S.Tab) (t0 : List O4.den × Unit) (t1 : Int) (t2 : Int) : Q5 (S.step T) t0 t1 t2 =
 (u9 T t0 t1 t2).bind (N0
  (fun y1 =>
 some (y1.2, y1.1, (), (), ()))
  (fun y1 =>
 some ((y1.2.1, false, ()), y1.1, (), (), ())))
 := eF Tryd.func16 (by kernel_rfl)
theorem T4 (T : S.Tab) (t0 : List O4.den × Unit) (t1 : Int) (t2 : Int) : u9 (S.step T) t0 t1 t2 =
 brk (decide (0 ≤ t1)) (
 brk (decide (0 ≤ t1) && decide (t1 < (t0.1.length : Int))) (
 brk (decide ((at_ (τ := O4) t0.1 t1).1 < 100)) (
  some (Sum.inl (t0, (at_ (τ := O4) t0.1 t1).2.1, decide ((at_ (τ := O4) t0.1 t1).1 = t2), ()))) (
  (I6 T (at_ (τ := O4) t0.1 t1).1 t2).bind fun d35 =>
  brk (!d35.1.2.1) (
  some (Sum.inl (t0, (at_ (τ := O4) t0.1 t1).2.1, false, ()))) (
  (G0 T t0 (at_ (τ := O4) t0.1 t1).2.1 t2 d35.1.1 (IntKind.i64.wrap ((d35.1.1.length : Int) - 1))).bind (A9
   (fun y10 =>
   u9 T y10.1 y10.2.1 y10.2.2.1))))) none) (
 some (Sum.inr (Sum.inl (t0, t1, ()))))
 := eL Tryd.func16 rfl (by kernel_rfl)
theorem aa0 (T : S.Tab) (t0 : List O4.den × Unit) (t1 : Int) (t2 : Int) (t9 : List Int) (t11 : Int) : G0 (S.step T) t0 t1 t2 t9 t11 =
 brk (decide (0 ≤ t11)) (
 brk (decide (0 ≤ t11) && decide (t11 < (t9.length : Int))) (
 (N6 T t0 t1 (t9.getD t11.toNat 0)).bind fun d54 =>
 G0 T d54.2.1 d54.1 t2 t9 (IntKind.i64.wrap (t11 - 1))) none) (
 some (Sum.inl (t0, t1, t2, ())))
 := eL Tryd.func16 rfl (by kernel_rfl)
theorem aO6 (T : S.Tab) (t0 : List O4.den × Unit) (t1 : Int) : U6 (S.step T) t0 t1 =
 (E2 T t0 t1 [] (t0.1.length : Int) 1).bind (A9
  (fun y4 =>
 some (y4.2.1, y4.1, (), ())))
 := eF Tryd.func10 (by kernel_rfl)
theorem V8 (T : S.Tab) (t0 : List O4.den × Unit) (t1 : Int) (t5 : List Int) (t6 : Int) (t7 : Int) : E2 (S.step T) t0 t1 t5 t6 t7 =
 brk (decide (t7 ≤ 78)) (
 (Q5 T t0 t1 t7).bind fun d23 =>
 brk (bounds d23.2.1.1.length 0 t6) (
 brk (d23.1.2.1) (
  brk (fits (t5.length + ([t7] : List Int).length)) (
  E2 T (d23.2.1.1.take t6.toNat, ()) t1 (t5 ++ ([t7] : List Int)) t6 (IntKind.i64.wrap (t7 + 1))) none) (
  E2 T (d23.2.1.1.take t6.toNat, ()) t1 t5 t6 (IntKind.i64.wrap (t7 + 1)))) none) (
 some (Sum.inl (t0, t5, ())))
 := eL Tryd.func10 rfl (by kernel_rfl)
theorem au2 (T : S.Tab) (t0 : Int) : w6 (S.step T) t0 =
 brk (decide (t0 = 5)) (
 some (([59] : List Int), x9)) (
 (ag3 T).bind fun d8 =>
 brk (decide (10 ≤ t0)) (
  brk (decide (t0 < IntKind.i64.wrap (10 + (d8.1.length : Int)))) (
  brk (decide (0 ≤ IntKind.i64.wrap (t0 - 10)) && decide (IntKind.i64.wrap (t0 - 10) < (d8.1.length : Int))) (
  some (d8.1.getD ((IntKind.i64.wrap (t0 - 10)).toNat) [], x9)) none) (
  (P8 T).bind fun d23 =>
  (C5 T t0 d23.1 (d23.1.length : Int) 0).bind (N0
   (fun y7 =>
   some (y7.1, x9))
   (fun y7 =>
   some (([] : List Int), x9))))) (
  (P8 T).bind fun d23 =>
  (C5 T t0 d23.1 (d23.1.length : Int) 0).bind (N0
   (fun y7 =>
  some (y7.1, x9))
   (fun y7 =>
  some (([] : List Int), x9)))))
 := eF Tryd.func60 (by kernel_rfl)
theorem ai9 (T : S.Tab) (t0 : Int) (t23 : List (List Int)) (t24 : Int) (t25 : Int) : C5 (S.step T) t0 t23 t24 t25 =
 brk (decide (t25 < t24)) (
 brk (decide (0 ≤ t25) && decide (t25 < (t23.length : Int))) (
 (L7 T (t23.getD t25.toNat [])).bind fun d30 =>
 brk (decide (d30.1 = t0)) (
  some (Sum.inl (t23.getD t25.toNat [], ()))) (
  C5 T t0 t23 t24 (IntKind.i64.wrap (t25 + 1)))) none) (
 some (Sum.inr (Sum.inl ())))
 := eL Tryd.func60 rfl (by kernel_rfl)
theorem aK3 (T : S.Tab) (t0 : List Int) (t1 : List Int) : Y3 (S.step T) t0 t1 =
 brk (decide ((t1.length : Int) = 1)) (
 brk (decide (0 < (t1.length : Int))) (
 brk (decide (t1.getD 0 0 = 45)) (
  some (true, E0)) (
  (l8 T t1 t0 (t0.length : Int) 0).bind (N0
   (fun y4 =>
  some (y4.1, E0))
   (fun y4 =>
  some (false, E0))))) none) (
 (l8 T t1 t0 (t0.length : Int) 0).bind (N0
  (fun y4 =>
  some (y4.1, E0))
  (fun y4 =>
  some (false, E0))))
 := eF Tryd.func34 (by kernel_rfl)
theorem ag5 (T : S.Tab) (t1 : List Int) (t16 : List Int) (t17 : Int) (t18 : Int) : l8 (S.step T) t1 t16 t17 t18 =
 brk (decide (t18 < t17)) (
 brk (decide (0 ≤ t18) && decide (t18 < (t16.length : Int))) (
 brk (decide (t16.getD t18.toNat 0 = 1)) (
  brk (decide (0 < (t1.length : Int))) (
  (N5 T (t1.getD 0 0)).bind fun d27 =>
  brk (d27.1) (
  some (Sum.inl (true, ()))) (
  brk (decide (t16.getD t18.toNat 0 = 2)) (
   brk (decide (0 < (t1.length : Int))) (
   (A3 T (t1.getD 0 0)).bind fun d39 =>
   brk (d39.1) (
   some (Sum.inl (true, ()))) (
   brk (decide (t16.getD t18.toNat 0 = 4)) (
    brk (decide (0 < (t1.length : Int))) (
    brk (decide (t1.getD 0 0 = 34)) (
    some (Sum.inl (true, ()))) (
    (w6 T (t16.getD t18.toNat 0)).bind fun d52 =>
    brk (decide ((t1.length : Int) ≤ (d52.1.length : Int))) (
     brk (bounds d52.1.length 0 (t1.length : Int)) (
     brk (decide ((sub d52.1 0 (t1.length : Int)) = t1)) (
     some (Sum.inl (true, ()))) (
     l8 T t1 t16 t17 (IntKind.i64.wrap (t18 + 1)))) none) (
     l8 T t1 t16 t17 (IntKind.i64.wrap (t18 + 1))))) none) (
    (w6 T (t16.getD t18.toNat 0)).bind fun d52 =>
    brk (decide ((t1.length : Int) ≤ (d52.1.length : Int))) (
    brk (bounds d52.1.length 0 (t1.length : Int)) (
    brk (decide ((sub d52.1 0 (t1.length : Int)) = t1)) (
     some (Sum.inl (true, ()))) (
     l8 T t1 t16 t17 (IntKind.i64.wrap (t18 + 1)))) none) (
    l8 T t1 t16 t17 (IntKind.i64.wrap (t18 + 1)))))) none) (
   brk (decide (t16.getD t18.toNat 0 = 3)) (
   brk (decide (0 < (t1.length : Int))) (
   (A3 T (t1.getD 0 0)).bind fun d39 =>
   brk (d39.1) (
    some (Sum.inl (true, ()))) (
    brk (decide (t16.getD t18.toNat 0 = 4)) (
    brk (decide (0 < (t1.length : Int))) (
    brk (decide (t1.getD 0 0 = 34)) (
     some (Sum.inl (true, ()))) (
     (w6 T (t16.getD t18.toNat 0)).bind fun d52 =>
     brk (decide ((t1.length : Int) ≤ (d52.1.length : Int))) (
     brk (bounds d52.1.length 0 (t1.length : Int)) (
     brk (decide ((sub d52.1 0 (t1.length : Int)) = t1)) (
      some (Sum.inl (true, ()))) (
      l8 T t1 t16 t17 (IntKind.i64.wrap (t18 + 1)))) none) (
     l8 T t1 t16 t17 (IntKind.i64.wrap (t18 + 1))))) none) (
    (w6 T (t16.getD t18.toNat 0)).bind fun d52 =>
    brk (decide ((t1.length : Int) ≤ (d52.1.length : Int))) (
     brk (bounds d52.1.length 0 (t1.length : Int)) (
     brk (decide ((sub d52.1 0 (t1.length : Int)) = t1)) (
     some (Sum.inl (true, ()))) (
     l8 T t1 t16 t17 (IntKind.i64.wrap (t18 + 1)))) none) (
     l8 T t1 t16 t17 (IntKind.i64.wrap (t18 + 1)))))) none) (
   brk (decide (t16.getD t18.toNat 0 = 4)) (
    brk (decide (0 < (t1.length : Int))) (
    brk (decide (t1.getD 0 0 = 34)) (
    some (Sum.inl (true, ()))) (
    (w6 T (t16.getD t18.toNat 0)).bind fun d52 =>
    brk (decide ((t1.length : Int) ≤ (d52.1.length : Int))) (
     brk (bounds d52.1.length 0 (t1.length : Int)) (
     brk (decide ((sub d52.1 0 (t1.length : Int)) = t1)) (
     some (Sum.inl (true, ()))) (
     l8 T t1 t16 t17 (IntKind.i64.wrap (t18 + 1)))) none) (
     l8 T t1 t16 t17 (IntKind.i64.wrap (t18 + 1))))) none) (
    (w6 T (t16.getD t18.toNat 0)).bind fun d52 =>
    brk (decide ((t1.length : Int) ≤ (d52.1.length : Int))) (
    brk (bounds d52.1.length 0 (t1.length : Int)) (
    brk (decide ((sub d52.1 0 (t1.length : Int)) = t1)) (
     some (Sum.inl (true, ()))) (
     l8 T t1 t16 t17 (IntKind.i64.wrap (t18 + 1)))) none) (
    l8 T t1 t16 t17 (IntKind.i64.wrap (t18 + 1)))))))) none) (
  brk (decide (t16.getD t18.toNat 0 = 2)) (
  brk (decide (0 < (t1.length : Int))) (
  (A3 T (t1.getD 0 0)).bind fun d39 =>
  brk (d39.1) (
   some (Sum.inl (true, ()))) (
   brk (decide (t16.getD t18.toNat 0 = 4)) (
   brk (decide (0 < (t1.length : Int))) (
   brk (decide (t1.getD 0 0 = 34)) (
    some (Sum.inl (true, ()))) (
    (w6 T (t16.getD t18.toNat 0)).bind fun d52 =>
    brk (decide ((t1.length : Int) ≤ (d52.1.length : Int))) (
    brk (bounds d52.1.length 0 (t1.length : Int)) (
    brk (decide ((sub d52.1 0 (t1.length : Int)) = t1)) (
     some (Sum.inl (true, ()))) (
     l8 T t1 t16 t17 (IntKind.i64.wrap (t18 + 1)))) none) (
    l8 T t1 t16 t17 (IntKind.i64.wrap (t18 + 1))))) none) (
   (w6 T (t16.getD t18.toNat 0)).bind fun d52 =>
   brk (decide ((t1.length : Int) ≤ (d52.1.length : Int))) (
    brk (bounds d52.1.length 0 (t1.length : Int)) (
    brk (decide ((sub d52.1 0 (t1.length : Int)) = t1)) (
    some (Sum.inl (true, ()))) (
    l8 T t1 t16 t17 (IntKind.i64.wrap (t18 + 1)))) none) (
    l8 T t1 t16 t17 (IntKind.i64.wrap (t18 + 1)))))) none) (
  brk (decide (t16.getD t18.toNat 0 = 3)) (
   brk (decide (0 < (t1.length : Int))) (
   (A3 T (t1.getD 0 0)).bind fun d39 =>
   brk (d39.1) (
   some (Sum.inl (true, ()))) (
   brk (decide (t16.getD t18.toNat 0 = 4)) (
    brk (decide (0 < (t1.length : Int))) (
    brk (decide (t1.getD 0 0 = 34)) (
    some (Sum.inl (true, ()))) (
    (w6 T (t16.getD t18.toNat 0)).bind fun d52 =>
    brk (decide ((t1.length : Int) ≤ (d52.1.length : Int))) (
     brk (bounds d52.1.length 0 (t1.length : Int)) (
     brk (decide ((sub d52.1 0 (t1.length : Int)) = t1)) (
     some (Sum.inl (true, ()))) (
     l8 T t1 t16 t17 (IntKind.i64.wrap (t18 + 1)))) none) (
     l8 T t1 t16 t17 (IntKind.i64.wrap (t18 + 1))))) none) (
    (w6 T (t16.getD t18.toNat 0)).bind fun d52 =>
    brk (decide ((t1.length : Int) ≤ (d52.1.length : Int))) (
    brk (bounds d52.1.length 0 (t1.length : Int)) (
    brk (decide ((sub d52.1 0 (t1.length : Int)) = t1)) (
     some (Sum.inl (true, ()))) (
     l8 T t1 t16 t17 (IntKind.i64.wrap (t18 + 1)))) none) (
    l8 T t1 t16 t17 (IntKind.i64.wrap (t18 + 1)))))) none) (
   brk (decide (t16.getD t18.toNat 0 = 4)) (
   brk (decide (0 < (t1.length : Int))) (
   brk (decide (t1.getD 0 0 = 34)) (
    some (Sum.inl (true, ()))) (
    (w6 T (t16.getD t18.toNat 0)).bind fun d52 =>
    brk (decide ((t1.length : Int) ≤ (d52.1.length : Int))) (
    brk (bounds d52.1.length 0 (t1.length : Int)) (
    brk (decide ((sub d52.1 0 (t1.length : Int)) = t1)) (
     some (Sum.inl (true, ()))) (
     l8 T t1 t16 t17 (IntKind.i64.wrap (t18 + 1)))) none) (
    l8 T t1 t16 t17 (IntKind.i64.wrap (t18 + 1))))) none) (
   (w6 T (t16.getD t18.toNat 0)).bind fun d52 =>
   brk (decide ((t1.length : Int) ≤ (d52.1.length : Int))) (
    brk (bounds d52.1.length 0 (t1.length : Int)) (
    brk (decide ((sub d52.1 0 (t1.length : Int)) = t1)) (
    some (Sum.inl (true, ()))) (
    l8 T t1 t16 t17 (IntKind.i64.wrap (t18 + 1)))) none) (
    l8 T t1 t16 t17 (IntKind.i64.wrap (t18 + 1)))))))) none) (
 some (Sum.inr (Sum.inl ())))
 := eL Tryd.func34 rfl (by kernel_rfl)
theorem aM4 (T : S.Tab) (t0 : List Int) (t1 : Int) (t2 : List Int) : Y5 (S.step T) t0 t1 t2 =
 (z6 T t0 t1 t2 0).bind (A9
  (fun y2 =>
 some (IntKind.i64.wrap (y2.1 + y2.2.1), au5)))
 := eF Tryd.func17 (by kernel_rfl)
theorem O9 (T : S.Tab) (t0 : List Int) (t1 : Int) (t2 : List Int) (t7 : Int) : z6 (S.step T) t0 t1 t2 t7 =
 brk (decide (IntKind.i64.wrap (t1 + t7) < (t0.length : Int))) (
 brk (bounds t0.length t1 (IntKind.i64.wrap ((IntKind.i64.wrap (t1 + t7)) + 1))) (
 (Y3 T t2 (sub t0 t1 (IntKind.i64.wrap ((IntKind.i64.wrap (t1 + t7)) + 1)))).bind fun d23 =>
 brk (d23.1) (
  brk (decide (0 ≤ t1) && decide (t1 < (t0.length : Int))) (
  (N5 T (t0.getD t1.toNat 0)).bind fun d30 =>
  brk (d30.1) (
  (x7 T t0 (IntKind.i64.wrap (t1 + (IntKind.i64.wrap (t7 + 1))))).bind fun d36 =>
  (N5 T d36.1).bind fun d37 =>
  brk (!d37.1) (
   (x7 T t0 (IntKind.i64.wrap (t1 + (IntKind.i64.wrap (t7 + 1))))).bind fun d45 =>
   (A3 T d45.1).bind fun d46 =>
   brk (!d46.1) (
   some (Sum.inl (t1, IntKind.i64.wrap (t7 + 1), ()))) (
   z6 T t0 t1 t2 (IntKind.i64.wrap (t7 + 1)))) (
   z6 T t0 t1 t2 (IntKind.i64.wrap (t7 + 1)))) (
  z6 T t0 t1 t2 (IntKind.i64.wrap (t7 + 1)))) none) (
  some (Sum.inl (t1, t7, ())))) none) (
 some (Sum.inl (t1, t7, ())))
 := eL Tryd.func17 rfl (by kernel_rfl)
theorem at7 (T : S.Tab) (t0 : List O4.den × Unit) (t1 : List Int) : X4 (S.step T) t0 t1 =
 (Y0 T t0).bind fun d17 =>
 (I9 T t1 0).bind fun d19 =>
 (p4 T d17.2.1 t1 d17.1 [] 1 d19.1).bind (N0
  (fun y5 =>
 some (y5.2, y5.1, (), ()))
  (fun y5 =>
 brk (fits (y5.2.2.2.1.length + ([(6, (y5.2.1.length : Int), (y5.2.1.length : Int), y5.2.2.2.2.1, 0, ([] : List Int), ())] : List j7.den).length)) (
 some ((y5.2.2.2.1 ++ ([(6, (y5.2.1.length : Int), (y5.2.1.length : Int), y5.2.2.2.2.1, 0, ([] : List Int), ())] : List j7.den), y5.2.2.1, (-1 : Int), ()), y5.1, (), ())) none))
 := eF Tryd.func9 (by kernel_rfl)
theorem af4 (T : S.Tab) (t0 : List O4.den × Unit) (t1 : List Int) (t7 : Int) (t8 : List j7.den) (t9 : Int) (t10 : Int) (t11 : j7.den) (t12 : Int) (t13 : Int) : u5 (S.step T) t0 t1 t7 t8 t9 t10 t11 t12 t13 =
 brk (decide (0 < t13)) (
 (Q5 T t0 t7 t13).bind fun d46 =>
 (z7 T d46.2.1 t1 t7 t8 t9 t10 t11 t12 t13 d46.1.1 d46.1.2.1).bind (bI9
  (fun y16 =>
  some (Sum.inl y16))
  (fun y16 =>
  some (Sum.inr (Sum.inl y16)))
  (fun y16 =>
  some (Sum.inr (Sum.inr (Sum.inl y16)))))) (
 (z7 T t0 t1 t7 t8 t9 t10 t11 t12 t13 t7 (decide (0 < t13))).bind (bI9
  (fun y16 =>
  some (Sum.inl y16))
  (fun y16 =>
  some (Sum.inr (Sum.inl y16)))
  (fun y16 =>
  some (Sum.inr (Sum.inr (Sum.inl y16))))))
 := eJ Tryd.func9 rfl (by kernel_rfl)
theorem O8 (T : S.Tab) (t0 : List O4.den × Unit) (t1 : List Int) (t7 : Int) (t8 : List j7.den) (t9 : Int) (t10 : Int) (t11 : j7.den) (t12 : Int) (t13 : Int) (t14 : Int) (t15 : Bool) : z7 (S.step T) t0 t1 t7 t8 t9 t10 t11 t12 t13 t14 t15 =
 brk (!t15) (
 brk (decide (t11.1 = 7)) (
  (I9 T t1 t11.2.2.1).bind fun d59 =>
  some (Sum.inl (t0, t1, t7, t8, t9, d59.1, ()))) (
  brk (!t15) (
  (U6 T t0 t7).bind fun d67 =>
  (Y5 T t1 t10 d67.1).bind fun d68 =>
  some (Sum.inr (Sum.inl (d67.2.1, [], t7, d68.1, ())))) (
  brk (decide (0 ≤ t12)) (
   some (Sum.inr (Sum.inl (t0, [], t7, t12, ())))) (
   brk (fits (t8.length + ([(t13, t11.2)] : List j7.den).length)) (
   (I9 T t1 t11.2.2.1).bind fun d83 =>
   some (Sum.inr (Sum.inr (Sum.inl (t0, t1, t14, t8 ++ ([(t13, t11.2)] : List j7.den), t9, d83.1, ()))))) none)))) (
 brk (!t15) (
  (U6 T t0 t7).bind fun d67 =>
  (Y5 T t1 t10 d67.1).bind fun d68 =>
  some (Sum.inr (Sum.inl (d67.2.1, [], t7, d68.1, ())))) (
  brk (decide (0 ≤ t12)) (
  some (Sum.inr (Sum.inl (t0, [], t7, t12, ())))) (
  brk (fits (t8.length + ([(t13, t11.2)] : List j7.den).length)) (
  (I9 T t1 t11.2.2.1).bind fun d83 =>
  some (Sum.inr (Sum.inr (Sum.inl (t0, t1, t14, t8 ++ ([(t13, t11.2)] : List j7.den), t9, d83.1, ()))))) none)))
 := eJ Tryd.func9 rfl (by kernel_rfl)
theorem Q6 (T : S.Tab) (t0 : List O4.den × Unit) (t1 : List Int) (t7 : Int) (t8 : List j7.den) (t9 : Int) (t10 : Int) : p4 (S.step T) t0 t1 t7 t8 t9 t10 =
 brk (decide (t10 < (t1.length : Int))) (
 (D5 T t1 t10).bind fun d27 =>
 brk (decide (d27.1.1.1 = 7)) (
  (u5 T t0 t1 t7 t8 (IntKind.i64.wrap (t9 + 1)) t10 (d27.1.1.1, d27.1.1.2.1, d27.1.1.2.2.1, t9, d27.1.1.2.2.2.2) d27.1.2.1 5).bind (bI9
   (fun y12 =>
  p4 T y12.1 y12.2.1 y12.2.2.1 y12.2.2.2.1 y12.2.2.2.2.1 y12.2.2.2.2.2.1)
   (fun y12 =>
  some (Sum.inl y12))
   (fun y12 =>
  p4 T y12.1 y12.2.1 y12.2.2.1 y12.2.2.2.1 y12.2.2.2.2.1 y12.2.2.2.2.2.1))) (
  (u5 T t0 t1 t7 t8 t9 t10 (d27.1.1.1, d27.1.1.2.1, d27.1.1.2.2.1, t9, d27.1.1.2.2.2.2) d27.1.2.1 d27.1.1.1).bind (bI9
   (fun y12 =>
  p4 T y12.1 y12.2.1 y12.2.2.1 y12.2.2.2.1 y12.2.2.2.2.1 y12.2.2.2.2.2.1)
   (fun y12 =>
  some (Sum.inl y12))
   (fun y12 =>
  p4 T y12.1 y12.2.1 y12.2.2.1 y12.2.2.2.1 y12.2.2.2.2.1 y12.2.2.2.2.2.1)))) (
 some (Sum.inr (Sum.inl (t0, t1, t7, t8, t9, ()))))
 := eL Tryd.func9 rfl (by kernel_rfl)
theorem ap9 (T : S.Tab) (t0 : List Int) : aj6 (S.step T) t0 =
 brk (decide (65536 < (t0.length : Int))) (
 some ([], al8)) (
 (X4 T ([], ()) t0).bind fun d15 =>
 brk (decide (0 ≤ d15.1.2.2.1)) (
  some ([], al8)) (
  (U6 T d15.2.1 d15.1.2.1).bind fun d23 =>
  some (d23.1, al8)))
 := eF Tryd.func4 (by kernel_rfl)
theorem aM3 (T : S.Tab) : af8 (S.step T) =
 some (1000 :: (6 :: ([] : List Int)), as8)
 := eF Tryd.func18 (by kernel_rfl)
theorem ae5 (T : S.Tab) (t0 : List Int) (t1 : List Int) : I8 (S.step T) t0 t1 =
 brk (decide ((t1.length : Int) ≤ (t0.length : Int))) (
 brk (bounds t0.length 0 (t1.length : Int)) (
 some (decide ((sub t0 0 (t1.length : Int)) = t1), L8)) none) (
 some (false, L8))
 := eF Tryd.func61 (by kernel_rfl)
theorem ar6 (T : S.Tab) (t0 : List Int) (t1 : List Int) : J2 (S.step T) t0 t1 =
 (I8 T t0 t1).bind fun d7 =>
 some (d7.1, U0)
 := eF Tryd.func35 (by kernel_rfl)
theorem aX7 (T : S.Tab) (t0 : List Int) (t1 : Int) : K1 (S.step T) t0 t1 =
 (A4 T t0 t1).bind (N0
  (fun y1 =>
 some (y1.1, U3))
  (fun y1 =>
 some (y1.1, U3)))
 := eF Tryd.func19 (by kernel_rfl)
theorem K3 (T : S.Tab) (t0 : List Int) (t1 : Int) : A4 (S.step T) t0 t1 =
 brk (decide (t1 < (t0.length : Int))) (
 brk (decide (0 ≤ t1) && decide (t1 < (t0.length : Int))) (
 brk (decide (t0.getD t1.toNat 0 = 32)) (
  A4 T t0 (IntKind.i64.wrap (t1 + 1))) (
  brk (decide (0 ≤ t1) && decide (t1 < (t0.length : Int))) (
  brk (decide (t0.getD t1.toNat 0 = 9)) (
  A4 T t0 (IntKind.i64.wrap (t1 + 1))) (
  brk (decide (0 ≤ t1) && decide (t1 < (t0.length : Int))) (
  brk (decide (t0.getD t1.toNat 0 = 13)) (
   A4 T t0 (IntKind.i64.wrap (t1 + 1))) (
   brk (bounds t0.length t1 (t0.length : Int)) (
   (J2 T (sub t0 t1 (t0.length : Int)) ([45, 45] : List Int)).bind fun d33 =>
   brk (d33.1) (
   (K5 T t0 t1).bind (A9
    (fun y6 =>
    A4 T y6.1 y6.2.1))) (
   some (Sum.inl (t1, ())))) none)) none)) none)) none) (
 some (Sum.inr (Sum.inl (t1, ()))))
 := eL Tryd.func19 rfl (by kernel_rfl)
theorem am6 (T : S.Tab) (t0 : List Int) (t1 : Int) : K5 (S.step T) t0 t1 =
 brk (decide (t1 < (t0.length : Int))) (
 brk (decide (0 ≤ t1) && decide (t1 < (t0.length : Int))) (
 brk (!decide (t0.getD t1.toNat 0 = 10)) (
  K5 T t0 (IntKind.i64.wrap (t1 + 1))) (
  some (Sum.inl (t0, t1, ())))) none) (
 some (Sum.inl (t0, t1, ())))
 := eL Tryd.func19 rfl (by kernel_rfl)
theorem aR9 (T : S.Tab) (t0 : List Int) : l6 (S.step T) t0 =
 some ((t0, true, false, ()), aA0)
 := eF Tryd.func44 (by kernel_rfl)
theorem aH9 (T : S.Tab) (t0 : Int) : W6 (S.step T) t0 =
 brk (decide (t0 = 22)) (
 brk (decide (t0 = 22)) (
  some (true, j2)) (
  some (false, j2))) (
 brk (decide (t0 = 13)) (
  brk (decide (t0 = 13)) (
  some (true, j2)) (
  some (false, j2))) (
  brk (decide (t0 = 18)) (
  brk (decide (t0 = 18)) (
   some (true, j2)) (
   some (false, j2))) (
  brk (decide (t0 = 20)) (
   brk (decide (t0 = 20)) (
   some (true, j2)) (
   some (false, j2))) (
   brk (decide (t0 = 31)) (
   brk (decide (t0 = 31)) (
    some (true, j2)) (
    some (false, j2))) (
   brk (decide (t0 = 19)) (
    brk (decide (t0 = 19)) (
    some (true, j2)) (
    some (false, j2))) (
    brk (decide (t0 = 11)) (
    brk (decide (t0 = 11)) (
     some (true, j2)) (
     some (false, j2))) (
    brk (decide (t0 = 23)) (
     brk (decide (t0 = 23)) (
     some (true, j2)) (
     some (false, j2))) (
     brk (decide (t0 = 27)) (
     brk (decide (t0 = 27)) (
      some (true, j2)) (
      some (false, j2))) (
     brk (decide (t0 = 30)) (
      brk (decide (t0 = 30)) (
      some (true, j2)) (
      some (false, j2))) (
      brk (decide (t0 = 28)) (
      brk (decide (t0 = 28)) (
       some (true, j2)) (
       some (false, j2))) (
      brk (decide (t0 = 14)) (
       brk (decide (t0 = 14)) (
       some (true, j2)) (
       some (false, j2))) (
       brk (decide (t0 = 42)) (
       brk (decide (t0 = 42)) (
        some (true, j2)) (
        some (false, j2))) (
       brk (decide (t0 = 1)) (
        brk (decide (t0 = 1)) (
        some (true, j2)) (
        some (false, j2))) (
        brk (decide (t0 = 40)) (
        some (true, j2)) (
        some (false, j2))))))))))))))))
 := eF Tryd.func48 (by kernel_rfl)
theorem aP8 (T : S.Tab) : w9 (S.step T) =
 some (([], false, true, ()), ay2)
 := eF Tryd.func45 (by kernel_rfl)
theorem aQ7 (T : S.Tab) : C3 (S.step T) =
 some (([], false, false, ()), aw9)
 := eF Tryd.func46 (by kernel_rfl)
theorem ax4 (T : S.Tab) (t0 : Int) : s5 (S.step T) t0 =
 brk (decide (t0 = 25)) (
 some (true, D7)) (
 brk (decide (t0 = 50)) (
  some (true, D7)) (
  brk (decide (t0 = 62)) (
  some (true, D7)) (
  some (decide (t0 = 69), D7))))
 := eF Tryd.func51 (by kernel_rfl)
theorem aG5 (T : S.Tab) (t0 : Int) : E6 (S.step T) t0 =
 brk (decide (t0 = 1)) (
 brk (decide (t0 = 1)) (
  some (true, j9)) (
  (s5 T t0).bind fun d17 =>
  some (d17.1, j9))) (
 brk (decide (t0 = 40)) (
  brk (decide (t0 = 40)) (
  some (true, j9)) (
  (s5 T t0).bind fun d17 =>
  some (d17.1, j9))) (
  brk (decide (t0 = 2)) (
  brk (decide (t0 = 2)) (
   some (true, j9)) (
   (s5 T t0).bind fun d17 =>
   some (d17.1, j9))) (
  brk (decide (t0 = 3)) (
   brk (decide (t0 = 3)) (
   some (true, j9)) (
   (s5 T t0).bind fun d17 =>
   some (d17.1, j9))) (
   brk (decide (t0 = 4)) (
   brk (decide (t0 = 4)) (
    some (true, j9)) (
    (s5 T t0).bind fun d17 =>
    some (d17.1, j9))) (
   brk (decide (t0 = 24)) (
    brk (decide (t0 = 24)) (
    some (true, j9)) (
    (s5 T t0).bind fun d17 =>
    some (d17.1, j9))) (
    brk (decide (t0 = 29)) (
    brk (decide (t0 = 29)) (
     some (true, j9)) (
     (s5 T t0).bind fun d17 =>
     some (d17.1, j9))) (
    brk (decide (t0 = 17)) (
     brk (decide (t0 = 17)) (
     some (true, j9)) (
     (s5 T t0).bind fun d17 =>
     some (d17.1, j9))) (
     brk (decide (t0 = 49)) (
     brk (decide (t0 = 49)) (
      some (true, j9)) (
      (s5 T t0).bind fun d17 =>
      some (d17.1, j9))) (
     brk (decide (t0 = 18)) (
      brk (decide (t0 = 18)) (
      some (true, j9)) (
      (s5 T t0).bind fun d17 =>
      some (d17.1, j9))) (
      brk (decide (t0 = 42)) (
      some (true, j9)) (
      (s5 T t0).bind fun d17 =>
      some (d17.1, j9))))))))))))
 := eF Tryd.func49 (by kernel_rfl)
theorem aP6 (T : S.Tab) (t0 : Int) (t1 : Int) (t2 : Int) : H6 (S.step T) t0 t1 t2 =
 brk (decide (t2 = 48)) (
 some ((([48, 1, t0] : List Int), true, ()), (), (), t2, ())) (
 brk (decide (t2 = 44)) (
  some ((([44, 1018, 45, t0] : List Int), true, ()), (), (), t2, ())) (
  brk (decide (t2 = 40)) (
  some ((([40, 1022, 41, t1] : List Int), true, ()), (), (), t2, ())) (
  some (([], false, ()), (), (), t2, ()))))
 := eF Tryd.func47 (by kernel_rfl)
theorem aS4 (T : S.Tab) (t0 : Int) (t1 : Int) (t2 : Int) : ag9 (S.step T) t0 t1 t2 =
 brk (decide (t1 ≤ t0)) (
 some (decide (t0 ≤ t2), ap3)) (
 some (false, ap3))
 := eF Tryd.func66 (by kernel_rfl)
theorem aB8 (T : S.Tab) (t0 : Int) : S6 (S.step T) t0 =
 brk (decide (t0 = 10)) (
 some (true, K4)) (
 brk (decide (t0 = 26)) (
  some (true, K4)) (
  (ag9 T t0 61 78).bind fun d11 =>
  some (d11.1, K4)))
 := eF Tryd.func50 (by kernel_rfl)
theorem a45 (T : S.Tab) (t0 : Int) (t1 : Int) : P6 (S.step T) t0 t1 =
 brk (decide (t0 = 1000)) (
 brk (decide (t1 = 5)) (
  (l6 T ([5, 1000] : List Int)).bind fun d35 =>
  some (d35.1, b8)) (
  (W6 T t1).bind fun d40 =>
  brk (d40.1) (
  brk (decide (t1 = 22)) (
   (l6 T ([22, 1, 1006, 1002, 1001] : List Int)).bind fun d46 =>
   some (d46.1, b8)) (
   brk (decide (t1 = 13)) (
   (l6 T ([13, 1, 47, 1018, 1001] : List Int)).bind fun d54 =>
   some (d54.1, b8)) (
   brk (decide (t1 = 18)) (
    (l6 T ([18, 1, 1028, 1001] : List Int)).bind fun d62 =>
    some (d62.1, b8)) (
    brk (decide (t1 = 20)) (
    (l6 T ([20, 1018, 1027, 1003, 1001] : List Int)).bind fun d70 =>
    some (d70.1, b8)) (
    brk (decide (t1 = 31)) (
     (l6 T ([31, 1018, 1027, 1001] : List Int)).bind fun d78 =>
     some (d78.1, b8)) (
     brk (decide (t1 = 19)) (
     (l6 T ([19, 1, 1004, 1001] : List Int)).bind fun d86 =>
     some (d86.1, b8)) (
     brk (decide (t1 = 11)) (
      (Q7 T t1 t1 (decide (t1 = 11))).bind (N0
       (fun y25 =>
      some (y25, b8))
       (fun y25 =>
      (w9 T).bind fun d157 =>
      some (d157.1, b8)))) (
      (Q7 T t1 t1 (decide (t1 = 23))).bind (N0
       (fun y25 =>
      some (y25, b8))
       (fun y25 =>
      (w9 T).bind fun d157 =>
      some (d157.1, b8))))))))))) (
  (w9 T).bind fun d157 =>
  some (d157.1, b8)))) (
 brk (decide (t0 = 1001)) (
  brk (decide (t1 = 5)) (
  (l6 T ([5, 1000] : List Int)).bind fun d167 =>
  some (d167.1, b8)) (
  (w9 T).bind fun d172 =>
  some (d172.1, b8))) (
  brk (decide (t0 = 1002)) (
  brk (decide (t1 = 47)) (
   (l6 T ([47, 1018, 1023] : List Int)).bind fun d182 =>
   some (d182.1, b8)) (
   (w9 T).bind fun d187 =>
   some (d187.1, b8))) (
  brk (decide (t0 = 1003)) (
   brk (decide (t1 = 15)) (
   (l6 T ([15, 1018, 1027, 1003] : List Int)).bind fun d197 =>
   some (d197.1, b8)) (
   brk (decide (t1 = 16)) (
    (l6 T ([16, 1027] : List Int)).bind fun d205 =>
    some (d205.1, b8)) (
    (w9 T).bind fun d210 =>
    some (d210.1, b8)))) (
   brk (decide (t0 = 1004)) (
   brk (decide (t1 = 47)) (
    (l6 T ([47, 1018, 46, 1018, 1005, 1027] : List Int)).bind fun d221 =>
    some (d221.1, b8)) (
    brk (decide (t1 = 46)) (
    (l6 T ([46, 1, 1006, 21, 1018, 1027] : List Int)).bind fun d229 =>
    some (d229.1, b8)) (
    brk (decide (t1 = 21)) (
     (l6 T ([21, 1018, 1027] : List Int)).bind fun d237 =>
     some (d237.1, b8)) (
     (C3 T).bind fun d242 =>
     some (d242.1, b8))))) (
   brk (decide (t0 = 1005)) (
    brk (decide (t1 = 46)) (
    (l6 T ([46, 1018] : List Int)).bind fun d252 =>
    some (d252.1, b8)) (
    (w9 T).bind fun d257 =>
    some (d257.1, b8))) (
    brk (decide (t0 = 1006)) (
    brk (decide (t1 = 46)) (
     (l6 T ([46, 1, 1006] : List Int)).bind fun d267 =>
     some (d267.1, b8)) (
     (w9 T).bind fun d272 =>
     some (d272.1, b8))) (
    brk (decide (t0 = 1007)) (
     (E6 T t1).bind fun d279 =>
     brk (d279.1) (
     (l6 T ([1018, 1023] : List Int)).bind fun d282 =>
     some (d282.1, b8)) (
     (w9 T).bind fun d287 =>
     some (d287.1, b8))) (
     brk (decide (t0 = 1008)) (
     brk (decide (t1 = 46)) (
      (l6 T ([46, 1] : List Int)).bind fun d297 =>
      some (d297.1, b8)) (
      (w9 T).bind fun d302 =>
      some (d302.1, b8))) (
     brk (decide (t0 = 1009)) (
      (H6 T 1009 1010 t1).bind fun d310 =>
      brk (d310.1.2.1) (
      some ((d310.1.1, true, false, ()), b8)) (
      brk (decide (d310.2.2.2.1 = 47)) (
       (l6 T ([47, 1018, 1023] : List Int)).bind fun d319 =>
       some (d319.1, b8)) (
       brk (decide (d310.2.2.2.1 = 46)) (
       (l6 T ([46, 1012] : List Int)).bind fun d327 =>
       some (d327.1, b8)) (
       (C3 T).bind fun d332 =>
       some (d332.1, b8))))) (
      brk (decide (t0 = 1010)) (
      (H6 T 1009 1010 t1).bind fun d340 =>
      brk (d340.1.2.1) (
       some ((d340.1.1, true, false, ()), b8)) (
       (w9 T).bind fun d346 =>
       some (d346.1, b8))) (
      brk (decide (t0 = 1011)) (
       (H6 T 1009 1010 t1).bind fun d354 =>
       some ((d354.1.1, d354.1.2.1, false, ()), b8)) (
       brk (decide (t0 = 1012)) (
       brk (decide (t1 = 1)) (
        (l6 T ([1, 1013] : List Int)).bind fun d365 =>
        some (d365.1, b8)) (
        brk (decide (t1 = 40)) (
        (l6 T ([40, 1018, 41, 1014] : List Int)).bind fun d373 =>
        some (d373.1, b8)) (
        (C3 T).bind fun d378 =>
        some (d378.1, b8)))) (
       brk (decide (t0 = 1013)) (
        (H6 T 1013 1014 t1).bind fun d386 =>
        brk (d386.1.2.1) (
        some ((d386.1.1, true, false, ()), b8)) (
        brk (decide (d386.2.2.2.1 = 47)) (
         (l6 T ([47, 1018, 1023] : List Int)).bind fun d395 =>
         some (d395.1, b8)) (
         brk (decide (d386.2.2.2.1 = 46)) (
         (l6 T ([46, 1012] : List Int)).bind fun d403 =>
         some (d403.1, b8)) (
         (C3 T).bind fun d408 =>
         some (d408.1, b8))))) (
        brk (decide (t0 = 1014)) (
        (H6 T 1013 1014 t1).bind fun d416 =>
        some ((d416.1.1, d416.1.2.1, false, ()), b8)) (
        brk (decide (t0 = 1015)) (
         brk (decide (t1 = 1)) (
         (l6 T ([1, 1016] : List Int)).bind fun d427 =>
         some (d427.1, b8)) (
         brk (decide (t1 = 40)) (
          (l6 T ([40, 1018, 41, 1016] : List Int)).bind fun d435 =>
          some (d435.1, b8)) (
          (C3 T).bind fun d440 =>
          some (d440.1, b8)))) (
         brk (decide (t0 = 1016)) (
         (H6 T 1016 1017 t1).bind fun d448 =>
         some ((d448.1.1, d448.1.2.1, false, ()), b8)) (
         brk (decide (t0 = 1017)) (
          (H6 T 1016 1017 t1).bind fun d457 =>
          some ((d457.1.1, d457.1.2.1, true, ()), b8)) (
          brk (decide (t0 = 1018)) (
          (E6 T t1).bind fun d465 =>
          brk (d465.1) (
           (l6 T ([1020, 1019] : List Int)).bind fun d468 =>
           some (d468.1, b8)) (
           (C3 T).bind fun d473 =>
           some (d473.1, b8))) (
          brk (decide (t0 = 1019)) (
           (S6 T t1).bind fun d480 =>
           brk (d480.1) (
           (l6 T ([t1, 1020, 1019] : List Int)).bind fun d484 =>
           some (d484.1, b8)) (
           (w9 T).bind fun d489 =>
           some (d489.1, b8))) (
           brk (decide (t0 = 1020)) (
           (s5 T t1).bind fun d497 =>
           brk (d497.1) (
            (l6 T ([t1, 1020] : List Int)).bind fun d501 =>
            some (d501.1, b8)) (
            brk (decide (t1 = 1)) (
            (l6 T ([1, 1021] : List Int)).bind fun d510 =>
            some (d510.1, b8)) (
            brk (decide (t1 = 40)) (
             (l6 T ([40, 1018, 41, 1021] : List Int)).bind fun d519 =>
             some (d519.1, b8)) (
             brk (decide (t1 = 18)) (
             (l6 T ([18, 1028] : List Int)).bind fun d528 =>
             some (d528.1, b8)) (
             brk (decide (t1 = 42)) (
              (l6 T ([42, 1029, 43] : List Int)).bind fun d537 =>
              some (d537.1, b8)) (
              (E6 T t1).bind fun d543 =>
              brk (d543.1) (
              (l6 T ([t1] : List Int)).bind fun d547 =>
              some (d547.1, b8)) (
              (C3 T).bind fun d552 =>
              some (d552.1, b8)))))))) (
           brk (decide (t0 = 1021)) (
            (H6 T 1021 1021 t1).bind fun d560 =>
            some ((d560.1.1, d560.1.2.1, true, ()), b8)) (
            brk (decide (t0 = 1022)) (
            (E6 T t1).bind fun d568 =>
            brk (d568.1) (
             (l6 T ([1018, 1023] : List Int)).bind fun d571 =>
             some (d571.1, b8)) (
             (w9 T).bind fun d576 =>
             some (d576.1, b8))) (
            brk (decide (t0 = 1023)) (
             brk (decide (t1 = 46)) (
             (l6 T ([46, 1018, 1023] : List Int)).bind fun d586 =>
             some (d586.1, b8)) (
             (w9 T).bind fun d591 =>
             some (d591.1, b8))) (
             brk (decide (t0 = 1028)) (
             brk (decide (t1 = 40)) (
              (l6 T ([40, 1024, 41, 1027] : List Int)).bind fun d601 =>
              some (d601.1, b8)) (
              (C3 T).bind fun d606 =>
              some (d606.1, b8))) (
             brk (decide (t0 = 1024)) (
              brk (decide (t1 = 49)) (
              (l6 T ([49] : List Int)).bind fun d616 =>
              some (d616.1, b8)) (
              brk (decide (t1 = 1)) (
               (l6 T ([1, 1025] : List Int)).bind fun d624 =>
               some (d624.1, b8)) (
               (w9 T).bind fun d629 =>
               some (d629.1, b8)))) (
              brk (decide (t0 = 1025)) (
              brk (decide (t1 = 46)) (
               (l6 T ([46, 1026] : List Int)).bind fun d639 =>
               some (d639.1, b8)) (
               (w9 T).bind fun d644 =>
               some (d644.1, b8))) (
              brk (decide (t0 = 1026)) (
               brk (decide (t1 = 1)) (
               (l6 T ([1, 1025] : List Int)).bind fun d654 =>
               some (d654.1, b8)) (
               brk (decide (t1 = 49)) (
                (l6 T ([49] : List Int)).bind fun d662 =>
                some (d662.1, b8)) (
                (C3 T).bind fun d667 =>
                some (d667.1, b8)))) (
               brk (decide (t0 = 1027)) (
               brk (decide (t1 = 42)) (
                (l6 T ([42, 1000, 43] : List Int)).bind fun d677 =>
                some (d677.1, b8)) (
                (C3 T).bind fun d682 =>
                some (d682.1, b8))) (
               brk (decide (t0 = 1029)) (
                (E6 T t1).bind fun d689 =>
                brk (d689.1) (
                (l6 T ([1032, 1030] : List Int)).bind fun d700 =>
                some (d700.1, b8)) (
                brk (decide (t1 = 44)) (
                 (l6 T ([1032, 1030] : List Int)).bind fun d700 =>
                 some (d700.1, b8)) (
                 brk (decide (t1 = 48)) (
                 (l6 T ([1032, 1030] : List Int)).bind fun d700 =>
                 some (d700.1, b8)) (
                 (w9 T).bind fun d705 =>
                 some (d705.1, b8))))) (
                brk (decide (t0 = 1030)) (
                brk (decide (t1 = 46)) (
                 (l6 T ([46, 1031] : List Int)).bind fun d715 =>
                 some (d715.1, b8)) (
                 (w9 T).bind fun d720 =>
                 some (d720.1, b8))) (
                brk (decide (t0 = 1031)) (
                 (E6 T t1).bind fun d727 =>
                 brk (d727.1) (
                 (l6 T ([1032, 1030] : List Int)).bind fun d738 =>
                 some (d738.1, b8)) (
                 brk (decide (t1 = 44)) (
                  (l6 T ([1032, 1030] : List Int)).bind fun d738 =>
                  some (d738.1, b8)) (
                  brk (decide (t1 = 48)) (
                  (l6 T ([1032, 1030] : List Int)).bind fun d738 =>
                  some (d738.1, b8)) (
                  (w9 T).bind fun d743 =>
                  some (d743.1, b8))))) (
                 brk (decide (t0 = 1032)) (
                 brk (decide (t1 = 44)) (
                  (l6 T ([44, 1018, 45, 47, 1018] : List Int)).bind fun d754 =>
                  some (d754.1, b8)) (
                  brk (decide (t1 = 48)) (
                  (l6 T ([48, 1, 47, 1018] : List Int)).bind fun d763 =>
                  some (d763.1, b8)) (
                  (E6 T t1).bind fun d769 =>
                  brk (d769.1) (
                   (l6 T ([1018] : List Int)).bind fun d772 =>
                   some (d772.1, b8)) (
                   (C3 T).bind fun d777 =>
                   some (d777.1, b8))))) (
                 (C3 T).bind fun d782 =>
                 some (d782.1, b8))))))))))))))))))))))))))))))))))
 := eF Tryd.func23 (by kernel_rfl)
theorem aI3 (T : S.Tab) (t3 : Int) (t41 : Int) (t90 : Bool) : Q7 (S.step T) t3 t41 t90 =
 brk (t90) (
 (l6 T ([t3, 1001] : List Int)).bind fun d96 =>
 some (Sum.inl d96.1)) (
 brk (decide (t41 = 27)) (
  (l6 T ([27, 1007, 1001] : List Int)).bind fun d104 =>
  some (Sum.inl d104.1)) (
  brk (decide (t41 = 30)) (
  (l6 T ([30, 1027, 12, 1, 1008, 1027, 1001] : List Int)).bind fun d112 =>
  some (Sum.inl d112.1)) (
  brk (decide (t41 = 28)) (
   (l6 T ([28, 1018, 1001] : List Int)).bind fun d120 =>
   some (Sum.inl d120.1)) (
   brk (decide (t41 = 14)) (
   (l6 T ([14, 1015, 1001] : List Int)).bind fun d128 =>
   some (Sum.inl d128.1)) (
   brk (decide (t41 = 42)) (
    (l6 T ([1027, 1001] : List Int)).bind fun d136 =>
    some (Sum.inl d136.1)) (
    brk (decide (t41 = 1)) (
    (l6 T ([1, 1009, 1001] : List Int)).bind fun d144 =>
    some (Sum.inl d144.1)) (
    brk (decide (t41 = 40)) (
     (l6 T ([40, 1018, 41, 1011, 1001] : List Int)).bind fun d152 =>
     some (Sum.inl d152.1)) (
     some (Sum.inr (Sum.inl ()))))))))))
 := eJ Tryd.func23 rfl (by kernel_rfl)
theorem bd2 (T : S.Tab) (t0 : List Int) (t1 : Int) : O5 (S.step T) t0 t1 =
 (T1 T t0 t1).bind (N0
  (fun y1 =>
 some (y1.1, U2))
  (fun y1 =>
 some (false, U2)))
 := eF Tryd.func12 (by kernel_rfl)
theorem ah3 (T : S.Tab) (t0 : List Int) (t1 : Int) : T1 (S.step T) t0 t1 =
 brk (!t0.isEmpty) (
 brk (!(t0).isEmpty) (
 brk (!(t0).isEmpty) (
 brk (decide (t0.headD 0 < 1000)) (
  brk (!(t0).isEmpty) (
  brk (!(t0).isEmpty) (
  some (Sum.inl (decide (t0.headD 0 = t1), ()))) none) none) (
  brk (!(t0).isEmpty) (
  brk (!(t0).isEmpty) (
  (P6 T (t0.headD 0) t1).bind fun d27 =>
  brk (d27.1.2.1) (
  some (Sum.inl (true, ()))) (
  brk (!d27.1.2.2.1) (
   some (Sum.inl (false, ()))) (
   brk (!(t0).isEmpty) (
   brk (!(t0).isEmpty) (
   T1 T t0.tail t1) none) none))) none) none)) none) none) (
 some (Sum.inr (Sum.inl ())))
 := eL Tryd.func12 rfl (by kernel_rfl)
theorem a56 (T : S.Tab) (t0 : List Int) (t1 : Int) : Y6 (S.step T) t0 t1 =
 (x4 T t0 t1).bind (N0
  (fun y1 =>
 some (y1.1, ac8))
  (fun y1 =>
 some (([] : List Int), ac8)))
 := eF Tryd.func20 (by kernel_rfl)
theorem ad2 (T : S.Tab) (t0 : List Int) (t1 : Int) : x4 (S.step T) t0 t1 =
 brk (!t0.isEmpty) (
 brk (!(t0).isEmpty) (
 brk (!(t0).isEmpty) (
 brk (decide (t0.headD 0 < 1000)) (
  brk (!(t0).isEmpty) (
  brk (!(t0).isEmpty) (
  brk (decide (t0.headD 0 = t1)) (
  brk (!(t0).isEmpty) (
  brk (!(t0).isEmpty) (
  brk (t0.tail.isEmpty) (
   some (Sum.inl ((-1 : Int) :: ([] : List Int), ()))) (
   brk (!(t0).isEmpty) (
   brk (!(t0).isEmpty) (
   some (Sum.inl (t0.tail, ()))) none) none)) none) none) (
  some (Sum.inl (([] : List Int), ())))) none) none) (
  brk (!(t0).isEmpty) (
  brk (!(t0).isEmpty) (
  (P6 T (t0.headD 0) t1).bind fun d39 =>
  brk (d39.1.2.1) (
  brk (!(t0).isEmpty) (
  brk (!(t0).isEmpty) (
  (K6 T t0.tail t1 d39.1.1 (IntKind.i64.wrap ((d39.1.1.length : Int) - 1))).bind (A9
   (fun y13 =>
   x4 T y13.1 y13.2.1))) none) none) (
  brk (d39.1.2.2.1) (
   brk (!(t0).isEmpty) (
   brk (!(t0).isEmpty) (
   x4 T t0.tail t1) none) none) (
   some (Sum.inl (([] : List Int), ()))))) none) none)) none) none) (
 some (Sum.inr (Sum.inl ())))
 := eL Tryd.func20 rfl (by kernel_rfl)
theorem am2 (T : S.Tab) (t0 : List Int) (t1 : Int) (t5 : List Int) (t8 : Int) : K6 (S.step T) t0 t1 t5 t8 =
 brk (decide (0 ≤ t8)) (
 brk (decide (0 ≤ t8) && decide (t8 < (t5.length : Int))) (
 K6 T ((t5.getD t8.toNat 0) :: t0) t1 t5 (IntKind.i64.wrap (t8 - 1))) none) (
 some (Sum.inl (t0, t1, ())))
 := eL Tryd.func20 rfl (by kernel_rfl)
theorem aQ6 (T : S.Tab) (t0 : Int) : S9 (S.step T) t0 =
 brk (decide (97 ≤ t0)) (
 brk (decide (t0 ≤ 122)) (
  some (true, L5)) (
  brk (decide (65 ≤ t0)) (
  brk (decide (t0 ≤ 90)) (
   some (true, L5)) (
   some (decide (t0 = 95), L5))) (
  some (decide (t0 = 95), L5)))) (
 brk (decide (65 ≤ t0)) (
  brk (decide (t0 ≤ 90)) (
  some (true, L5)) (
  some (decide (t0 = 95), L5))) (
  some (decide (t0 = 95), L5)))
 := eF Tryd.func36 (by kernel_rfl)
theorem aZ8 (T : S.Tab) (t0 : Int) : M8 (S.step T) t0 =
 brk (decide (48 ≤ t0)) (
 some (decide (t0 ≤ 57), ao6)) (
 some (false, ao6))
 := eF Tryd.func37 (by kernel_rfl)
theorem a52 (T : S.Tab) (t0 : List Int) : ay8 (S.step T) t0 =
 (K9 T t0 Lx.words (Lx.words.length : Int) 0).bind (N0
  (fun y2 =>
 some (y2.1, av8))
  (fun y2 =>
 some (1, av8)))
 := eF Tryd.func38 (by kernel_rfl)
theorem ap5 (T : S.Tab) (t0 : List Int) (t5 : List (List Int)) (t6 : Int) (t7 : Int) : K9 (S.step T) t0 t5 t6 t7 =
 brk (decide (t7 < t6)) (
 brk (decide (0 ≤ t7) && decide (t7 < (t5.length : Int))) (
 brk (decide ((t5.getD t7.toNat []) = t0)) (
  some (Sum.inl (IntKind.i64.wrap (10 + t7), ()))) (
  K9 T t0 t5 t6 (IntKind.i64.wrap (t7 + 1)))) none) (
 some (Sum.inr (Sum.inl ())))
 := eL Tryd.func38 rfl (by kernel_rfl)
theorem a90 (T : S.Tab) (t0 : Int) : ap1 (S.step T) t0 =
 (M8 T t0).bind fun d4 =>
 brk (d4.1) (
 some (true, aj9)) (
 brk (decide (97 ≤ t0)) (
  some (decide (t0 ≤ 102), aj9)) (
  some (false, aj9)))
 := eF Tryd.func41 (by kernel_rfl)
theorem aA3 (T : S.Tab) (t0 : Int) : o9 (S.step T) t0 =
 some (intBits .or .u8 t0 32, aj3)
 := eF Tryd.func73 (by kernel_rfl)
theorem an1 (T : S.Tab) (t0 : List Int) (t1 : Int) (t2 : Int) : N9 (S.step T) t0 t1 t2 =
 brk (decide (t0 = ([] : List Int))) (
 some ((0, false, ()), j3)) (
 brk (decide (2 ≤ t1)) (
  brk (decide (t1 ≤ 36)) (
  (j1 T t0 t1 t2 (decide (t1 = 0)) t0).bind (A9
   (fun y21 =>
   some (y21, j3)))) (
  brk (decide (t1 = 0)) (
   brk (decide (0 < (t0.length : Int))) (
   brk (decide (t0.getD 0 0 = 48)) (
   brk (decide (3 ≤ (t0.length : Int))) (
    brk (decide (1 < (t0.length : Int))) (
    (o9 T (t0.getD 1 0)).bind fun d47 =>
    brk (decide (d47.1 = 98)) (
    brk (bounds t0.length 2 (t0.length : Int)) (
    (j1 T (sub t0 2 (t0.length : Int)) 2 t2 (decide (t1 = 0)) t0).bind (A9
     (fun y21 =>
     some (y21, j3)))) none) (
    brk (decide (3 ≤ (t0.length : Int))) (
     brk (decide (1 < (t0.length : Int))) (
     (o9 T (t0.getD 1 0)).bind fun d59 =>
     brk (decide (d59.1 = 111)) (
     brk (bounds t0.length 2 (t0.length : Int)) (
     (j1 T (sub t0 2 (t0.length : Int)) 8 t2 (decide (t1 = 0)) t0).bind (A9
      (fun y21 =>
      some (y21, j3)))) none) (
     brk (decide (3 ≤ (t0.length : Int))) (
      brk (decide (1 < (t0.length : Int))) (
      (o9 T (t0.getD 1 0)).bind fun d71 =>
      brk (decide (d71.1 = 120)) (
      brk (bounds t0.length 2 (t0.length : Int)) (
      (j1 T (sub t0 2 (t0.length : Int)) 16 t2 (decide (t1 = 0)) t0).bind (A9
       (fun y21 =>
       some (y21, j3)))) none) (
      brk (bounds t0.length 1 (t0.length : Int)) (
      (j1 T (sub t0 1 (t0.length : Int)) 8 t2 (decide (t1 = 0)) t0).bind (A9
       (fun y21 =>
       some (y21, j3)))) none)) none) (
      brk (bounds t0.length 1 (t0.length : Int)) (
      (j1 T (sub t0 1 (t0.length : Int)) 8 t2 (decide (t1 = 0)) t0).bind (A9
       (fun y21 =>
      some (y21, j3)))) none))) none) (
     brk (decide (3 ≤ (t0.length : Int))) (
     brk (decide (1 < (t0.length : Int))) (
     (o9 T (t0.getD 1 0)).bind fun d71 =>
     brk (decide (d71.1 = 120)) (
      brk (bounds t0.length 2 (t0.length : Int)) (
      (j1 T (sub t0 2 (t0.length : Int)) 16 t2 (decide (t1 = 0)) t0).bind (A9
       (fun y21 =>
      some (y21, j3)))) none) (
      brk (bounds t0.length 1 (t0.length : Int)) (
      (j1 T (sub t0 1 (t0.length : Int)) 8 t2 (decide (t1 = 0)) t0).bind (A9
       (fun y21 =>
      some (y21, j3)))) none)) none) (
     brk (bounds t0.length 1 (t0.length : Int)) (
     (j1 T (sub t0 1 (t0.length : Int)) 8 t2 (decide (t1 = 0)) t0).bind (A9
      (fun y21 =>
      some (y21, j3)))) none)))) none) (
    brk (decide (3 ≤ (t0.length : Int))) (
    brk (decide (1 < (t0.length : Int))) (
    (o9 T (t0.getD 1 0)).bind fun d59 =>
    brk (decide (d59.1 = 111)) (
     brk (bounds t0.length 2 (t0.length : Int)) (
     (j1 T (sub t0 2 (t0.length : Int)) 8 t2 (decide (t1 = 0)) t0).bind (A9
      (fun y21 =>
     some (y21, j3)))) none) (
     brk (decide (3 ≤ (t0.length : Int))) (
     brk (decide (1 < (t0.length : Int))) (
     (o9 T (t0.getD 1 0)).bind fun d71 =>
     brk (decide (d71.1 = 120)) (
      brk (bounds t0.length 2 (t0.length : Int)) (
      (j1 T (sub t0 2 (t0.length : Int)) 16 t2 (decide (t1 = 0)) t0).bind (A9
       (fun y21 =>
      some (y21, j3)))) none) (
      brk (bounds t0.length 1 (t0.length : Int)) (
      (j1 T (sub t0 1 (t0.length : Int)) 8 t2 (decide (t1 = 0)) t0).bind (A9
       (fun y21 =>
      some (y21, j3)))) none)) none) (
     brk (bounds t0.length 1 (t0.length : Int)) (
     (j1 T (sub t0 1 (t0.length : Int)) 8 t2 (decide (t1 = 0)) t0).bind (A9
      (fun y21 =>
      some (y21, j3)))) none))) none) (
    brk (decide (3 ≤ (t0.length : Int))) (
     brk (decide (1 < (t0.length : Int))) (
     (o9 T (t0.getD 1 0)).bind fun d71 =>
     brk (decide (d71.1 = 120)) (
     brk (bounds t0.length 2 (t0.length : Int)) (
     (j1 T (sub t0 2 (t0.length : Int)) 16 t2 (decide (t1 = 0)) t0).bind (A9
      (fun y21 =>
      some (y21, j3)))) none) (
     brk (bounds t0.length 1 (t0.length : Int)) (
     (j1 T (sub t0 1 (t0.length : Int)) 8 t2 (decide (t1 = 0)) t0).bind (A9
      (fun y21 =>
      some (y21, j3)))) none)) none) (
     brk (bounds t0.length 1 (t0.length : Int)) (
     (j1 T (sub t0 1 (t0.length : Int)) 8 t2 (decide (t1 = 0)) t0).bind (A9
      (fun y21 =>
     some (y21, j3)))) none)))) (
   (j1 T t0 10 t2 (decide (t1 = 0)) t0).bind (A9
    (fun y21 =>
    some (y21, j3))))) none) (
   some ((0, false, ()), j3)))) (
  brk (decide (t1 = 0)) (
  brk (decide (0 < (t0.length : Int))) (
  brk (decide (t0.getD 0 0 = 48)) (
   brk (decide (3 ≤ (t0.length : Int))) (
   brk (decide (1 < (t0.length : Int))) (
   (o9 T (t0.getD 1 0)).bind fun d47 =>
   brk (decide (d47.1 = 98)) (
    brk (bounds t0.length 2 (t0.length : Int)) (
    (j1 T (sub t0 2 (t0.length : Int)) 2 t2 (decide (t1 = 0)) t0).bind (A9
     (fun y21 =>
    some (y21, j3)))) none) (
    brk (decide (3 ≤ (t0.length : Int))) (
    brk (decide (1 < (t0.length : Int))) (
    (o9 T (t0.getD 1 0)).bind fun d59 =>
    brk (decide (d59.1 = 111)) (
     brk (bounds t0.length 2 (t0.length : Int)) (
     (j1 T (sub t0 2 (t0.length : Int)) 8 t2 (decide (t1 = 0)) t0).bind (A9
      (fun y21 =>
     some (y21, j3)))) none) (
     brk (decide (3 ≤ (t0.length : Int))) (
     brk (decide (1 < (t0.length : Int))) (
     (o9 T (t0.getD 1 0)).bind fun d71 =>
     brk (decide (d71.1 = 120)) (
      brk (bounds t0.length 2 (t0.length : Int)) (
      (j1 T (sub t0 2 (t0.length : Int)) 16 t2 (decide (t1 = 0)) t0).bind (A9
       (fun y21 =>
      some (y21, j3)))) none) (
      brk (bounds t0.length 1 (t0.length : Int)) (
      (j1 T (sub t0 1 (t0.length : Int)) 8 t2 (decide (t1 = 0)) t0).bind (A9
       (fun y21 =>
      some (y21, j3)))) none)) none) (
     brk (bounds t0.length 1 (t0.length : Int)) (
     (j1 T (sub t0 1 (t0.length : Int)) 8 t2 (decide (t1 = 0)) t0).bind (A9
      (fun y21 =>
      some (y21, j3)))) none))) none) (
    brk (decide (3 ≤ (t0.length : Int))) (
     brk (decide (1 < (t0.length : Int))) (
     (o9 T (t0.getD 1 0)).bind fun d71 =>
     brk (decide (d71.1 = 120)) (
     brk (bounds t0.length 2 (t0.length : Int)) (
     (j1 T (sub t0 2 (t0.length : Int)) 16 t2 (decide (t1 = 0)) t0).bind (A9
      (fun y21 =>
      some (y21, j3)))) none) (
     brk (bounds t0.length 1 (t0.length : Int)) (
     (j1 T (sub t0 1 (t0.length : Int)) 8 t2 (decide (t1 = 0)) t0).bind (A9
      (fun y21 =>
      some (y21, j3)))) none)) none) (
     brk (bounds t0.length 1 (t0.length : Int)) (
     (j1 T (sub t0 1 (t0.length : Int)) 8 t2 (decide (t1 = 0)) t0).bind (A9
      (fun y21 =>
     some (y21, j3)))) none)))) none) (
   brk (decide (3 ≤ (t0.length : Int))) (
    brk (decide (1 < (t0.length : Int))) (
    (o9 T (t0.getD 1 0)).bind fun d59 =>
    brk (decide (d59.1 = 111)) (
    brk (bounds t0.length 2 (t0.length : Int)) (
    (j1 T (sub t0 2 (t0.length : Int)) 8 t2 (decide (t1 = 0)) t0).bind (A9
     (fun y21 =>
     some (y21, j3)))) none) (
    brk (decide (3 ≤ (t0.length : Int))) (
     brk (decide (1 < (t0.length : Int))) (
     (o9 T (t0.getD 1 0)).bind fun d71 =>
     brk (decide (d71.1 = 120)) (
     brk (bounds t0.length 2 (t0.length : Int)) (
     (j1 T (sub t0 2 (t0.length : Int)) 16 t2 (decide (t1 = 0)) t0).bind (A9
      (fun y21 =>
      some (y21, j3)))) none) (
     brk (bounds t0.length 1 (t0.length : Int)) (
     (j1 T (sub t0 1 (t0.length : Int)) 8 t2 (decide (t1 = 0)) t0).bind (A9
      (fun y21 =>
      some (y21, j3)))) none)) none) (
     brk (bounds t0.length 1 (t0.length : Int)) (
     (j1 T (sub t0 1 (t0.length : Int)) 8 t2 (decide (t1 = 0)) t0).bind (A9
      (fun y21 =>
     some (y21, j3)))) none))) none) (
    brk (decide (3 ≤ (t0.length : Int))) (
    brk (decide (1 < (t0.length : Int))) (
    (o9 T (t0.getD 1 0)).bind fun d71 =>
    brk (decide (d71.1 = 120)) (
     brk (bounds t0.length 2 (t0.length : Int)) (
     (j1 T (sub t0 2 (t0.length : Int)) 16 t2 (decide (t1 = 0)) t0).bind (A9
      (fun y21 =>
     some (y21, j3)))) none) (
     brk (bounds t0.length 1 (t0.length : Int)) (
     (j1 T (sub t0 1 (t0.length : Int)) 8 t2 (decide (t1 = 0)) t0).bind (A9
      (fun y21 =>
     some (y21, j3)))) none)) none) (
    brk (bounds t0.length 1 (t0.length : Int)) (
    (j1 T (sub t0 1 (t0.length : Int)) 8 t2 (decide (t1 = 0)) t0).bind (A9
     (fun y21 =>
     some (y21, j3)))) none)))) (
   (j1 T t0 10 t2 (decide (t1 = 0)) t0).bind (A9
    (fun y21 =>
   some (y21, j3))))) none) (
  some ((0, false, ()), j3))))
 := eF Tryd.func64 (by kernel_rfl)
theorem ae3 (T : S.Tab) (t0 : List Int) (t1 : Int) (t2 : Int) (t8 : Bool) (t9 : List Int) : j1 (S.step T) t0 t1 t2 t8 t9 =
 brk (decide (t2 = 0)) (
 (E1 T t0 t1 64 t8 t9).bind (A9
  (fun y25 =>
  some (Sum.inl y25)))) (
 brk (decide (t2 < 0)) (
  some (Sum.inl (0, false, ()))) (
  brk (decide (64 < t2)) (
  some (Sum.inl (0, false, ()))) (
  (E1 T t0 t1 t2 t8 t9).bind (A9
   (fun y25 =>
   some (Sum.inl y25))))))
 := eJ Tryd.func64 rfl (by kernel_rfl)
theorem ae1 (T : S.Tab) (t0 : List Int) (t1 : Int) (t2 : Int) (t8 : Bool) (t9 : List Int) : E1 (S.step T) t0 t1 t2 t8 t9 =
 brk (decide (t1 = 10)) (
 (C0 T t0 t1 t2 t8 t9 1844674407370955162).bind (A9
  (fun y32 =>
  some (Sum.inl y32)))) (
 brk (decide (t1 = 16)) (
  (C0 T t0 t1 t2 t8 t9 1152921504606846976).bind (A9
   (fun y32 =>
  some (Sum.inl y32)))) (
  brk (decide ((IntKind.u64.wrap t1) ≠ 0)) (
  (C0 T t0 t1 t2 t8 t9 (IntKind.u64.wrap ((IntKind.u64.wrap ((18446744073709551615 : Int).tdiv (IntKind.u64.wrap t1))) + 1))).bind (A9
   (fun y32 =>
  some (Sum.inl y32)))) none))
 := eJ Tryd.func64 rfl (by kernel_rfl)
theorem ae6 (T : S.Tab) (t0 : List Int) (t1 : Int) (t2 : Int) (t8 : Bool) (t9 : List Int) (t10 : Int) : C0 (S.step T) t0 t1 t2 t8 t9 t10 =
 brk (decide (0 ≤ IntKind.u64.wrap t2)) (
 (p9 T t1 t8 t9 t10 (IntKind.u64.wrap ((IntKind.u64.wrap (1 * 2 ^ min ((IntKind.u64.wrap t2).toNat) IntKind.u64.bits)) - 1)) false 0 t0 (t0.length : Int) 0).bind (N0
  (fun y36 =>
 some (Sum.inl y36))
  (fun y36 =>
 brk (y36.2.1) (
  (an3 T y36.1).bind fun d167 =>
  brk (!d167.1) (
  some (Sum.inl (0, false, ()))) (
  some (Sum.inl (y36.2.2.1, true, ())))) (
  some (Sum.inl (y36.2.2.1, true, ())))))) none
 := eJ Tryd.func64 rfl (by kernel_rfl)
theorem ae7 (T : S.Tab) (t1 : Int) (t8 : Bool) (t9 : List Int) (t10 : Int) (t11 : Int) (t12 : Bool) (t13 : Int) (t16 : Int) (t99 : List Int) (t100 : Int) (t101 : Int) : z8 (S.step T) t1 t8 t9 t10 t11 t12 t13 t16 t99 t100 t101 =
 brk (decide (IntKind.u8.wrap t1 ≤ t16)) (
 some (Sum.inl (0, false, ()))) (
 brk (decide (t10 ≤ t13)) (
  some (Sum.inl (t11, false, ()))) (
  brk (decide (IntKind.u64.wrap ((IntKind.u64.wrap (t13 * (IntKind.u64.wrap t1))) + (IntKind.u64.wrap t16)) < IntKind.u64.wrap (t13 * (IntKind.u64.wrap t1)))) (
  some (Sum.inl (t11, false, ()))) (
  brk (decide (t11 < IntKind.u64.wrap ((IntKind.u64.wrap (t13 * (IntKind.u64.wrap t1))) + (IntKind.u64.wrap t16)))) (
   some (Sum.inl (t11, false, ()))) (
   some (Sum.inr (Sum.inl (t1, t8, t9, t10, t11, t12, IntKind.u64.wrap ((IntKind.u64.wrap (t13 * (IntKind.u64.wrap t1))) + (IntKind.u64.wrap t16)), t99, t100, t101, ())))))))
 := eJ Tryd.func64 rfl (by kernel_rfl)
theorem Q8 (T : S.Tab) (t1 : Int) (t8 : Bool) (t9 : List Int) (t10 : Int) (t11 : Int) (t12 : Bool) (t13 : Int) (t99 : List Int) (t100 : Int) (t101 : Int) : p9 (S.step T) t1 t8 t9 t10 t11 t12 t13 t99 t100 t101 =
 brk (decide (t101 < t100)) (
 brk (decide (0 ≤ t101) && decide (t101 < (t99.length : Int))) (
 brk (decide (t99.getD t101.toNat 0 = 95)) (
  brk (t8) (
  p9 T t1 t8 t9 t10 t11 true t13 t99 t100 (IntKind.i64.wrap (t101 + 1))) (
  brk (decide (48 ≤ t99.getD t101.toNat 0)) (
   brk (decide (t99.getD t101.toNat 0 ≤ 57)) (
   (z8 T t1 t8 t9 t10 t11 t12 t13 (IntKind.u8.wrap ((t99.getD t101.toNat 0) - 48)) t99 t100 t101).bind (N0
    (fun y46 =>
    some (Sum.inl y46))
    (fun y46 =>
    p9 T y46.1 y46.2.1 y46.2.2.1 y46.2.2.2.1 y46.2.2.2.2.1 y46.2.2.2.2.2.1 y46.2.2.2.2.2.2.1 y46.2.2.2.2.2.2.2.1 y46.2.2.2.2.2.2.2.2.1 (IntKind.i64.wrap (y46.2.2.2.2.2.2.2.2.2.1 + 1))))) (
   (o9 T (t99.getD t101.toNat 0)).bind fun d123 =>
   brk (decide (97 ≤ d123.1)) (
    (o9 T (t99.getD t101.toNat 0)).bind fun d127 =>
    brk (decide (d127.1 ≤ 122)) (
    (o9 T (t99.getD t101.toNat 0)).bind fun d131 =>
    (z8 T t1 t8 t9 t10 t11 t12 t13 (IntKind.u8.wrap ((IntKind.u8.wrap (d131.1 - 97)) + 10)) t99 t100 t101).bind (N0
     (fun y46 =>
     some (Sum.inl y46))
     (fun y46 =>
     p9 T y46.1 y46.2.1 y46.2.2.1 y46.2.2.2.1 y46.2.2.2.2.1 y46.2.2.2.2.2.1 y46.2.2.2.2.2.2.1 y46.2.2.2.2.2.2.2.1 y46.2.2.2.2.2.2.2.2.1 (IntKind.i64.wrap (y46.2.2.2.2.2.2.2.2.2.1 + 1))))) (
    some (Sum.inl (0, false, ())))) (
    some (Sum.inl (0, false, ()))))) (
   (o9 T (t99.getD t101.toNat 0)).bind fun d123 =>
   brk (decide (97 ≤ d123.1)) (
   (o9 T (t99.getD t101.toNat 0)).bind fun d127 =>
   brk (decide (d127.1 ≤ 122)) (
    (o9 T (t99.getD t101.toNat 0)).bind fun d131 =>
    (z8 T t1 t8 t9 t10 t11 t12 t13 (IntKind.u8.wrap ((IntKind.u8.wrap (d131.1 - 97)) + 10)) t99 t100 t101).bind (N0
     (fun y46 =>
    some (Sum.inl y46))
     (fun y46 =>
    p9 T y46.1 y46.2.1 y46.2.2.1 y46.2.2.2.1 y46.2.2.2.2.1 y46.2.2.2.2.2.1 y46.2.2.2.2.2.2.1 y46.2.2.2.2.2.2.2.1 y46.2.2.2.2.2.2.2.2.1 (IntKind.i64.wrap (y46.2.2.2.2.2.2.2.2.2.1 + 1))))) (
    some (Sum.inl (0, false, ())))) (
   some (Sum.inl (0, false, ())))))) (
  brk (decide (48 ≤ t99.getD t101.toNat 0)) (
  brk (decide (t99.getD t101.toNat 0 ≤ 57)) (
   (z8 T t1 t8 t9 t10 t11 t12 t13 (IntKind.u8.wrap ((t99.getD t101.toNat 0) - 48)) t99 t100 t101).bind (N0
    (fun y46 =>
   some (Sum.inl y46))
    (fun y46 =>
   p9 T y46.1 y46.2.1 y46.2.2.1 y46.2.2.2.1 y46.2.2.2.2.1 y46.2.2.2.2.2.1 y46.2.2.2.2.2.2.1 y46.2.2.2.2.2.2.2.1 y46.2.2.2.2.2.2.2.2.1 (IntKind.i64.wrap (y46.2.2.2.2.2.2.2.2.2.1 + 1))))) (
   (o9 T (t99.getD t101.toNat 0)).bind fun d123 =>
   brk (decide (97 ≤ d123.1)) (
   (o9 T (t99.getD t101.toNat 0)).bind fun d127 =>
   brk (decide (d127.1 ≤ 122)) (
    (o9 T (t99.getD t101.toNat 0)).bind fun d131 =>
    (z8 T t1 t8 t9 t10 t11 t12 t13 (IntKind.u8.wrap ((IntKind.u8.wrap (d131.1 - 97)) + 10)) t99 t100 t101).bind (N0
     (fun y46 =>
    some (Sum.inl y46))
     (fun y46 =>
    p9 T y46.1 y46.2.1 y46.2.2.1 y46.2.2.2.1 y46.2.2.2.2.1 y46.2.2.2.2.2.1 y46.2.2.2.2.2.2.1 y46.2.2.2.2.2.2.2.1 y46.2.2.2.2.2.2.2.2.1 (IntKind.i64.wrap (y46.2.2.2.2.2.2.2.2.2.1 + 1))))) (
    some (Sum.inl (0, false, ())))) (
   some (Sum.inl (0, false, ()))))) (
  (o9 T (t99.getD t101.toNat 0)).bind fun d123 =>
  brk (decide (97 ≤ d123.1)) (
   (o9 T (t99.getD t101.toNat 0)).bind fun d127 =>
   brk (decide (d127.1 ≤ 122)) (
   (o9 T (t99.getD t101.toNat 0)).bind fun d131 =>
   (z8 T t1 t8 t9 t10 t11 t12 t13 (IntKind.u8.wrap ((IntKind.u8.wrap (d131.1 - 97)) + 10)) t99 t100 t101).bind (N0
    (fun y46 =>
    some (Sum.inl y46))
    (fun y46 =>
    p9 T y46.1 y46.2.1 y46.2.2.1 y46.2.2.2.1 y46.2.2.2.2.1 y46.2.2.2.2.2.1 y46.2.2.2.2.2.2.1 y46.2.2.2.2.2.2.2.1 y46.2.2.2.2.2.2.2.2.1 (IntKind.i64.wrap (y46.2.2.2.2.2.2.2.2.2.1 + 1))))) (
   some (Sum.inl (0, false, ())))) (
   some (Sum.inl (0, false, ())))))) none) (
 some (Sum.inr (Sum.inl (t9, t12, t13, ()))))
 := eL Tryd.func64 rfl (by kernel_rfl)
theorem as2 (T : S.Tab) (t0 : List Int) (t1 : Int) (t2 : Int) : F6 (S.step T) t0 t1 t2 =
 (N9 T t0 t1 t2).bind fun d14 =>
 brk (!d14.1.2.1) (
 none) (
 some ((d14.1.1, true, ()), ad4))
 := eF Tryd.func42 (by kernel_rfl)
theorem X7 (T : S.Tab) (t0 : List Int) (t1 : Int) : P7 (S.step T) t0 t1 =
 brk (decide (0 ≤ t1) && decide (t1 < (t0.length : Int))) (
 brk (decide (t0.getD t1.toNat 0 = 48)) (
 brk (decide (IntKind.i64.wrap (t1 + 1) < (t0.length : Int))) (
  brk (decide (0 ≤ IntKind.i64.wrap (t1 + 1)) && decide (IntKind.i64.wrap (t1 + 1) < (t0.length : Int))) (
  brk (decide (t0.getD ((IntKind.i64.wrap (t1 + 1)).toNat) 0 = 120)) (
  (J1 T t0 t1 (2, t1, 0, 0, 0, ([] : List Int), ()) (IntKind.i64.wrap (t1 + 2))).bind (A9
   (fun y5 =>
   brk (decide (y5.2.2.2.1 = IntKind.i64.wrap (y5.2.1 + 2))) (
   some (((y5.2.2.1.1, y5.2.2.1.2.1, y5.2.2.2.1, y5.2.2.1.2.2.2), true, ()), B9)) (
   brk (decide (y5.2.2.2.1 = IntKind.i64.wrap (y5.2.1 + 18))) (
    brk (decide (y5.2.2.2.1 < (y5.1.length : Int))) (
    brk (decide (0 ≤ y5.2.2.2.1) && decide (y5.2.2.2.1 < (y5.1.length : Int))) (
    (ap1 T (y5.1.getD y5.2.2.2.1.toNat 0)).bind fun d74 =>
    brk (d74.1) (
     some (((y5.2.2.1.1, y5.2.2.1.2.1, y5.2.2.2.1, y5.2.2.1.2.2.2), true, ()), B9)) (
     brk (bounds y5.1.length (IntKind.i64.wrap (y5.2.1 + 2)) y5.2.2.2.1) (
     (F6 T (sub y5.1 (IntKind.i64.wrap (y5.2.1 + 2)) y5.2.2.2.1) 16 64).bind fun d84 =>
     some (((y5.2.2.1.1, y5.2.2.1.2.1, y5.2.2.2.1, y5.2.2.1.2.2.2.1, IntKind.i64.wrap d84.1.1, y5.2.2.1.2.2.2.2.2), false, ()), B9)) none)) none) (
    brk (bounds y5.1.length (IntKind.i64.wrap (y5.2.1 + 2)) y5.2.2.2.1) (
    (F6 T (sub y5.1 (IntKind.i64.wrap (y5.2.1 + 2)) y5.2.2.2.1) 16 64).bind fun d84 =>
    some (((y5.2.2.1.1, y5.2.2.1.2.1, y5.2.2.2.1, y5.2.2.1.2.2.2.1, IntKind.i64.wrap d84.1.1, y5.2.2.1.2.2.2.2.2), false, ()), B9)) none)) (
    brk (bounds y5.1.length (IntKind.i64.wrap (y5.2.1 + 2)) y5.2.2.2.1) (
    (F6 T (sub y5.1 (IntKind.i64.wrap (y5.2.1 + 2)) y5.2.2.2.1) 16 64).bind fun d84 =>
    some (((y5.2.2.1.1, y5.2.2.1.2.1, y5.2.2.2.1, y5.2.2.1.2.2.2.1, IntKind.i64.wrap d84.1.1, y5.2.2.1.2.2.2.2.2), false, ()), B9)) none))))) (
  brk (decide (0 ≤ t1) && decide (t1 < (t0.length : Int))) (
  brk (!decide (t0.getD t1.toNat 0 = 48)) (
   (C9 T t0 t1 (2, t1, 0, 0, 0, ([] : List Int), ()) (IntKind.i64.wrap (t1 + 1))).bind (A9
    (fun y15 =>
   (C8 T y15.1 y15.2.1 y15.2.2.1 y15.2.2.2.1).bind (A9
    (fun y17 =>
    some (y17, B9)))))) (
   (C8 T t0 t1 (2, t1, 0, 0, 0, ([] : List Int), ()) (IntKind.i64.wrap (t1 + 1))).bind (A9
    (fun y17 =>
   some (y17, B9))))) none)) none) (
  brk (decide (0 ≤ t1) && decide (t1 < (t0.length : Int))) (
  brk (!decide (t0.getD t1.toNat 0 = 48)) (
  (C9 T t0 t1 (2, t1, 0, 0, 0, ([] : List Int), ()) (IntKind.i64.wrap (t1 + 1))).bind (A9
   (fun y15 =>
   (C8 T y15.1 y15.2.1 y15.2.2.1 y15.2.2.2.1).bind (A9
    (fun y17 =>
   some (y17, B9)))))) (
  (C8 T t0 t1 (2, t1, 0, 0, 0, ([] : List Int), ()) (IntKind.i64.wrap (t1 + 1))).bind (A9
   (fun y17 =>
   some (y17, B9))))) none)) (
 brk (decide (0 ≤ t1) && decide (t1 < (t0.length : Int))) (
 brk (!decide (t0.getD t1.toNat 0 = 48)) (
  (C9 T t0 t1 (2, t1, 0, 0, 0, ([] : List Int), ()) (IntKind.i64.wrap (t1 + 1))).bind (A9
   (fun y15 =>
  (C8 T y15.1 y15.2.1 y15.2.2.1 y15.2.2.2.1).bind (A9
   (fun y17 =>
   some (y17, B9)))))) (
  (C8 T t0 t1 (2, t1, 0, 0, 0, ([] : List Int), ()) (IntKind.i64.wrap (t1 + 1))).bind (A9
   (fun y17 =>
  some (y17, B9))))) none)) none
 := eF Tryd.func39 (by kernel_rfl)
theorem ag0 (T : S.Tab) (t0 : List Int) (t1 : Int) (t4 : j7.den) (t6 : Int) : C8 (S.step T) t0 t1 t4 t6 =
 brk (decide (IntKind.i64.wrap (t6 + 1) < (t0.length : Int))) (
 brk (decide (0 ≤ t6) && decide (t6 < (t0.length : Int))) (
 brk (decide (t0.getD t6.toNat 0 = 46)) (
  brk (decide (0 ≤ IntKind.i64.wrap (t6 + 1)) && decide (IntKind.i64.wrap (t6 + 1) < (t0.length : Int))) (
  (M8 T (t0.getD ((IntKind.i64.wrap (t6 + 1)).toNat) 0)).bind fun d126 =>
  brk (d126.1) (
  (G8 T t0 t1 t4 (IntKind.i64.wrap (t6 + 1)) t6).bind (A9
   (fun y20 =>
   (E4 T y20.1 y20.2.1 y20.2.2.1 y20.2.2.2.1 y20.2.2.2.2.1).bind (A9
    (fun y22 =>
   some (Sum.inl y22)))))) (
  (E4 T t0 t1 t4 t6 t6).bind (A9
   (fun y22 =>
   some (Sum.inl y22))))) none) (
  (E4 T t0 t1 t4 t6 t6).bind (A9
   (fun y22 =>
  some (Sum.inl y22))))) none) (
 (E4 T t0 t1 t4 t6 t6).bind (A9
  (fun y22 =>
  some (Sum.inl y22))))
 := eJ Tryd.func39 rfl (by kernel_rfl)
theorem ag2 (T : S.Tab) (t0 : List Int) (t1 : Int) (t4 : j7.den) (t6 : Int) (t9 : Int) : E4 (S.step T) t0 t1 t4 t6 t9 =
 brk (decide (t6 < (t0.length : Int))) (
 brk (decide (0 ≤ t6) && decide (t6 < (t0.length : Int))) (
 brk (decide (t0.getD t6.toNat 0 = 101)) (
  brk (decide (IntKind.i64.wrap (t6 + 1) < (t0.length : Int))) (
  brk (decide (0 ≤ IntKind.i64.wrap (t6 + 1)) && decide (IntKind.i64.wrap (t6 + 1) < (t0.length : Int))) (
  brk (decide (t0.getD ((IntKind.i64.wrap (t6 + 1)).toNat) 0 = 43)) (
   (G9 T t0 t1 t4 (IntKind.i64.wrap ((IntKind.i64.wrap (t6 + 1)) + 1)) t9).bind (N0
    (fun y26 =>
   some (Sum.inl y26))
    (fun y26 =>
   (C4 T y26.1 y26.2.1 y26.2.2.1 y26.2.2.2.1 y26.2.2.2.2.1).bind (A9
    (fun y31 =>
    some (Sum.inl y31)))))) (
   brk (decide (0 ≤ IntKind.i64.wrap (t6 + 1)) && decide (IntKind.i64.wrap (t6 + 1) < (t0.length : Int))) (
   brk (decide (t0.getD ((IntKind.i64.wrap (t6 + 1)).toNat) 0 = 45)) (
   (G9 T t0 t1 t4 (IntKind.i64.wrap ((IntKind.i64.wrap (t6 + 1)) + 1)) t9).bind (N0
    (fun y26 =>
    some (Sum.inl y26))
    (fun y26 =>
    (C4 T y26.1 y26.2.1 y26.2.2.1 y26.2.2.2.1 y26.2.2.2.2.1).bind (A9
     (fun y31 =>
    some (Sum.inl y31)))))) (
   (G9 T t0 t1 t4 (IntKind.i64.wrap (t6 + 1)) t9).bind (N0
    (fun y26 =>
    some (Sum.inl y26))
    (fun y26 =>
    (C4 T y26.1 y26.2.1 y26.2.2.1 y26.2.2.2.1 y26.2.2.2.2.1).bind (A9
     (fun y31 =>
    some (Sum.inl y31))))))) none)) none) (
  (G9 T t0 t1 t4 (IntKind.i64.wrap (t6 + 1)) t9).bind (N0
   (fun y26 =>
   some (Sum.inl y26))
   (fun y26 =>
   (C4 T y26.1 y26.2.1 y26.2.2.1 y26.2.2.2.1 y26.2.2.2.2.1).bind (A9
    (fun y31 =>
   some (Sum.inl y31))))))) (
  (C4 T t0 t1 t4 t6 t9).bind (A9
   (fun y31 =>
  some (Sum.inl y31))))) none) (
 (C4 T t0 t1 t4 t6 t9).bind (A9
  (fun y31 =>
  some (Sum.inl y31))))
 := eJ Tryd.func39 rfl (by kernel_rfl)
theorem az3 (T : S.Tab) (t0 : List Int) (t1 : Int) (t4 : j7.den) (t6 : Int) (t9 : Int) : G9 (S.step T) t0 t1 t4 t6 t9 =
 brk (decide ((t0.length : Int) ≤ t6)) (
 some (Sum.inl ((t4.1, t4.2.1, t6, t4.2.2.2), true, ()))) (
 brk (decide (0 ≤ t6) && decide (t6 < (t0.length : Int))) (
 (M8 T (t0.getD t6.toNat 0)).bind fun d180 =>
 brk (!d180.1) (
  some (Sum.inl ((t4.1, t4.2.1, t6, t4.2.2.2), true, ()))) (
  (G7 T t0 t1 t4 t6 t9).bind (A9
   (fun y29 =>
  some (Sum.inr (Sum.inl y29)))))) none)
 := eJ Tryd.func39 rfl (by kernel_rfl)
theorem aA2 (T : S.Tab) (t0 : List Int) (t1 : Int) (t4 : j7.den) (t6 : Int) (t9 : Int) : C4 (S.step T) t0 t1 t4 t6 t9 =
 brk (decide (t6 = t9)) (
 brk (bounds t0.length t1 t6) (
 (Lx.ad6 (sub t0 t1 t6, 10, 64, ())).bind fun d208 =>
 brk (d208.1.2.1) (
  some (Sum.inl ((t4.1, t4.2.1, t6, t4.2.2.2.1, d208.1.1, t4.2.2.2.2.2), false, ()))) (
  brk (bounds t0.length t1 t6) (
  some (Sum.inl ((3, t4.2.1, t6, t4.2.2.2.1, t4.2.2.2.2.1, sub t0 t1 t6, ()), false, ()))) none)) none) (
 brk (bounds t0.length t1 t6) (
 some (Sum.inl ((3, t4.2.1, t6, t4.2.2.2.1, t4.2.2.2.2.1, sub t0 t1 t6, ()), false, ()))) none)
 := eJ Tryd.func39 rfl (by kernel_rfl)
theorem ai8 (T : S.Tab) (t0 : List Int) (t1 : Int) (t4 : j7.den) (t6 : Int) : J1 (S.step T) t0 t1 t4 t6 =
 brk (decide (t6 < (t0.length : Int))) (
 brk (decide (t6 < IntKind.i64.wrap (t1 + 18))) (
  brk (decide (0 ≤ t6) && decide (t6 < (t0.length : Int))) (
  (ap1 T (t0.getD t6.toNat 0)).bind fun d49 =>
  brk (d49.1) (
  J1 T t0 t1 t4 (IntKind.i64.wrap (t6 + 1))) (
  some (Sum.inl (t0, t1, t4, t6, ())))) none) (
  some (Sum.inl (t0, t1, t4, t6, ())))) (
 some (Sum.inl (t0, t1, t4, t6, ())))
 := eL Tryd.func39 rfl (by kernel_rfl)
theorem ag4 (T : S.Tab) (t0 : List Int) (t1 : Int) (t4 : j7.den) (t6 : Int) : C9 (S.step T) t0 t1 t4 t6 =
 brk (decide (t6 < (t0.length : Int))) (
 brk (decide (0 ≤ t6) && decide (t6 < (t0.length : Int))) (
 (M8 T (t0.getD t6.toNat 0)).bind fun d105 =>
 brk (d105.1) (
  C9 T t0 t1 t4 (IntKind.i64.wrap (t6 + 1))) (
  some (Sum.inl (t0, t1, t4, t6, ())))) none) (
 some (Sum.inl (t0, t1, t4, t6, ())))
 := eL Tryd.func39 rfl (by kernel_rfl)
theorem af5 (T : S.Tab) (t0 : List Int) (t1 : Int) (t4 : j7.den) (t6 : Int) (t9 : Int) : G8 (S.step T) t0 t1 t4 t6 t9 =
 brk (decide (t6 < (t0.length : Int))) (
 brk (decide (0 ≤ t6) && decide (t6 < (t0.length : Int))) (
 (M8 T (t0.getD t6.toNat 0)).bind fun d138 =>
 brk (d138.1) (
  G8 T t0 t1 t4 (IntKind.i64.wrap (t6 + 1)) t9) (
  some (Sum.inl (t0, t1, t4, t6, t9, ())))) none) (
 some (Sum.inl (t0, t1, t4, t6, t9, ())))
 := eL Tryd.func39 rfl (by kernel_rfl)
theorem ae9 (T : S.Tab) (t0 : List Int) (t1 : Int) (t4 : j7.den) (t6 : Int) (t9 : Int) : G7 (S.step T) t0 t1 t4 t6 t9 =
 brk (decide (t6 < (t0.length : Int))) (
 brk (decide (0 ≤ t6) && decide (t6 < (t0.length : Int))) (
 (M8 T (t0.getD t6.toNat 0)).bind fun d194 =>
 brk (d194.1) (
  G7 T t0 t1 t4 (IntKind.i64.wrap (t6 + 1)) t9) (
  some (Sum.inl (t0, t1, t4, t6, t9, ())))) none) (
 some (Sum.inl (t0, t1, t4, t6, t9, ())))
 := eL Tryd.func39 rfl (by kernel_rfl)
theorem ae4 (T : S.Tab) (t0 : List Int) (t1 : Int) : J0 (S.step T) t0 t1 =
 (Bld.ar3 (t0, t1, ())).bind fun d7 =>
 some (d7.1, S2)
 := eF Tryd.func63 (by kernel_rfl)
theorem as0 (T : S.Tab) (t0 : List Int) (t1 : Int) : M3 (S.step T) t0 t1 =
 (J0 T t0 t1).bind fun d7 =>
 some (d7.1, T2)
 := eF Tryd.func40 (by kernel_rfl)
theorem aW9 (T : S.Tab) (t0 : Int) : ah9 (S.step T) t0 =
 (ag9 T t0 10 31).bind fun d5 =>
 brk (d5.1) (
 brk (decide (0 ≤ IntKind.i64.wrap (t0 - 10)) && decide (IntKind.i64.wrap (t0 - 10) < (Lx.words.length : Int))) (
 some (Lx.words.getD ((IntKind.i64.wrap (t0 - 10)).toNat) [], U5)) none) (
 (ag9 T t0 40 50).bind fun d13 =>
 brk (d13.1) (
  brk (decide (0 ≤ IntKind.i64.wrap (t0 - 40)) && decide (IntKind.i64.wrap (t0 - 40) < (Lx.ab0.length : Int))) (
  some (Lx.ab0.getD ((IntKind.i64.wrap (t0 - 40)).toNat) [], U5)) none) (
  (ag9 T t0 61 78).bind fun d21 =>
  brk (d21.1) (
  brk (decide (0 ≤ IntKind.i64.wrap ((IntKind.i64.wrap (t0 - 60)) - 1)) && decide (IntKind.i64.wrap ((IntKind.i64.wrap (t0 - 60)) - 1) < (Lx.aw4.length : Int))) (
  some (Lx.aw4.getD ((IntKind.i64.wrap ((IntKind.i64.wrap (t0 - 60)) - 1)).toNat) [], U5)) none) (
  brk (decide (t0 = 5)) (
   some (([59] : List Int), U5)) (
   some (([] : List Int), U5)))))
 := eF Tryd.func43 (by kernel_rfl)
theorem aP0 (T : S.Tab) (t0 : List Int) (t1 : Int) : Q2 (S.step T) t0 t1 =
 brk (decide (0 ≤ t1) && decide (t1 < (t0.length : Int))) (
 (S9 T (t0.getD t1.toNat 0)).bind fun d24 =>
 brk (d24.1) (
 (N3 T t0 t1 (0, t1, 0, 0, 0, ([] : List Int), ()) t1).bind (A9
  (fun y5 =>
  brk (bounds y5.1.length y5.2.1 y5.2.2.2.1) (
  (ay8 T (sub y5.1 y5.2.1 y5.2.2.2.1)).bind fun d50 =>
  brk (decide (d50.1 = 1)) (
  brk (bounds y5.1.length y5.2.1 y5.2.2.2.1) (
  some (((d50.1, y5.2.2.1.2.1, y5.2.2.2.1, y5.2.2.1.2.2.2.1, y5.2.2.1.2.2.2.2.1, sub y5.1 y5.2.1 y5.2.2.2.1, ()), false, ()), J9)) none) (
  some (((d50.1, y5.2.2.1.2.1, y5.2.2.2.1, y5.2.2.1.2.2.2), false, ()), J9))) none))) (
 (M8 T (t0.getD t1.toNat 0)).bind fun d63 =>
 brk (d63.1) (
  (P7 T t0 t1).bind fun d66 =>
  some (d66.1, J9)) (
  brk (decide (t0.getD t1.toNat 0 = 34)) (
  (x5 T t0 (4, t1, 0, 0, 0, ([] : List Int), ()) [] (IntKind.i64.wrap (t1 + 1))).bind (A9
   (fun y18 =>
   some (y18, J9)))) (
  (G6 T t0 t1 (0, t1, 0, 0, 0, ([] : List Int), ()) 0 78).bind (A9
   (fun y49 =>
   brk (decide (y49.2.1.1 = 0)) (
   some (((y49.2.1.1, y49.2.1.2.1, y49.1, y49.2.1.2.2.2), true, ()), J9)) (
   some ((y49.2.1, false, ()), J9)))))))) none
 := eF Tryd.func21 (by kernel_rfl)
theorem at6 (T : S.Tab) (t0 : List Int) (t1 : Int) (t4 : j7.den) (t7 : Int) : N3 (S.step T) t0 t1 t4 t7 =
 brk (decide (t7 < (t0.length : Int))) (
 brk (decide (0 ≤ t7) && decide (t7 < (t0.length : Int))) (
 (S9 T (t0.getD t7.toNat 0)).bind fun d34 =>
 brk (d34.1) (
  N3 T t0 t1 t4 (IntKind.i64.wrap (t7 + 1))) (
  brk (decide (0 ≤ t7) && decide (t7 < (t0.length : Int))) (
  (M8 T (t0.getD t7.toNat 0)).bind fun d39 =>
  brk (d39.1) (
  N3 T t0 t1 t4 (IntKind.i64.wrap (t7 + 1))) (
  some (Sum.inl (t0, t1, t4, t7, ())))) none)) none) (
 some (Sum.inl (t0, t1, t4, t7, ())))
 := eL Tryd.func21 rfl (by kernel_rfl)
theorem M0 (T : S.Tab) (t0 : List Int) (t4 : j7.den) (t8 : List Int) (t9 : Int) : x5 (S.step T) t0 t4 t8 t9 =
 brk (decide ((t0.length : Int) ≤ t9)) (
 some (Sum.inl ((t4.1, t4.2.1, t9, t4.2.2.2), true, ()))) (
 brk (decide (0 ≤ t9) && decide (t9 < (t0.length : Int))) (
 brk (decide (t0.getD t9.toNat 0 = 10)) (
  some (Sum.inl ((t4.1, t4.2.1, t9, t4.2.2.2), true, ()))) (
  brk (decide (0 ≤ t9) && decide (t9 < (t0.length : Int))) (
  brk (decide (t0.getD t9.toNat 0 = 34)) (
  some (Sum.inl ((t4.1, t4.2.1, IntKind.i64.wrap (t9 + 1), t4.2.2.2.1, t4.2.2.2.2.1, t8.map byte, ()), false, ()))) (
  brk (decide (0 ≤ t9) && decide (t9 < (t0.length : Int))) (
  brk (!decide (t0.getD t9.toNat 0 = 92)) (
   brk (decide (0 ≤ t9) && decide (t9 < (t0.length : Int))) (
   brk (fits (t8.length + ([t0.getD t9.toNat 0] : List Int).length)) (
   x5 T t0 t4 (t8 ++ ([t0.getD t9.toNat 0] : List Int)) (IntKind.i64.wrap (t9 + 1))) none) none) (
   brk (decide ((t0.length : Int) ≤ IntKind.i64.wrap (t9 + 1))) (
   some (Sum.inl ((t4.1, t4.2.1, IntKind.i64.wrap (t9 + 1), t4.2.2.2), true, ()))) (
   brk (decide (0 ≤ IntKind.i64.wrap (t9 + 1)) && decide (IntKind.i64.wrap (t9 + 1) < (t0.length : Int))) (
   (M3 T ([110, 116, 34, 92] : List Int) (t0.getD ((IntKind.i64.wrap (t9 + 1)).toNat) 0)).bind fun d124 =>
   brk (decide (0 ≤ d124.1)) (
    brk (decide (0 ≤ d124.1) && decide (d124.1 < 4)) (
    brk (fits (t8.length + ([([10, 9, 34, 92] : List Int).getD d124.1.toNat 0] : List Int).length)) (
    x5 T t0 t4 (t8 ++ ([([10, 9, 34, 92] : List Int).getD d124.1.toNat 0] : List Int)) (IntKind.i64.wrap (t9 + 2))) none) none) (
    brk (decide (0 ≤ IntKind.i64.wrap (t9 + 1)) && decide (IntKind.i64.wrap (t9 + 1) < (t0.length : Int))) (
    brk (!decide (t0.getD ((IntKind.i64.wrap (t9 + 1)).toNat) 0 = 120)) (
    some (Sum.inl ((t4.1, t4.2.1, IntKind.i64.wrap (t9 + 1), t4.2.2.2), true, ()))) (
    (K7 T t0 t4 t8 t9 2).bind (N0
     (fun y39 =>
     some (Sum.inl y39))
     (fun y39 =>
     brk (bounds y39.1.length (IntKind.i64.wrap (y39.2.2.2.1 + 2)) (IntKind.i64.wrap (y39.2.2.2.1 + 4))) (
     (F6 T (sub y39.1 (IntKind.i64.wrap (y39.2.2.2.1 + 2)) (IntKind.i64.wrap (y39.2.2.2.1 + 4))) 16 8).bind fun d174 =>
     brk (fits (y39.2.2.1.length + ([IntKind.u8.wrap d174.1.1] : List Int).length)) (
     x5 T y39.1 y39.2.1 (y39.2.2.1 ++ ([IntKind.u8.wrap d174.1.1] : List Int)) (IntKind.i64.wrap (y39.2.2.2.1 + 4))) none) none)))) none)) none))) none)) none)) none)
 := eL Tryd.func21 rfl (by kernel_rfl)
theorem ab5 (T : S.Tab) (t0 : List Int) (t4 : j7.den) (t8 : List Int) (t9 : Int) (t11 : Int) : K7 (S.step T) t0 t4 t8 t9 t11 =
 brk (decide (t11 ≤ 3)) (
 brk (decide ((t0.length : Int) ≤ IntKind.i64.wrap (t9 + t11))) (
  some (Sum.inl ((t4.1, t4.2.1, IntKind.i64.wrap (t9 + t11), t4.2.2.2), true, ()))) (
  brk (decide (0 ≤ IntKind.i64.wrap (t9 + t11)) && decide (IntKind.i64.wrap (t9 + t11) < (t0.length : Int))) (
  (ap1 T (t0.getD ((IntKind.i64.wrap (t9 + t11)).toNat) 0)).bind fun d159 =>
  brk (!d159.1) (
  some (Sum.inl ((t4.1, t4.2.1, IntKind.i64.wrap (t9 + t11), t4.2.2.2), true, ()))) (
  K7 T t0 t4 t8 t9 (IntKind.i64.wrap (t11 + 1)))) none)) (
 some (Sum.inr (Sum.inl (t0, t4, t8, t9, ()))))
 := eL Tryd.func21 rfl (by kernel_rfl)
theorem ap7 (T : S.Tab) (t0 : List Int) (t1 : Int) (t4 : j7.den) (t14 : Int) (t15 : Int) : G6 (S.step T) t0 t1 t4 t14 t15 =
 brk (decide (0 < t15)) (
 (ah9 T t15).bind fun d189 =>
 brk (!decide (d189.1 = ([] : List Int))) (
  brk (decide (0 < (d189.1.length : Int))) (
  (S9 T (d189.1.getD 0 0)).bind fun d195 =>
  brk (!d195.1) (
  brk (bounds t0.length t1 (t0.length : Int)) (
  (J2 T (sub t0 t1 (t0.length : Int)) d189.1).bind fun d203 =>
  brk (d203.1) (
   brk (decide (t14 < (d189.1.length : Int))) (
   G6 T t0 t1 (t15, t4.2.1, IntKind.i64.wrap (t1 + (d189.1.length : Int)), t4.2.2.2) (d189.1.length : Int) (IntKind.i64.wrap (t15 - 1))) (
   G6 T t0 t1 t4 t14 (IntKind.i64.wrap (t15 - 1)))) (
   G6 T t0 t1 t4 t14 (IntKind.i64.wrap (t15 - 1)))) none) (
  G6 T t0 t1 t4 t14 (IntKind.i64.wrap (t15 - 1)))) none) (
  G6 T t0 t1 t4 t14 (IntKind.i64.wrap (t15 - 1)))) (
 some (Sum.inl (t1, t4, ())))
 := eL Tryd.func21 rfl (by kernel_rfl)
theorem aO4 (T : S.Tab) (t0 : List Int) (t1 : List Int) (t2 : Int) : N1 (S.step T) t0 t1 t2 =
 brk (decide (0 ≤ t2) && decide (t2 < (t1.length : Int))) (
 brk (decide (t1.getD t2.toNat 0 = 45)) (
 (J5 T t0 t1 t2 1).bind (A9
  (fun y4 =>
  some (y4.1, S5)))) (
 (J5 T t0 t1 t2 0).bind (A9
  (fun y4 =>
  some (y4.1, S5))))) none
 := eF Tryd.func22 (by kernel_rfl)
theorem az1 (T : S.Tab) (t0 : List Int) (t1 : List Int) (t2 : Int) (t7 : Int) : J5 (S.step T) t0 t1 t2 t7 =
 (B5 T t0 t1 t2 t7 1).bind (A9
  (fun y5 =>
 brk (decide (0 ≤ y5.2.2.1) && decide (y5.2.2.1 < (y5.2.1.length : Int))) (
 (S9 T (y5.2.1.getD y5.2.2.1.toNat 0)).bind fun d61 =>
 brk (d61.1) (
  (O5 T y5.1 1).bind fun d64 =>
  brk (d64.1) (
  (D4 T y5.2.1 y5.2.2.1 y5.2.2.2.1 0).bind (A9
   (fun y15 =>
   some (Sum.inl (if y15.2.1 > y15.1 then y15.2.1 else y15.1, ()))))) (
  some (Sum.inl y5.2.2.2))) (
  some (Sum.inl y5.2.2.2))) none))
 := eJ Tryd.func22 rfl (by kernel_rfl)
theorem O7 (T : S.Tab) (t0 : List Int) (t1 : List Int) (t2 : Int) (t7 : Int) (t8 : Int) : B5 (S.step T) t0 t1 t2 t7 t8 =
 brk (decide (t8 ≤ 78)) (
 (ah9 T t8).bind fun d21 =>
 brk (decide (d21.1 = ([] : List Int))) (
  B5 T t0 t1 t2 t7 (IntKind.i64.wrap (t8 + 1))) (
  (O5 T t0 t8).bind fun d27 =>
  brk (!d27.1) (
  B5 T t0 t1 t2 t7 (IntKind.i64.wrap (t8 + 1))) (
  (F2 T t0 t1 t2 t7 t8 d21.1 0).bind (A9
   (fun y10 =>
   B5 T y10.1 y10.2.1 y10.2.2.1 (if y10.2.2.2.2.2.1 > y10.2.2.2.1 then y10.2.2.2.2.2.1 else y10.2.2.2.1) (IntKind.i64.wrap (y10.2.2.2.2.1 + 1))))))) (
 some (Sum.inl (t0, t1, t2, t7, ())))
 := eL Tryd.func22 rfl (by kernel_rfl)
theorem ac1 (T : S.Tab) (t0 : List Int) (t1 : List Int) (t2 : Int) (t7 : Int) (t8 : Int) (t9 : List Int) (t10 : Int) : F2 (S.step T) t0 t1 t2 t7 t8 t9 t10 =
 brk (decide (t10 < (t9.length : Int))) (
 brk (decide (IntKind.i64.wrap (t2 + t10) < (t1.length : Int))) (
  brk (decide (0 ≤ t10) && decide (t10 < (t9.length : Int))) (
  brk (decide (0 ≤ IntKind.i64.wrap (t2 + t10)) && decide (IntKind.i64.wrap (t2 + t10) < (t1.length : Int))) (
  brk (decide (t9.getD t10.toNat 0 = t1.getD ((IntKind.i64.wrap (t2 + t10)).toNat) 0)) (
  F2 T t0 t1 t2 t7 t8 t9 (IntKind.i64.wrap (t10 + 1))) (
  some (Sum.inl (t0, t1, t2, t7, t8, t10, ())))) none) none) (
  some (Sum.inl (t0, t1, t2, t7, t8, t10, ())))) (
 some (Sum.inl (t0, t1, t2, t7, t8, t10, ())))
 := eL Tryd.func22 rfl (by kernel_rfl)
theorem ad3 (T : S.Tab) (t1 : List Int) (t2 : Int) (t7 : Int) (t11 : Int) : D4 (S.step T) t1 t2 t7 t11 =
 brk (decide (IntKind.i64.wrap (t2 + t11) < (t1.length : Int))) (
 brk (decide (0 ≤ IntKind.i64.wrap (t2 + t11)) && decide (IntKind.i64.wrap (t2 + t11) < (t1.length : Int))) (
 (S9 T (t1.getD ((IntKind.i64.wrap (t2 + t11)).toNat) 0)).bind fun d78 =>
 brk (d78.1) (
  D4 T t1 t2 t7 (IntKind.i64.wrap (t11 + 1))) (
  brk (decide (0 ≤ IntKind.i64.wrap (t2 + t11)) && decide (IntKind.i64.wrap (t2 + t11) < (t1.length : Int))) (
  (M8 T (t1.getD ((IntKind.i64.wrap (t2 + t11)).toNat) 0)).bind fun d85 =>
  brk (d85.1) (
  D4 T t1 t2 t7 (IntKind.i64.wrap (t11 + 1))) (
  some (Sum.inl (t7, t11, ())))) none)) none) (
 some (Sum.inl (t7, t11, ())))
 := eL Tryd.func22 rfl (by kernel_rfl)
theorem aF5 (T : S.Tab) (t0 : List Int) : ai0 (S.step T) t0 =
 (af8 T).bind fun d10 =>
 (K1 T t0 0).bind fun d12 =>
 (q9 T t0 [] d10.1 1 d12.1).bind (N0
  (fun y4 =>
 some (y4, am1))
  (fun y4 =>
 some ((y4.1, y4.2.1, (-1 : Int), ()), am1)))
 := eF Tryd.func11 (by kernel_rfl)
theorem W5 (T : S.Tab) (t0 : List Int) (t2 : List j7.den) (t3 : List Int) (t5 : Int) (t6 : Int) : q9 (S.step T) t0 t2 t3 t5 t6 =
 brk (decide (t6 < (t0.length : Int))) (
 brk (decide (0 ≤ t6) && decide (t6 < (t0.length : Int))) (
 brk (decide (t0.getD t6.toNat 0 = 10)) (
  (O5 T t3 5).bind fun d25 =>
  brk (d25.1) (
  (Y6 T t3 5).bind fun d27 =>
  brk (fits (t2.length + ([(5, t6, IntKind.i64.wrap (t6 + 1), t5, 0, ([] : List Int), ())] : List j7.den).length)) (
  (K1 T t0 (IntKind.i64.wrap (t6 + 1))).bind fun d19 =>
  q9 T t0 (t2 ++ ([(5, t6, IntKind.i64.wrap (t6 + 1), t5, 0, ([] : List Int), ())] : List j7.den)) d27.1 (IntKind.i64.wrap (t5 + 1)) d19.1) none) (
  (K1 T t0 (IntKind.i64.wrap (t6 + 1))).bind fun d19 =>
  q9 T t0 t2 t3 (IntKind.i64.wrap (t5 + 1)) d19.1)) (
  (Q2 T t0 t6).bind fun d43 =>
  brk (decide (d43.1.1.1 = 0)) (
  (N1 T t3 t0 t6).bind fun d61 =>
  some (Sum.inl ([], t3, IntKind.i64.wrap (t6 + d61.1), ()))) (
  (O5 T t3 d43.1.1.1).bind fun d53 =>
  brk (!d53.1) (
   (N1 T t3 t0 t6).bind fun d61 =>
   some (Sum.inl ([], t3, IntKind.i64.wrap (t6 + d61.1), ()))) (
   brk (d43.1.2.1) (
   some (Sum.inl ([], t3, d43.1.1.2.2.1, ()))) (
   (Y6 T t3 d43.1.1.1).bind fun d69 =>
   brk (fits (t2.length + ([(d43.1.1.1, d43.1.1.2.1, d43.1.1.2.2.1, t5, d43.1.1.2.2.2.2)] : List j7.den).length)) (
   (K1 T t0 d43.1.1.2.2.1).bind fun d19 =>
   q9 T t0 (t2 ++ ([(d43.1.1.1, d43.1.1.2.1, d43.1.1.2.2.1, t5, d43.1.1.2.2.2.2)] : List j7.den)) d69.1 t5 d19.1) none))))) none) (
 some (Sum.inr (Sum.inl (t2, t3, ()))))
 := eL Tryd.func11 rfl (by kernel_rfl)
theorem ao3 (T : S.Tab) (t0 : List Int) : ac3 (S.step T) t0 =
 brk (decide (65536 < (t0.length : Int))) (
 some ([], ak1)) (
 (ai0 T t0).bind fun d13 =>
 brk (decide (0 ≤ d13.1.2.2.1)) (
  some ([], ak1)) (
  (H2 T d13.1.2.1 [] 1).bind (A9
   (fun y8 =>
  some (y8.1, ak1)))))
 := eF Tryd.func5 (by kernel_rfl)
theorem V5 (T : S.Tab) (t4 : List Int) (t6 : List Int) (t7 : Int) : H2 (S.step T) t4 t6 t7 =
 brk (decide (t7 ≤ 78)) (
 brk (!decide (t7 = 7)) (
  (O5 T t4 t7).bind fun d28 =>
  brk (d28.1) (
  brk (fits (t6.length + ([t7] : List Int).length)) (
  H2 T t4 (t6 ++ ([t7] : List Int)) (IntKind.i64.wrap (t7 + 1))) none) (
  H2 T t4 t6 (IntKind.i64.wrap (t7 + 1)))) (
  H2 T t4 t6 (IntKind.i64.wrap (t7 + 1)))) (
 some (Sum.inl (t6, ())))
 := eL Tryd.func5 rfl (by kernel_rfl)
theorem aQ9 (T : S.Tab) (t0 : List Int) (t1 : List Int) : ac5 (S.step T) t0 t1 =
 brk (!decide ((t0.length : Int) = (t1.length : Int))) (
 some (false, aa6)) (
 (L6 T t0 t1 0).bind (N0
  (fun y4 =>
  some (y4.1, aa6))
  (fun y4 =>
  some (true, aa6))))
 := eF Tryd.func6 (by kernel_rfl)
theorem ai1 (T : S.Tab) (t0 : List Int) (t1 : List Int) (t5 : Int) : L6 (S.step T) t0 t1 t5 =
 brk (decide (t5 < (t0.length : Int))) (
 brk (decide (0 ≤ t5) && decide (t5 < (t0.length : Int))) (
 brk (decide (0 ≤ t5) && decide (t5 < (t1.length : Int))) (
 brk (!decide (t0.getD t5.toNat 0 = t1.getD t5.toNat 0)) (
  some (Sum.inl (false, ()))) (
  L6 T t0 t1 (IntKind.i64.wrap (t5 + 1)))) none) none) (
 some (Sum.inr (Sum.inl ())))
 := eL Tryd.func6 rfl (by kernel_rfl)
theorem aH8 (T : S.Tab) (t0 : List Int) (t1 : Int) : ab3 (S.step T) t0 t1 =
 (H9 T t0 t1 0).bind (A9
  (fun y2 =>
 some (y2.2.1, y2.1, (), ())))
 := eF Tryd.func7 (by kernel_rfl)
theorem ad5 (T : S.Tab) (t0 : List Int) (t1 : Int) (t5 : Int) : H9 (S.step T) t0 t1 t5 =
 brk (decide (t5 < (t0.length : Int))) (
 brk (decide (0 ≤ t5) && decide (t5 < (t0.length : Int))) (
 H9 T (t0.set t5.toNat t1) (IntKind.i64.wrap (t1 + 1)) (IntKind.i64.wrap (t5 + 1))) none) (
 some (Sum.inl (t0, t1, ())))
 := eL Tryd.func7 rfl (by kernel_rfl)
theorem aH1 (T : S.Tab) (t0 : List Int) (t1 : Int) : V0 (S.step T) t0 t1 =
 (H8 T t0 t1 0).bind (N0
  (fun y2 =>
 some (y2.1, ac7))
  (fun y2 =>
 some (y2.1, ac7)))
 := eF Tryd.func8 (by kernel_rfl)
theorem ac0 (T : S.Tab) (t0 : List Int) (t1 : Int) (t5 : Int) : H8 (S.step T) t0 t1 t5 =
 brk (decide (t5 < (t0.length : Int))) (
 brk (decide (0 ≤ t5) && decide (t5 < (t0.length : Int))) (
 brk (!decide (t0.getD t5.toNat 0 = t1)) (
  some (Sum.inl ((-1 : Int), ()))) (
  H8 T t0 (IntKind.i64.wrap (t1 + 1)) (IntKind.i64.wrap (t5 + 1)))) none) (
 some (Sum.inr (Sum.inl (t1, ()))))
 := eL Tryd.func8 rfl (by kernel_rfl)
theorem ad0 (T : S.Tab) (t0 : List Int) : S7 (S.step T) t0 =
 brk (decide (1048576 < (t0.length : Int))) (
 some (true, B0)) (
 (aj6 T t0).bind fun d12 =>
 (ac3 T t0).bind fun d14 =>
 ((ac5 T d14.1 d12.1).map fun y => (y.1, (d14.1, d12.1, ()))).bind fun d17 =>
 brk (!d17.1) (
  some (false, B0)) (
  (ab3 T d17.2.1 1).bind fun d21 =>
  ((V0 T d21.2.1 1).map fun y => (y.1, (d21.2.1, (), ()))).bind fun d24 =>
  brk (decide (d24.1 < 0)) (
  some (false, B0)) (
  brk (!decide (d24.1 = d21.1)) (
   some (false, B0)) (
   (ac3 T t0).bind fun d31 =>
   ((ac5 T d31.1 d17.2.2.1).map fun y => (y.1, (d31.1, d17.2.2))).bind fun d34 =>
   brk (!d34.1) (
   some (false, B0)) (
   ((V0 T d24.2.1 1).map fun y => (y.1, (d24.2.1, (), ()))).bind fun d38 =>
   brk (decide (d38.1 < 0)) (
    some (false, B0)) (
    brk (!decide (d38.1 = d21.1)) (
    some (false, B0)) (
    some (true, B0))))))))
 := eF Tryd.func3 (by kernel_rfl)
end Go.Abs.D
end

section
namespace Go.Proofs.YtgmponnjageaiaaDoor
open Go.Abs
set_option maxRecDepth 100000 in
theorem bH4 {W : World} (h : laidMetH Tryd.prog Rows.fnExactNextRow.laid W) : N2 Abs.D.S.glob (snap W) := by
 rw [MakeChecks.laidMetH_plain _ _ _ (by kernel_rfl)] at h
 obtain ⟨ps, hl, _⟩ := h
 obtain ⟨_, _, _, _, _, _, _, _, _, _, hl, _⟩ := hl
 obtain ⟨g1, t1, c1, f1, p1, q1, a1, b1, v1, d1, hl, _⟩ := hl
 obtain ⟨g2, t2, c2, f2, p2, q2, a2, b2, v2, d2, hl, _⟩ := hl
 obtain ⟨g3, t3, c3, f3, p3, q3, a3, b3, v3, d3, hl, _⟩ := hl
 obtain ⟨_, _, _, _, _, _, _, _, _, _, hl, _⟩ := hl
 obtain ⟨g5, t5, c5, f5, p5, q5, a5, b5, v5, d5, hl, _⟩ := hl
 obtain ⟨g6, t6, c6, f6, p6, q6, a6, b6, v6, d6, hl, _⟩ := hl
 obtain ⟨g7, t7, c7, f7, p7, q7, a7, b7, v7, d7, hl, _⟩ := hl
 have h5 := aX9 (g' := 0) (τ := .sl .str) (x := Lx.words) (k := 3) a5 b5 v5 d5 (by kernel_rfl) (by kernel_rfl) rfl bt5 (by kernel_rfl)
 have h6 := aX9 (g' := 1) (τ := .sl .str) (x := Lx.ab0) (k := 3) a6 b6 v6 d6 (by kernel_rfl) (by kernel_rfl) rfl bt5 (by kernel_rfl)
 have h7 := aX9 (g' := 2) (τ := .sl .str) (x := Lx.aw4) (k := 3) a7 b7 v7 d7 (by kernel_rfl) (by kernel_rfl) rfl bt5 (by kernel_rfl)
 have h3 := bB0 (g' := 5) a3 b3 v3 d3 (by kernel_rfl) (by kernel_rfl)
 have h2 := bp9 (g' := 6) (k := .u64) (m := 20) (e := 72) a2 b2 v2 d2 (by kernel_rfl) Lib.pow10Tab (by kernel_rfl) (by kernel_rfl) (by kernel_rfl) (by kernel_rfl) (by kernel_rfl)
 intro k cs hk
 have hk : (bif Nat.beq k 0 then some [.v (.sl .str) Lx.words] else bif Nat.beq k 1 then some [.v (.sl .str) Lx.ab0] else bif Nat.beq k 2 then some [.v (.sl .str) Lx.aw4] else Lx.tables k) = some cs := hk
 cases e5 : Nat.beq k 0 with
 | true => rw [e5] at hk; have := Nat.eq_of_beq_eq_true e5; subst this; injection hk with hk; subst hk; exact h5
 | false =>
 rw [e5] at hk
 cases e6 : Nat.beq k 1 with
 | true => rw [e6] at hk; have := Nat.eq_of_beq_eq_true e6; subst this; injection hk with hk; subst hk; exact h6
 | false =>
 rw [e6] at hk
 cases e7 : Nat.beq k 2 with
 | true => rw [e7] at hk; have := Nat.eq_of_beq_eq_true e7; subst this; injection hk with hk; subst hk; exact h7
 | false =>
 rw [e7] at hk
 have hk : Lx.tables k = some cs := hk
 unfold Lx.tables at hk
 cases e2 : Nat.beq k 6 with
 | true => rw [e2] at hk; have := Nat.eq_of_beq_eq_true e2; subst this; injection hk with hk; subst hk; exact h2
 | false =>
 rw [e2] at hk
 cases e3 : Nat.beq k 5 with
 | true => rw [e3] at hk; have := Nat.eq_of_beq_eq_true e3; subst this; injection hk with hk; subst hk; exact h3
 | false =>
 rw [e3] at hk
 cases hk
end Go.Proofs.YtgmponnjageaiaaDoor
end

section
set_option maxRecDepth 100000
namespace Go.Abs.Bld
open Go.Proofs
theorem bk3 {l : List UInt8} {c : UInt8} : ∀ (m : List UInt8) (k : Nat), l = l.take k ++ m → k ≤ l.length → (match (List.range' k m.length).find? fun i => l.getD i 0 == c with | some i => (i : Int) | none => -1) = idx (m.map fun b => (b.toNat : Int)) (c.toNat : Int) k
 | [], k, _, _ => rfl
 | x :: m, k, h, hk => by
  have hx : l.getD k 0 = x := by
   rw [List.getD_eq_getElem?_getD, h, List.getElem?_append_right (by simp; omega)]
   simp [Nat.min_eq_left hk]
  have hlen : l.length = k + (m.length + 1) := by
   have := congrArg List.length h
   simp only [List.length_append, List.length_take, List.length_cons] at this
   omega
  have ih := bk3 (l := l) (c := c) m (k + 1) (by
   have h' : l = l.take k ++ [x] ++ m := by rw [List.append_assoc]; exact h
   have h2 : l.take (k + 1) = l.take k ++ [x] := by
    conv => lhs; rw [h']
    rw [List.take_left']
    simp [Nat.min_eq_left hk]
   rw [h2]; exact h') (by omega)
  rw [List.length_cons, List.range'_succ, List.find?_cons, hx]
  simp only [List.map_cons, idx]
  by_cases e : x = c
  ·subst e; simp
  ·have e1 : (x == c) = false := by simpa using e
   have e2 : decide ((x.toNat : Int) = (c.toNat : Int)) = false := by
    simp only [decide_eq_false_iff_not]
    intro h'
    apply e
    have : x.toNat = c.toNat := by omega
    exact UInt8.toNat_inj.1 this
   rw [e1, e2]
   simp only [cond_false]
   rw [ih]
   push_cast
   rfl
theorem ba6 (s : ByteArray) (c : Int) : firstIdx s c.toNat.toUInt8 = idx (bytesOf s) (byte c) 0 := by
 have h := bk3 (l := s.data.toList) (c := c.toNat.toUInt8) s.data.toList 0 (by simp) (Nat.zero_le _)
 have hc : ((c.toNat.toUInt8).toNat : Int) = byte c := by
  unfold byte
  rw [UInt8.toNat_ofNat']
 rw [hc] at h
 have hb : (s.data.toList.map fun b => (b.toNat : Int)) = bytesOf s := rfl
 rw [hb] at h
 refine Eq.trans ?_ h
 unfold firstIdx
 have hsz : s.size = s.data.toList.length := by
  rw [Array.length_toList]; rfl
 rw [hsz, List.range_eq_range']
 have : ∀ i, s[i]! = s.data.toList.getD i 0 := fun i => by
  by_cases h : i < s.size
  ·rw [getElem!_pos s i h]
   have h' : i < s.data.toList.length := by rw [← hsz]; exact h
   rw [List.getD_eq_getElem?_getD, List.getElem?_eq_getElem h', Option.getD_some]
   rfl
  ·rw [getElem!_neg s i h]
   have h' : s.data.toList.length ≤ i := by rw [← hsz]; omega
   rw [List.getD_eq_getElem?_getD, List.getElem?_eq_none h']
   rfl
 simp only [this]
 split <;> rename_i e <;> rw [e]
theorem a82 (glob : Nat → Option (List Cell)) : an9 Tryd.prog glob 72 ⟨⟨[.one (.pub .str), .one (.pub (.int .u8))], .val (.one (.pub (.int .i64)))⟩, ar3⟩ :=
 bs3 (ts := [.str, .int .u8]) (τ := .int .i64) rfl rfl fun x y hF w us hA => by
  injection hF with hF
  subst hF
  obtain ⟨u1, r1, rfl, ⟨s, rfl, hs⟩, u2, r2, rfl, h2, h3⟩ := hA
  have h2 : _ = _ := h2
  have h3 : _ = _ := h3
  subst h2; subst h3
  have hs : x.1 = bytesOf s := hs
  unfold M7
  rw [run_callFunc_extern Tryd.func72 (by kernel_rfl) (by kernel_rfl) (by kernel_rfl) (e := Extern.BytealgIndexByte.indexByte) (by kernel_rfl), run_indexByte_string]
  refine ⟨Same.refl w, ?_⟩
  show _ = Value.int .i64 (idx x.1 (byte x.2.1) 0)
  rw [ba6, hs]
end Go.Abs.Bld
end

section
set_option maxRecDepth 100000
namespace Go.Abs.Lay
open Go.Proofs Go.Shelf
def bN8 : Ren where
 f := fun n => bif Nat.beq n 174 then 62 else bif Nat.beq n 247 then 71 else bif Nat.beq n 245 then 65 else bif Nat.beq n 287 then 64 else bif Nat.beq n 279 then 75 else bif Nat.beq n 280 then 76 else bif Nat.beq n 281 then 77 else bif Nat.beq n 282 then 78 else bif Nat.beq n 321 then 73 else bif Nat.beq n 322 then 74 else bif Nat.beq n 316 then 79 else bif Nat.beq n 171 then 81 else bif Nat.beq n 205 then 80 else bif Nat.beq n 243 then 82 else bif Nat.beq n 246 then 83 else bif Nat.beq n 283 then 84 else bif Nat.beq n 284 then 85 else bif Nat.beq n 285 then 86 else bif Nat.beq n 286 then 87 else bif Nat.beq n 129 then 89 else bif Nat.beq n 317 then 88 else bif Nat.beq n 318 then 90 else bif Nat.beq n 319 then 91 else bif Nat.beq n 320 then 92 else bif Nat.beq n 337 then 93 else bif Nat.beq n 338 then 94 else n
 t := fun n => bif Nat.beq n 9 then 9 else bif Nat.beq n 3 then 3 else bif Nat.beq n 2 then 2 else bif Nat.beq n 75 then 74 else bif Nat.beq n 85 then 84 else bif Nat.beq n 4 then 4 else bif Nat.beq n 167 then 89 else bif Nat.beq n 5 then 5 else bif Nat.beq n 53 then 72 else bif Nat.beq n 175 then 75 else bif Nat.beq n 46 then 91 else bif Nat.beq n 168 then 92 else bif Nat.beq n 37 then 70 else bif Nat.beq n 0 then 0 else bif Nat.beq n 210 then 97 else bif Nat.beq n 21 then 21 else bif Nat.beq n 127 then 99 else bif Nat.beq n 145 then 102 else bif Nat.beq n 143 then 100 else bif Nat.beq n 171 then 104 else bif Nat.beq n 173 then 107 else bif Nat.beq n 212 then 111 else bif Nat.beq n 51 then 112 else bif Nat.beq n 20 then 20 else bif Nat.beq n 213 then 113 else bif Nat.beq n 232 then 116 else bif Nat.beq n 233 then 117 else bif Nat.beq n 80 then 118 else n
 g := fun n => bif Nat.beq n 15 then 4 else bif Nat.beq n 16 then 5 else bif Nat.beq n 17 then 6 else bif Nat.beq n 18 then 7 else bif Nat.beq n 19 then 8 else n
theorem bD1 : LaysC.n174 Tryd.prog bN8 where
 mixed := by kernel_rfl
 f129 := Tryd.func89.trans (congrArg some (by kernel_rfl))
 f171 := Tryd.func81.trans (congrArg some (by kernel_rfl))
 f174 := Tryd.func62.trans (congrArg some (by kernel_rfl))
 f205 := Tryd.func80.trans (congrArg some (by kernel_rfl))
 f243 := Tryd.func82.trans (congrArg some (by kernel_rfl))
 f245 := Tryd.func65.trans (congrArg some (by kernel_rfl))
 f246 := Tryd.func83.trans (congrArg some (by kernel_rfl))
 f247 := Tryd.func71.trans (congrArg some (by kernel_rfl))
 f279 := Tryd.func75.trans (congrArg some (by kernel_rfl))
 f280 := Tryd.func76.trans (congrArg some (by kernel_rfl))
 f281 := Tryd.func77.trans (congrArg some (by kernel_rfl))
 f282 := Tryd.func78.trans (congrArg some (by kernel_rfl))
 f283 := Tryd.func84.trans (congrArg some (by kernel_rfl))
 f284 := Tryd.func85.trans (congrArg some (by kernel_rfl))
 f285 := Tryd.func86.trans (congrArg some (by kernel_rfl))
 f286 := Tryd.func87.trans (congrArg some (by kernel_rfl))
 f287 := Tryd.func64.trans (congrArg some (by kernel_rfl))
 f316 := Tryd.func79.trans (congrArg some (by kernel_rfl))
 f317 := Tryd.func88.trans (congrArg some (by kernel_rfl))
 f318 := Tryd.func90.trans (congrArg some (by kernel_rfl))
 f319 := Tryd.func91.trans (congrArg some (by kernel_rfl))
 f320 := Tryd.func92.trans (congrArg some (by kernel_rfl))
 f321 := Tryd.func73.trans (congrArg some (by kernel_rfl))
 f322 := Tryd.func74.trans (congrArg some (by kernel_rfl))
 f337 := Tryd.func93.trans (congrArg some (by kernel_rfl))
 f338 := Tryd.func94.trans (congrArg some (by kernel_rfl))
 t0 := Tryd.underlying0
 a0 := Tryd.isAgg0
 z0 := Tryd.sizeOf0
 v0 := Tryd.zeroValue0
 t2 := Tryd.underlying2
 a2 := Tryd.isAgg2
 z2 := Tryd.sizeOf2
 v2 := Tryd.zeroValue2
 t3 := Tryd.underlying3
 a3 := Tryd.isAgg3
 z3 := Tryd.sizeOf3
 v3 := Tryd.zeroValue3
 t4 := Tryd.underlying4
 a4 := Tryd.isAgg4
 z4 := Tryd.sizeOf4
 v4 := Tryd.zeroValue4
 t5 := Tryd.underlying5
 a5 := Tryd.isAgg5
 z5 := Tryd.sizeOf5
 v5 := Tryd.zeroValue5
 t9 := Tryd.underlying9
 a9 := Tryd.isAgg9
 z9 := Tryd.sizeOf9
 v9 := Tryd.zeroValue9
 t20 := Tryd.underlying20
 a20 := Tryd.isAgg20
 z20 := Tryd.sizeOf20
 v20 := Tryd.zeroValue20
 t21 := Tryd.underlying21
 a21 := Tryd.isAgg21
 z21 := Tryd.sizeOf21
 v21 := Tryd.zeroValue21
 t37 := Tryd.underlying70
 a37 := Tryd.isAgg70
 z37 := Tryd.sizeOf70
 v37 := Tryd.zeroValue70
 t46 := Tryd.underlying91
 a46 := Tryd.isAgg91
 z46 := Tryd.sizeOf91
 v46 := Tryd.zeroValue91
 t51 := Tryd.underlying112
 a51 := Tryd.isAgg112
 z51 := Tryd.sizeOf112
 v51 := Tryd.zeroValue112
 t53 := Tryd.underlying72
 a53 := Tryd.isAgg72
 z53 := Tryd.sizeOf72
 v53 := Tryd.zeroValue72
 t75 := Tryd.underlying74
 a75 := Tryd.isAgg74
 z75 := Tryd.sizeOf74
 v75 := Tryd.zeroValue74
 t85 := Tryd.underlying84
 a85 := Tryd.isAgg84
 z85 := Tryd.sizeOf84
 v85 := Tryd.zeroValue84
 t127 := Tryd.underlying99
 a127 := Tryd.isAgg99
 z127 := Tryd.sizeOf99
 v127 := Tryd.zeroValue99
 t143 := Tryd.underlying100
 a143 := Tryd.isAgg100
 z143 := Tryd.sizeOf100
 v143 := Tryd.zeroValue100
 t145 := Tryd.underlying102
 a145 := Tryd.isAgg102
 z145 := Tryd.sizeOf102
 v145 := Tryd.zeroValue102
 t167 := Tryd.underlying89
 a167 := Tryd.isAgg89
 z167 := Tryd.sizeOf89
 v167 := Tryd.zeroValue89
 t168 := Tryd.underlying92
 a168 := Tryd.isAgg92
 z168 := Tryd.sizeOf92
 v168 := Tryd.zeroValue92
 t171 := Tryd.underlying104
 a171 := Tryd.isAgg104
 z171 := Tryd.sizeOf104
 v171 := Tryd.zeroValue104
 t173 := Tryd.underlying107
 a173 := Tryd.isAgg107
 z173 := Tryd.sizeOf107
 v173 := Tryd.zeroValue107
 t175 := Tryd.underlying75
 a175 := Tryd.isAgg75
 z175 := Tryd.sizeOf75
 v175 := Tryd.zeroValue75
 t210 := Tryd.underlying97
 a210 := Tryd.isAgg97
 z210 := Tryd.sizeOf97
 v210 := Tryd.zeroValue97
 t212 := Tryd.underlying111
 a212 := Tryd.isAgg111
 z212 := Tryd.sizeOf111
 v212 := Tryd.zeroValue111
 t213 := Tryd.underlying113
 a213 := Tryd.isAgg113
 z213 := Tryd.sizeOf113
 t232 := Tryd.underlying116
 a232 := Tryd.isAgg116
 z232 := Tryd.sizeOf116
 v232 := Tryd.zeroValue116
 t233 := Tryd.underlying117
 a233 := Tryd.isAgg117
 z233 := Tryd.sizeOf117
 v233 := Tryd.zeroValue117
 g15 := by kernel_rfl
 g16 := by kernel_rfl
 g17 := by kernel_rfl
 g18 := by kernel_rfl
 g19 := by kernel_rfl
 t80 := Tryd.underlying118
 a80 := Tryd.isAgg118
 z80 := Tryd.sizeOf118
 v80 := Tryd.zeroValue118
 i0 := by kernel_rfl
 i2 := by kernel_rfl
 i3 := by kernel_rfl
 i4 := by kernel_rfl
 i5 := by kernel_rfl
 i9 := by kernel_rfl
 i20 := by kernel_rfl
 i21 := by kernel_rfl
 i37 := by kernel_rfl
 i46 := by kernel_rfl
 i51 := by kernel_rfl
 i53 := by kernel_rfl
 i75 := by kernel_rfl
 i80 := by kernel_rfl
 i85 := by kernel_rfl
 i127 := by kernel_rfl
 i143 := by kernel_rfl
 i145 := by kernel_rfl
 i167 := by kernel_rfl
 i168 := by kernel_rfl
 i171 := by kernel_rfl
 i173 := by kernel_rfl
 i175 := by kernel_rfl
 i210 := by kernel_rfl
 i212 := by kernel_rfl
 i232 := by kernel_rfl
 i233 := by kernel_rfl
 m15 := by kernel_rfl
 m16 := by kernel_rfl
 m17 := by kernel_rfl
 m18 := by kernel_rfl
 m19 := by kernel_rfl
 c0 := by kernel_rfl
 c2 := by kernel_rfl
 c3 := by kernel_rfl
 c4 := by kernel_rfl
 c5 := by kernel_rfl
 c9 := by kernel_rfl
 c20 := by kernel_rfl
 c21 := by kernel_rfl
 c37 := by kernel_rfl
 c46 := by kernel_rfl
 c51 := by kernel_rfl
 c53 := by kernel_rfl
 c75 := by kernel_rfl
 c80 := by kernel_rfl
 c85 := by kernel_rfl
 c127 := by kernel_rfl
 c143 := by kernel_rfl
 c145 := by kernel_rfl
 c167 := by kernel_rfl
 c168 := by kernel_rfl
 c171 := by kernel_rfl
 c173 := by kernel_rfl
 c175 := by kernel_rfl
 c210 := by kernel_rfl
 c212 := by kernel_rfl
 c213 := by kernel_rfl
 c232 := by kernel_rfl
 c233 := by kernel_rfl
end Go.Abs.Lay
end

section
set_option maxRecDepth 100000
namespace Go.Abs.Lx
open Go.Proofs
theorem aW4 {w w' : World} (h : RowKit.Below w.heap.size w w') : Same w w' := ⟨fun b hb => h.block b hb, h.size, h.os, h.tape, h.output⟩
theorem bc7 {glob : Nat → Option (List Cell)} (hg : glob 5 = some [.err false]) : an9 Tryd.prog glob 62 ⟨⟨[.one (.pub .str), .one (.pub (.int .i64)), .one (.pub (.int .i64))], .tup [.one (.pub (.int .i64)), .one .err]⟩, ad6⟩ := by
 intro x y hF imm w args nb hG hcells hP hnd hnb
 obtain ⟨hA, rfl⟩ := aN9 (ts := [.str, .int .i64, .int .i64]) rfl hP
 obtain ⟨u1, r1, rfl, ⟨s, rfl, hs⟩, u2, r2, rfl, h2, u3, r3, rfl, h3, h4⟩ := hA
 have h2 : _ = _ := h2
 have h3 : _ = _ := h3
 have h4 : _ = _ := h4
 subst h2; subst h3; subst h4
 have hs : x.1 = bytesOf s := hs
 have hF : ad6 x = some y := hF
 unfold ad6 at hF
 cases hc : (decide (x.2.1 = 10) && decide (x.2.2.1 = 64) && fits x.1.length) with
 | false => rw [hc] at hF; cases hF
 | true =>
  rw [hc] at hF
  simp only [cond_true] at hF
  simp only [Bool.and_eq_true, decide_eq_true_eq] at hc
  obtain ⟨⟨e1, e2⟩, hl⟩ := hc
  have hsz : s.size ≤ 1099511627776 := by
   have := Nat.le_of_ble_eq_true hl
   rw [hs, G1] at this
   exact this
  have f1 : x.2.1 = 10 := e1
  have f2 : x.2.2.1 = 64 := e2
  show M7 Tryd.prog 62 #[.string s, .int .i64 x.2.1, .int .i64 x.2.2.1] w _
  rw [f1, f2]
  have hu : u8s x.1 = s.data.toList := by rw [hs, bd0]
  rw [hu] at hF
  have fin : ∀ {v : Int} {b : Bool} {u : Value} {w' : World}, Same w w' → y = ((v, b, ()), (), (), (), ()) → ((b = true ∧ u = .nilIface) ∨ (b = false ∧ ∃ t p, u = .iface t p)) → ∃ imm' n1 n2, After imm w [] imm' w' (n1 ++ n2) ∧
    aJ7 imm' w' (.tup [.one (.pub (.int .i64)), .one .err]) y.1 (.tuple #[.int .i64 v, u]) n1 ∧ P9 imm' w w' [.one (.pub .str), .one (.pub (.int .i64)), .one (.pub (.int .i64))] y.2 [.string s, .int .i64 x.2.1, .int .i64 x.2.2.1] n2 := by
   intro v b u w' hsame hy hu
   subst hy
   refine ⟨imm, [], [], hsame.after hcells, ⟨[_, _], rfl, _, _, [], [], rfl, rfl, ⟨rfl, rfl, rfl, _, rfl, rfl⟩, _, _, [], [], rfl, rfl, ⟨?_, rfl, _, rfl, hu⟩, rfl, rfl⟩, aO7 (ts := [.str, .int .i64, .int .i64]) (y := x) ⟨_, _, rfl, ⟨s, rfl, hs⟩, _, _, rfl, rfl, _, _, rfl, rfl, rfl⟩⟩
   rcases hu with ⟨_, rfl⟩ | ⟨_, t, p, rfl⟩ <;> rfl
  rw [f1, f2] at fin
  cases hp : Lib.parseIntB 64 s.data.toList with
  | ok v =>
   rw [hp] at hF
   injection hF with hF
   refine am9 Tryd.func62 rfl (by kernel_rfl) ((Any.strconv_ParseInt_10_at64_ok Lay.bD1 s (by omega) v hp w).mono ?_)
   rintro e w' ⟨rfl, hw⟩
   refine ⟨_, rfl, fin (b := true) ?_ hF.symm (.inl ⟨rfl, rfl⟩)⟩
   rcases hw with rfl | ⟨t, rfl⟩
   ·exact Same.refl _
   ·exact ⟨fun b hb => Lib.bytesWorld_at_old w _ t b hb, by rw [Lib.bytesWorld_size]; omega, rfl, rfl, rfl⟩
  | range =>
   rw [hp] at hF
   injection hF with hF
   obtain ⟨us, hi, hcr⟩ := hG _ _ hg
   obtain ⟨arr, ty, fr, ha, hL⟩ := hcells _ _ hi
   obtain ⟨u, r, rfl, hu, hr⟩ := hcr ⟨imm, fun _ => 0, fun _ _ => .nilIface, fun _ => none, fun _ => none, fun _ => []⟩ fun _ _ h => h
   have hr : r = [] := hr
   subst hr
   have hcell : w.cell? ⟨5, 0, none⟩ = some u := by
    rw [Lib.cell_of_heap ha]
    have : arr[0]? = arr.toList[0]? := by simp
    rw [this, hL]; rfl
   refine am9 Tryd.func62 rfl (by kernel_rfl) ((Any.strconv_ParseInt_10_at64_range Lay.bD1 s (by omega) hp u w hcell ?_).mono ?_)
   ·rcases hu with ⟨h, _⟩ | ⟨_, t, v, rfl⟩
    ·cases h
    ·exact .inr ⟨t, v, rfl⟩
   rintro e w' ⟨N, rfl, _, _, hw⟩
   exact ⟨_, rfl, fin (b := false) (aW4 hw) hF.symm (.inr ⟨rfl, _, _, rfl⟩)⟩
  | _ => rw [hp] at hF; cases hF
end Go.Abs.Lx
end

section
namespace Go.Proofs.YtgmponnjageaiaaDoor
open Go.ChangeShapes Go.WideShapes Go.ChangeAt Go.RowKit
set_option maxRecDepth 100000 in
theorem sys : ∀ n, Abs.Sys.TabOk Abs.D.S (Abs.D.S.tab n) := by
 refine Abs.Sys.ok (by kernel_rfl) (fun f hf => Abs.Sys.bH5 Abs.D.bL7 hf) (fun f c hf hl => ?_) (by kernel_rfl)
 have hl : Abs.D.lib f = some c := hl
 unfold Abs.D.lib at hl
 cases h1 : Nat.beq f 72 with
 | true => have := Abs.beq_eq h1; subst this; rw [h1] at hl; injection hl with hl; subst hl; exact Abs.Bld.a82 _
 | false =>
 rw [h1] at hl
 cases h1 : Nat.beq f 62 with
 | true => have := Abs.beq_eq h1; subst this; injection hl with hl; subst hl; exact Abs.Lx.bc7 rfl
 | false =>
 rw [h1] at hl
 cases hl
theorem aE2 {H : Type} {enc : TypeId × Value → H} {P : Program} {w : World} {sp : Nat → Bool} : ∀ {ns : List String} {gs : List (DataW H)} {ps : List MemPlace}, DataW.TrodVars enc P w sp ns gs ps → gs.length = ns.length
 | [], [], _, _ => rfl
 | [], _ :: _, _, h => h.elim
 | _ :: _, [], _, h => h.elim
 | n :: ns, d :: ds, ps, h => by
  obtain ⟨g, t, cs, fuel, p, q, h1, h2, h3, h4, hs, e⟩ := h
  have := aE2 hs
  simp [this]
theorem own : ownKnob Tryd.prog.godebug = none := by kernel_rfl
theorem laidOut : laidOutB Tryd.prog = true := by kernel_rfl
end Go.Proofs.YtgmponnjageaiaaDoor
end

section
namespace Go.Abs.D
def bG8 (k : Int) : Bool := decide (k = 25) || (decide (k = 50) || (decide (k = 62) || decide (k = 69)))
def bS4 (k : Int) : Bool := decide (k = 10) || (decide (k = 26) || (decide (61 ≤ k) && decide (k ≤ 78)))
def ax0 (k : Int) : Bool := (decide (k = 1) || decide (k = 40) || decide (k = 2) || decide (k = 3) || decide (k = 4) || decide (k = 24) || decide (k = 29) || decide (k = 17) || decide (k = 49) || decide (k = 18) || decide (k = 42)) || bG8 k
abbrev Row := List Int × Bool × Bool
def rY (l : List Int) : Row := (l, true, false)
def ap0 : Row := ([], false, true)
def am4 : Row := ([], false, false)
def ba3 (k a c : Int) : List Int × Bool :=
 bif decide (k = 48) then ([48, 1, a], true) else bif decide (k = 44) then ([44, 1018, 45, a], true) else bif decide (k = 40) then ([40, 1022, 41, c], true) else ([], false)
def bO5 (k : Int) : Option (List Int) :=
 bif decide (k = 22) then some [22, 1, 1006, 1002, 1001] else
 bif decide (k = 13) then some [13, 1, 47, 1018, 1001] else
 bif decide (k = 18) then some [18, 1, 1028, 1001] else
 bif decide (k = 20) then some [20, 1018, 1027, 1003, 1001] else
 bif decide (k = 31) then some [31, 1018, 1027, 1001] else
 bif decide (k = 19) then some [19, 1, 1004, 1001] else
 bif decide (k = 11) || decide (k = 23) then some [k, 1001] else
 bif decide (k = 27) then some [27, 1007, 1001] else
 bif decide (k = 30) then some [30, 1027, 12, 1, 1008, 1027, 1001] else
 bif decide (k = 28) then some [28, 1018, 1001] else
 bif decide (k = 14) then some [14, 1015, 1001] else
 bif decide (k = 42) then some [1027, 1001] else
 bif decide (k = 1) then some [1, 1009, 1001] else
 bif decide (k = 40) then some [40, 1018, 41, 1011, 1001] else none
def J3 (s k : Int) : Row :=
 bif decide (s = 1000) then (bif decide (k = 5) then rY [5, 1000] else match bO5 k with | some l => rY l | none => ap0) else
 bif decide (s = 1001) then (bif decide (k = 5) then rY [5, 1000] else ap0) else
 bif decide (s = 1002) then (bif decide (k = 47) then rY [47, 1018, 1023] else ap0) else
 bif decide (s = 1003) then (bif decide (k = 15) then rY [15, 1018, 1027, 1003] else bif decide (k = 16) then rY [16, 1027] else ap0) else
 bif decide (s = 1004) then (bif decide (k = 47) then rY [47, 1018, 46, 1018, 1005, 1027] else bif decide (k = 46) then rY [46, 1, 1006, 21, 1018, 1027] else bif decide (k = 21) then rY [21, 1018, 1027] else am4) else
 bif decide (s = 1005) then (bif decide (k = 46) then rY [46, 1018] else ap0) else
 bif decide (s = 1006) then (bif decide (k = 46) then rY [46, 1, 1006] else ap0) else
 bif decide (s = 1007) then (bif ax0 k then rY [1018, 1023] else ap0) else
 bif decide (s = 1008) then (bif decide (k = 46) then rY [46, 1] else ap0) else
 bif decide (s = 1009) then (bif (ba3 k 1009 1010).2 then rY (ba3 k 1009 1010).1 else bif decide (k = 47) then rY [47, 1018, 1023] else bif decide (k = 46) then rY [46, 1012] else am4) else
 bif decide (s = 1010) then (bif (ba3 k 1009 1010).2 then rY (ba3 k 1009 1010).1 else ap0) else
 bif decide (s = 1011) then ((ba3 k 1009 1010).1, (ba3 k 1009 1010).2, false) else
 bif decide (s = 1012) then (bif decide (k = 1) then rY [1, 1013] else bif decide (k = 40) then rY [40, 1018, 41, 1014] else am4) else
 bif decide (s = 1013) then (bif (ba3 k 1013 1014).2 then rY (ba3 k 1013 1014).1 else bif decide (k = 47) then rY [47, 1018, 1023] else bif decide (k = 46) then rY [46, 1012] else am4) else
 bif decide (s = 1014) then ((ba3 k 1013 1014).1, (ba3 k 1013 1014).2, false) else
 bif decide (s = 1015) then (bif decide (k = 1) then rY [1, 1016] else bif decide (k = 40) then rY [40, 1018, 41, 1016] else am4) else
 bif decide (s = 1016) then ((ba3 k 1016 1017).1, (ba3 k 1016 1017).2, false) else
 bif decide (s = 1017) then ((ba3 k 1016 1017).1, (ba3 k 1016 1017).2, true) else
 bif decide (s = 1018) then (bif ax0 k then rY [1020, 1019] else am4) else
 bif decide (s = 1019) then (bif bS4 k then rY [k, 1020, 1019] else ap0) else
 bif decide (s = 1020) then (bif bG8 k then rY [k, 1020] else bif decide (k = 1) then rY [1, 1021] else bif decide (k = 40) then rY [40, 1018, 41, 1021] else bif decide (k = 18) then rY [18, 1028] else bif decide (k = 42) then rY [42, 1029, 43] else bif ax0 k then rY [k] else am4) else
 bif decide (s = 1021) then ((ba3 k 1021 1021).1, (ba3 k 1021 1021).2, true) else
 bif decide (s = 1022) then (bif ax0 k then rY [1018, 1023] else ap0) else
 bif decide (s = 1023) then (bif decide (k = 46) then rY [46, 1018, 1023] else ap0) else
 bif decide (s = 1028) then (bif decide (k = 40) then rY [40, 1024, 41, 1027] else am4) else
 bif decide (s = 1024) then (bif decide (k = 49) then rY [49] else bif decide (k = 1) then rY [1, 1025] else ap0) else
 bif decide (s = 1025) then (bif decide (k = 46) then rY [46, 1026] else ap0) else
 bif decide (s = 1026) then (bif decide (k = 1) then rY [1, 1025] else bif decide (k = 49) then rY [49] else am4) else
 bif decide (s = 1027) then (bif decide (k = 42) then rY [42, 1000, 43] else am4) else
 bif decide (s = 1029) then (bif ax0 k || (decide (k = 44) || decide (k = 48)) then rY [1032, 1030] else ap0) else
 bif decide (s = 1030) then (bif decide (k = 46) then rY [46, 1031] else ap0) else
 bif decide (s = 1031) then (bif ax0 k || (decide (k = 44) || decide (k = 48)) then rY [1032, 1030] else ap0) else
 bif decide (s = 1032) then (bif decide (k = 44) then rY [44, 1018, 45, 47, 1018] else bif decide (k = 48) then rY [48, 1, 47, 1018] else bif ax0 k then rY [1018] else am4) else am4
def bN1 (t a c : Int) : List Int :=
 bif decide (t = 48) then [t, 1, a] else bif decide (t = 44) then [t, 119, 45, a] else bif decide (t = 40) then [t, 123, 41, c] else []
def bL2 (t : Int) : List Int × Bool :=
 bif decide (t = 22) then ([t, 1, 104, 103], true) else
 bif decide (t = 13) then ([t, 1, 47, 119], true) else
 bif decide (t = 18) then ([t, 1, 133], true) else
 bif decide (t = 20) then ([t, 119, 132, 105], true) else
 bif decide (t = 31) then ([t, 119, 132], true) else
 bif decide (t = 19) then ([t, 1, 106], true) else
 bif decide (t = 11) || decide (t = 23) then ([t], true) else
 bif decide (t = 27) then ([t, 108], true) else
 bif decide (t = 30) then ([t, 132, 12, 1, 109, 132], true) else
 bif decide (t = 28) then ([t, 119], true) else
 bif decide (t = 14) then ([t, 116], true) else
 bif decide (t = 42) then ([132], true) else
 bif decide (t = 1) then ([t, 110], true) else
 bif decide (t = 40) then ([t, 119, 41, 112], true) else ([], false)
def exp2 (s t : Int) : List Int × Bool :=
 let row := bif decide (s = 110) || decide (s = 111) || decide (s = 112) then bN1 t 110 111 else bif decide (s = 114) || decide (s = 115) then bN1 t 114 115 else bif decide (s = 117) || decide (s = 118) then bN1 t 117 118 else []
 bif !row.isEmpty then (row, true) else
 bif decide (s = 111) || decide (s = 118) then ([], true) else
 bif (decide (s = 110) || decide (s = 114)) && decide (t = 46) then ([t, 113], true) else
 bif (decide (s = 110) || decide (s = 114)) && decide (t = 47) then ([t, 124], true) else
 bif (decide (s = 113) || decide (s = 116)) && decide (t = 1) then ([t, bif decide (s = 116) then 117 else 114], true) else
 bif (decide (s = 113) || decide (s = 116)) && decide (t = 40) then ([t, 119, 41, bif decide (s = 116) then 117 else 115], true) else ([], false)
def bQ2 (t : Int) : List Int × Bool :=
 bif bG8 t then ([t, 120], true) else bif decide (t = 1) then ([t, 122], true) else bif decide (t = 40) then ([t, 119, 41, 122], true) else bif decide (t = 42) then ([t, 129, 43], true) else bif decide (t = 18) then ([t, 133], true) else ([t], ax0 t)
def bR9 (t : Int) : Bool := decide (t = 10) || (decide (t = 26) || decide (60 < t))
def bS6 (s t : Int) : List Int × Bool :=
 bif decide (s = 119) then ([120, 121], ax0 t) else
 bif decide (s = 120) then bQ2 t else
 bif decide (s = 121) then (bif bR9 t then ([t, 119], true) else ([], true)) else
 bif decide (s = 122) then (bN1 t 122 122, true) else
 bif decide (s = 123) then (bif ax0 t then ([124], true) else ([], true)) else
 bif decide (s = 124) then ([119, 125], ax0 t) else
 bif decide (s = 125) then (bif decide (t = 46) then ([t, 119, 125], true) else ([], true)) else
 bif decide (s = 126) || decide (s = 128) then (bif decide (t = 1) then ([t, 127], true) else bif decide (t = 49) then ([t], true) else ([], decide (s = 126))) else
 bif decide (s = 127) then (bif decide (t = 46) then ([t, 128], true) else ([], true)) else
 bif decide (s = 129) then (bif ax0 t || (decide (t = 48) || decide (t = 44)) then ([131, 130], true) else ([], true)) else
 bif decide (s = 130) then (bif decide (t = 46) then ([t, 129], true) else ([], true)) else
 bif decide (s = 131) then (bif decide (t = 48) then ([t, 1, 47, 119], true) else bif decide (t = 44) then ([t, 119, 45, 47, 119], true) else ([119], ax0 t)) else
 bif decide (s = 132) then ([42, 100, 43], decide (t = 42)) else ([40, 126, 41, 132], decide (t = 40))
def aB4 (s t : Int) : List Int × Bool :=
 bif decide (s = 100) then (bif decide (t = 5) then ([t, 100], true) else bif (bL2 t).2 then ((bL2 t).1 ++ [101], true) else ([], true)) else
 bif decide (s = 101) then (bif decide (t = 5) then ([t, 100], true) else ([], true)) else
 bif decide (s = 103) then (bif decide (t = 47) then ([t, 124], true) else ([], true)) else
 bif decide (s = 104) then (bif decide (t = 46) then ([t, 1, 104], true) else ([], true)) else
 bif decide (s = 105) then (bif decide (t = 15) then ([t, 119, 132, 105], true) else bif decide (t = 16) then ([t, 132], true) else ([], true)) else
 bif decide (s = 106) then (bif decide (t = 47) then ([t, 119, 46, 119, 107, 132], true) else ([104, 21, 119, 132], decide (t = 46) || decide (t = 21))) else
 bif decide (s = 107) then (bif decide (t = 46) then ([t, 119], true) else ([], true)) else
 bif decide (s = 108) then (bif ax0 t then ([124], true) else ([], true)) else
 bif decide (s = 109) then (bif decide (t = 46) then ([t, 1], true) else ([], true)) else
 bif decide (110 ≤ s) && decide (s ≤ 118) then exp2 s t else bS6 s t
inductive Out where
 | no | gone | left (l : List Int)
 deriving DecidableEq
def aP4 : Nat → List Int → Int → Out
 | 0, _, _ => .no
 | _ + 1, [], _ => .gone
 | n + 1, s :: r, k => bif decide (s < 1000) then (bif decide (s = k) then .left r else .no) else
   bif (J3 s k).2.1 then aP4 n ((J3 s k).1 ++ r) k else bif (J3 s k).2.2 then aP4 n r k else .no
def aT3 : Nat → List Int → Int → Out
 | 0, _, _ => .no
 | _ + 1, [], _ => .gone
 | n + 1, s :: r, k => bif decide (s < 100) then (bif decide (s = k) then .left r else .no) else
   bif (aB4 s k).2 then aT3 n ((aB4 s k).1 ++ r) k else .no
def nI (s : Int) : List Int := bif decide (s = 1018) then [1020, 1019] else bif decide (s = 1031) then [1029] else [s]
def nS (s : Int) : List Int :=
 bif decide (s = 119) then [1020, 1019] else bif decide (s = 124) then [1020, 1019, 1023] else bif decide (s < 100) then [s] else
 [([(100, 1000), (101, 1001), (103, 1002), (104, 1006), (105, 1003), (106, 1004), (107, 1005), (108, 1007), (109, 1008), (110, 1009), (111, 1010), (112, 1011), (113, 1012), (114, 1013), (115, 1014), (116, 1015), (117, 1016), (118, 1017), (120, 1020), (121, 1019), (122, 1021), (123, 1022), (125, 1023), (126, 1024), (127, 1025), (128, 1026), (129, 1029), (130, 1030), (131, 1032), (132, 1027), (133, 1028)] : List (Int × Int)).lookup s |>.getD 0]
def Out.map (f : List Int → List Int) : Out → Out
 | .no => .no
 | .gone => .gone
 | .left l => .left (f l)
def a25 : List Int := [100, 101, 103, 104, 105, 106, 107, 108, 109, 110, 111, 112, 113, 114, 115, 116, 117, 118, 119, 120, 121, 122, 123, 124, 125, 126, 127, 128, 129, 130, 131, 132, 133]
def allI : List Int := (List.range 33).map fun (n : Nat) => 1000 + (n : Int)
def kinds : List Int := (List.range 79).map fun (n : Nat) => (n : Int)
theorem bG0 : (a25.all fun s => kinds.all fun k => decide ((aT3 9 [s] k).map (·.flatMap nS) = (aP4 9 (nS s) k).map (·.flatMap nI))) = true := by kernel_rfl
theorem bI4 : (allI.all fun s => kinds.all fun k => decide ((aP4 9 [s] k).map (·.flatMap nI) = (aP4 9 (nI s) k).map (·.flatMap nI))) = true := by kernel_rfl
end Go.Abs.D
end

section
namespace Go.Abs.D
def bx7 (one : Int → Int → Out) : List Int → Int → Out
 | [], _ => .gone
 | s :: r, k => match one s k with
  | .no => .no
  | .gone => bx7 one r k
  | .left l => .left (l ++ r)
def stI (s k : Int) : Out := aP4 9 [s] k
def stS (s k : Int) : Out := aT3 9 [s] k
def ae0 : List Int → Int → Out := bx7 stI
def av3 : List Int → Int → Out := bx7 stS
def NI (a : List Int) : List Int := a.flatMap nI
def NS (b : List Int) : List Int := b.flatMap nS
def Out.then (o : Out) (c : List Int) (d : Out) : Out := match o with
 | .no => .no
 | .gone => d
 | .left l => .left (l ++ c)
theorem K8 (one : Int → Int → Out) (s : Int) (r : List Int) (k : Int) : bx7 one (s :: r) k = (one s k).then r (bx7 one r k) := by
 show (match one s k with | .no => Out.no | .gone => bx7 one r k | .left l => .left (l ++ r)) = _
 cases one s k <;> rfl
theorem br8 (o : Out) (r c : List Int) (d e : Out) : (o.then r d).then c e = o.then (r ++ c) (d.then c e) := by
 cases o with
 | no => rfl
 | gone => rfl
 | left l => simp [Out.then]
theorem aw5 (one : Int → Int → Out) (k : Int) : ∀ a c : List Int, bx7 one (a ++ c) k = (bx7 one a k).then c (bx7 one c k)
 | [], c => rfl
 | s :: r, c => by
  rw [List.cons_append, K8, K8, br8, aw5 one k r c]
theorem Out.aI9 (f : List Int → List Int) (hf : ∀ a b, f (a ++ b) = f a ++ f b) (o : Out) (c : List Int) (d : Out) : (o.then c d).map f = (o.map f).then (f c) (d.map f) := by
 cases o with
 | no => rfl
 | gone => rfl
 | left l => simp [Out.then, Out.map, hf]
theorem ao4 (a b : List Int) : NI (a ++ b) = NI a ++ NI b := List.flatMap_append
theorem bs1 (a b : List Int) : NS (a ++ b) = NS a ++ NS b := List.flatMap_append
def okI (s : Int) : Prop := (0 ≤ s ∧ s ≤ 78) ∨ s ∈ allI
def okS (s : Int) : Prop := (0 ≤ s ∧ s ≤ 78) ∨ s ∈ a25
theorem bo7 {s : Int} (h : s ≤ 78) : nI s = [s] := by
 unfold nI
 rw [decide_eq_false (by omega), decide_eq_false (by omega)]; rfl
theorem bM9 {s : Int} (h : s ≤ 78) : nS s = [s] := by
 unfold nS
 rw [decide_eq_false (by omega), decide_eq_false (by omega), decide_eq_true (by omega)]; rfl
theorem a17 {s k : Int} (h : s ≤ 78) : stI s k = bif decide (s = k) then .left [] else .no := by
 unfold stI aP4
 rw [decide_eq_true (show s < 1000 by omega)]; rfl
theorem aO3 {s k : Int} (h : s ≤ 78) : stS s k = bif decide (s = k) then .left [] else .no := by
 unfold stS aT3
 rw [decide_eq_true (show s < 100 by omega)]; rfl
theorem bO4 : (allI.all fun s => kinds.all fun k => decide (aP4 9 (nI s) k = ae0 (nI s) k)) = true := by kernel_rfl
theorem bP1 : (a25.all fun s => kinds.all fun k => decide (aP4 9 (nS s) k = ae0 (nS s) k)) = true := by kernel_rfl
theorem nfI : (allI.all fun s => decide (NI (nI s) = nI s)) = true := by kernel_rfl
theorem nfS : (a25.all fun s => decide (NI (nS s) = nS s)) = true := by kernel_rfl
theorem P3 {k : Int} (h0 : 0 ≤ k) (h1 : k ≤ 78) : k ∈ kinds := by
 unfold kinds
 exact List.mem_map.2 ⟨k.toNat, List.mem_range.2 (by omega), by omega⟩
theorem bR6 {s k : Int} (hs : okI s) (h0 : 0 ≤ k) (h1 : k ≤ 78) : (stI s k).map NI = (ae0 (nI s) k).map NI ∧ NI (nI s) = nI s := by
 rcases hs with ⟨_, h⟩ | h
 ·rw [bo7 h]
  refine ⟨?_, by unfold NI; simp [bo7 h]⟩
  have e : ae0 [s] k = (stI s k).then [] .gone := K8 stI s [] k
  rw [e, a17 h]
  cases decide (s = k) <;> rfl
 ·have t := of_decide_eq_true (List.all_eq_true.1 (List.all_eq_true.1 bI4 s h) k (P3 h0 h1))
  have f := of_decide_eq_true (List.all_eq_true.1 (List.all_eq_true.1 bO4 s h) k (P3 h0 h1))
  have n := of_decide_eq_true (List.all_eq_true.1 nfI s h)
  rw [← f]
  exact ⟨t, n⟩
theorem bR5 {s k : Int} (hs : okS s) (h0 : 0 ≤ k) (h1 : k ≤ 78) : (stS s k).map NS = (ae0 (nS s) k).map NI ∧ NI (nS s) = nS s := by
 rcases hs with ⟨_, h⟩ | h
 ·rw [bM9 h]
  refine ⟨?_, by unfold NI; simp [bo7 h]⟩
  have e : ae0 [s] k = (stI s k).then [] .gone := K8 stI s [] k
  rw [e, a17 h, aO3 h]
  cases decide (s = k) <;> rfl
 ·have t := of_decide_eq_true (List.all_eq_true.1 (List.all_eq_true.1 bG0 s h) k (P3 h0 h1))
  have f := of_decide_eq_true (List.all_eq_true.1 (List.all_eq_true.1 bP1 s h) k (P3 h0 h1))
  have n := of_decide_eq_true (List.all_eq_true.1 nfS s h)
  rw [← f]
  exact ⟨t, n⟩
theorem bL5 : ∀ {a : List Int}, (∀ s ∈ a, okI s) → NI (NI a) = NI a
 | [], _ => rfl
 | s :: r, h => by
  have e : NI (s :: r) = nI s ++ NI r := List.flatMap_cons
  rw [e, ao4, bL5 fun x hx => h x (List.mem_cons_of_mem _ hx), (bR6 (k := 0) (h s (List.mem_cons_self ..)) (by decide) (by decide)).2]
theorem bL9 : ∀ {b : List Int}, (∀ s ∈ b, okS s) → NI (NS b) = NS b
 | [], _ => rfl
 | s :: r, h => by
  have e : NS (s :: r) = nS s ++ NS r := List.flatMap_cons
  rw [e, ao4, bL9 fun x hx => h x (List.mem_cons_of_mem _ hx), (bR5 (k := 0) (h s (List.mem_cons_self ..)) (by decide) (by decide)).2]
theorem bu9 {k : Int} (h0 : 0 ≤ k) (h1 : k ≤ 78) : ∀ {a : List Int}, (∀ s ∈ a, okI s) → (ae0 a k).map NI = (ae0 (NI a) k).map NI
 | [], _ => rfl
 | s :: r, h => by
  have e : NI (s :: r) = nI s ++ NI r := List.flatMap_cons
  have ih := bu9 h0 h1 (a := r) fun x hx => h x (List.mem_cons_of_mem _ hx)
  have hs := bR6 (h s (List.mem_cons_self ..)) h0 h1
  have hr : NI (NI r) = NI r := bL5 fun x hx => h x (List.mem_cons_of_mem _ hx)
  have e2 : ae0 (s :: r) k = (stI s k).then r (ae0 r k) := K8 stI s r k
  have e3 : ae0 (nI s ++ NI r) k = (ae0 (nI s) k).then (NI r) (ae0 (NI r) k) := aw5 stI k (nI s) (NI r)
  rw [e, e2, e3, Out.aI9 NI ao4, Out.aI9 NI ao4, hs.1, ih, hr]
theorem bp6 {k : Int} (h0 : 0 ≤ k) (h1 : k ≤ 78) : ∀ {b : List Int}, (∀ s ∈ b, okS s) → (av3 b k).map NS = (ae0 (NS b) k).map NI
 | [], _ => rfl
 | s :: r, h => by
  have e : NS (s :: r) = nS s ++ NS r := List.flatMap_cons
  have ih := bp6 h0 h1 (b := r) fun x hx => h x (List.mem_cons_of_mem _ hx)
  have hs := bR5 (h s (List.mem_cons_self ..)) h0 h1
  have hr : NI (NS r) = NS r := bL9 fun x hx => h x (List.mem_cons_of_mem _ hx)
  have e2 : av3 (s :: r) k = (stS s k).then r (av3 r k) := K8 stS s r k
  have e3 : ae0 (nS s ++ NS r) k = (ae0 (nS s) k).then (NS r) (ae0 (NS r) k) := aw5 stI k (nS s) (NS r)
  rw [e, e2, e3, Out.aI9 NS bs1, Out.aI9 NI ao4, hs.1, ih, hr]
theorem bi3 {k : Int} (h0 : 0 ≤ k) (h1 : k ≤ 78) {a b : List Int} (ha : ∀ s ∈ a, okI s) (hb : ∀ s ∈ b, okS s) (h : NI a = NS b) : (ae0 a k).map NI = (av3 b k).map NS := by
 rw [bu9 h0 h1 ha, bp6 h0 h1 hb, h]
end Go.Abs.D
end

section
namespace Go.Abs.D
def x6 (c : Int) : Bool := (decide (97 ≤ c) && decide (c ≤ 122)) || (decide (65 ≤ c) && decide (c ≤ 90)) || decide (c = 95)
def r6 (c : Int) : Bool := decide (48 ≤ c) && decide (c ≤ 57)
def a84 (c : Int) : Bool := decide (97 ≤ c) && decide (c ≤ 102)
def W7 (c : Int) : Bool := r6 c || a84 c
def Z8 (c : Int) : Int := bif r6 c then c - 48 else bif a84 c then c - 87 else -1
def get (s : List Int) (j : Nat) : Int := s.getD j 0
theorem M9 {s : List Int} {j : Nat} (h : s.length ≤ j) : get s j = 0 := by
 unfold get
 rw [List.getD_eq_getElem?_getD, List.getElem?_eq_none h]; rfl
theorem bN5 : W7 0 = false := rfl
structure Base1 (T : S.Tab) : Prop where
 iletter : ∀ c, S9 T c = some (x6 c, L5)
 idigit : ∀ c, M8 T c = some (r6 c, ao6)
 sletter : ∀ c, N5 T c = some (x6 c, H3)
 sdigit : ∀ c, A3 T c = some (r6 c, ah4)
 look : ∀ (s : List Int) (j : Nat), x7 T s (j : Int) = some (get s j, ak4)
 words : ag3 T = some (Lx.words, at0)
theorem ar5 (T : S.Tab) : Base1 (S.step T) := by
 refine ⟨fun c => ?_, fun c => ?_, fun c => ?_, fun c => ?_, fun s j => ?_, ?_⟩
 ·rw [aQ6]
  simp only [J7, x6]
  cases decide (97 ≤ c) <;> cases decide (c ≤ 122) <;> cases decide (65 ≤ c) <;> cases decide (c ≤ 90) <;> simp
 ·rw [aZ8]
  simp only [J7, r6]
  cases decide (48 ≤ c) <;> simp
 ·rw [aH4]
  simp only [J7, x6]
  cases decide (97 ≤ c) <;> cases decide (c ≤ 122) <;> cases decide (65 ≤ c) <;> cases decide (c ≤ 90) <;> simp
 ·rw [aM6]
  simp only [J7, r6]
  cases decide (48 ≤ c) <;> simp
 ·rw [aQ3]
  by_cases h : j < s.length
  ·rw [l7 (by simpa using h), l7 (by simp [h])]
   rfl
  ·rw [q8 (by simpa using h), M9 (by omega)]
 ·rw [aP3]; rfl
structure Base2 (T : S.Tab) : Prop extends Base1 T where
 ihex : ∀ c, ap1 T c = some (W7 c, aj9)
 shex : ∀ c, X0 T c = some (Z8 c, Y8)
theorem aV8 (T : S.Tab) (h : Base1 T) : Base2 (S.step T) := by
 refine ⟨ar5 T, fun c => ?_, fun c => ?_⟩
 ·rw [a90, h.idigit]
  simp only [Option.bind_some, J7, W7, a84]
  cases r6 c <;> cases decide (97 ≤ c) <;> simp
 ·rw [a03, h.sdigit]
  simp only [Option.bind_some, Z8]
  cases hd : r6 c with
  | true =>
   simp only [r6, Bool.and_eq_true, decide_eq_true_eq] at hd
   rw [l7 rfl, a43 _ (by omega) (by omega), wrap64 _ (by omega) (by omega)]; rfl
  | false =>
   rw [q8 rfl]
   by_cases h1 : 97 ≤ c
   ·rw [l7 (by simpa using h1)]
    by_cases h2 : c ≤ 102
    ·rw [l7 (by simpa using h2), a43 _ (by omega) (by omega), wrap64 (c - 97) (by omega) (by omega), wrap64 _ (by omega) (by omega)]
     have : a84 c = true := by simp [a84, h1, h2]
     rw [this]
     simp only [cond_false, cond_true, Option.some.injEq, Prod.mk.injEq, and_true]
     omega
    ·rw [q8 (by simpa using h2)]
     have : a84 c = false := by simp [a84, h2]
     rw [this]; rfl
   ·rw [q8 (by simpa using h1)]
    have : a84 c = false := by simp [a84, h1]
    rw [this]; rfl
theorem r8 : Evt fun n => Base2 (S.tab n) := by
 have h1 : Evt fun n => Base1 (S.tab n) := Evt.up (Evt.of (p := fun _ => True) fun _ => trivial) fun n _ => ar5 _
 exact h1.up fun n h => aV8 _ h
theorem X3 (c : Int) : decide (0 ≤ Z8 c) = W7 c := by
 unfold Z8 W7
 cases hd : r6 c with
 | true =>
  simp only [r6, Bool.and_eq_true, decide_eq_true_eq] at hd
  simp only [cond_true, Bool.true_or, decide_eq_true_eq]; omega
 | false =>
  cases hl : a84 c with
  | true =>
   simp only [a84, Bool.and_eq_true, decide_eq_true_eq] at hl
   simp only [cond_true, cond_false, Bool.or_true, decide_eq_true_eq]; omega
  | false => simp
theorem ao7 (c : Int) : Z8 c < 16 := by
 unfold Z8
 cases hd : r6 c with
 | true =>
  simp only [r6, Bool.and_eq_true, decide_eq_true_eq] at hd
  simp only [cond_true]; omega
 | false =>
  cases hl : a84 c with
  | true =>
   simp only [a84, Bool.and_eq_true, decide_eq_true_eq] at hl
   simp only [cond_true, cond_false]; omega
  | false => simp
end Go.Abs.D
end

section
namespace Go.Abs.D
def wq (s : List Int) (j : Nat) : Bool := x6 (get s j) || r6 (get s j)
def dq (s : List Int) (j : Nat) : Bool := r6 (get s j)
def hq (s : List Int) (m j : Nat) : Bool := decide (j < m) && W7 (get s j)
theorem am7 {s : List Int} : ∀ j, s.length ≤ j → wq s j = false := fun j h => by unfold wq; rw [M9 h]; rfl
theorem ai5 {s : List Int} : ∀ j, s.length ≤ j → dq s j = false := fun j h => by unfold dq; rw [M9 h]; rfl
theorem a29 {s : List Int} {m : Nat} : ∀ j, s.length ≤ j → hq s m j = false := fun j h => by unfold hq; rw [M9 h, bN5, Bool.and_false]
def aR4 (s : List Int) (j : Nat) : Nat := stop (wq s) s.length j
def ax6 (s : List Int) (j : Nat) : Nat := stop (dq s) s.length j
def an2 (s : List Int) (m j : Nat) : Nat := stop (hq s m) s.length j
theorem n9 (s : List Int) (j : Nat) : s.getD (j : Int).toNat 0 = get s j := rfl
theorem U9 {q : Nat → Bool} {N j : Nat} (h : ∀ j, N ≤ j → q j = false) (hq : q j = true) : j < N := by
 rcases Nat.lt_or_ge j N with h' | h'
 ·exact h'
 ·rw [h j h'] at hq; cases hq
theorem n8 {n j : Nat} (h : j < n) : (decide ((0 : Int) ≤ (j : Int)) && decide ((j : Int) < (n : Int))) = true := by
 simp [h]
theorem I3 {j : Nat} (h : j ≤ 4194304) : IntKind.i64.wrap ((j : Int) + 1) = ((j + 1 : Nat) : Int) := by
 rw [wrap64 _ (by omega) (by omega)]; omega
variable {s : List Int} (hs : s.length ≤ 2097152)
include hs
theorem aQ4 (i : Int) (t : j7.den) (j : Nat) : Evt fun n => N3 (S.tab n) s i t (j : Int) = some (Sum.inl (s, i, t, (aR4 s j : Int), ())) :=
 adv (F := fun T j => N3 T s i t (j : Int)) (out := fun j => Sum.inl (s, i, t, (j : Int), ())) r8 am7
  (fun T j h hq => by
   have hj := U9 am7 hq
   show N3 (S.step T) s i t j = N3 T s i t ((j + 1 : Nat) : Int)
   rw [at6, l7 (by simpa using hj), l7 (n8 hj), n9, h.iletter, h.idigit, I3 (by omega)]
   simp only [Option.bind_some, J7, n8 hj, cond_true]
   unfold wq at hq
   cases hl : x6 (get s j) with
   | true => rfl
   | false => rw [hl, Bool.false_or] at hq; rw [hq]; rfl)
  (fun T j h hq => by
   show N3 (S.step T) s i t j = _
   rw [at6]
   by_cases hj : j < s.length
   ·rw [l7 (by simpa using hj), l7 (n8 hj), n9, h.iletter, h.idigit]
    simp only [Option.bind_some, J7, n8 hj, cond_true]
    unfold wq at hq
    simp only [Bool.or_eq_false_iff] at hq
    rw [hq.1, hq.2]; rfl
   ·rw [q8 (by simpa using hj)]) s.length j (by omega)
theorem aD9 (t3 t4 : j7.den) (j : Nat) : Evt fun n => G4 (S.tab n) s t3 t4 (j : Int) = some (Sum.inl (s, t3, t4, (aR4 s j : Int), ())) :=
 adv (F := fun T j => G4 T s t3 t4 (j : Int)) (out := fun j => Sum.inl (s, t3, t4, (j : Int), ())) r8 am7
  (fun T j h hq => by
   have hj := U9 am7 hq
   show G4 (S.step T) s t3 t4 j = G4 T s t3 t4 ((j + 1 : Nat) : Int)
   rw [aj4, h.look, I3 (by omega)]
   simp only [Option.bind_some, h.sletter, h.sdigit, J7]
   unfold wq at hq
   cases hl : x6 (get s j) with
   | true => rfl
   | false => rw [hl, Bool.false_or] at hq; rw [hq]; rfl)
  (fun T j h hq => by
   show G4 (S.step T) s t3 t4 j = _
   rw [aj4, h.look]
   simp only [Option.bind_some, h.sletter, h.sdigit, J7]
   unfold wq at hq
   simp only [Bool.or_eq_false_iff] at hq
   rw [hq.1, hq.2]; rfl) s.length j (by omega)
theorem aA9 (i : Int) (t : j7.den) (j : Nat) : Evt fun n => C9 (S.tab n) s i t (j : Int) = some (Sum.inl (s, i, t, (ax6 s j : Int), ())) :=
 adv (F := fun T j => C9 T s i t (j : Int)) (out := fun j => Sum.inl (s, i, t, (j : Int), ())) r8 ai5
  (fun T j h hq => by
   have hj := U9 ai5 hq
   show C9 (S.step T) s i t j = C9 T s i t ((j + 1 : Nat) : Int)
   rw [ag4, l7 (by simpa using hj), l7 (n8 hj), n9, h.idigit, I3 (by omega)]
   simp only [Option.bind_some, J7]
   rw [show r6 (get s j) = true from hq]; rfl)
  (fun T j h hq => by
   show C9 (S.step T) s i t j = _
   rw [ag4]
   by_cases hj : j < s.length
   ·rw [l7 (by simpa using hj), l7 (n8 hj), n9, h.idigit]
    simp only [Option.bind_some, J7]
    rw [show r6 (get s j) = false from hq]; rfl
   ·rw [q8 (by simpa using hj)]) s.length j (by omega)
theorem aA4 (i : Int) (t : j7.den) (m : Int) (j : Nat) : Evt fun n => G8 (S.tab n) s i t (j : Int) m = some (Sum.inl (s, i, t, (ax6 s j : Int), m, ())) :=
 adv (F := fun T j => G8 T s i t (j : Int) m) (out := fun j => Sum.inl (s, i, t, (j : Int), m, ())) r8 ai5
  (fun T j h hq => by
   have hj := U9 ai5 hq
   show G8 (S.step T) s i t j m = G8 T s i t ((j + 1 : Nat) : Int) m
   rw [af5, l7 (by simpa using hj), l7 (n8 hj), n9, h.idigit, I3 (by omega)]
   simp only [Option.bind_some, J7]
   rw [show r6 (get s j) = true from hq]; rfl)
  (fun T j h hq => by
   show G8 (S.step T) s i t j m = _
   rw [af5]
   by_cases hj : j < s.length
   ·rw [l7 (by simpa using hj), l7 (n8 hj), n9, h.idigit]
    simp only [Option.bind_some, J7]
    rw [show r6 (get s j) = false from hq]; rfl
   ·rw [q8 (by simpa using hj)]) s.length j (by omega)
theorem az5 (i : Int) (t : j7.den) (m : Int) (j : Nat) : Evt fun n => G7 (S.tab n) s i t (j : Int) m = some (Sum.inl (s, i, t, (ax6 s j : Int), m, ())) :=
 adv (F := fun T j => G7 T s i t (j : Int) m) (out := fun j => Sum.inl (s, i, t, (j : Int), m, ())) r8 ai5
  (fun T j h hq => by
   have hj := U9 ai5 hq
   show G7 (S.step T) s i t j m = G7 T s i t ((j + 1 : Nat) : Int) m
   rw [ae9, l7 (by simpa using hj), l7 (n8 hj), n9, h.idigit, I3 (by omega)]
   simp only [Option.bind_some, J7]
   rw [show r6 (get s j) = true from hq]; rfl)
  (fun T j h hq => by
   show G7 (S.step T) s i t j m = _
   rw [ae9]
   by_cases hj : j < s.length
   ·rw [l7 (by simpa using hj), l7 (n8 hj), n9, h.idigit]
    simp only [Option.bind_some, J7]
    rw [show r6 (get s j) = false from hq]; rfl
   ·rw [q8 (by simpa using hj)]) s.length j (by omega)
theorem aB9 (i : Nat) (t : j7.den) (j : Nat) (hi : i ≤ 2097152) : Evt fun n => J1 (S.tab n) s (i : Int) t (j : Int) = some (Sum.inl (s, (i : Int), t, (an2 s (i + 18) j : Int), ())) :=
 adv (F := fun T j => J1 T s (i : Int) t (j : Int)) (out := fun j => Sum.inl (s, (i : Int), t, (j : Int), ())) r8 a29
  (fun T j h hq' => by
   have hj := U9 a29 hq'
   simp only [hq, Bool.and_eq_true, decide_eq_true_eq] at hq'
   show J1 (S.step T) s i t j = J1 T s i t ((j + 1 : Nat) : Int)
   rw [ai8, l7 (by simpa using hj), wrap64 ((i : Int) + 18) (by omega) (by omega), l7 (by simp only [decide_eq_true_eq]; omega), l7 (n8 hj), n9, h.ihex, I3 (by omega)]
   simp only [Option.bind_some, J7]
   rw [hq'.2]; rfl)
  (fun T j h hq' => by
   show J1 (S.step T) s i t j = _
   rw [ai8]
   by_cases hj : j < s.length
   ·rw [l7 (by simpa using hj), wrap64 ((i : Int) + 18) (by omega) (by omega)]
    by_cases hj2 : j < i + 18
    ·rw [l7 (by simp only [decide_eq_true_eq]; omega), l7 (n8 hj), n9, h.ihex]
     simp only [hq, hj2, decide_true, Bool.true_and] at hq'
     simp only [Option.bind_some, J7]
     rw [hq']; rfl
    ·rw [q8 (by simp only [decide_eq_false_iff_not]; omega)]
   ·rw [q8 (by simpa using hj)]) s.length j (by omega)
theorem aw6 (t3 t4 : j7.den) (j : Nat) : Evt fun n => D1 (S.tab n) s t3 t4 (j : Int) = some (Sum.inl (s, t3, t4, (ax6 s j : Int), ())) :=
 adv (F := fun T j => D1 T s t3 t4 (j : Int)) (out := fun j => Sum.inl (s, t3, t4, (j : Int), ())) r8 ai5
  (fun T j h hq => by
   have hj := U9 ai5 hq
   show D1 (S.step T) s t3 t4 j = D1 T s t3 t4 ((j + 1 : Nat) : Int)
   rw [ac6, h.look, I3 (by omega)]
   simp only [Option.bind_some, h.sdigit, J7]
   rw [show r6 (get s j) = true from hq]; rfl)
  (fun T j h hq => by
   show D1 (S.step T) s t3 t4 j = _
   rw [ac6, h.look]
   simp only [Option.bind_some, h.sdigit, J7]
   rw [show r6 (get s j) = false from hq]; rfl) s.length j (by omega)
theorem as4 (t3 t4 : j7.den) (j : Nat) : Evt fun n => D6 (S.tab n) s t3 t4 (j : Int) = some (Sum.inl (s, t3, t4, (ax6 s j : Int), ())) :=
 adv (F := fun T j => D6 T s t3 t4 (j : Int)) (out := fun j => Sum.inl (s, t3, t4, (j : Int), ())) r8 ai5
  (fun T j h hq => by
   have hj := U9 ai5 hq
   show D6 (S.step T) s t3 t4 j = D6 T s t3 t4 ((j + 1 : Nat) : Int)
   rw [Z9, h.look, I3 (by omega)]
   simp only [Option.bind_some, h.sdigit, J7]
   rw [show r6 (get s j) = true from hq]; rfl)
  (fun T j h hq => by
   show D6 (S.step T) s t3 t4 j = _
   rw [Z9, h.look]
   simp only [Option.bind_some, h.sdigit, J7]
   rw [show r6 (get s j) = false from hq]; rfl) s.length j (by omega)
theorem as1 (t3 t4 : j7.den) (j : Nat) : Evt fun n => A1 (S.tab n) s t3 t4 (j : Int) = some (Sum.inl (s, t3, t4, (ax6 s j : Int), ())) :=
 adv (F := fun T j => A1 T s t3 t4 (j : Int)) (out := fun j => Sum.inl (s, t3, t4, (j : Int), ())) r8 ai5
  (fun T j h hq => by
   have hj := U9 ai5 hq
   show A1 (S.step T) s t3 t4 j = A1 T s t3 t4 ((j + 1 : Nat) : Int)
   rw [aa2, h.look, I3 (by omega)]
   simp only [Option.bind_some, h.sdigit, J7]
   rw [show r6 (get s j) = true from hq]; rfl)
  (fun T j h hq => by
   show A1 (S.step T) s t3 t4 j = _
   rw [aa2, h.look]
   simp only [Option.bind_some, h.sdigit, J7]
   rw [show r6 (get s j) = false from hq]; rfl) s.length j (by omega)
end Go.Abs.D
end

section
namespace Go.Abs.D
def kq (w : List Int) (j : Nat) : Bool := decide (j < 22) && !decide (Lx.words.getD j [] = w)
theorem bh5 {w : List Int} : ∀ j, 22 ≤ j → kq w j = false := fun j h => by simp [kq]; omega
def aD5 (w : List Int) : Nat := stop (kq w) 22 0
theorem bg6 (l : List (List Int)) (j : Nat) : l.getD (j : Int).toNat [] = l.getD j [] := rfl
theorem aN5 (w : List Int) (j : Nat) (hj : j ≤ 22) : Evt fun n => K9 (S.tab n) w Lx.words 22 (j : Int) =
  some (if stop (kq w) 22 j < 22 then Sum.inl (((10 + stop (kq w) 22 j : Nat) : Int), ()) else Sum.inr (Sum.inl ())) :=
 adv (F := fun T j => K9 T w Lx.words 22 (j : Int)) (out := fun j => if j < 22 then Sum.inl (((10 + j : Nat) : Int), ()) else Sum.inr (Sum.inl ())) r8 bh5
  (fun T j h hq => by
   have hj := U9 bh5 hq
   show K9 (S.step T) w Lx.words 22 j = K9 T w Lx.words 22 ((j + 1 : Nat) : Int)
   rw [ap5, l7 (by simp; omega), l7 (n8 (show j < Lx.words.length from hj)), bg6, I3 (by omega)]
   simp only [kq, Bool.and_eq_true, Bool.not_eq_true'] at hq
   rw [q8 hq.2])
  (fun T j h hq => by
   show K9 (S.step T) w Lx.words 22 j = _
   rw [ap5]
   by_cases hj : j < 22
   ·rw [l7 (by simp; omega), l7 (n8 (show j < Lx.words.length from hj)), bg6]
    simp only [kq, hj, decide_true, Bool.true_and, Bool.not_eq_false'] at hq
    rw [l7 hq, if_pos hj, wrap64 _ (by omega) (by omega)]
    congr 3
   ·rw [q8 (by simp; omega), if_neg hj]) 22 j (by omega)
theorem aC1 (t3 t4 : j7.den) (w : List Int) (j : Nat) (hj : j ≤ 22) : Evt fun n => G5 (S.tab n) t3 t4 w Lx.words 22 (j : Int) =
  some (if stop (kq w) 22 j < 22 then Sum.inl ((((10 + stop (kq w) 22 j : Nat) : Int), t3.2), (-1 : Int), ()) else Sum.inr (Sum.inl (t3, t4, w, ()))) :=
 adv (F := fun T j => G5 T t3 t4 w Lx.words 22 (j : Int)) (out := fun j => if j < 22 then Sum.inl ((((10 + j : Nat) : Int), t3.2), (-1 : Int), ()) else Sum.inr (Sum.inl (t3, t4, w, ()))) r8 bh5
  (fun T j h hq => by
   have hj := U9 bh5 hq
   show G5 (S.step T) t3 t4 w Lx.words 22 j = G5 T t3 t4 w Lx.words 22 ((j + 1 : Nat) : Int)
   rw [aj5, l7 (by simp; omega), l7 (n8 (show j < Lx.words.length from hj)), bg6, I3 (by omega)]
   simp only [kq, Bool.and_eq_true, Bool.not_eq_true'] at hq
   rw [q8 hq.2])
  (fun T j h hq => by
   show G5 (S.step T) t3 t4 w Lx.words 22 j = _
   rw [aj5]
   by_cases hj : j < 22
   ·rw [l7 (by simp; omega), l7 (n8 (show j < Lx.words.length from hj)), bg6]
    simp only [kq, hj, decide_true, Bool.true_and, Bool.not_eq_false'] at hq
    rw [l7 hq, if_pos hj, wrap64 _ (by omega) (by omega)]
    congr 4
   ·rw [q8 (by simp; omega), if_neg hj]) 22 j (by omega)
def aj7 (w : List Int) : Int := if aD5 w < 22 then ((10 + aD5 w : Nat) : Int) else 1
theorem a47 (w : List Int) : Evt fun n => ay8 (S.tab n) w = some (aj7 w, av8) :=
 (aN5 w 0 (by omega)).up fun n h => by
  show ay8 (S.step (S.tab n)) w = _
  have h : K9 (S.tab n) w Lx.words (Lx.words.length : Int) 0 = _ := h
  rw [a52, h]
  unfold aj7 aD5
  split <;> rfl
theorem aL8 (w : List Int) : aj7 w = 1 ↔ ¬ aD5 w < 22 := by
 unfold aj7
 split
 ·omega
 ·rename_i h; exact ⟨fun _ => h, fun _ => rfl⟩
def bD2 (s : List Int) (i : Nat) : j7.den :=
 let e := aR4 s i
 let w := sub s (i : Int) (e : Int)
 if aD5 w < 22 then (((10 + aD5 w : Nat) : Int), (i : Int), (e : Int), 0, 0, ([] : List Int), ()) else (1, (i : Int), (e : Int), 0, 0, w, ())
theorem at1 {q : Nat → Bool} {N : Nat} (h : ∀ j, N ≤ j → q j = false) : ∀ (k j : Nat), j ≤ N → stop q k j ≤ N
 | 0, j, hj => hj
 | k + 1, j, hj => by
  unfold stop
  cases hq : q j with
  | false => exact hj
  | true =>
   have := U9 h hq
   exact at1 h k (j + 1) (by omega)
theorem F0 {n i e : Nat} (h1 : i ≤ e) (h2 : e ≤ n) : bounds n (i : Int) (e : Int) = true := by
 unfold bounds
 simp only [Bool.and_eq_true, decide_eq_true_eq]
 omega
theorem aR5 {s : List Int} (hs : s.length ≤ 2097152) {i : Nat} (hi : i < s.length) (t : j7.den) (ht : t = (0, (i : Int), 0, 0, 0, ([] : List Int), ())) :
  Evt fun n => ak5 (S.tab n) s t = some ((bD2 s i, -1, ()), al7) := by
 subst ht
 have hle : aR4 s i ≤ s.length := at1 am7 _ _ (by omega)
 have hge : i ≤ aR4 s i := al5 _ _
 refine (((aD9 hs (0, (i : Int), 0, 0, 0, ([] : List Int), ()) (0, 0, 0, 0, 0, ([] : List Int), ()) i).and (aC1 (1, (i : Int), (aR4 s i : Int), 0, 0, ([] : List Int), ()) (0, 0, 0, 0, 0, ([] : List Int), ()) (sub s (i : Int) (aR4 s i : Int)) 0 (by omega))).and r8).up fun n ⟨⟨h1, h2⟩, hb⟩ => ?_
 show ak5 (S.step (S.tab n)) s _ = _
 rw [aR0]
 simp only [h1, Option.bind_some, A9, Sum.elim_inl, l7 (F0 hge hle), hb.words]
 have h2 : G5 (S.tab n) (1, (i : Int), (aR4 s i : Int), 0, 0, ([] : List Int), ()) (0, 0, 0, 0, 0, ([] : List Int), ()) (sub s (i : Int) (aR4 s i : Int)) Lx.words (Lx.words.length : Int) 0 = _ := h2
 rw [h2]
 unfold bD2 aD5
 simp only [Option.bind_some]
 split <;> rfl
theorem aY5 {s : List Int} (hs : s.length ≤ 2097152) {i : Nat} (hi : i < s.length) (hl : x6 (get s i) = true) :
  Evt fun n => Q2 (S.tab n) s (i : Int) = some ((bD2 s i, false, ()), J9) := by
 have hle : aR4 s i ≤ s.length := at1 am7 _ _ (by omega)
 have hge : i ≤ aR4 s i := al5 _ _
 refine (((aQ4 hs (i : Int) (0, (i : Int), 0, 0, 0, ([] : List Int), ()) i).and (a47 (sub s (i : Int) (aR4 s i : Int)))).and r8).up fun n ⟨⟨h1, h2⟩, hb⟩ => ?_
 show Q2 (S.step (S.tab n)) s _ = _
 rw [aP0, l7 (n8 hi), n9, hb.iletter, hl]
 simp only [Option.bind_some, l7, h1, A9, Sum.elim_inl, l7 (F0 hge hle), h2]
 unfold bD2
 by_cases hk : aD5 (sub s (i : Int) (aR4 s i : Int)) < 22
 ·have : aj7 (sub s (i : Int) (aR4 s i : Int)) ≠ 1 := fun e => (aL8 _).1 e hk
  rw [q8 (by simpa using this)]
  simp only [hk, if_true, aj7]
 ·rw [l7 (by simpa using (aL8 _).2 hk)]
  simp only [hk, if_false, aj7]
end Go.Abs.D
end

section
namespace Go.Abs.D
def hv (n : Int) (l : List Int) : Int := l.foldl (fun n c => n * 16 + Z8 c) n
theorem bd6 (n c : Int) (l : List Int) : hv n (c :: l) = hv (n * 16 + Z8 c) l := rfl
theorem bE6 (n c : Int) (l : List Int) : hv n (l ++ [c]) = hv n l * 16 + Z8 c := by simp [hv, List.foldl_append]
theorem bz3 {a b : Nat} (h : a ≤ b) : (16 : Int) ^ a ≤ 16 ^ b := by
 have := Nat.pow_le_pow_right (show 0 < 16 by decide) h
 have e : ∀ k : Nat, (16 : Int) ^ k = ((16 ^ k : Nat) : Int) := fun k => by simp
 rw [e, e]; omega
theorem ak3 {c : Int} (h : W7 c = true) : 0 ≤ Z8 c := by
 have := X3 c
 rw [h] at this
 simpa using this
theorem bF3 : ∀ (l : List Int) (n : Int), 0 ≤ n → (∀ c ∈ l, W7 c = true) → n ≤ hv n l
 | [], n, _, _ => Int.le_refl _
 | c :: l, n, h0, h => by
  have h1 := ak3 (h c (List.mem_cons_self ..))
  have := bF3 l (n * 16 + Z8 c) (by omega) fun x hx => h x (List.mem_cons_of_mem _ hx)
  rw [bd6]; omega
theorem bE8 : ∀ (l : List Int) (n : Int) (k : Nat), 0 ≤ n → n < 16 ^ k → (∀ c ∈ l, W7 c = true) → hv n l < 16 ^ (k + l.length)
 | [], n, k, _, hn, _ => hn
 | c :: l, n, k, h0, hn, h => by
  have h1 := ak3 (h c (List.mem_cons_self ..))
  have h2 := ao7 c
  have := bE8 l (n * 16 + Z8 c) (k + 1) (by omega) (by rw [Int.pow_succ]; omega) fun x hx => h x (List.mem_cons_of_mem _ hx)
  rw [bd6, List.length_cons, show k + (l.length + 1) = k + 1 + l.length by omega]; exact this
theorem aG6 (x : Int) (h0 : 0 ≤ x) (h1 : x < 18446744073709551616) : IntKind.u64.wrap x = x := by
 have : IntKind.u64.wrap x = x % 18446744073709551616 := by simp [IntKind.wrap, IntKind.bits, IntKind.signed]
 rw [this]; omega
structure Base3 (T : S.Tab) : Prop extends Base2 T where
 lower : ∀ c, o9 T c = some (intBits .or .u8 c 32, aj3)
 j46 : ∀ (m n v : Int) (t9 l : List Int) (a b : Int), 0 ≤ v → v < 16 → 0 ≤ n → n < 1152921504606846976 → n * 16 + v ≤ m → m < 18446744073709551616 →
  z8 T 16 false t9 1152921504606846976 m false n v l a b = some (Sum.inr (Sum.inl (16, false, t9, 1152921504606846976, m, false, n * 16 + v, l, a, b, ())))
theorem bm5 (T : S.Tab) (h : Base1 T) : Base3 (S.step T) := by
 refine ⟨aV8 T h, fun c => ?_, fun m n v t9 l a b hv0 hv1 hn0 hn1 hm hM => ?_⟩
 ·rw [aA3]
 ·have e16 : IntKind.u8.wrap 16 = 16 := by decide
  have e16' : IntKind.u64.wrap 16 = 16 := by decide
  rw [ae7, e16, e16', aG6 (n * 16) (by omega) (by omega), aG6 v hv0 (by omega), aG6 (n * 16 + v) (by omega) (by omega)]
  rw [q8 (by simp only [decide_eq_false_iff_not]; omega), q8 (by simp only [decide_eq_false_iff_not]; omega), q8 (by simp only [decide_eq_false_iff_not]; omega), q8 (by simp only [decide_eq_false_iff_not]; omega)]
theorem bK1 : Evt fun n => Base3 (S.tab n) := by
 have h1 : Evt fun n => Base1 (S.tab n) := Evt.up (Evt.of (p := fun _ => True) fun _ => trivial) fun n _ => ar5 _
 exact h1.up fun n h => bm5 _ h
theorem bP4 (l : List Int) (j : Nat) : l.getD (j : Int).toNat 0 = get l j := rfl
theorem bM6 (c : Int) (h : a84 c = true) : intBits .or .u8 c 32 = c := by
 simp only [a84, Bool.and_eq_true, decide_eq_true_eq] at h
 have : c = 97 ∨ c = 98 ∨ c = 99 ∨ c = 100 ∨ c = 101 ∨ c = 102 := by omega
 rcases this with rfl | rfl | rfl | rfl | rfl | rfl <;> decide
theorem by0 (T : S.Tab) (hb : Base3 T) (t9 l : List Int) (m n : Int) (j : Nat) (hj : j < l.length) (hl : l.length ≤ 2097152) (hc : W7 (get l j) = true) (hn0 : 0 ≤ n) (hn1 : n < 1152921504606846976) (hm : n * 16 + Z8 (get l j) ≤ m) (hM : m < 18446744073709551616) :
  p9 (S.step T) 16 false t9 1152921504606846976 m false n l (l.length : Int) (j : Int) =
   p9 T 16 false t9 1152921504606846976 m false (n * 16 + Z8 (get l j)) l (l.length : Int) ((j + 1 : Nat) : Int) := by
 have h0 := ak3 hc
 have h16 := ao7 (get l j)
 rw [Q8, l7 (by simpa using hj), l7 (n8 hj)]
 rw [bP4, I3 (show j ≤ 4194304 by omega)]
 cases hd : r6 (get l j) with
 | true =>
  have hv : Z8 (get l j) = get l j - 48 := by simp [Z8, hd]
  simp only [r6, Bool.and_eq_true, decide_eq_true_eq] at hd
  have hne : decide (get l j = 95) = false := by simp only [decide_eq_false_iff_not]; omega
  rw [q8 hne, l7 (by simpa using hd.1), l7 (by simpa using hd.2), a43 _ (by omega) (by omega), ← hv, hb.j46 m n _ t9 l _ _ h0 h16 hn0 hn1 hm hM]
  simp only [Option.bind_some, N0, Sum.elim_inr, Sum.elim_inl]
  rw [I3 (by omega)]
 | false =>
  have hlo : a84 (get l j) = true := by
   unfold W7 at hc
   rw [hd, Bool.false_or] at hc; exact hc
  have hv : Z8 (get l j) = get l j - 87 := by simp [Z8, hd, hlo]
  have hor := bM6 _ hlo
  simp only [a84, Bool.and_eq_true, decide_eq_true_eq] at hlo
  have hne : decide (get l j = 95) = false := by simp only [decide_eq_false_iff_not]; omega
  have e : IntKind.u8.wrap (IntKind.u8.wrap (get l j - 97) + 10) = Z8 (get l j) := by
   rw [a43 (get l j - 97) (by omega) (by omega), a43 _ (by omega) (by omega), hv]; omega
  have h9 : ¬ get l j ≤ 57 := by omega
  have h9' : decide (get l j ≤ 57) = false := by simpa using h9
  rw [q8 hne]
  simp only [hb.lower, hor, Option.bind_some]
  rw [l7 (show decide (48 ≤ get l j) = true by simp only [decide_eq_true_eq]; omega), q8 h9', l7 (show decide (97 ≤ get l j) = true by simpa using hlo.1), l7 (show decide (get l j ≤ 122) = true by simp only [decide_eq_true_eq]; omega), e, hb.j46 m n _ t9 l _ _ h0 h16 hn0 hn1 hm hM]
  simp only [Option.bind_some, N0, Sum.elim_inr, Sum.elim_inl]
  rw [I3 (by omega)]
theorem bE9 (pre : List Int) (c : Int) (r : List Int) : get (pre ++ c :: r) pre.length = c := bx4 pre c r 0
theorem br5 (t9 : List Int) (m : Int) (hM : m < 18446744073709551616) : ∀ (r pre : List Int) (n : Int), (∀ c ∈ r, W7 c = true) → 0 ≤ n → n < 16 ^ pre.length → (pre ++ r).length ≤ 16 → hv n r ≤ m →
  Evt fun k => p9 (S.tab k) 16 false t9 1152921504606846976 m false n (pre ++ r) ((pre ++ r).length : Int) (pre.length : Int) = some (Sum.inr (Sum.inl (t9, false, hv n r, ())))
 | [], pre, n, _, _, _, _, _ => bK1.up fun k hb => by
  show p9 (S.step (S.tab k)) _ _ _ _ _ _ _ _ _ _ = _
  rw [Q8, q8 (by simp)]; rfl
 | c :: r, pre, n, hc, h0, hn, hl, hm => by
  have hlen : (pre ++ c :: r).length = pre.length + (r.length + 1) := by simp
  have h1 := ak3 (hc c (List.mem_cons_self ..))
  have h2 := ao7 c
  have hge := bF3 r (n * 16 + Z8 c) (by omega) fun x hx => hc x (List.mem_cons_of_mem _ hx)
  have hp : (16 : Int) ^ pre.length ≤ 16 ^ 15 := bz3 (by omega)
  have ih := br5 t9 m hM r (pre ++ [c]) (n * 16 + Z8 c) (fun x hx => hc x (List.mem_cons_of_mem _ hx)) (by omega) (by
   rw [List.length_append, List.length_singleton, Int.pow_succ]; omega) (by simpa using hl) hm
  refine (ih.and bK1).up fun k ⟨h, hb⟩ => ?_
  show p9 (S.step (S.tab k)) _ _ _ _ _ _ _ _ _ _ = _
  have hg := bE9 pre c r
  rw [by0 _ hb t9 (pre ++ c :: r) m n pre.length (by omega) (by omega) (by rw [hg]; exact hc c (List.mem_cons_self ..)) h0 (by omega) (by rw [hg]; rw [bd6] at hm; omega) hM, hg]
  have e1 : (pre ++ [c]).length = pre.length + 1 := by simp
  have e2 : pre ++ [c] ++ r = pre ++ c :: r := by simp
  rw [e1, e2] at h
  exact h
theorem aF4 (l : List Int) (b : Int) (hb : b = 8 ∧ l.length ≤ 2 ∨ b = 64 ∧ l.length ≤ 16) (hne : l ≠ []) (hl : ∀ c ∈ l, W7 c = true) :
  Evt fun n => F6 (S.tab n) l 16 b = some ((hv 0 l, true, ()), ad4) := by
 have hlt := bE8 l 0 0 (by decide) (by decide) hl
 rw [Nat.zero_add] at hlt
 have hlen : l.length ≤ 16 := by omega
 let m : Int := if b = 8 then 255 else 18446744073709551615
 have hm : hv 0 l ≤ m := by
  rcases hb with ⟨rfl, h⟩ | ⟨rfl, h⟩
  ·have : (16 : Int) ^ l.length ≤ 16 ^ 2 := bz3 h
   show hv 0 l ≤ 255
   omega
  ·have : (16 : Int) ^ l.length ≤ 16 ^ 16 := bz3 h
   show hv 0 l ≤ 18446744073709551615
   omega
 have hM : m < 18446744073709551616 := by
  show (if b = 8 then (255 : Int) else 18446744073709551615) < _
  split <;> decide
 have h1 := br5 l m hM l [] 0 hl (Int.le_refl 0) (by decide) (by simpa using hlen) hm
 have h2 : Evt fun n => C0 (S.tab n) l 16 b false l 1152921504606846976 = some (Sum.inl (hv 0 l, true, ())) := h1.up fun n h => by
  show C0 (S.step (S.tab n)) _ _ _ _ _ _ = _
  have h : p9 (S.tab n) 16 false l 1152921504606846976 m false 0 l (l.length : Int) 0 = some (Sum.inr (Sum.inl (l, false, hv 0 l, ()))) := h
  have e : IntKind.u64.wrap (IntKind.u64.wrap (1 * 2 ^ min (IntKind.u64.wrap b).toNat IntKind.u64.bits) - 1) = m := by
   rcases hb with ⟨rfl, _⟩ | ⟨rfl, _⟩ <;> decide
  have e0 : decide ((0 : Int) ≤ IntKind.u64.wrap b) = true := by
   rcases hb with ⟨rfl, _⟩ | ⟨rfl, _⟩ <;> decide
  rw [ae6, l7 e0, e, h]
  simp only [Option.bind_some, N0, Sum.elim_inr, Sum.elim_inl, J7, cond_false]
 have h3 : Evt fun n => E1 (S.tab n) l 16 b false l = some (Sum.inl (hv 0 l, true, ())) := h2.up fun n h => by
  show E1 (S.step (S.tab n)) _ _ _ _ _ = _
  rw [ae1, q8 (by decide), l7 (by decide), h]; rfl
 have h4 : Evt fun n => j1 (S.tab n) l 16 b false l = some (Sum.inl (hv 0 l, true, ())) := h3.up fun n h => by
  show j1 (S.step (S.tab n)) _ _ _ _ _ = _
  rw [ae3]
  rcases hb with ⟨rfl, _⟩ | ⟨rfl, _⟩
  ·rw [q8 (by decide), q8 (by decide), q8 (by decide), h]; rfl
  ·rw [q8 (by decide), q8 (by decide), q8 (by decide), h]; rfl
 have h5 : Evt fun n => N9 (S.tab n) l 16 b = some ((hv 0 l, true, ()), j3) := h4.up fun n h => by
  show N9 (S.step (S.tab n)) _ _ _ = _
  rw [an1, q8 (by simpa using hne), l7 (by decide), l7 (by decide)]
  have h : j1 (S.tab n) l 16 b (decide ((16 : Int) = 0)) l = _ := h
  rw [h]; rfl
 exact h5.up fun n h => by
  show F6 (S.step (S.tab n)) _ _ _ = _
  rw [as2, h]
  simp only [Option.bind_some, J7]
  rfl
end Go.Abs.D
end

section
namespace Go.Abs.D
def J8 (s : List Int) (a b : Nat) : List Int := (s.take b).drop a
theorem ah7 (s : List Int) (a b : Nat) : sub s (a : Int) (b : Int) = J8 s a b := rfl
theorem W0 {s : List Int} {a j : Nat} (h1 : a ≤ j) (h2 : j < s.length) : J8 s a (j + 1) = J8 s a j ++ [get s j] := by
 unfold J8 get
 rw [List.take_add_one, List.getElem?_eq_getElem h2]
 rw [List.drop_append_of_le_length (by simp; omega)]
 rw [List.getD_eq_getElem?_getD, List.getElem?_eq_getElem h2]; rfl
theorem ab2 {s : List Int} (a : Nat) : J8 s a a = [] := by
 unfold J8
 exact List.drop_eq_nil_of_le (by simp; omega)
theorem X8 {s : List Int} {a b : Nat} (h : b ≤ s.length) : (J8 s a b).length = b - a := by
 unfold J8
 simp; omega
theorem a01 {s : List Int} {p : Int → Bool} {a : Nat} : ∀ (k : Nat), a + k ≤ s.length → (∀ j, a ≤ j → j < a + k → p (get s j) = true) → ∀ c ∈ J8 s a (a + k), p c = true
 | 0, _, _, c, hc => by rw [Nat.add_zero, ab2] at hc; cases hc
 | k + 1, hk, h, c, hc => by
  rw [show a + (k + 1) = a + k + 1 by omega, W0 (by omega) (by omega)] at hc
  rcases List.mem_append.1 hc with hc | hc
  ·exact a01 k (by omega) (fun j h1 h2 => h j h1 (by omega)) c hc
  ·have : c = get s (a + k) := by simpa using hc
   subst this
   exact h _ (by omega) (by omega)
def S1 (s : List Int) (i : Nat) : Nat ⊕ j7.den :=
 let e := an2 s (i + 18) (i + 2)
 if e = i + 2 then .inl e else if W7 (get s e) = true then .inl e else .inr (2, (i : Int), (e : Int), 0, IntKind.i64.wrap (hv 0 (J8 s (i + 2) e)), ([] : List Int), ())
def k23 (k : Int) : Bool := decide (k = 2) || decide (k = 3)
def k4 (k : Int) : Bool := decide (k = 4)
def kB (c k : Int) : Bool := bif r6 c then k23 k else bif decide (c = 34) then k4 k else decide (k = 0)
def IR (K : Int → Bool) (r : Nat ⊕ j7.den) (t : j7.den) (b : Bool) : Prop := match r with | .inl e => b = true ∧ t.2.2.1 = (e : Int) ∧ K t.1 = true | .inr t' => b = false ∧ t = t'
def SR (K : Int → Bool) (r : Nat ⊕ j7.den) (t : j7.den) (b : Int) : Prop := match r with | .inl e => b = (e : Int) ∧ K t.1 = true | .inr t' => b = -1 ∧ t = t'
theorem IR.to {K L : Int → Bool} (h : ∀ k, K k = L k) {r : Nat ⊕ j7.den} {t : j7.den} {b : Bool} : IR K r t b → IR L r t b := by
 rw [show K = L from funext h]; exact id
theorem SR.to {K L : Int → Bool} (h : ∀ k, K k = L k) {r : Nat ⊕ j7.den} {t : j7.den} {b : Int} : SR K r t b → SR L r t b := by
 rw [show K = L from funext h]; exact id
variable {s : List Int} (hs : s.length ≤ 2097152)
include hs
omit hs in
theorem bd4 {i : Nat} (hi : i + 2 ≤ s.length) : an2 s (i + 18) (i + 2) ≤ s.length ∧ i + 2 ≤ an2 s (i + 18) (i + 2) ∧ an2 s (i + 18) (i + 2) ≤ i + 18 := by
 refine ⟨at1 a29 _ _ hi, al5 _ _, ?_⟩
 refine at1 (q := hq s (i + 18)) (N := i + 18) (fun j hj => ?_) _ _ (by omega)
 simp only [hq, Bool.and_eq_false_iff, decide_eq_false_iff_not]
 exact .inl (by omega)
omit hs in
theorem bE5 {i : Nat} (hi : i + 2 ≤ s.length) : ∀ c ∈ J8 s (i + 2) (an2 s (i + 18) (i + 2)), W7 c = true := by
 obtain ⟨h1, h2, h3⟩ := bd4 hi
 obtain ⟨k, hk⟩ : ∃ k, an2 s (i + 18) (i + 2) = i + 2 + k := ⟨an2 s (i + 18) (i + 2) - (i + 2), by omega⟩
 rw [hk]
 refine a01 k (by omega) fun j ha hb => ?_
 have := ar4 (q := hq s (i + 18)) s.length (i + 2) j ha (by
  show j < an2 s (i + 18) (i + 2)
  omega)
 simp only [hq, Bool.and_eq_true] at this
 exact this.2
theorem aB2 (t3 t4 : j7.den) {i : Nat} (ht : t3.2.1 = (i : Int)) (hi : i + 2 ≤ s.length) : ∀ (k j : Nat), i + 2 ≤ j → j ≤ i + 18 → s.length ≤ j + k → (∀ c ∈ J8 s (i + 2) j, W7 c = true) → j ≤ s.length →
  Evt fun n => E3 (S.tab n) s t3 t4 (j : Int) (hv 0 (J8 s (i + 2) j)) =
   some (bif W7 (get s (stop (hq s (i + 18)) k j)) then Sum.inl (t3, (stop (hq s (i + 18)) k j : Int), ()) else Sum.inr (Sum.inl (t3, t4, (stop (hq s (i + 18)) k j : Int), hv 0 (J8 s (i + 2) (stop (hq s (i + 18)) k j)), ())))
 | 0, j, h1, h2, hk, hall, hj => by
  refine r8.up fun n hb => ?_
  show E3 (S.step (S.tab n)) _ _ _ _ _ = _
  rw [P4, hb.look]
  simp only [Option.bind_some, hb.shex, X3, stop]
  rw [M9 (show s.length ≤ j by omega), bN5, q8 rfl]; rfl
 | k + 1, j, h1, h2, hk, hall, hj => by
  cases hc : W7 (get s j) with
  | false =>
   have hq0 : hq s (i + 18) j = false := by simp [hq, hc]
   refine r8.up fun n hb => ?_
   show E3 (S.step (S.tab n)) _ _ _ _ _ = _
   rw [P4, hb.look, ax2 hq0]
   simp only [Option.bind_some, hb.shex, X3, hc]
   rw [q8 rfl]; rfl
  | true =>
   have hlt : j < s.length := by
    rcases Nat.lt_or_ge j s.length with h | h
    ·exact h
    ·rw [M9 h, bN5] at hc; cases hc
   by_cases he : j = i + 18
   ·have hq0 : hq s (i + 18) j = false := by simp [hq]; omega
    refine r8.up fun n hb => ?_
    show E3 (S.step (S.tab n)) _ _ _ _ _ = _
    rw [P4, hb.look, ax2 hq0]
    simp only [Option.bind_some, hb.shex, X3, hc, ht]
    rw [l7 rfl, wrap64 _ (by omega) (by omega), l7 (by simp only [decide_eq_true_eq]; omega)]; rfl
   ·have hq1 : hq s (i + 18) j = true := by
     simp only [hq, hc, Bool.and_true, decide_eq_true_eq]; omega
    have hlen : (J8 s (i + 2) j).length = j - (i + 2) := X8 hj
    have hval := bE8 (J8 s (i + 2) j) 0 0 (by decide) (by decide) hall
    rw [Nat.zero_add, hlen] at hval
    have hp : (16 : Int) ^ (j - (i + 2)) ≤ 16 ^ 15 := bz3 (by omega)
    have hge := bF3 (J8 s (i + 2) j) 0 (by decide) hall
    have h0 := ak3 hc
    have h16 := ao7 (get s j)
    have ih := aB2 t3 t4 ht hi k (j + 1) (by omega) (by omega) (by omega) (by
     rw [W0 h1 hlt]
     intro c hc'
     rcases List.mem_append.1 hc' with hc' | hc'
     ·exact hall c hc'
     ·have : c = get s j := by simpa using hc'
      subst this; exact hc) (by omega)
    refine (ih.and r8).up fun n ⟨h, hb⟩ => ?_
    show E3 (S.step (S.tab n)) _ _ _ _ _ = _
    have e : stop (hq s (i + 18)) (k + 1) j = stop (hq s (i + 18)) k (j + 1) := by
     show (bif hq s (i + 18) j then _ else _) = _
     rw [hq1]; rfl
    rw [e, P4, hb.look]
    simp only [Option.bind_some, hb.shex, X3, hc, ht, n9]
    rw [l7 rfl, wrap64 ((j : Int) - (i : Int)) (by omega) (by omega), q8 (by simp only [decide_eq_false_iff_not]; omega), l7 (n8 hlt), I3 (by omega)]
    rw [aG6 (hv 0 (J8 s (i + 2) j) * 16) (by omega) (by omega), aG6 (Z8 (get s j)) h0 (by omega), aG6 _ (by omega) (by omega)]
    rw [W0 h1 hlt, bE6] at h
    exact h
theorem aM1 {i : Nat} (hi : i + 2 ≤ s.length) : Evt fun n => ∃ t' b, af6 (S.tab n) s (2, (i : Int), 0, 0, 0, ([] : List Int), ()) = some ((t', b, ()), Y2) ∧ SR k23 (S1 s i) t' b := by
 obtain ⟨h1, h2, h3⟩ := bd4 hi
 have hl := aB2 hs (2, (i : Int), 0, 0, 0, ([] : List Int), ()) (0, 0, 0, 0, 0, ([] : List Int), ()) (i := i) rfl hi s.length (i + 2) (by omega) (by omega) (by omega) (by rw [ab2]; intro c hc; cases hc) hi
 refine hl.up fun n h => ?_
 show ∃ t' b, af6 (S.step (S.tab n)) s _ = _ ∧ _
 rw [ab2] at h
 have h : E3 (S.tab n) s (2, (i : Int), 0, 0, 0, ([] : List Int), ()) (0, 0, 0, 0, 0, ([] : List Int), ()) ((i + 2 : Nat) : Int) 0 = some (bif W7 (get s (an2 s (i + 18) (i + 2))) then _ else _) := h
 have e2 : IntKind.i64.wrap ((i : Int) + 2) = ((i + 2 : Nat) : Int) := by
  rw [wrap64 _ (by omega) (by omega)]; omega
 rw [aM5]
 simp only [e2, h]
 cases hx : W7 (get s (an2 s (i + 18) (i + 2))) with
 | true =>
  have hlx : S1 s i = .inl (an2 s (i + 18) (i + 2)) := by unfold S1; simp only [hx, if_true, ite_self]
  rw [hlx]
  simp only [cond_true, Option.bind_some, N0, Sum.elim_inl]
  exact ⟨_, _, rfl, rfl, rfl⟩
 | false =>
  simp only [cond_false, Option.bind_some, N0, Sum.elim_inr, Sum.elim_inl, e2]
  by_cases he : an2 s (i + 18) (i + 2) = i + 2
  ·have hlx : S1 s i = .inl (an2 s (i + 18) (i + 2)) := by unfold S1; simp only [he, if_true]
   rw [l7 (by simp [an2] at he ⊢; omega), hlx]
   exact ⟨_, _, rfl, rfl, rfl⟩
  ·have hlx : S1 s i = .inr (2, (i : Int), (an2 s (i + 18) (i + 2) : Int), 0, IntKind.i64.wrap (hv 0 (J8 s (i + 2) (an2 s (i + 18) (i + 2)))), ([] : List Int), ()) := by unfold S1; simp only [he, if_false, hx, Bool.false_eq_true]
   rw [q8 (by simp only [decide_eq_false_iff_not]; show ¬ ((an2 s (i + 18) (i + 2) : Nat) : Int) = _; omega), hlx]
   first | exact ⟨_, _, rfl, rfl, rfl⟩ | exact ⟨_, _, rfl, rfl, rfl, rfl⟩
theorem aJ9 {i : Nat} (hi : i + 2 ≤ s.length) (h0 : get s i = 48) (hx : get s (i + 1) = 120) : Evt fun n => ∃ t' b, P7 (S.tab n) s (i : Int) = some ((t', b, ()), B9) ∧ IR k23 (S1 s i) t' b := by
 obtain ⟨h1, h2, h3⟩ := bd4 hi
 have hl := aB9 hs i (2, (i : Int), 0, 0, 0, ([] : List Int), ()) (i + 2) (by omega)
 have hall := bE5 hi
 have e1 : IntKind.i64.wrap ((i : Int) + 1) = ((i + 1 : Nat) : Int) := I3 (by omega)
 have e2 : IntKind.i64.wrap ((i : Int) + 2) = ((i + 2 : Nat) : Int) := by
  rw [wrap64 _ (by omega) (by omega)]; omega
 have e18 : IntKind.i64.wrap ((i : Int) + 18) = ((i + 18 : Nat) : Int) := by
  rw [wrap64 _ (by omega) (by omega)]; omega
 have d0 : decide (get s i = 48) = true := by rw [h0]; rfl
 have dx : decide (get s (i + 1) = 120) = true := by rw [hx]; rfl
 by_cases he : an2 s (i + 18) (i + 2) = i + 2
 ·refine hl.up fun n h => ?_
  show ∃ t' b, P7 (S.step (S.tab n)) s _ = _ ∧ _
  have hlx : S1 s i = .inl (an2 s (i + 18) (i + 2)) := by unfold S1; simp only [he, if_true]
  rw [X7, l7 (n8 (show i < s.length by omega)), n9, l7 d0, e1, l7 (by simp only [decide_eq_true_eq]; omega), l7 (n8 (show i + 1 < s.length by omega)), n9, l7 dx, e2, h]
  simp only [Option.bind_some, A9, Sum.elim_inl, e2]
  rw [l7 (by simp only [decide_eq_true_eq]; omega), hlx]
  first | exact ⟨_, _, rfl, rfl, rfl⟩ | exact ⟨_, _, rfl, rfl, rfl, rfl⟩
 ·have hpu := aF4 (J8 s (i + 2) (an2 s (i + 18) (i + 2))) 64 (.inr ⟨rfl, by rw [X8 h1]; omega⟩) (fun e => by
   have := congrArg List.length e
   rw [X8 h1] at this
   simp at this; omega) hall
  have hgood : W7 (get s (an2 s (i + 18) (i + 2))) = false → S1 s i = .inr (2, (i : Int), (an2 s (i + 18) (i + 2) : Int), 0, IntKind.i64.wrap (hv 0 (J8 s (i + 2) (an2 s (i + 18) (i + 2)))), ([] : List Int), ()) := fun hx => by unfold S1; simp only [he, if_false, hx, Bool.false_eq_true]
  refine ((hl.and hpu).and r8).up fun n ⟨⟨h, hp⟩, hb⟩ => ?_
  show ∃ t' b, P7 (S.step (S.tab n)) s _ = _ ∧ _
  rw [X7, l7 (n8 (show i < s.length by omega)), n9, l7 d0, e1, l7 (by simp only [decide_eq_true_eq]; omega), l7 (n8 (show i + 1 < s.length by omega)), n9, l7 dx, e2, h]
  simp only [Option.bind_some, A9, Sum.elim_inl, e2, e18]
  rw [q8 (by simp only [decide_eq_false_iff_not]; omega)]
  have hb2 := F0 h2 h1
  by_cases h18 : an2 s (i + 18) (i + 2) = i + 18
  ·rw [l7 (by simp only [decide_eq_true_eq]; omega)]
   by_cases hlt : an2 s (i + 18) (i + 2) < s.length
   ·rw [l7 (by simp only [decide_eq_true_eq]; omega), l7 (n8 hlt), n9, hb.ihex]
    simp only [Option.bind_some]
    cases hxx : W7 (get s (an2 s (i + 18) (i + 2))) with
    | true =>
     have hlx : S1 s i = .inl (an2 s (i + 18) (i + 2)) := by unfold S1; simp only [hxx, if_true, ite_self]
     rw [l7 rfl, hlx]
     first | exact ⟨_, _, rfl, rfl, rfl⟩ | exact ⟨_, _, rfl, rfl, rfl, rfl⟩
    | false =>
     rw [q8 rfl, l7 hb2, ah7, hp, hgood hxx]
     first | exact ⟨_, _, rfl, rfl, rfl⟩ | exact ⟨_, _, rfl, rfl, rfl, rfl⟩
   ·have hz : W7 (get s (an2 s (i + 18) (i + 2))) = false := by rw [M9 (by omega)]; rfl
    rw [q8 (by simp only [decide_eq_false_iff_not]; omega), l7 hb2, ah7, hp, hgood hz]
    first | exact ⟨_, _, rfl, rfl, rfl⟩ | exact ⟨_, _, rfl, rfl, rfl, rfl⟩
  ·have hz : W7 (get s (an2 s (i + 18) (i + 2))) = false := by
    have hq : hq s (i + 18) (an2 s (i + 18) (i + 2)) = false := aj8 (q := hq s (i + 18)) a29 s.length (i + 2) (by omega)
    simp only [Go.Abs.D.hq, Bool.and_eq_false_iff, decide_eq_false_iff_not] at hq
    rcases hq with hq | hq
    ·omega
    ·exact hq
   rw [q8 (by simp only [decide_eq_false_iff_not]; omega), l7 hb2, ah7, hp, hgood hz]
   first | exact ⟨_, _, rfl, rfl, rfl⟩ | exact ⟨_, _, rfl, rfl, rfl, rfl⟩
end Go.Abs.D
end

section
namespace Go.Abs.D
def dv (n : Int) (l : List Int) : Int := l.foldl (fun n c => n * 10 + (c - 48)) n
theorem bo9 (n c : Int) (l : List Int) : dv n (c :: l) = dv (n * 10 + (c - 48)) l := rfl
theorem bF0 (n c : Int) (l : List Int) : dv n (l ++ [c]) = dv n l * 10 + (c - 48) := by simp [dv, List.foldl_append]
theorem dig {c : Int} (h : r6 c = true) : 48 ≤ c ∧ c ≤ 57 := by simpa [r6] using h
theorem bd1 : ∀ (l : List Int) (n : Int), 0 ≤ n → (∀ c ∈ l, r6 c = true) → n ≤ dv n l
 | [], n, _, _ => Int.le_refl _
 | c :: l, n, h0, h => by
  have := dig (h c (List.mem_cons_self ..))
  have := bd1 l (n * 10 + (c - 48)) (by omega) fun x hx => h x (List.mem_cons_of_mem _ hx)
  rw [bo9]; omega
theorem bC1 {c : Int} (h : r6 c = true) : c.toNat.toUInt8.toNat = c.toNat := by
 have := dig h
 rw [Nat.toUInt8, UInt8.toNat_ofNat']
 omega
theorem ax7 : ∀ (l : List Int) (a : Nat), (∀ c ∈ l, r6 c = true) → a ≤ 18446744073709551615 →
  Lib.parseUintM (2 ^ 64 - 1) a (Lx.u8s l) = (if dv a l ≤ 18446744073709551615 then .ok (dv a l).toNat else .range)
 | [], a, _, ha => by
  show Lib.NumEnd.ok a = _
  rw [if_pos (by simp only [dv, List.foldl_nil]; omega)]
  simp [dv]
 | c :: l, a, h, ha => by
  have hc := h c (List.mem_cons_self ..)
  have hd := dig hc
  have hl := fun x hx => h x (List.mem_cons_of_mem _ hx)
  have e := bC1 hc
  have hge := bd1 l ((a : Int) * 10 + (c - 48)) (by omega) hl
  have ih : a * 10 + (c.toNat - 48) ≤ 18446744073709551615 → _ := ax7 l (a * 10 + (c.toNat - 48)) hl
  have e2 : ((a * 10 + (c.toNat - 48) : Nat) : Int) = (a : Int) * 10 + (c - 48) := by omega
  rw [e2] at ih
  show Lib.parseUintM _ a (c.toNat.toUInt8 :: Lx.u8s l) = _
  rw [Lib.parseUintM, e, if_pos (by omega), bo9]
  by_cases h1 : 1844674407370955162 ≤ a
  ·rw [if_pos h1, if_neg (by omega)]
  ·rw [if_neg h1]
   by_cases h2 : 2 ^ 64 - 1 < a * 10 + (c.toNat - 48)
   ·rw [if_pos h2, if_neg (by omega)]
   ·rw [if_neg h2, ih (by omega)]
theorem bd9 {l : List Int} (hl : ∀ c ∈ l, r6 c = true) (hne : l ≠ []) (hn : l.length ≤ 2097152) :
  ∃ v, Lx.ad6 (l, 10, 64, ()) = some ((bif decide (dv 0 l < 9223372036854775808) then dv 0 l else v, decide (dv 0 l < 9223372036854775808), ()), (), (), (), ()) := by
 have hge := bd1 l 0 (Int.le_refl 0) hl
 obtain ⟨c, r, rfl⟩ : ∃ c r, l = c :: r := by cases l with
  | nil => exact absurd rfl hne
  | cons c r => exact ⟨c, r, rfl⟩
 have hc := hl c (List.mem_cons_self ..)
 have hd := dig hc
 have e := bC1 hc
 have hM := ax7 (c :: r) 0 hl (by decide)
 have hB : Lib.parseUintB 64 (Lx.u8s (c :: r)) = _ := (show Lib.parseUintB 64 (Lx.u8s (c :: r)) = Lib.parseUintM (2 ^ 64 - 1) 0 (Lx.u8s (c :: r)) by unfold Lib.parseUintB; rw [if_neg (by simp [Lx.u8s])]).trans hM
 have hI : Lib.parseIntB 64 (Lx.u8s (c :: r)) = if dv 0 (c :: r) < 9223372036854775808 then .ok (dv 0 (c :: r)) else .range := by
  show Lib.parseIntB 64 (c.toNat.toUInt8 :: Lx.u8s r) = _
  unfold Lib.parseIntB
  simp only [e]
  rw [if_neg (show ¬ (c.toNat = 43 ∨ c.toNat = 45) by omega)]
  have hB : Lib.parseUintB 64 (c.toNat.toUInt8 :: Lx.u8s r) = _ := hB
  rw [hB]
  by_cases h1 : dv 0 (c :: r) ≤ 18446744073709551615
  ·have h1' : dv ((0 : Nat) : Int) (c :: r) ≤ 18446744073709551615 := h1
   rw [if_pos h1']
   show (if ¬ (c.toNat = 45) ∧ 2 ^ (64 - 1) ≤ (dv 0 (c :: r)).toNat then Lib.NumEnd.range else _) = _
   by_cases h2 : dv 0 (c :: r) < 9223372036854775808
   ·rw [if_neg (by omega), if_neg (by omega), if_neg (by omega), if_pos h2]
    congr 1
    show ((dv 0 (c :: r)).toNat : Int) = _
    omega
   ·rw [if_pos (by constructor <;> omega), if_neg h2]
  ·have h1' : ¬ dv ((0 : Nat) : Int) (c :: r) ≤ 18446744073709551615 := h1
   rw [if_neg h1', if_neg (by omega)]
 unfold Lx.ad6
 rw [show (decide ((10 : Int) = 10) && decide ((64 : Int) = 64) && fits (c :: r).length) = true by rw [Z1 (show (c :: r).length ≤ lim by unfold lim; omega)]; rfl, cond_true]
 simp only [hI]
 by_cases h2 : dv 0 (c :: r) < 9223372036854775808
 ·rw [if_pos h2, show decide (dv 0 (c :: r) < 9223372036854775808) = true from decide_eq_true h2]
  exact ⟨0, rfl⟩
 ·rw [if_neg h2, show decide (dv 0 (c :: r) < 9223372036854775808) = false from decide_eq_false h2]
  exact ⟨Lib.intSat 64 (Lx.u8s (c :: r)), rfl⟩
theorem chk {ρ : Type} {s : List Int} {j : Nat} {c : Int} (hc : c ≠ 0) {A B : Option ρ} : brk (decide ((j : Int) < (s.length : Int))) (brk (decide ((0 : Int) ≤ (j : Int)) && decide ((j : Int) < (s.length : Int))) (brk (decide (s.getD (j : Int).toNat 0 = c)) A B) none) B = brk (decide (get s j = c)) A B := by
 by_cases h : j < s.length
 ·rw [l7 (by simpa using h), l7 (n8 h)]; rfl
 ·rw [q8 (by simpa using h), q8 (by rw [M9 (by omega)]; simpa using (Ne.symm hc))]
def W8 (s : List Int) (i j : Nat) (flt : Bool) : j7.den :=
 bif flt || !decide (dv 0 (J8 s i j) < 9223372036854775808) then (3, (i : Int), (j : Int), 0, 0, J8 s i j, ()) else (2, (i : Int), (j : Int), 0, dv 0 (J8 s i j), ([] : List Int), ())
def digits (s : List Int) (i j : Nat) : Prop := ∀ c ∈ J8 s i j, r6 c = true
variable {s : List Int} (hs : s.length ≤ 2097152)
include hs
theorem ag6 {i j w : Nat} (hij : i < j) (hj : j ≤ s.length) (hd : j = w → digits s i j) :
  Evt fun n => C4 (S.tab n) s (i : Int) (2, (i : Int), 0, 0, 0, ([] : List Int), ()) (j : Int) (w : Int) = some (Sum.inl (W8 s i j (!decide (j = w)), false, ())) := by
 refine r8.up fun n hb => ?_
 show C4 (S.step (S.tab n)) _ _ _ _ _ = _
 have hbd := F0 (n := s.length) (i := i) (e := j) (by omega) hj
 rw [aA2, l7 hbd, ah7]
 by_cases h : j = w
 ·rw [l7 (by simp only [decide_eq_true_eq]; omega)]
  obtain ⟨v, hv⟩ := bd9 (hd h) (fun e => by have := congrArg List.length e; rw [X8 hj] at this; simp at this; omega) (by rw [X8 hj]; omega)
  rw [hv]
  simp only [Option.bind_some]
  unfold W8
  rw [show decide (j = w) = true from decide_eq_true h]
  cases decide (dv 0 (J8 s i j) < 9223372036854775808) with
  | true => rw [l7 rfl]; rfl
  | false => rw [q8 rfl, l7 hbd]; rfl
 ·rw [q8 (by simp only [decide_eq_false_iff_not]; omega), l7 hbd]
  unfold W8
  rw [show decide (j = w) = false from decide_eq_false h]; rfl
omit hs in
theorem aE7 (t : j7.den) (ht : t.1 = 3) (t4 : j7.den) (j v k : Int) : Evt fun n => r5 (S.tab n) s t t4 j v k = some (Sum.inl (s, t, t4, j, v, ())) := by
 refine r8.up fun n hb => ?_
 show r5 (S.step (S.tab n)) _ _ _ _ _ _ = _
 rw [F1]
 cases h : decide (k < j) with
 | false => rw [q8 rfl]
 | true => rw [l7 rfl, q8 (by rw [ht]; rfl)]
theorem ao9 {i j : Nat} (hj : j ≤ s.length) (r : Int × Int × Int × Int × List Int × Unit) (t4 : j7.den) : ∀ (d k : Nat), k + d = j → i ≤ k → digits s i j → dv 0 (J8 s i k) < 9223372036854775808 → digits s i k →
  Evt fun n => ∃ v, r5 (S.tab n) s (2, r) t4 (j : Int) (dv 0 (J8 s i k)) (k : Int) = some (Sum.inl (s, (bif decide (dv 0 (J8 s i j) < 9223372036854775808) then 2 else 3, r), t4, (j : Int), v, ())) ∧ (dv 0 (J8 s i j) < 9223372036854775808 → v = dv 0 (J8 s i j))
 | 0, k, e, hk, hd, hv, hdk => by
  obtain rfl : k = j := by omega
  refine r8.up fun n hb => ⟨_, ?_, fun _ => rfl⟩
  show r5 (S.step (S.tab n)) _ _ _ _ _ _ = _
  rw [F1, q8 (by simp), decide_eq_true hv]; rfl
 | d + 1, k, e, hk, hd, hv, hdk => by
  have hkl : k < s.length := by omega
  have hc : r6 (get s k) = true := by
   refine hd _ ?_
   obtain ⟨m, rfl⟩ : ∃ m, j = k + 1 + m := ⟨j - (k + 1), by omega⟩
   clear hd
   unfold J8 get
   rw [List.mem_iff_getElem?]
   refine ⟨k - i, ?_⟩
   rw [List.getElem?_drop, List.getElem?_take, if_pos (by omega), List.getD_eq_getElem?_getD]
   rw [show i + (k - i) = k by omega, List.getElem?_eq_getElem hkl]; rfl
  have hdg := dig hc
  have h0 := bd1 (J8 s i k) 0 (Int.le_refl 0) hdk
  have hs1 : J8 s i (k + 1) = J8 s i k ++ [get s k] := W0 hk hkl
  have hdk1 : digits s i (k + 1) := by
   intro x hx
   rw [hs1] at hx
   rcases List.mem_append.1 hx with hx | hx
   ·exact hdk x hx
   ·have : x = get s k := by simpa using hx
    rw [this]; exact hc
  have hv1 : dv 0 (J8 s i (k + 1)) = dv 0 (J8 s i k) * 10 + (get s k - 48) := by rw [hs1, bF0]
  have hmono : dv 0 (J8 s i (k + 1)) ≤ dv 0 (J8 s i j) := by
   have e1 : J8 s i j = J8 s i (k + 1) ++ J8 s (k + 1) j := by
    unfold J8
    have : (s.take j) = s.take (k + 1) ++ (s.take j).drop (k + 1) := by
     conv => lhs; rw [← List.take_append_drop (k + 1) (s.take j)]
     rw [List.take_take, Nat.min_eq_left (by omega)]
    conv => lhs; rw [this]
    rw [List.drop_append_of_le_length (by simp; omega)]
   rw [e1]
   have := bd1 (J8 s (k + 1) j) (dv 0 (J8 s i (k + 1))) (bd1 _ 0 (Int.le_refl 0) hdk1) (fun c hc => hd c (by rw [e1]; exact List.mem_append_right _ hc))
   unfold dv at this ⊢
   rw [List.foldl_append]; exact this
  have over : ¬ dv 0 (J8 s i (k + 1)) < 9223372036854775808 → ∀ v : Int, Evt fun n => ∃ v', r5 (S.tab n) s (3, r) t4 (j : Int) v ((k + 1 : Nat) : Int) = some (Sum.inl (s, (bif decide (dv 0 (J8 s i j) < 9223372036854775808) then 2 else 3, r), t4, (j : Int), v', ())) ∧ (dv 0 (J8 s i j) < 9223372036854775808 → v' = dv 0 (J8 s i j)) := fun h v => by
   refine (aE7 (s := s) (3, r) rfl t4 j v ((k + 1 : Nat) : Int)).mono fun n h' => ⟨v, ?_, fun h2 => by omega⟩
   rw [h', decide_eq_false (show ¬ dv 0 (J8 s i j) < 9223372036854775808 by omega)]; rfl
  have w1 : IntKind.u8.wrap (get s k - 48) = get s k - 48 := a43 _ (by omega) (by omega)
  have w2 : IntKind.i64.wrap ((k : Int) + 1) = ((k + 1 : Nat) : Int) := I3 (by omega)
  have h22 : decide (((2, r) : j7.den).1 = 2) = true := rfl
  have hlt : decide ((k : Int) < (j : Int)) = true := by simp only [decide_eq_true_eq]; omega
  by_cases h1 : 922337203685477580 < dv 0 (J8 s i k)
  ·refine (over (by omega) (IntKind.u64.wrap (IntKind.u64.wrap (dv 0 (J8 s i k) * 10) + IntKind.u64.wrap (IntKind.u8.wrap (get s k - 48))))).up fun n h => ?_
   show ∃ v, r5 (S.step (S.tab n)) _ _ _ _ _ _ = _ ∧ _
   rw [F1, l7 hlt, l7 h22, l7 (decide_eq_true h1), l7 (n8 hkl), n9, w2]
   exact h
  ·by_cases h2 : dv 0 (J8 s i k) = 922337203685477580
   ·by_cases h3 : 55 < get s k
    ·refine (over (by omega) (IntKind.u64.wrap (IntKind.u64.wrap (dv 0 (J8 s i k) * 10) + IntKind.u64.wrap (IntKind.u8.wrap (get s k - 48))))).up fun n h => ?_
     show ∃ v, r5 (S.step (S.tab n)) _ _ _ _ _ _ = _ ∧ _
     rw [F1, l7 hlt, l7 h22, q8 (decide_eq_false h1), l7 (decide_eq_true h2), l7 (n8 hkl), n9, l7 (decide_eq_true h3), l7 (n8 hkl), w2]
     exact h
    ·have ih := ao9 hj r t4 d (k + 1) (by omega) (by omega) hd (by omega) hdk1
     refine ih.up fun n h => ?_
     show ∃ v, r5 (S.step (S.tab n)) _ _ _ _ _ _ = _ ∧ _
     rw [F1, l7 hlt, l7 h22, q8 (decide_eq_false h1), l7 (decide_eq_true h2), l7 (n8 hkl), n9, q8 (decide_eq_false h3), l7 (n8 hkl), w2, w1]
     rw [aG6 (_ * 10) (by omega) (by omega), aG6 (get s k - 48) (by omega) (by omega), aG6 _ (by omega) (by omega), ← hv1]
     exact h
   ·have ih := ao9 hj r t4 d (k + 1) (by omega) (by omega) hd (by omega) hdk1
    refine ih.up fun n h => ?_
    show ∃ v, r5 (S.step (S.tab n)) _ _ _ _ _ _ = _ ∧ _
    rw [F1, l7 hlt, l7 h22, q8 (decide_eq_false h1), q8 (decide_eq_false h2), l7 (n8 hkl), n9, w2, w1]
    rw [aG6 (_ * 10) (by omega) (by omega), aG6 (get s k - 48) (by omega) (by omega), aG6 _ (by omega) (by omega), ← hv1]
    exact h
omit hs in
theorem aF7 {i j : Nat} (hij : i < j) (hj : j ≤ s.length) (t4 : j7.den) :
  Evt fun n => A0 (S.tab n) s (3, (i : Int), 0, 0, 0, ([] : List Int), ()) t4 (j : Int) = some (Sum.inl (W8 s i j true, -1, ())) := by
 have hl := aE7 (s := s) (3, (i : Int), (j : Int), 0, 0, ([] : List Int), ()) rfl t4 j 0 i
 refine hl.up fun n h => ?_
 show A0 (S.step (S.tab n)) _ _ _ _ = _
 rw [aa1]
 simp only
 rw [h]
 simp only [Option.bind_some, A9, Sum.elim_inl]
 rw [l7 (by simp), l7 (F0 (by omega) hj)]; rfl
theorem a86 {i j : Nat} (hij : i < j) (hj : j ≤ s.length) (t4 : j7.den) (hd : digits s i j) :
  Evt fun n => A0 (S.tab n) s (2, (i : Int), 0, 0, 0, ([] : List Int), ()) t4 (j : Int) = some (Sum.inl (W8 s i j false, -1, ())) := by
 have hl := ao9 hs hj ((i : Int), (j : Int), 0, 0, ([] : List Int), ()) t4 (j - i) i (by omega) (by omega) hd (by rw [ab2]; decide) (by intro c hc; rw [ab2] at hc; cases hc)
 rw [ab2] at hl
 have h0 := bd1 (J8 s i j) 0 (Int.le_refl 0) hd
 refine hl.up fun n ⟨v, h, hv⟩ => ?_
 show A0 (S.step (S.tab n)) _ _ _ _ = _
 rw [aa1]
 simp only
 have h : r5 (S.tab n) s (2, (i : Int), (j : Int), 0, 0, ([] : List Int), ()) t4 (j : Int) 0 (i : Int) = _ := h
 rw [h]
 simp only [Option.bind_some, A9, Sum.elim_inl]
 unfold W8
 rw [Bool.false_or]
 cases hlt : decide (dv 0 (J8 s i j) < 9223372036854775808) with
 | true =>
  rw [decide_eq_true_eq] at hlt
  rw [q8 (by rfl), hv hlt, wrap64 _ (by omega) (by omega)]; rfl
 | false =>
  rw [l7 (by rfl), l7 (F0 (by omega) hj)]; rfl
end Go.Abs.D
end

section
namespace Go.Abs.D
def aq6 (s : List Int) (j : Nat) : Nat := bif decide (get s (j + 1) = 43) || decide (get s (j + 1) = 45) then j + 2 else j + 1
def a77 (s : List Int) (i j : Nat) (flt : Bool) : Nat ⊕ j7.den :=
 bif decide (get s j = 101) then bif r6 (get s (aq6 s j)) then .inr (W8 s i (ax6 s (aq6 s j)) true) else .inl (aq6 s j) else .inr (W8 s i j flt)
def a95 (s : List Int) (i j : Nat) : Nat ⊕ j7.den :=
 bif decide (get s j = 46) && r6 (get s (j + 1)) then a77 s i (ax6 s (j + 1)) true else a77 s i j false
def W4 (s : List Int) (i : Nat) : Nat ⊕ j7.den :=
 bif decide (get s i = 48) && decide (get s (i + 1) = 120) then S1 s i else a95 s i (bif decide (get s i = 48) then i + 1 else ax6 s (i + 1))
theorem ah5 {s : List Int} {j : Nat} (h : j ≤ s.length) : ax6 s j ≤ s.length := at1 ai5 _ _ h
theorem ah1 (s : List Int) (j : Nat) : j ≤ ax6 s j := al5 _ _
theorem M6 {s : List Int} {j : Nat} {c : Int} (h : get s j = c) (hc : c ≠ 0) : j < s.length := by
 rcases Nat.lt_or_ge j s.length with h' | h'
 ·exact h'
 ·rw [M9 h'] at h; exact absurd h.symm hc
theorem ac2 {s : List Int} {j : Nat} (h : r6 (get s j) = true) : j < s.length := by
 rcases Nat.lt_or_ge j s.length with h' | h'
 ·exact h'
 ·rw [M9 h'] at h; cases h
theorem aT0 {s : List Int} {i j : Nat} (h : j ≤ s.length) (hi : i ≤ j) (hd : digits s i j) : digits s i (ax6 s j) := by
 have hle := ah5 h
 have hge := ah1 s j
 obtain ⟨m, hm⟩ : ∃ m, ax6 s j = i + m := ⟨ax6 s j - i, by omega⟩
 intro c hc
 rw [hm] at hc
 refine a01 (p := r6) (a := i) m (by omega) (fun k h1 h2 => ?_) c hc
 rcases Nat.lt_or_ge k j with h3 | h3
 ·refine hd _ ?_
  unfold J8 get
  rw [List.mem_iff_getElem?]
  refine ⟨k - i, ?_⟩
  rw [List.getElem?_drop, List.getElem?_take, if_pos (by omega), List.getD_eq_getElem?_getD]
  rw [show i + (k - i) = k by omega, List.getElem?_eq_getElem (by omega)]; rfl
 ·exact ar4 (q := dq s) s.length j k h3 (by show k < ax6 s j; omega)
variable {s : List Int} (hs : s.length ≤ 2097152)
include hs
theorem be2 {i k w : Nat} (hi : i ≤ 2097152) (hk : k ≤ s.length) : Evt fun n => G9 (S.tab n) s (i : Int) (2, (i : Int), 0, 0, 0, ([] : List Int), ()) (k : Int) (w : Int) =
  some (bif r6 (get s k) then Sum.inr (Sum.inl (s, (i : Int), (2, (i : Int), 0, 0, 0, ([] : List Int), ()), (ax6 s k : Int), (w : Int), ())) else Sum.inl ((2, (i : Int), (k : Int), 0, 0, ([] : List Int), ()), true, ())) := by
 refine ((az5 hs (i : Int) (2, (i : Int), 0, 0, 0, ([] : List Int), ()) (w : Int) k).and r8).up fun n ⟨h, hb⟩ => ?_
 show G9 (S.step (S.tab n)) _ _ _ _ _ = _
 rw [az3]
 by_cases hl : k < s.length
 ·rw [q8 (by simp only [decide_eq_false_iff_not]; omega), l7 (n8 hl), n9, hb.idigit, h]
  simp only [Option.bind_some, A9, Sum.elim_inl]
  cases r6 (get s k) with
  | true => rw [q8 (by rfl)]; rfl
  | false => rw [l7 (by rfl)]; rfl
 ·rw [l7 (by simp only [decide_eq_true_eq]; omega), M9 (by omega)]; rfl
theorem aK9 {i j w : Nat} (hij : i < w) (hw : w ≤ j) (hj : j ≤ s.length) (hd : j = w → digits s i j) :
  Evt fun n => ∃ t' b, E4 (S.tab n) s (i : Int) (2, (i : Int), 0, 0, 0, ([] : List Int), ()) (j : Int) (w : Int) = some (Sum.inl (t', b, ())) ∧ IR k23 (a77 s i j (!decide (j = w))) t' b := by
 have e1 : IntKind.i64.wrap ((j : Int) + 1) = ((j + 1 : Nat) : Int) := I3 (by omega)
 have e2 : IntKind.i64.wrap (((j + 1 : Nat) : Int) + 1) = ((j + 2 : Nat) : Int) := I3 (by omega)
 by_cases he : get s j = 101
 ·have hjl := M6 he (by decide)
  have hkl : aq6 s j ≤ s.length := by
   unfold aq6
   by_cases h : get s (j + 1) = 43
   ·have := M6 h (by decide)
    rw [decide_eq_true h]; simp only [Bool.true_or, cond_true]; omega
   ·by_cases h' : get s (j + 1) = 45
    ·have := M6 h' (by decide)
     rw [decide_eq_true h']; simp only [Bool.or_true, cond_true]; omega
    ·rw [decide_eq_false h, decide_eq_false h']; simp only [Bool.or_false, cond_false]; omega
  have hkj : j < aq6 s j := by unfold aq6; cases decide (get s (j + 1) = 43) || decide (get s (j + 1) = 45) <;> simp
  have key : ∀ T, E4 (S.step T) s (i : Int) (2, (i : Int), 0, 0, 0, ([] : List Int), ()) (j : Int) (w : Int) = (G9 T s (i : Int) (2, (i : Int), 0, 0, 0, ([] : List Int), ()) (aq6 s j : Int) (w : Int)).bind (N0 (fun y26 => some (Sum.inl y26)) (fun y26 => (C4 T y26.1 y26.2.1 y26.2.2.1 y26.2.2.2.1 y26.2.2.2.2.1).bind (A9 (fun y31 => some (Sum.inl y31))))) := fun T => by
   rw [ag2, chk (by decide), l7 (decide_eq_true he), e1, e2]
   unfold aq6
   by_cases hl : j + 1 < s.length
   ·rw [l7 (by simp only [decide_eq_true_eq]; omega), l7 (n8 hl), l7 (n8 hl), n9]
    by_cases h : get s (j + 1) = 43
    ·rw [l7 (decide_eq_true h), decide_eq_true h]; rfl
    ·rw [q8 (decide_eq_false h), decide_eq_false h]
     by_cases h' : get s (j + 1) = 45
     ·rw [l7 (decide_eq_true h'), decide_eq_true h']; rfl
     ·rw [q8 (decide_eq_false h'), decide_eq_false h']; rfl
   ·rw [q8 (by simp only [decide_eq_false_iff_not]; omega), M9 (by omega)]; rfl
  have hex : a77 s i j (!decide (j = w)) = bif r6 (get s (aq6 s j)) then .inr (W8 s i (ax6 s (aq6 s j)) true) else .inl (aq6 s j) := by
   unfold a77; rw [decide_eq_true he]; rfl
  have h26 := be2 hs (i := i) (w := w) (by omega) hkl
  have hge := ah1 s (aq6 s j)
  have h31 := ag6 hs (i := i) (j := ax6 s (aq6 s j)) (w := w) (by omega) (ah5 hkl) (fun e => by omega)
  refine (h26.and h31).up fun n ⟨h, h'⟩ => ?_
  show ∃ t' b, E4 (S.step (S.tab n)) _ _ _ _ _ = _ ∧ _
  rw [key, h, hex]
  cases hdg : r6 (get s (aq6 s j)) with
  | true =>
   simp only [cond_true, Option.bind_some, N0, Sum.elim_inr, Sum.elim_inl]
   rw [h', decide_eq_false (show ¬ ax6 s (aq6 s j) = w by omega)]
   first | exact ⟨_, _, rfl, rfl, rfl⟩ | exact ⟨_, _, rfl, rfl, rfl, rfl⟩
  | false =>
   simp only [cond_false, Option.bind_some, N0, Sum.elim_inl]
   first | exact ⟨_, _, rfl, rfl, rfl⟩ | exact ⟨_, _, rfl, rfl, rfl, rfl⟩
 ·have hex : a77 s i j (!decide (j = w)) = .inr (W8 s i j (!decide (j = w))) := by
   unfold a77; rw [decide_eq_false he]; rfl
  refine (ag6 hs (by omega) hj hd).up fun n h => ?_
  show ∃ t' b, E4 (S.step (S.tab n)) _ _ _ _ _ = _ ∧ _
  rw [ag2, chk (by decide), q8 (decide_eq_false he), h, hex]
  first | exact ⟨_, _, rfl, rfl, rfl⟩ | exact ⟨_, _, rfl, rfl, rfl, rfl⟩
theorem aK5 {i j : Nat} (hij : i < j) (hj : j ≤ s.length) (hd : digits s i j) :
  Evt fun n => ∃ t' b, C8 (S.tab n) s (i : Int) (2, (i : Int), 0, 0, 0, ([] : List Int), ()) (j : Int) = some (Sum.inl (t', b, ())) ∧ IR k23 (a95 s i j) t' b := by
 have e1 : IntKind.i64.wrap ((j : Int) + 1) = ((j + 1 : Nat) : Int) := I3 (by omega)
 by_cases hf : get s j = 46 ∧ r6 (get s (j + 1)) = true
 ·have hl := ac2 hf.2
  have hge := ah1 s (j + 1)
  have hle := ah5 (s := s) (j := j + 1) (by omega)
  have h20 := aA4 hs (i : Int) (2, (i : Int), 0, 0, 0, ([] : List Int), ()) (j : Int) (j + 1)
  have h22 := aK9 hs (i := i) (j := ax6 s (j + 1)) (w := j) hij (by omega) hle (fun e => by omega)
  refine ((h20.and h22).and r8).up fun n ⟨⟨h, t', b, h', hr⟩, hb⟩ => ?_
  show ∃ t' b, C8 (S.step (S.tab n)) _ _ _ _ = _ ∧ _
  rw [ag0, e1, l7 (by simp only [decide_eq_true_eq]; omega), l7 (n8 (show j < s.length by omega)), n9, l7 (decide_eq_true hf.1), l7 (n8 hl), n9, hb.idigit, hf.2]
  simp only [Option.bind_some]
  rw [l7 rfl, h]
  simp only [Option.bind_some, A9, Sum.elim_inl]
  rw [h']
  refine ⟨t', b, rfl, ?_⟩
  rw [decide_eq_false (show ¬ ax6 s (j + 1) = j by omega)] at hr
  unfold a95
  rw [decide_eq_true hf.1, hf.2]; exact hr
 ·have hfr : a95 s i j = a77 s i j (!decide (j = j)) := by
   unfold a95
   rw [decide_eq_true (show j = j from rfl)]
   by_cases h : get s j = 46
   ·have : r6 (get s (j + 1)) = false := by
     cases hx : r6 (get s (j + 1)) with
     | true => exact absurd ⟨h, hx⟩ hf
     | false => rfl
    rw [this, Bool.and_false]; rfl
   ·rw [decide_eq_false h]; rfl
  have h22 := aK9 hs (i := i) (j := j) (w := j) hij (by omega) hj (fun _ => hd)
  rw [hfr]
  refine (h22.and r8).up fun n ⟨⟨t', b, h', hr⟩, hb⟩ => ?_
  show ∃ t' b, C8 (S.step (S.tab n)) _ _ _ _ = _ ∧ _
  refine ⟨t', b, ?_, hr⟩
  rw [ag0, e1]
  by_cases hl : j + 1 < s.length
  ·rw [l7 (by simp only [decide_eq_true_eq]; omega), l7 (n8 (show j < s.length by omega)), n9]
   by_cases h : get s j = 46
   ·have : r6 (get s (j + 1)) = false := by
     cases hx : r6 (get s (j + 1)) with
     | true => exact absurd ⟨h, hx⟩ hf
     | false => rfl
    rw [l7 (decide_eq_true h), l7 (n8 hl), n9, hb.idigit, this]
    simp only [Option.bind_some]
    rw [q8 rfl, h']; rfl
   ·rw [q8 (decide_eq_false h), h']; rfl
  ·rw [q8 (by simp only [decide_eq_false_iff_not]; omega), h']; rfl
omit hs in
theorem aq4 {i : Nat} (hi : i < s.length) (h : r6 (get s i) = true) : digits s i (i + 1) := by
 intro c hc
 rw [W0 (Nat.le_refl _) hi, ab2] at hc
 have : c = get s i := by simpa using hc
 rw [this]; exact h
theorem aR1 {i : Nat} (hi : i < s.length) (hd : r6 (get s i) = true) : Evt fun n => ∃ t' b, P7 (S.tab n) s (i : Int) = some ((t', b, ()), B9) ∧ IR k23 (W4 s i) t' b := by
 by_cases h0 : get s i = 48
 ·by_cases hx : get s (i + 1) = 120
  ·have hl := M6 hx (by decide)
   have : W4 s i = S1 s i := by unfold W4; rw [decide_eq_true h0, decide_eq_true hx]; rfl
   rw [this]
   exact aJ9 hs (by omega) h0 hx
  ·have e : W4 s i = a95 s i (i + 1) := by unfold W4; rw [decide_eq_true h0, decide_eq_false hx]; rfl
   rw [e]
   have e1 : IntKind.i64.wrap ((i : Int) + 1) = ((i + 1 : Nat) : Int) := I3 (by omega)
   refine (aK5 hs (i := i) (j := i + 1) (by omega) (by omega) (aq4 hi hd)).up fun n ⟨t', b, h', hr⟩ => ⟨t', b, ?_, hr⟩
   show P7 (S.step (S.tab n)) _ _ = _
   rw [X7, e1, l7 (n8 hi), n9, l7 (decide_eq_true h0)]
   by_cases hl : i + 1 < s.length
   ·rw [l7 (by simp only [decide_eq_true_eq]; omega), l7 (n8 hl), n9, q8 (decide_eq_false hx), l7 (n8 hi), q8 (by rw [decide_eq_true h0]; rfl), h']; rfl
   ·rw [q8 (by simp only [decide_eq_false_iff_not]; omega), l7 (n8 hi), q8 (by rw [decide_eq_true h0]; rfl), h']; rfl
 ·have e : W4 s i = a95 s i (ax6 s (i + 1)) := by unfold W4; rw [decide_eq_false h0]; rfl
  rw [e]
  have e1 : IntKind.i64.wrap ((i : Int) + 1) = ((i + 1 : Nat) : Int) := I3 (by omega)
  have hge := ah1 s (i + 1)
  have hle := ah5 (s := s) (j := i + 1) (by omega)
  have h15 := aA9 hs (i : Int) (2, (i : Int), 0, 0, 0, ([] : List Int), ()) (i + 1)
  refine (h15.and (aK5 hs (i := i) (j := ax6 s (i + 1)) (by omega) hle (aT0 (by omega) (by omega) (aq4 hi hd)))).up fun n ⟨h, t', b, h', hr⟩ => ⟨t', b, ?_, hr⟩
  show P7 (S.step (S.tab n)) _ _ = _
  rw [X7, e1, l7 (n8 hi), n9, q8 (decide_eq_false h0), l7 (n8 hi), l7 (by rw [decide_eq_false h0]; rfl), h]
  simp only [Option.bind_some, A9, Sum.elim_inl]
  rw [h']; rfl
theorem aw1 {i j : Nat} (f : Bool) (hij : i < j) (hj : j ≤ s.length) (t4 : j7.den) (hd : f = false → digits s i j) :
  Evt fun n => ∃ t' b, A2 (S.tab n) s (bif f then 3 else 2, (i : Int), 0, 0, 0, ([] : List Int), ()) t4 (j : Int) = some (Sum.inl (t', b, ())) ∧ SR k23 (a77 s i j f) t' b := by
 have e1 : IntKind.i64.wrap ((j : Int) + 1) = ((j + 1 : Nat) : Int) := I3 (by omega)
 have e2 : IntKind.i64.wrap (((j + 1 : Nat) : Int) + 1) = ((j + 2 : Nat) : Int) := I3 (by omega)
 by_cases he : get s j = 101
 ·have hjl := M6 he (by decide)
  have hkj : j < aq6 s j := by unfold aq6; cases decide (get s (j + 1) = 43) || decide (get s (j + 1) = 45) <;> simp
  have hex : a77 s i j f = bif r6 (get s (aq6 s j)) then .inr (W8 s i (ax6 s (aq6 s j)) true) else .inl (aq6 s j) := by
   unfold a77; rw [decide_eq_true he]; rfl
  have key : ∀ n, Base2 (S.tab n) → A2 (S.step (S.tab n)) s (bif f then 3 else 2, (i : Int), 0, 0, 0, ([] : List Int), ()) t4 (j : Int) =
    brk (!r6 (get s (aq6 s j))) (some (Sum.inl ((3, (i : Int), 0, 0, 0, ([] : List Int), ()), (aq6 s j : Int), ()))) ((A1 (S.tab n) s (3, (i : Int), 0, 0, 0, ([] : List Int), ()) t4 (aq6 s j : Int)).bind (A9 (fun y21 => (A0 (S.tab n) y21.1 y21.2.1 y21.2.2.1 y21.2.2.2.1).bind (A9 (fun y23 => some (Sum.inl y23)))))) := fun n hb => by
   rw [aa3, hb.look]
   simp only [Option.bind_some]
   rw [l7 (decide_eq_true he), e1, e2, hb.look]
   simp only [Option.bind_some]
   unfold aq6
   by_cases h' : get s (j + 1) = 45
   ·rw [l7 (decide_eq_true h'), decide_eq_true h', Bool.or_true, hb.look]
    simp only [Option.bind_some, hb.sdigit, cond_true]
   ·rw [q8 (decide_eq_false h'), decide_eq_false h', Bool.or_false]
    by_cases h : get s (j + 1) = 43
    ·rw [l7 (decide_eq_true h), decide_eq_true h, hb.look]
     simp only [Option.bind_some, hb.sdigit, cond_true]
    ·rw [q8 (decide_eq_false h), decide_eq_false h]
     simp only [Option.bind_some, hb.sdigit, cond_false]
  cases hdg : r6 (get s (aq6 s j)) with
  | true =>
   have hl := ac2 hdg
   have hge := ah1 s (aq6 s j)
   have h21 := as1 hs (3, (i : Int), 0, 0, 0, ([] : List Int), ()) t4 (aq6 s j)
   have h23 := aF7 (s := s) (i := i) (j := ax6 s (aq6 s j)) (by omega) (ah5 (by omega)) t4
   refine ((h21.and h23).and r8).up fun n ⟨⟨h, h'⟩, hb⟩ => ?_
   show ∃ t' b, A2 (S.step (S.tab n)) _ _ _ _ = _ ∧ _
   rw [key n hb, hex, hdg, q8 (by rfl), h]
   simp only [cond_true, Option.bind_some, A9, Sum.elim_inl]
   rw [h']
   first | exact ⟨_, _, rfl, rfl, rfl⟩ | exact ⟨_, _, rfl, rfl, rfl, rfl⟩
  | false =>
   refine r8.up fun n hb => ?_
   show ∃ t' b, A2 (S.step (S.tab n)) _ _ _ _ = _ ∧ _
   rw [key n hb, hex, hdg, l7 (by rfl)]
   exact ⟨_, _, rfl, rfl, rfl⟩
 ·have hex : a77 s i j f = .inr (W8 s i j f) := by
   unfold a77; rw [decide_eq_false he]; rfl
  have h23 : Evt fun n => A0 (S.tab n) s (bif f then 3 else 2, (i : Int), 0, 0, 0, ([] : List Int), ()) t4 (j : Int) = some (Sum.inl (W8 s i j f, -1, ())) := by
   cases f with
   | true => exact aF7 (s := s) hij hj t4
   | false => exact a86 hs hij hj t4 (hd rfl)
  refine (h23.and r8).up fun n ⟨h, hb⟩ => ?_
  show ∃ t' b, A2 (S.step (S.tab n)) _ _ _ _ = _ ∧ _
  rw [aa3, hb.look]
  simp only [Option.bind_some]
  rw [q8 (decide_eq_false he), h, hex]
  first | exact ⟨_, _, rfl, rfl, rfl⟩ | exact ⟨_, _, rfl, rfl, rfl, rfl⟩
theorem aU7 {i j : Nat} (hij : i < j) (hj : j ≤ s.length) (t4 : j7.den) (hd : digits s i j) :
  Evt fun n => ∃ t' b, D3 (S.tab n) s (2, (i : Int), 0, 0, 0, ([] : List Int), ()) t4 (j : Int) = some (Sum.inl (t', b, ())) ∧ SR k23 (a95 s i j) t' b := by
 have e1 : IntKind.i64.wrap ((j : Int) + 1) = ((j + 1 : Nat) : Int) := I3 (by omega)
 by_cases h : get s j = 46
 ·cases hx : r6 (get s (j + 1)) with
  | true =>
   have hl := ac2 hx
   have hge := ah1 s (j + 1)
   have hle := ah5 (s := s) (j := j + 1) (by omega)
   have h12 := as4 hs (3, (i : Int), 0, 0, 0, ([] : List Int), ()) t4 (j + 1)
   have h14 := aw1 hs (i := i) (j := ax6 s (j + 1)) true (by omega) hle t4 (fun e => by cases e)
   refine ((h12.and h14).and r8).up fun n ⟨⟨h1, t', b, h2, hr⟩, hb⟩ => ⟨t', b, ?_, ?_⟩
   ·show D3 (S.step (S.tab n)) _ _ _ _ = _
    rw [T6, hb.look]
    simp only [Option.bind_some]
    rw [l7 (decide_eq_true h), e1, hb.look]
    simp only [Option.bind_some, hb.sdigit, hx]
    rw [l7 rfl, h1]
    simp only [Option.bind_some, A9, Sum.elim_inl]
    rw [show ((3 : Int), (i : Int), (0 : Int), (0 : Int), (0 : Int), ([] : List Int), ()) = (bif true then 3 else 2, (i : Int), 0, 0, 0, ([] : List Int), ()) from rfl, h2]; rfl
   ·unfold a95
    rw [decide_eq_true h, hx]; exact hr
  | false =>
   have h14 := aw1 hs (i := i) (j := j) false hij hj t4 (fun _ => hd)
   refine (h14.and r8).up fun n ⟨⟨t', b, h2, hr⟩, hb⟩ => ⟨t', b, ?_, ?_⟩
   ·show D3 (S.step (S.tab n)) _ _ _ _ = _
    rw [T6, hb.look]
    simp only [Option.bind_some]
    rw [l7 (decide_eq_true h), e1, hb.look]
    simp only [Option.bind_some, hb.sdigit, hx]
    have h2 : A2 (S.tab n) s (2, (i : Int), 0, 0, 0, ([] : List Int), ()) t4 (j : Int) = _ := h2
    rw [q8 rfl, h2]; rfl
   ·unfold a95
    rw [hx, Bool.and_false]; exact hr
 ·have h14 := aw1 hs (i := i) (j := j) false hij hj t4 (fun _ => hd)
  refine (h14.and r8).up fun n ⟨⟨t', b, h2, hr⟩, hb⟩ => ⟨t', b, ?_, ?_⟩
  ·show D3 (S.step (S.tab n)) _ _ _ _ = _
   rw [T6, hb.look]
   simp only [Option.bind_some]
   have h2 : A2 (S.tab n) s (2, (i : Int), 0, 0, 0, ([] : List Int), ()) t4 (j : Int) = _ := h2
   rw [q8 (decide_eq_false h), h2]; rfl
  ·unfold a95
   rw [decide_eq_false h]; exact hr
theorem aG1 {i : Nat} (hi : i < s.length) (hd : r6 (get s i) = true) : Evt fun n => ∃ t' b, Q1 (S.tab n) s (0, (i : Int), 0, 0, 0, ([] : List Int), ()) = some ((t', b, ()), M5) ∧ SR k23 (W4 s i) t' b := by
 have e1 : IntKind.i64.wrap ((i : Int) + 1) = ((i + 1 : Nat) : Int) := I3 (by omega)
 by_cases h0 : get s i = 48
 ·by_cases hx : get s (i + 1) = 120
  ·have hl := M6 hx (by decide)
   have e : W4 s i = S1 s i := by unfold W4; rw [decide_eq_true h0, decide_eq_true hx]; rfl
   rw [e]
   refine ((aM1 hs (i := i) (by omega)).and r8).up fun n ⟨⟨t', b, h, hr⟩, hb⟩ => ⟨t', b, ?_, hr⟩
   show Q1 (S.step (S.tab n)) _ _ = _
   rw [Z7]
   simp only [e1]
   rw [l7 (n8 hi), n9, l7 (decide_eq_true h0), hb.look]
   simp only [Option.bind_some]
   rw [l7 (decide_eq_true hx), h]; rfl
  ·have e : W4 s i = a95 s i (i + 1) := by unfold W4; rw [decide_eq_true h0, decide_eq_false hx]; rfl
   rw [e]
   refine ((aU7 hs (i := i) (j := i + 1) (by omega) (by omega) (0, 0, 0, 0, 0, ([] : List Int), ()) (aq4 hi hd)).and r8).up fun n ⟨⟨t', b, h, hr⟩, hb⟩ => ⟨t', b, ?_, hr⟩
   show Q1 (S.step (S.tab n)) _ _ = _
   rw [Z7]
   simp only [e1]
   rw [l7 (n8 hi), n9, l7 (decide_eq_true h0), hb.look]
   simp only [Option.bind_some]
   rw [q8 (decide_eq_false hx), l7 (n8 hi), q8 (by rw [decide_eq_true h0]; rfl), h]; rfl
 ·have e : W4 s i = a95 s i (ax6 s (i + 1)) := by unfold W4; rw [decide_eq_false h0]; rfl
  rw [e]
  have hge := ah1 s (i + 1)
  have hle := ah5 (s := s) (j := i + 1) (by omega)
  have h7 := aw6 hs (2, (i : Int), 0, 0, 0, ([] : List Int), ()) (0, 0, 0, 0, 0, ([] : List Int), ()) (i + 1)
  refine (h7.and (aU7 hs (i := i) (j := ax6 s (i + 1)) (by omega) hle (0, 0, 0, 0, 0, ([] : List Int), ()) (aT0 (by omega) (by omega) (aq4 hi hd)))).up fun n ⟨h1, t', b, h, hr⟩ => ⟨t', b, ?_, hr⟩
  show Q1 (S.step (S.tab n)) _ _ = _
  rw [Z7]
  simp only [e1]
  rw [l7 (n8 hi), n9, q8 (decide_eq_false h0), l7 (n8 hi), l7 (by rw [decide_eq_false h0]; rfl), h1]
  simp only [Option.bind_some, A9, Sum.elim_inl]
  rw [h]; rfl
end Go.Abs.D
end
