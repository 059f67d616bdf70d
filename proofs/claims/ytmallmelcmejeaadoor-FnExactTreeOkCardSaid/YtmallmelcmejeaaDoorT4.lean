/- What is here: what strings.Builder's functions and IndexByte answer, as plain functions. What is here: the tables of the program and what the library's functions on numbers answer, as plain functions. -/
import Derived.Test.YtmallmelcmejeaaDoorT3
import Derived.Lib.ParseIntB
import Derived.Lib.ItoaNum
import Derived.Lib.LaidTab
import Derived.Shelf.Strconv.Itoa4
set_option linter.unusedVariables false
set_option linter.unusedSimpArgs false
set_option maxRecDepth 100000
section
namespace Go.Abs.Bld

def places : List (Nat × Nat × Nat) := [(63, 0, 2)]

@[reducible] def bp : VSp := .one (.ptr false (0, places) .bld)

def writeByteF (x : List Int × Int × Unit) : Option (Bool × List Int × Unit × Unit) := bif fits (x.1.length + 1) then some (true, x.1 ++ [x.2.1], (), ()) else none
def writeStringF (x : List Int × List Int × Unit) : Option ((Int × Bool × Unit) × List Int × Unit × Unit) := bif fits (x.1.length + x.2.1.length) then some ((x.2.1.length, true, ()), x.1 ++ x.2.1, (), ()) else none
def stringF (x : List Int × Unit) : Option (List Int × Unit × Unit) := bif fits x.1.length then some (x.1.map byte, (), ()) else none

/-- Where a byte stands first. -/
def idx : List Int → Int → Int → Int
  | [], _, _ => -1
  | x :: r, c, n => bif decide (x = c) then n else idx r c (n + 1)

def indexByteF (x : List Int × Int × Unit) : Option (Int × Unit × Unit × Unit) := some (idx x.1 (byte x.2.1) 0, (), (), ())

end Go.Abs.Bld
end

section
namespace Go.Abs.Lx

def words : List (List Int) := [[97, 110, 100], [98, 114, 101, 97, 107], [99, 97, 116, 99, 104], [99, 111, 110, 115, 116], [100, 101, 102, 101, 114], [101, 108, 105, 102], [101, 108, 115, 101], [102, 97, 108, 115, 101], [102, 110], [102, 111, 114], [105, 102], [105, 110], [108, 101, 116], [110, 101, 120, 116], [110, 105, 108], [110, 111, 116], [111, 114], [114, 101, 116, 117, 114, 110], [116, 104, 114, 111, 119], [116, 114, 117, 101], [116, 114, 121], [119, 104, 105, 108, 101]]
def signs : List (List Int) := [[40], [41], [123], [125], [91], [93], [44], [61], [46], [46, 46, 46], [35]]
def infixes : List (List Int) := [[43], [45], [42], [47], [47, 47], [37], [38], [124], [126], [60, 60], [62, 62], [46, 46], [61, 61], [126, 61], [60], [60, 61], [62], [62, 61]]

def u8s (l : List Int) : List UInt8 := l.map fun c => c.toNat.toUInt8
def ints (l : List UInt8) : List Int := l.map fun b => (b.toNat : Int)

/-- strconv.ParseInt, decimal, 64 bits. -/
def parseIntF (x : List Int × Int × Int × Unit) : Option ((Int × Bool × Unit) × Unit × Unit × Unit × Unit) :=
  bif decide (x.2.1 = 10) && decide (x.2.2.1 = 64) && fits x.1.length then
    match Lib.parseIntB 64 (u8s x.1) with
    | .ok v => some ((v, true, ()), (), (), (), ())
    | .range => some ((Lib.intSat 64 (u8s x.1), false, ()), (), (), (), ())
    | _ => none
  else none

/-- strconv.FormatInt, decimal. -/
def formatIntF (x : Int × Int × Unit) : Option (List Int × Unit × Unit × Unit) :=
  bif decide (x.2.1 = 10) && decide (-9223372036854775808 ≤ x.1) && decide (x.1 ≤ 9223372036854775807) then some (ints (Lib.itoa x.1), (), (), ()) else none

def hexDigit (n : Nat) : Int := bif Nat.blt n 10 then ((48 + n : Nat) : Int) else ((87 + n : Nat) : Int)
def hexText : Nat → Nat → List Int → List Int
  | 0, _, acc => acc
  | k + 1, n, acc => let d := hexDigit (n % 16); bif Nat.blt n 16 then d :: acc else hexText k (n / 16) (d :: acc)

/-- strconv.FormatUint where nothing is said of it. -/
def noUint (_ : Int × Int × Unit) : Option (List Int × Unit × Unit × Unit) := none

/-- strconv.FormatUint, hexadecimal, of 16 digits. -/
def formatUintF (x : Int × Int × Unit) : Option (List Int × Unit × Unit × Unit) :=
  bif decide (x.2.1 = 16) && decide (9223372036854775808 ≤ x.1) && decide (x.1 ≤ 18446744073709551615) then some (hexText 16 x.1.toNat [], (), (), ()) else none

def pow10 : List Cell := Lib.pow10Tab.map fun z => .v (.int .u64) z

def tables (k : Nat) : Option (List Cell) := bif Nat.beq k 4 then some pow10 else bif Nat.beq k 6 then some [.err false] else none

theorem u8s_bytesOf (s : ByteArray) : u8s (bytesOf s) = s.data.toList := by
  unfold u8s bytesOf
  rw [List.map_map]
  have : ((fun c : Int => c.toNat.toUInt8) ∘ fun b : UInt8 => (b.toNat : Int)) = id := by
    funext b
    simp
  rw [this, List.map_id]

theorem ints_bytesOf (l : List UInt8) : bytesOf ⟨l.toArray⟩ = ints l := rfl

end Go.Abs.Lx
end
