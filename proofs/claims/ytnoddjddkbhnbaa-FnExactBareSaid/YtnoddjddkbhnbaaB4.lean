/- What is here: small laws on loops and rows. What is here: the text of a mark. What is here: nothing of its own; what the next texts lean on. What is here: trees: sizes, copies, equality. What is here: Bare on both sides. What is here: marks written over a tree, and found again. What is here: FnExactBare, plain. What is proved: FnExactBare answers true at every tree. -/
import Derived.Test.YtnoddjddkbhnbaaB3
import Derived.Test.YtnoddjddkbhnbaaProg
import Derived.Test.YtnoddjddkbhnbaaRows
import Derived.WalkKit
import Derived.ProofKit
import Derived.OpenShut
import Derived.ShutString
import Derived.ChangeOld
import Derived.Below
import Derived.SizedLaws
import Derived.Lay
set_option linter.unusedVariables false
set_option linter.unusedSimpArgs false
set_option maxRecDepth 100000
section
set_option maxRecDepth 100000
namespace Go.Abs.D
open Go.Proofs
abbrev tyNode : Ty := (.pr (.int .i64) (.pr (.int .i64) (.pr (.int .i64) (.pr (.int .i64) (.pr (.int .i64) (.pr (.int .i64) (.pr .str (.pr (.sl .str) (.pr (.sl (.int .i64)) .un)))))))))
def sig (f : Nat) : Sig :=
  bif Nat.beq f 26 then ⟨[.one (.pub (.sl .str)), .one (.pub (.int .i64))], .val (.one (.pub (.int .i64)))⟩ else
  bif Nat.beq f 27 then ⟨[.one (.pub (.sl (.int .i64))), .one (.pub (.int .i64))], .val (.one (.pub (.int .i64)))⟩ else
  bif Nat.beq f 18 then ⟨[.agg (.pr (.pub (.int .i64)) (.pr (.pub (.int .i64)) (.pr (.pub (.int .i64)) (.pr (.pub (.int .i64)) (.pr (.pub (.int .i64)) (.pr (.pub (.int .i64)) (.pr (.pub .str) (.pr (.pub (.sl .str)) (.pr (.pub (.sl (.int .i64))) .un))))))))), .one (.pub (.int .i64))], .val (.one (.pub (.int .i64)))⟩ else
  bif Nat.beq f 11 then ⟨[.one (.pub (.sl tyNode)), .one (.pub (.int .i64))], .val (.one (.pub (.int .i64)))⟩ else
  bif Nat.beq f 4 then ⟨[.agg (.pr (.pub (.sl tyNode)) .un), .one (.pub (.int .i64))], .val (.one (.pub (.int .i64)))⟩ else
  bif Nat.beq f 28 then ⟨[.one (.pub (.sl .str))], .val (.one (.own .str true))⟩ else
  bif Nat.beq f 29 then ⟨[.one (.pub (.sl (.int .i64)))], .val (.one (.own (.int .i64) true))⟩ else
  bif Nat.beq f 19 then ⟨[.agg (.pr (.pub (.int .i64)) (.pr (.pub (.int .i64)) (.pr (.pub (.int .i64)) (.pr (.pub (.int .i64)) (.pr (.pub (.int .i64)) (.pr (.pub (.int .i64)) (.pr (.pub .str) (.pr (.pub (.sl .str)) (.pr (.pub (.sl (.int .i64))) .un)))))))))], .val (.agg (.pr (.pub (.int .i64)) (.pr (.pub (.int .i64)) (.pr (.pub (.int .i64)) (.pr (.pub (.int .i64)) (.pr (.pub (.int .i64)) (.pr (.pub (.int .i64)) (.pr (.pub .str) (.pr (.own .str true) (.pr (.own (.int .i64) true) .un))))))))))⟩ else
  bif Nat.beq f 13 then ⟨[.one (.pub (.sl tyNode))], .val (.one (.own tyNode true))⟩ else
  bif Nat.beq f 6 then ⟨[.agg (.pr (.pub (.sl tyNode)) .un)], .val (.agg (.pr (.own tyNode true) .un))⟩ else
  bif Nat.beq f 12 then ⟨[.agg (.pr (.pub (.int .i64)) (.pr (.pub (.int .i64)) (.pr (.pub (.int .i64)) (.pr (.pub (.int .i64)) (.pr (.pub (.int .i64)) (.pr (.pub (.int .i64)) (.pr (.pub .str) (.pr (.pub (.sl .str)) (.pr (.pub (.sl (.int .i64))) .un)))))))))], .val (.agg (.pr (.pub (.int .i64)) (.pr (.pub (.int .i64)) (.pr (.pub (.int .i64)) (.pr (.pub (.int .i64)) (.pr (.pub (.int .i64)) (.pr (.pub (.int .i64)) (.pr (.pub .str) (.pr (.own .str true) (.pr (.own (.int .i64) true) .un))))))))))⟩ else
  bif Nat.beq f 5 then ⟨[.agg (.pr (.pub (.sl tyNode)) .un)], .val (.agg (.pr (.own tyNode true) .un))⟩ else
  bif Nat.beq f 14 then ⟨[.agg (.pr (.pub (.int .i64)) (.pr (.pub (.int .i64)) (.pr (.pub (.int .i64)) (.pr (.pub (.int .i64)) (.pr (.pub (.int .i64)) (.pr (.pub (.int .i64)) (.pr (.pub .str) (.pr (.pub (.sl .str)) (.pr (.pub (.sl (.int .i64))) .un)))))))))], .val (.agg (.pr (.pub (.int .i64)) (.pr (.pub (.int .i64)) (.pr (.pub (.int .i64)) (.pr (.pub (.int .i64)) (.pr (.pub (.int .i64)) (.pr (.pub (.int .i64)) (.pr (.pub .str) (.pr (.own .str true) (.pr (.own (.int .i64) true) .un))))))))))⟩ else
  bif Nat.beq f 7 then ⟨[.agg (.pr (.pub (.sl tyNode)) .un)], .val (.agg (.pr (.own tyNode true) .un))⟩ else
  bif Nat.beq f 30 then ⟨[.one (.pub (.sl .str)), .one (.pub (.sl .str))], .val (.one (.pub .bool))⟩ else
  bif Nat.beq f 31 then ⟨[.one (.pub (.sl (.int .i64))), .one (.pub (.sl (.int .i64)))], .val (.one (.pub .bool))⟩ else
  bif Nat.beq f 20 then ⟨[.agg (.pr (.pub (.int .i64)) (.pr (.pub (.int .i64)) (.pr (.pub (.int .i64)) (.pr (.pub (.int .i64)) (.pr (.pub (.int .i64)) (.pr (.pub (.int .i64)) (.pr (.pub .str) (.pr (.pub (.sl .str)) (.pr (.pub (.sl (.int .i64))) .un))))))))), .agg (.pr (.pub (.int .i64)) (.pr (.pub (.int .i64)) (.pr (.pub (.int .i64)) (.pr (.pub (.int .i64)) (.pr (.pub (.int .i64)) (.pr (.pub (.int .i64)) (.pr (.pub .str) (.pr (.pub (.sl .str)) (.pr (.pub (.sl (.int .i64))) .un)))))))))], .val (.one (.pub .bool))⟩ else
  bif Nat.beq f 15 then ⟨[.one (.pub (.sl tyNode)), .one (.pub (.sl tyNode))], .val (.one (.pub .bool))⟩ else
  bif Nat.beq f 8 then ⟨[.agg (.pr (.pub (.sl tyNode)) .un), .agg (.pr (.pub (.sl tyNode)) .un)], .val (.one (.pub .bool))⟩ else
  bif Nat.beq f 21 then ⟨[.one (.pub (.int .i64))], .val (.one (.pub .str))⟩ else
  bif Nat.beq f 22 then ⟨[.one (.lnd .str true), .one (.pub (.int .i64))], .val (.one (.pub (.int .i64)))⟩ else
  bif Nat.beq f 23 then ⟨[.one (.lnd (.int .i64) true), .one (.pub (.int .i64))], .val (.one (.pub (.int .i64)))⟩ else
  bif Nat.beq f 16 then ⟨[.one (.lnd tyNode true), .one (.pub (.int .i64))], .val (.one (.pub (.int .i64)))⟩ else
  bif Nat.beq f 9 then ⟨[.agg (.pr (.lnd tyNode true) .un), .one (.pub (.int .i64))], .val (.one (.pub (.int .i64)))⟩ else
  bif Nat.beq f 24 then ⟨[.one (.pub (.sl .str)), .one (.pub (.int .i64))], .val (.one (.pub (.int .i64)))⟩ else
  bif Nat.beq f 25 then ⟨[.one (.pub (.sl (.int .i64))), .one (.pub (.int .i64))], .val (.one (.pub (.int .i64)))⟩ else
  bif Nat.beq f 17 then ⟨[.one (.pub (.sl tyNode)), .one (.pub (.int .i64))], .val (.one (.pub (.int .i64)))⟩ else
  bif Nat.beq f 10 then ⟨[.agg (.pr (.pub (.sl tyNode)) .un), .one (.pub (.int .i64))], .val (.one (.pub (.int .i64)))⟩ else
  bif Nat.beq f 3 then ⟨[.agg (.pr (.pub (.sl tyNode)) .un)], .val (.one (.pub .bool))⟩ else
  ⟨[], .none⟩
def fns : List Nat := [26, 27, 18, 11, 4, 28, 29, 19, 13, 6, 12, 5, 14, 7, 30, 31, 20, 15, 8, 21, 22, 23, 16, 9, 24, 25, 17, 10, 3]
def known (f : Nat) : Bool := fns.any (Nat.beq f)
def keep (f : Nat) : List Nat :=
  bif Nat.beq f 22 then [0] else
  bif Nat.beq f 23 then [0] else
  bif Nat.beq f 16 then [0] else
  bif Nat.beq f 9 then [0] else
  []
def isCut (f : Nat) (k : Bool) (r : Nat) : Bool := (Nat.beq f 5 && k == true && Nat.beq r 3) || (Nat.beq f 7 && k == true && Nat.beq r 3) || (Nat.beq f 11 && k == true && Nat.beq r 5) || (Nat.beq f 12 && k == true && Nat.beq r 4) || (Nat.beq f 12 && k == true && Nat.beq r 10) || (Nat.beq f 13 && k == true && Nat.beq r 3) || (Nat.beq f 15 && k == true && Nat.beq r 4) || (Nat.beq f 16 && k == true && Nat.beq r 2) || (Nat.beq f 17 && k == true && Nat.beq r 2) || (Nat.beq f 21 && k == true && Nat.beq r 4) || (Nat.beq f 22 && k == true && Nat.beq r 2) || (Nat.beq f 23 && k == true && Nat.beq r 2) || (Nat.beq f 24 && k == true && Nat.beq r 2) || (Nat.beq f 25 && k == true && Nat.beq r 2) || (Nat.beq f 26 && k == true && Nat.beq r 5) || (Nat.beq f 28 && k == true && Nat.beq r 3) || (Nat.beq f 29 && k == true && Nat.beq r 3) || (Nat.beq f 30 && k == true && Nat.beq r 4) || (Nat.beq f 31 && k == true && Nat.beq r 4)
def cut (f : Nat) (k : Bool) (r : Nat) : Cut :=
  bif (Nat.beq f 5 && k == true && Nat.beq r 3) then ⟨[2, 3, 8, 9, 10], [.one (.ptr true (28, []) (.pr (.own tyNode true) .un)), .one (.ptr true (28, []) (.pr (.own tyNode true) .un)), .one (.pub (.sl tyNode)), .one (.pub (.int .i64)), .one (.pub (.int .i64))], [⟨.exit 0, [2, 3], [.one (.ptr true (28, []) (.pr (.own tyNode true) .un)), .one (.ptr true (28, []) (.pr (.own tyNode true) .un))], []⟩], []⟩ else
  bif (Nat.beq f 7 && k == true && Nat.beq r 3) then ⟨[2, 3, 7, 8, 9], [.one (.ptr true (28, []) (.pr (.own tyNode true) .un)), .one (.ptr true (28, []) (.pr (.own tyNode true) .un)), .one (.pub (.sl tyNode)), .one (.pub (.int .i64)), .one (.pub (.int .i64))], [⟨.exit 0, [2, 3], [.one (.ptr true (28, []) (.pr (.own tyNode true) .un)), .one (.ptr true (28, []) (.pr (.own tyNode true) .un))], []⟩], []⟩ else
  bif (Nat.beq f 11 && k == true && Nat.beq r 5) then ⟨[0, 1, 5], [.one (.pub (.sl tyNode)), .one (.pub (.int .i64)), .one (.pub (.int .i64))], [⟨.ret, [4], [.one (.pub (.int .i64))], []⟩, ⟨.exit 0, [1], [.one (.pub (.int .i64))], []⟩], []⟩ else
  bif (Nat.beq f 12 && k == true && Nat.beq r 4) then ⟨[1, 2, 3, 11, 12, 13], [.one (.ptr true (38, []) (.pr (.pub (.int .i64)) (.pr (.pub (.int .i64)) (.pr (.pub (.int .i64)) (.pr (.pub (.int .i64)) (.pr (.pub (.int .i64)) (.pr (.pub (.int .i64)) (.pr (.pub .str) (.pr (.pub (.sl .str)) (.pr (.pub (.sl (.int .i64))) .un)))))))))), .one (.ptr true (38, []) (.pr (.pub (.int .i64)) (.pr (.pub (.int .i64)) (.pr (.pub (.int .i64)) (.pr (.pub (.int .i64)) (.pr (.pub (.int .i64)) (.pr (.pub (.int .i64)) (.pr (.pub .str) (.pr (.own .str true) (.pr (.own (.int .i64) true) .un)))))))))), .one (.ptr true (38, []) (.pr (.pub (.int .i64)) (.pr (.pub (.int .i64)) (.pr (.pub (.int .i64)) (.pr (.pub (.int .i64)) (.pr (.pub (.int .i64)) (.pr (.pub (.int .i64)) (.pr (.pub .str) (.pr (.own .str true) (.pr (.pub (.sl (.int .i64))) .un)))))))))), .one (.pub (.sl .str)), .one (.pub (.int .i64)), .one (.pub (.int .i64))], [⟨.exit 0, [1, 2, 3], [.one (.ptr true (38, []) (.pr (.pub (.int .i64)) (.pr (.pub (.int .i64)) (.pr (.pub (.int .i64)) (.pr (.pub (.int .i64)) (.pr (.pub (.int .i64)) (.pr (.pub (.int .i64)) (.pr (.pub .str) (.pr (.pub (.sl .str)) (.pr (.pub (.sl (.int .i64))) .un)))))))))), .one (.ptr true (38, []) (.pr (.pub (.int .i64)) (.pr (.pub (.int .i64)) (.pr (.pub (.int .i64)) (.pr (.pub (.int .i64)) (.pr (.pub (.int .i64)) (.pr (.pub (.int .i64)) (.pr (.pub .str) (.pr (.own .str true) (.pr (.own (.int .i64) true) .un)))))))))), .one (.ptr true (38, []) (.pr (.pub (.int .i64)) (.pr (.pub (.int .i64)) (.pr (.pub (.int .i64)) (.pr (.pub (.int .i64)) (.pr (.pub (.int .i64)) (.pr (.pub (.int .i64)) (.pr (.pub .str) (.pr (.own .str true) (.pr (.pub (.sl (.int .i64))) .un))))))))))], []⟩], []⟩ else
  bif (Nat.beq f 12 && k == true && Nat.beq r 10) then ⟨[2, 3, 26, 27, 28], [.one (.ptr true (38, []) (.pr (.pub (.int .i64)) (.pr (.pub (.int .i64)) (.pr (.pub (.int .i64)) (.pr (.pub (.int .i64)) (.pr (.pub (.int .i64)) (.pr (.pub (.int .i64)) (.pr (.pub .str) (.pr (.own .str true) (.pr (.own (.int .i64) true) .un)))))))))), .one (.ptr true (38, []) (.pr (.pub (.int .i64)) (.pr (.pub (.int .i64)) (.pr (.pub (.int .i64)) (.pr (.pub (.int .i64)) (.pr (.pub (.int .i64)) (.pr (.pub (.int .i64)) (.pr (.pub .str) (.pr (.own .str true) (.pr (.own (.int .i64) true) .un)))))))))), .one (.pub (.sl (.int .i64))), .one (.pub (.int .i64)), .one (.pub (.int .i64))], [⟨.exit 2, [2, 3], [.one (.ptr true (38, []) (.pr (.pub (.int .i64)) (.pr (.pub (.int .i64)) (.pr (.pub (.int .i64)) (.pr (.pub (.int .i64)) (.pr (.pub (.int .i64)) (.pr (.pub (.int .i64)) (.pr (.pub .str) (.pr (.own .str true) (.pr (.own (.int .i64) true) .un)))))))))), .one (.ptr true (38, []) (.pr (.pub (.int .i64)) (.pr (.pub (.int .i64)) (.pr (.pub (.int .i64)) (.pr (.pub (.int .i64)) (.pr (.pub (.int .i64)) (.pr (.pub (.int .i64)) (.pr (.pub .str) (.pr (.own .str true) (.pr (.own (.int .i64) true) .un))))))))))], []⟩], []⟩ else
  bif (Nat.beq f 13 && k == true && Nat.beq r 3) then ⟨[0, 3, 4], [.one (.pub (.sl tyNode)), .one (.own tyNode true), .one (.pub (.int .i64))], [⟨.exit 0, [3], [.one (.own tyNode true)], []⟩], []⟩ else
  bif (Nat.beq f 15 && k == true && Nat.beq r 4) then ⟨[0, 1, 5], [.one (.pub (.sl tyNode)), .one (.pub (.sl tyNode)), .one (.pub (.int .i64))], [⟨.ret, [4], [.one (.pub .bool)], []⟩, ⟨.exit 0, [], [], []⟩], []⟩ else
  bif (Nat.beq f 16 && k == true && Nat.beq r 2) then ⟨[0, 1, 5], [.one (.own tyNode true), .one (.pub (.int .i64)), .one (.pub (.int .i64))], [⟨.exit 0, [0, 1], [.one (.own tyNode true), .one (.pub (.int .i64))], []⟩], []⟩ else
  bif (Nat.beq f 17 && k == true && Nat.beq r 2) then ⟨[0, 1, 5], [.one (.pub (.sl tyNode)), .one (.pub (.int .i64)), .one (.pub (.int .i64))], [⟨.ret, [4], [.one (.pub (.int .i64))], []⟩, ⟨.exit 0, [1], [.one (.pub (.int .i64))], []⟩], []⟩ else
  bif (Nat.beq f 21 && k == true && Nat.beq r 4) then ⟨[0, 3], [.one (.pub (.int .i64)), .one (.pub .str)], [⟨.exit 0, [3], [.one (.pub .str)], []⟩], []⟩ else
  bif (Nat.beq f 22 && k == true && Nat.beq r 2) then ⟨[0, 1, 5], [.one (.own .str true), .one (.pub (.int .i64)), .one (.pub (.int .i64))], [⟨.exit 0, [0, 1], [.one (.own .str true), .one (.pub (.int .i64))], []⟩], []⟩ else
  bif (Nat.beq f 23 && k == true && Nat.beq r 2) then ⟨[0, 1, 5], [.one (.own (.int .i64) true), .one (.pub (.int .i64)), .one (.pub (.int .i64))], [⟨.exit 0, [0, 1], [.one (.own (.int .i64) true), .one (.pub (.int .i64))], []⟩], []⟩ else
  bif (Nat.beq f 24 && k == true && Nat.beq r 2) then ⟨[0, 1, 5], [.one (.pub (.sl .str)), .one (.pub (.int .i64)), .one (.pub (.int .i64))], [⟨.ret, [4], [.one (.pub (.int .i64))], []⟩, ⟨.exit 0, [1], [.one (.pub (.int .i64))], []⟩], []⟩ else
  bif (Nat.beq f 25 && k == true && Nat.beq r 2) then ⟨[0, 1, 5], [.one (.pub (.sl (.int .i64))), .one (.pub (.int .i64)), .one (.pub (.int .i64))], [⟨.ret, [4], [.one (.pub (.int .i64))], []⟩, ⟨.exit 0, [1], [.one (.pub (.int .i64))], []⟩], []⟩ else
  bif (Nat.beq f 26 && k == true && Nat.beq r 5) then ⟨[0, 1, 5], [.one (.pub (.sl .str)), .one (.pub (.int .i64)), .one (.pub (.int .i64))], [⟨.ret, [4], [.one (.pub (.int .i64))], []⟩, ⟨.exit 0, [1], [.one (.pub (.int .i64))], []⟩], []⟩ else
  bif (Nat.beq f 28 && k == true && Nat.beq r 3) then ⟨[0, 3, 4], [.one (.pub (.sl .str)), .one (.own .str true), .one (.pub (.int .i64))], [⟨.exit 0, [3], [.one (.own .str true)], []⟩], []⟩ else
  bif (Nat.beq f 29 && k == true && Nat.beq r 3) then ⟨[0, 3, 4], [.one (.pub (.sl (.int .i64))), .one (.own (.int .i64) true), .one (.pub (.int .i64))], [⟨.exit 0, [3], [.one (.own (.int .i64) true)], []⟩], []⟩ else
  bif (Nat.beq f 30 && k == true && Nat.beq r 4) then ⟨[0, 1, 5], [.one (.pub (.sl .str)), .one (.pub (.sl .str)), .one (.pub (.int .i64))], [⟨.ret, [4], [.one (.pub .bool)], []⟩, ⟨.exit 0, [], [], []⟩], []⟩ else
  bif (Nat.beq f 31 && k == true && Nat.beq r 4) then ⟨[0, 1, 5], [.one (.pub (.sl (.int .i64))), .one (.pub (.sl (.int .i64))), .one (.pub (.int .i64))], [⟨.ret, [4], [.one (.pub .bool)], []⟩, ⟨.exit 0, [], [], []⟩], []⟩ else
  ⟨[], [], [], []⟩
def lib (f : Nat) : Option Callee :=
  none
noncomputable def S : Sys := { P := Try.prog, glob := fun _ => none, cl := 0, sig := sig, known := known, keep := keep, isCut := isCut, cut := cut, lib := lib, bors := [(3, 7), (3, 8), (3, 10)], nest := fun f => Nat.beq f 16 }
theorem fns_ok : (fns.all S.fnOk) = true := by kernel_rfl

abbrev o_laws_szStringS : Unit × Unit × Unit := ((), ((), ()))
/-- laws.szStringS -/
def laws_szStringS (T : S.Tab) (t0 : List (List Int)) (t1 : Int) : Option (Int × Unit × Unit × Unit) := T.fn 26 (t0, t1, ())
def laws_szStringS_l5 (T : S.Tab) (t0 : List (List Int)) (t1 : Int) (t5 : Int) : Option ((Int × Unit) ⊕ (Int × Unit) ⊕ Empty) := T.pc 26 true 5 (t0, t1, t5, ())
abbrev o_laws_szIntS : Unit × Unit × Unit := ((), ((), ()))
/-- laws.szIntS -/
def laws_szIntS (T : S.Tab) (t0 : List Int) (t1 : Int) : Option (Int × Unit × Unit × Unit) := T.fn 27 (t0, t1, ())
abbrev o_laws_szNode : (Unit × Unit × Unit × Unit × Unit × Unit × Unit × Unit × Unit × Unit) × Unit × Unit := (((), ((), ((), ((), ((), ((), ((), ((), ((), ()))))))))), ((), ()))
/-- laws.szNode -/
def laws_szNode (T : S.Tab) (t0 : tyNode.den) (t1 : Int) : Option (Int × (Unit × Unit × Unit × Unit × Unit × Unit × Unit × Unit × Unit × Unit) × Unit × Unit) := T.fn 18 (t0, t1, ())
abbrev o_laws_szNodeS : Unit × Unit × Unit := ((), ((), ()))
/-- laws.szNodeS -/
def laws_szNodeS (T : S.Tab) (t0 : List tyNode.den) (t1 : Int) : Option (Int × Unit × Unit × Unit) := T.fn 11 (t0, t1, ())
def laws_szNodeS_l5 (T : S.Tab) (t0 : List tyNode.den) (t1 : Int) (t5 : Int) : Option ((Int × Unit) ⊕ (Int × Unit) ⊕ Empty) := T.pc 11 true 5 (t0, t1, t5, ())
abbrev o_laws_szTree : (Unit × Unit) × Unit × Unit := (((), ()), ((), ()))
/-- laws.szTree -/
def laws_szTree (T : S.Tab) (t0 : List tyNode.den × Unit) (t1 : Int) : Option (Int × (Unit × Unit) × Unit × Unit) := T.fn 4 (t0, t1, ())
abbrev o_laws_toStringS : Unit × Unit := ((), ())
/-- laws.toStringS -/
def laws_toStringS (T : S.Tab) (t0 : List (List Int)) : Option (List (List Int) × Unit × Unit) := T.fn 28 (t0, ())
def laws_toStringS_l3 (T : S.Tab) (t0 : List (List Int)) (t3 : List (List Int)) (t4 : Int) : Option ((List (List Int) × Unit) ⊕ Empty) := T.pc 28 true 3 (t0, t3, t4, ())
abbrev o_laws_toIntS : Unit × Unit := ((), ())
/-- laws.toIntS -/
def laws_toIntS (T : S.Tab) (t0 : List Int) : Option (List Int × Unit × Unit) := T.fn 29 (t0, ())
def laws_toIntS_l3 (T : S.Tab) (t0 : List Int) (t3 : List Int) (t4 : Int) : Option ((List Int × Unit) ⊕ Empty) := T.pc 29 true 3 (t0, t3, t4, ())
abbrev o_laws_toNode : (Unit × Unit × Unit × Unit × Unit × Unit × Unit × Unit × Unit × Unit) × Unit := (((), ((), ((), ((), ((), ((), ((), ((), ((), ()))))))))), ())
/-- laws.toNode -/
def laws_toNode (T : S.Tab) (t0 : tyNode.den) : Option (tyNode.den × (Unit × Unit × Unit × Unit × Unit × Unit × Unit × Unit × Unit × Unit) × Unit) := T.fn 19 (t0, ())
abbrev o_laws_toNodeS : Unit × Unit := ((), ())
/-- laws.toNodeS -/
def laws_toNodeS (T : S.Tab) (t0 : List tyNode.den) : Option (List tyNode.den × Unit × Unit) := T.fn 13 (t0, ())
def laws_toNodeS_l3 (T : S.Tab) (t0 : List tyNode.den) (t3 : List tyNode.den) (t4 : Int) : Option ((List tyNode.den × Unit) ⊕ Empty) := T.pc 13 true 3 (t0, t3, t4, ())
abbrev o_laws_toTree : (Unit × Unit) × Unit := (((), ()), ())
/-- laws.toTree -/
def laws_toTree (T : S.Tab) (t0 : List tyNode.den × Unit) : Option ((List tyNode.den × Unit) × (Unit × Unit) × Unit) := T.fn 6 (t0, ())
abbrev o_spec_l2copy : (Unit × Unit × Unit × Unit × Unit × Unit × Unit × Unit × Unit × Unit) × Unit := (((), ((), ((), ((), ((), ((), ((), ((), ((), ()))))))))), ())
/-- spec.l2copy -/
def spec_l2copy (T : S.Tab) (t0 : tyNode.den) : Option (tyNode.den × (Unit × Unit × Unit × Unit × Unit × Unit × Unit × Unit × Unit × Unit) × Unit) := T.fn 12 (t0, ())
def spec_l2copy_l4 (T : S.Tab) (t1 : tyNode.den) (t2 : tyNode.den) (t3 : tyNode.den) (t11 : List (List Int)) (t12 : Int) (t13 : Int) : Option ((tyNode.den × tyNode.den × tyNode.den × Unit) ⊕ Empty) := T.pc 12 true 4 (t1, t2, t3, t11, t12, t13, ())
def spec_l2copy_l10 (T : S.Tab) (t2 : tyNode.den) (t3 : tyNode.den) (t26 : List Int) (t27 : Int) (t28 : Int) : Option ((tyNode.den × tyNode.den × Unit) ⊕ Empty) := T.pc 12 true 10 (t2, t3, t26, t27, t28, ())
abbrev o_spec_Bare : (Unit × Unit) × Unit := (((), ()), ())
/-- spec.Bare -/
def spec_Bare (T : S.Tab) (t0 : List tyNode.den × Unit) : Option ((List tyNode.den × Unit) × (Unit × Unit) × Unit) := T.fn 5 (t0, ())
def spec_Bare_l3 (T : S.Tab) (t2 : List tyNode.den × Unit) (t3 : List tyNode.den × Unit) (t8 : List tyNode.den) (t9 : Int) (t10 : Int) : Option (((List tyNode.den × Unit) × (List tyNode.den × Unit) × Unit) ⊕ Empty) := T.pc 5 true 3 (t2, t3, t8, t9, t10, ())
abbrev o_impl_copyNode : (Unit × Unit × Unit × Unit × Unit × Unit × Unit × Unit × Unit × Unit) × Unit := (((), ((), ((), ((), ((), ((), ((), ((), ((), ()))))))))), ())
/-- impl.copyNode -/
def impl_copyNode (T : S.Tab) (t0 : tyNode.den) : Option (tyNode.den × (Unit × Unit × Unit × Unit × Unit × Unit × Unit × Unit × Unit × Unit) × Unit) := T.fn 14 (t0, ())
abbrev o_impl_Bare : (Unit × Unit) × Unit := (((), ()), ())
/-- impl.Bare -/
def impl_Bare (T : S.Tab) (t0 : List tyNode.den × Unit) : Option ((List tyNode.den × Unit) × (Unit × Unit) × Unit) := T.fn 7 (t0, ())
def impl_Bare_l3 (T : S.Tab) (t2 : List tyNode.den × Unit) (t3 : List tyNode.den × Unit) (t7 : List tyNode.den) (t8 : Int) (t9 : Int) : Option (((List tyNode.den × Unit) × (List tyNode.den × Unit) × Unit) ⊕ Empty) := T.pc 7 true 3 (t2, t3, t7, t8, t9, ())
abbrev o_laws_eqStringS : Unit × Unit × Unit := ((), ((), ()))
/-- laws.eqStringS -/
def laws_eqStringS (T : S.Tab) (t0 : List (List Int)) (t1 : List (List Int)) : Option (Bool × Unit × Unit × Unit) := T.fn 30 (t0, t1, ())
def laws_eqStringS_l4 (T : S.Tab) (t0 : List (List Int)) (t1 : List (List Int)) (t5 : Int) : Option ((Bool × Unit) ⊕ (Unit) ⊕ Empty) := T.pc 30 true 4 (t0, t1, t5, ())
abbrev o_laws_eqIntS : Unit × Unit × Unit := ((), ((), ()))
/-- laws.eqIntS -/
def laws_eqIntS (T : S.Tab) (t0 : List Int) (t1 : List Int) : Option (Bool × Unit × Unit × Unit) := T.fn 31 (t0, t1, ())
def laws_eqIntS_l4 (T : S.Tab) (t0 : List Int) (t1 : List Int) (t5 : Int) : Option ((Bool × Unit) ⊕ (Unit) ⊕ Empty) := T.pc 31 true 4 (t0, t1, t5, ())
abbrev o_laws_eqNode : (Unit × Unit × Unit × Unit × Unit × Unit × Unit × Unit × Unit × Unit) × (Unit × Unit × Unit × Unit × Unit × Unit × Unit × Unit × Unit × Unit) × Unit := (((), ((), ((), ((), ((), ((), ((), ((), ((), ()))))))))), (((), ((), ((), ((), ((), ((), ((), ((), ((), ()))))))))), ()))
/-- laws.eqNode -/
def laws_eqNode (T : S.Tab) (t0 : tyNode.den) (t1 : tyNode.den) : Option (Bool × (Unit × Unit × Unit × Unit × Unit × Unit × Unit × Unit × Unit × Unit) × (Unit × Unit × Unit × Unit × Unit × Unit × Unit × Unit × Unit × Unit) × Unit) := T.fn 20 (t0, t1, ())
abbrev o_laws_eqNodeS : Unit × Unit × Unit := ((), ((), ()))
/-- laws.eqNodeS -/
def laws_eqNodeS (T : S.Tab) (t0 : List tyNode.den) (t1 : List tyNode.den) : Option (Bool × Unit × Unit × Unit) := T.fn 15 (t0, t1, ())
def laws_eqNodeS_l4 (T : S.Tab) (t0 : List tyNode.den) (t1 : List tyNode.den) (t5 : Int) : Option ((Bool × Unit) ⊕ (Unit) ⊕ Empty) := T.pc 15 true 4 (t0, t1, t5, ())
abbrev o_laws_eqTree : (Unit × Unit) × (Unit × Unit) × Unit := (((), ()), (((), ()), ()))
/-- laws.eqTree -/
def laws_eqTree (T : S.Tab) (t0 : List tyNode.den × Unit) (t1 : List tyNode.den × Unit) : Option (Bool × (Unit × Unit) × (Unit × Unit) × Unit) := T.fn 8 (t0, t1, ())
abbrev o_laws_markText : Unit × Unit := ((), ())
/-- laws.markText -/
def laws_markText (T : S.Tab) (t0 : Int) : Option (List Int × Unit × Unit) := T.fn 21 (t0, ())
def laws_markText_l4 (T : S.Tab) (t0 : Int) (t3 : List Int) : Option ((List Int × Unit) ⊕ Empty) := T.pc 21 true 4 (t0, t3, ())
/-- laws.markStringS -/
def laws_markStringS (T : S.Tab) (t0 : List (List Int)) (t1 : Int) : Option (Int × List (List Int) × Unit × Unit) := T.fn 22 (t0, t1, ())
def laws_markStringS_l2 (T : S.Tab) (t0 : List (List Int)) (t1 : Int) (t5 : Int) : Option ((List (List Int) × Int × Unit) ⊕ Empty) := T.pc 22 true 2 (t0, t1, t5, ())
/-- laws.markIntS -/
def laws_markIntS (T : S.Tab) (t0 : List Int) (t1 : Int) : Option (Int × List Int × Unit × Unit) := T.fn 23 (t0, t1, ())
def laws_markIntS_l2 (T : S.Tab) (t0 : List Int) (t1 : Int) (t5 : Int) : Option ((List Int × Int × Unit) ⊕ Empty) := T.pc 23 true 2 (t0, t1, t5, ())
/-- laws.markNodeS -/
def laws_markNodeS (T : S.Tab) (t0 : List tyNode.den) (t1 : Int) : Option (Int × List tyNode.den × Unit × Unit) := T.fn 16 (t0, t1, ())
def laws_markNodeS_l2 (T : S.Tab) (t0 : List tyNode.den) (t1 : Int) (t5 : Int) : Option ((List tyNode.den × Int × Unit) ⊕ Empty) := T.pc 16 true 2 (t0, t1, t5, ())
/-- laws.markTree -/
def laws_markTree (T : S.Tab) (t0 : List tyNode.den × Unit) (t1 : Int) : Option (Int × (List tyNode.den × Unit) × Unit × Unit) := T.fn 9 (t0, t1, ())
abbrev o_laws_heldStringS : Unit × Unit × Unit := ((), ((), ()))
/-- laws.heldStringS -/
def laws_heldStringS (T : S.Tab) (t0 : List (List Int)) (t1 : Int) : Option (Int × Unit × Unit × Unit) := T.fn 24 (t0, t1, ())
def laws_heldStringS_l2 (T : S.Tab) (t0 : List (List Int)) (t1 : Int) (t5 : Int) : Option ((Int × Unit) ⊕ (Int × Unit) ⊕ Empty) := T.pc 24 true 2 (t0, t1, t5, ())
abbrev o_laws_heldIntS : Unit × Unit × Unit := ((), ((), ()))
/-- laws.heldIntS -/
def laws_heldIntS (T : S.Tab) (t0 : List Int) (t1 : Int) : Option (Int × Unit × Unit × Unit) := T.fn 25 (t0, t1, ())
def laws_heldIntS_l2 (T : S.Tab) (t0 : List Int) (t1 : Int) (t5 : Int) : Option ((Int × Unit) ⊕ (Int × Unit) ⊕ Empty) := T.pc 25 true 2 (t0, t1, t5, ())
abbrev o_laws_heldNodeS : Unit × Unit × Unit := ((), ((), ()))
/-- laws.heldNodeS -/
def laws_heldNodeS (T : S.Tab) (t0 : List tyNode.den) (t1 : Int) : Option (Int × Unit × Unit × Unit) := T.fn 17 (t0, t1, ())
def laws_heldNodeS_l2 (T : S.Tab) (t0 : List tyNode.den) (t1 : Int) (t5 : Int) : Option ((Int × Unit) ⊕ (Int × Unit) ⊕ Empty) := T.pc 17 true 2 (t0, t1, t5, ())
abbrev o_laws_heldTree : (Unit × Unit) × Unit × Unit := (((), ()), ((), ()))
/-- laws.heldTree -/
def laws_heldTree (T : S.Tab) (t0 : List tyNode.den × Unit) (t1 : Int) : Option (Int × (Unit × Unit) × Unit × Unit) := T.fn 10 (t0, t1, ())
abbrev o_laws_FnExactBare : (Unit × Unit) × Unit := (((), ()), ())
/-- laws.FnExactBare -/
def laws_FnExactBare (T : S.Tab) (t0 : List tyNode.den × Unit) : Option (Bool × (Unit × Unit) × Unit) := T.fn 3 (t0, ())

theorem laws_szStringS_eq (T : S.Tab) (t0 : List (List Int)) (t1 : Int) : laws_szStringS (S.step T) t0 t1 =
 brk (decide (IntKind.i64.wrap (t1 - (t0.length : Int)) < (0 : Int))) (
  some ((-1 : Int), o_laws_szStringS)) (
  (laws_szStringS_l5 T t0 (IntKind.i64.wrap (t1 - (t0.length : Int))) (0 : Int)).bind (out2
    (fun y5 =>
   some (y5.1, o_laws_szStringS))
    (fun y5 =>
   some (y5.1, o_laws_szStringS))))
  := show (S.step T).fn 26 (t0, t1, ()) = _ from (Sys.step_fn (S := S) Try.func26 T (t0, t1, ())).trans (by kernel_rfl)

theorem laws_szStringS_l5_eq (T : S.Tab) (t0 : List (List Int)) (t1 : Int) (t5 : Int) : laws_szStringS_l5 (S.step T) t0 t1 t5 =
 brk (decide (t5 < (t0.length : Int))) (
  brk (decide ((0 : Int) ≤ t5) && decide (t5 < (t0.length : Int))) (
  brk (decide (IntKind.i64.wrap (t1 - ((t0.getD t5.toNat []).length : Int)) < (0 : Int))) (
   some (Sum.inl ((-1 : Int), ()))) (
   laws_szStringS_l5 T t0 (IntKind.i64.wrap (t1 - ((t0.getD t5.toNat []).length : Int))) (IntKind.i64.wrap (t5 + (1 : Int))))) none) (
  some (Sum.inr (Sum.inl (t1, ()))))
  := show (S.step T).pc 26 true 5 (t0, t1, t5, ()) = _ from (Sys.step_pc1 (S := S) (r := 5) Try.func26 rfl T (t0, t1, t5, ())).trans (by kernel_rfl)

theorem laws_szIntS_eq (T : S.Tab) (t0 : List Int) (t1 : Int) : laws_szIntS (S.step T) t0 t1 =
 brk (decide (IntKind.i64.wrap (t1 - (t0.length : Int)) < (0 : Int))) (
  some ((-1 : Int), o_laws_szIntS)) (
  some (IntKind.i64.wrap (t1 - (t0.length : Int)), o_laws_szIntS))
  := show (S.step T).fn 27 (t0, t1, ()) = _ from (Sys.step_fn (S := S) Try.func27 T (t0, t1, ())).trans (by kernel_rfl)

theorem laws_szNode_eq (T : S.Tab) (t0 : tyNode.den) (t1 : Int) : laws_szNode (S.step T) t0 t1 =
 brk (decide (IntKind.i64.wrap (t1 - (t0.2.2.2.2.2.2.1.length : Int)) < (0 : Int))) (
  some ((-1 : Int), o_laws_szNode)) (
  (laws_szStringS T t0.2.2.2.2.2.2.2.1 (IntKind.i64.wrap (t1 - (t0.2.2.2.2.2.2.1.length : Int)))).bind fun d15 =>
  brk (decide (d15.1 < (0 : Int))) (
   some ((-1 : Int), o_laws_szNode)) (
   (laws_szIntS T t0.2.2.2.2.2.2.2.2.1 d15.1).bind fun d21 =>
   brk (decide (d21.1 < (0 : Int))) (
    some ((-1 : Int), o_laws_szNode)) (
    some (d21.1, o_laws_szNode))))
  := show (S.step T).fn 18 (t0, t1, ()) = _ from (Sys.step_fn (S := S) Try.func18 T (t0, t1, ())).trans (by kernel_rfl)

theorem laws_szNodeS_eq (T : S.Tab) (t0 : List tyNode.den) (t1 : Int) : laws_szNodeS (S.step T) t0 t1 =
 brk (decide (IntKind.i64.wrap (t1 - (t0.length : Int)) < (0 : Int))) (
  some ((-1 : Int), o_laws_szNodeS)) (
  (laws_szNodeS_l5 T t0 (IntKind.i64.wrap (t1 - (t0.length : Int))) (0 : Int)).bind (out2
    (fun y5 =>
   some (y5.1, o_laws_szNodeS))
    (fun y5 =>
   some (y5.1, o_laws_szNodeS))))
  := show (S.step T).fn 11 (t0, t1, ()) = _ from (Sys.step_fn (S := S) Try.func11 T (t0, t1, ())).trans (by kernel_rfl)

theorem laws_szNodeS_l5_eq (T : S.Tab) (t0 : List tyNode.den) (t1 : Int) (t5 : Int) : laws_szNodeS_l5 (S.step T) t0 t1 t5 =
 brk (decide (t5 < (t0.length : Int))) (
  brk (decide ((0 : Int) ≤ t5) && decide (t5 < (t0.length : Int))) (
  (laws_szNode T (at_ (τ := tyNode) t0 t5) t1).bind fun d23 =>
  brk (decide (d23.1 < (0 : Int))) (
   some (Sum.inl ((-1 : Int), ()))) (
   laws_szNodeS_l5 T t0 d23.1 (IntKind.i64.wrap (t5 + (1 : Int))))) none) (
  some (Sum.inr (Sum.inl (t1, ()))))
  := show (S.step T).pc 11 true 5 (t0, t1, t5, ()) = _ from (Sys.step_pc1 (S := S) (r := 5) Try.func11 rfl T (t0, t1, t5, ())).trans (by kernel_rfl)

theorem laws_szTree_eq (T : S.Tab) (t0 : List tyNode.den × Unit) (t1 : Int) : laws_szTree (S.step T) t0 t1 =
 (laws_szNodeS T t0.1 t1).bind fun d8 =>
 brk (decide (d8.1 < (0 : Int))) (
  some ((-1 : Int), o_laws_szTree)) (
  some (d8.1, o_laws_szTree))
  := show (S.step T).fn 4 (t0, t1, ()) = _ from (Sys.step_fn (S := S) Try.func4 T (t0, t1, ())).trans (by kernel_rfl)

theorem laws_toStringS_eq (T : S.Tab) (t0 : List (List Int)) : laws_toStringS (S.step T) t0 =
 brk (((decide ((0 : Int) ≤ (t0.length : Int))) && (decide ((t0.length : Int) ≤ (t0.length : Int)))) && (decide ((t0.length : Int) ≤ lim))) (
 (laws_toStringS_l3 T t0 (List.replicate ((t0.length : Int).toNat) ([] : List Int)) (0 : Int)).bind (out1
   (fun y3 =>
  some (y3.1, o_laws_toStringS)))) none
  := show (S.step T).fn 28 (t0, ()) = _ from (Sys.step_fn (S := S) Try.func28 T (t0, ())).trans (by kernel_rfl)

theorem laws_toStringS_l3_eq (T : S.Tab) (t0 : List (List Int)) (t3 : List (List Int)) (t4 : Int) : laws_toStringS_l3 (S.step T) t0 t3 t4 =
 brk (decide (t4 < (t0.length : Int))) (
  brk (decide ((0 : Int) ≤ t4) && decide (t4 < (t0.length : Int))) (
  brk (decide ((0 : Int) ≤ t4) && decide (t4 < (t3.length : Int))) (
  laws_toStringS_l3 T t0 (t3.set t4.toNat (t0.getD t4.toNat [])) (IntKind.i64.wrap (t4 + (1 : Int)))) none) none) (
  some (Sum.inl (t3, ())))
  := show (S.step T).pc 28 true 3 (t0, t3, t4, ()) = _ from (Sys.step_pc1 (S := S) (r := 3) Try.func28 rfl T (t0, t3, t4, ())).trans (by kernel_rfl)

theorem laws_toIntS_eq (T : S.Tab) (t0 : List Int) : laws_toIntS (S.step T) t0 =
 brk (((decide ((0 : Int) ≤ (t0.length : Int))) && (decide ((t0.length : Int) ≤ (t0.length : Int)))) && (decide ((t0.length : Int) ≤ lim))) (
 (laws_toIntS_l3 T t0 (List.replicate ((t0.length : Int).toNat) (0 : Int)) (0 : Int)).bind (out1
   (fun y3 =>
  some (y3.1, o_laws_toIntS)))) none
  := show (S.step T).fn 29 (t0, ()) = _ from (Sys.step_fn (S := S) Try.func29 T (t0, ())).trans (by kernel_rfl)

theorem laws_toIntS_l3_eq (T : S.Tab) (t0 : List Int) (t3 : List Int) (t4 : Int) : laws_toIntS_l3 (S.step T) t0 t3 t4 =
 brk (decide (t4 < (t0.length : Int))) (
  brk (decide ((0 : Int) ≤ t4) && decide (t4 < (t0.length : Int))) (
  brk (decide ((0 : Int) ≤ t4) && decide (t4 < (t3.length : Int))) (
  laws_toIntS_l3 T t0 (t3.set t4.toNat (t0.getD t4.toNat 0)) (IntKind.i64.wrap (t4 + (1 : Int)))) none) none) (
  some (Sum.inl (t3, ())))
  := show (S.step T).pc 29 true 3 (t0, t3, t4, ()) = _ from (Sys.step_pc1 (S := S) (r := 3) Try.func29 rfl T (t0, t3, t4, ())).trans (by kernel_rfl)

theorem laws_toNode_eq (T : S.Tab) (t0 : tyNode.den) : laws_toNode (S.step T) t0 =
 (laws_toStringS T t0.2.2.2.2.2.2.2.1).bind fun d27 =>
 (laws_toIntS T t0.2.2.2.2.2.2.2.2.1).bind fun d31 =>
 some ((t0.1, t0.2.1, t0.2.2.1, t0.2.2.2.1, t0.2.2.2.2.1, t0.2.2.2.2.2.1, t0.2.2.2.2.2.2.1, d27.1, d31.1, ()), o_laws_toNode)
  := show (S.step T).fn 19 (t0, ()) = _ from (Sys.step_fn (S := S) Try.func19 T (t0, ())).trans (by kernel_rfl)

theorem laws_toNodeS_eq (T : S.Tab) (t0 : List tyNode.den) : laws_toNodeS (S.step T) t0 =
 brk (((decide ((0 : Int) ≤ (t0.length : Int))) && (decide ((t0.length : Int) ≤ (t0.length : Int)))) && (decide ((t0.length : Int) ≤ lim))) (
 (laws_toNodeS_l3 T t0 (List.replicate ((t0.length : Int).toNat) ((0 : Int), (0 : Int), (0 : Int), (0 : Int), (0 : Int), (0 : Int), ([] : List Int), [], [], ())) (0 : Int)).bind (out1
   (fun y3 =>
  some (y3.1, o_laws_toNodeS)))) none
  := show (S.step T).fn 13 (t0, ()) = _ from (Sys.step_fn (S := S) Try.func13 T (t0, ())).trans (by kernel_rfl)

theorem laws_toNodeS_l3_eq (T : S.Tab) (t0 : List tyNode.den) (t3 : List tyNode.den) (t4 : Int) : laws_toNodeS_l3 (S.step T) t0 t3 t4 =
 brk (decide (t4 < (t0.length : Int))) (
  brk (decide ((0 : Int) ≤ t4) && decide (t4 < (t0.length : Int))) (
  (laws_toNode T (at_ (τ := tyNode) t0 t4)).bind fun d20 =>
  brk (decide ((0 : Int) ≤ t4) && decide (t4 < (t3.length : Int))) (
  laws_toNodeS_l3 T t0 (t3.set t4.toNat d20.1) (IntKind.i64.wrap (t4 + (1 : Int)))) none) none) (
  some (Sum.inl (t3, ())))
  := show (S.step T).pc 13 true 3 (t0, t3, t4, ()) = _ from (Sys.step_pc1 (S := S) (r := 3) Try.func13 rfl T (t0, t3, t4, ())).trans (by kernel_rfl)

theorem laws_toTree_eq (T : S.Tab) (t0 : List tyNode.den × Unit) : laws_toTree (S.step T) t0 =
 (laws_toNodeS T t0.1).bind fun d6 =>
 some ((d6.1, ()), o_laws_toTree)
  := show (S.step T).fn 6 (t0, ()) = _ from (Sys.step_fn (S := S) Try.func6 T (t0, ())).trans (by kernel_rfl)

theorem spec_l2copy_eq (T : S.Tab) (t0 : tyNode.den) : spec_l2copy (S.step T) t0 =
 (spec_l2copy_l4 T t0 ((0 : Int), (0 : Int), (0 : Int), (0 : Int), (0 : Int), (0 : Int), ([] : List Int), [], [], ()) (t0.1, t0.2.1, t0.2.2.1, t0.2.2.2.1, t0.2.2.2.2.1, t0.2.2.2.2.2.1, t0.2.2.2.2.2.2.1, [], t0.2.2.2.2.2.2.2.2) t0.2.2.2.2.2.2.2.1 (t0.2.2.2.2.2.2.2.1.length : Int) (0 : Int)).bind (out1
   (fun y4 =>
  (spec_l2copy_l10 T y4.2.1 (y4.2.2.1.1, y4.2.2.1.2.1, y4.2.2.1.2.2.1, y4.2.2.1.2.2.2.1, y4.2.2.1.2.2.2.2.1, y4.2.2.1.2.2.2.2.2.1, y4.2.2.1.2.2.2.2.2.2.1, y4.2.2.1.2.2.2.2.2.2.2.1, [], ()) y4.1.2.2.2.2.2.2.2.2.1 (y4.1.2.2.2.2.2.2.2.2.1.length : Int) (0 : Int)).bind (out1
    (fun y10 =>
   some (y10.2.1, o_spec_l2copy)))))
  := show (S.step T).fn 12 (t0, ()) = _ from (Sys.step_fn (S := S) Try.func12 T (t0, ())).trans (by kernel_rfl)

theorem spec_l2copy_l4_eq (T : S.Tab) (t1 : tyNode.den) (t2 : tyNode.den) (t3 : tyNode.den) (t11 : List (List Int)) (t12 : Int) (t13 : Int) : spec_l2copy_l4 (S.step T) t1 t2 t3 t11 t12 t13 =
 brk (decide (t13 < t12)) (
  brk (decide ((0 : Int) ≤ t13) && decide (t13 < (t11.length : Int))) (
  brk (fits (t3.2.2.2.2.2.2.2.1.length + ([t11.getD t13.toNat []] : List (List Int)).length)) (
  spec_l2copy_l4 T t1 t2 (t3.1, t3.2.1, t3.2.2.1, t3.2.2.2.1, t3.2.2.2.2.1, t3.2.2.2.2.2.1, t3.2.2.2.2.2.2.1, t3.2.2.2.2.2.2.2.1 ++ ([t11.getD t13.toNat []] : List (List Int)), t3.2.2.2.2.2.2.2.2) t11 t12 (IntKind.i64.wrap (t13 + (1 : Int)))) none) none) (
  some (Sum.inl (t1, t2, t3, ())))
  := show (S.step T).pc 12 true 4 (t1, t2, t3, t11, t12, t13, ()) = _ from (Sys.step_pc1 (S := S) (r := 4) Try.func12 rfl T (t1, t2, t3, t11, t12, t13, ())).trans (by kernel_rfl)

theorem spec_l2copy_l10_eq (T : S.Tab) (t2 : tyNode.den) (t3 : tyNode.den) (t26 : List Int) (t27 : Int) (t28 : Int) : spec_l2copy_l10 (S.step T) t2 t3 t26 t27 t28 =
 brk (decide (t28 < t27)) (
  brk (decide ((0 : Int) ≤ t28) && decide (t28 < (t26.length : Int))) (
  brk (fits (t3.2.2.2.2.2.2.2.2.1.length + ([t26.getD t28.toNat 0] : List Int).length)) (
  spec_l2copy_l10 T t2 (t3.1, t3.2.1, t3.2.2.1, t3.2.2.2.1, t3.2.2.2.2.1, t3.2.2.2.2.2.1, t3.2.2.2.2.2.2.1, t3.2.2.2.2.2.2.2.1, t3.2.2.2.2.2.2.2.2.1 ++ ([t26.getD t28.toNat 0] : List Int), ()) t26 t27 (IntKind.i64.wrap (t28 + (1 : Int)))) none) none) (
  some (Sum.inl (t2, t3, ())))
  := show (S.step T).pc 12 true 10 (t2, t3, t26, t27, t28, ()) = _ from (Sys.step_pc1 (S := S) (r := 10) Try.func12 rfl T (t2, t3, t26, t27, t28, ())).trans (by kernel_rfl)

theorem spec_Bare_eq (T : S.Tab) (t0 : List tyNode.den × Unit) : spec_Bare (S.step T) t0 =
 (spec_Bare_l3 T ([], ()) ([], ()) t0.1 (t0.1.length : Int) (0 : Int)).bind (out1
   (fun y3 =>
  some (y3.2.1, o_spec_Bare)))
  := show (S.step T).fn 5 (t0, ()) = _ from (Sys.step_fn (S := S) Try.func5 T (t0, ())).trans (by kernel_rfl)

theorem spec_Bare_l3_eq (T : S.Tab) (t2 : List tyNode.den × Unit) (t3 : List tyNode.den × Unit) (t8 : List tyNode.den) (t9 : Int) (t10 : Int) : spec_Bare_l3 (S.step T) t2 t3 t8 t9 t10 =
 brk (decide (t10 < t9)) (
  brk (decide ((0 : Int) ≤ t10) && decide (t10 < (t8.length : Int))) (
  (spec_l2copy T (at_ (τ := tyNode) t8 t10)).bind fun d15 =>
  brk (fits (t3.1.length + ([(d15.1.1, (0 : Int), (0 : Int), (0 : Int), d15.1.2.2.2.2)] : List tyNode.den).length)) (
  spec_Bare_l3 T t2 (t3.1 ++ ([(d15.1.1, (0 : Int), (0 : Int), (0 : Int), d15.1.2.2.2.2)] : List tyNode.den), ()) t8 t9 (IntKind.i64.wrap (t10 + (1 : Int)))) none) none) (
  some (Sum.inl (t2, t3, ())))
  := show (S.step T).pc 5 true 3 (t2, t3, t8, t9, t10, ()) = _ from (Sys.step_pc1 (S := S) (r := 3) Try.func5 rfl T (t2, t3, t8, t9, t10, ())).trans (by kernel_rfl)

theorem impl_copyNode_eq (T : S.Tab) (t0 : tyNode.den) : impl_copyNode (S.step T) t0 =
 brk (fits (0 + t0.2.2.2.2.2.2.2.1.length)) (
 brk (fits (0 + t0.2.2.2.2.2.2.2.2.1.length)) (
 some (t0, o_impl_copyNode)) none) none
  := show (S.step T).fn 14 (t0, ()) = _ from (Sys.step_fn (S := S) Try.func14 T (t0, ())).trans (by kernel_rfl)

theorem impl_Bare_eq (T : S.Tab) (t0 : List tyNode.den × Unit) : impl_Bare (S.step T) t0 =
 (impl_Bare_l3 T ([], ()) ([], ()) t0.1 (t0.1.length : Int) (0 : Int)).bind (out1
   (fun y3 =>
  some (y3.2.1, o_impl_Bare)))
  := show (S.step T).fn 7 (t0, ()) = _ from (Sys.step_fn (S := S) Try.func7 T (t0, ())).trans (by kernel_rfl)

theorem impl_Bare_l3_eq (T : S.Tab) (t2 : List tyNode.den × Unit) (t3 : List tyNode.den × Unit) (t7 : List tyNode.den) (t8 : Int) (t9 : Int) : impl_Bare_l3 (S.step T) t2 t3 t7 t8 t9 =
 brk (decide (t9 < t8)) (
  brk (decide ((0 : Int) ≤ t9) && decide (t9 < (t7.length : Int))) (
  (impl_copyNode T (at_ (τ := tyNode) t7 t9)).bind fun d14 =>
  brk (fits (t3.1.length + ([(d14.1.1, (0 : Int), (0 : Int), (0 : Int), d14.1.2.2.2.2)] : List tyNode.den).length)) (
  impl_Bare_l3 T t2 (t3.1 ++ ([(d14.1.1, (0 : Int), (0 : Int), (0 : Int), d14.1.2.2.2.2)] : List tyNode.den), ()) t7 t8 (IntKind.i64.wrap (t9 + (1 : Int)))) none) none) (
  some (Sum.inl (t2, t3, ())))
  := show (S.step T).pc 7 true 3 (t2, t3, t7, t8, t9, ()) = _ from (Sys.step_pc1 (S := S) (r := 3) Try.func7 rfl T (t2, t3, t7, t8, t9, ())).trans (by kernel_rfl)

theorem laws_eqStringS_eq (T : S.Tab) (t0 : List (List Int)) (t1 : List (List Int)) : laws_eqStringS (S.step T) t0 t1 =
 brk (!decide ((t0.length : Int) = (t1.length : Int))) (
  some (false, o_laws_eqStringS)) (
  (laws_eqStringS_l4 T t0 t1 (0 : Int)).bind (out2
    (fun y4 =>
   some (y4.1, o_laws_eqStringS))
    (fun y4 =>
   some (true, o_laws_eqStringS))))
  := show (S.step T).fn 30 (t0, t1, ()) = _ from (Sys.step_fn (S := S) Try.func30 T (t0, t1, ())).trans (by kernel_rfl)

theorem laws_eqStringS_l4_eq (T : S.Tab) (t0 : List (List Int)) (t1 : List (List Int)) (t5 : Int) : laws_eqStringS_l4 (S.step T) t0 t1 t5 =
 brk (decide (t5 < (t0.length : Int))) (
  brk (decide ((0 : Int) ≤ t5) && decide (t5 < (t0.length : Int))) (
  brk (decide ((0 : Int) ≤ t5) && decide (t5 < (t1.length : Int))) (
  brk (!decide ((t0.getD t5.toNat []) = (t1.getD t5.toNat []))) (
   some (Sum.inl (false, ()))) (
   laws_eqStringS_l4 T t0 t1 (IntKind.i64.wrap (t5 + (1 : Int))))) none) none) (
  some (Sum.inr (Sum.inl ())))
  := show (S.step T).pc 30 true 4 (t0, t1, t5, ()) = _ from (Sys.step_pc1 (S := S) (r := 4) Try.func30 rfl T (t0, t1, t5, ())).trans (by kernel_rfl)

theorem laws_eqIntS_eq (T : S.Tab) (t0 : List Int) (t1 : List Int) : laws_eqIntS (S.step T) t0 t1 =
 brk (!decide ((t0.length : Int) = (t1.length : Int))) (
  some (false, o_laws_eqIntS)) (
  (laws_eqIntS_l4 T t0 t1 (0 : Int)).bind (out2
    (fun y4 =>
   some (y4.1, o_laws_eqIntS))
    (fun y4 =>
   some (true, o_laws_eqIntS))))
  := show (S.step T).fn 31 (t0, t1, ()) = _ from (Sys.step_fn (S := S) Try.func31 T (t0, t1, ())).trans (by kernel_rfl)

theorem laws_eqIntS_l4_eq (T : S.Tab) (t0 : List Int) (t1 : List Int) (t5 : Int) : laws_eqIntS_l4 (S.step T) t0 t1 t5 =
 brk (decide (t5 < (t0.length : Int))) (
  brk (decide ((0 : Int) ≤ t5) && decide (t5 < (t0.length : Int))) (
  brk (decide ((0 : Int) ≤ t5) && decide (t5 < (t1.length : Int))) (
  brk (!decide (t0.getD t5.toNat 0 = t1.getD t5.toNat 0)) (
   some (Sum.inl (false, ()))) (
   laws_eqIntS_l4 T t0 t1 (IntKind.i64.wrap (t5 + (1 : Int))))) none) none) (
  some (Sum.inr (Sum.inl ())))
  := show (S.step T).pc 31 true 4 (t0, t1, t5, ()) = _ from (Sys.step_pc1 (S := S) (r := 4) Try.func31 rfl T (t0, t1, t5, ())).trans (by kernel_rfl)

theorem laws_eqNode_eq (T : S.Tab) (t0 : tyNode.den) (t1 : tyNode.den) : laws_eqNode (S.step T) t0 t1 =
 brk (!decide (t0.1 = t1.1)) (
  some (false, o_laws_eqNode)) (
  brk (!decide (t0.2.1 = t1.2.1)) (
   some (false, o_laws_eqNode)) (
   brk (!decide (t0.2.2.1 = t1.2.2.1)) (
    some (false, o_laws_eqNode)) (
    brk (!decide (t0.2.2.2.1 = t1.2.2.2.1)) (
     some (false, o_laws_eqNode)) (
     brk (!decide (t0.2.2.2.2.1 = t1.2.2.2.2.1)) (
      some (false, o_laws_eqNode)) (
      brk (!decide (t0.2.2.2.2.2.1 = t1.2.2.2.2.2.1)) (
       some (false, o_laws_eqNode)) (
       brk (!decide (t0.2.2.2.2.2.2.1 = t1.2.2.2.2.2.2.1)) (
        some (false, o_laws_eqNode)) (
        (laws_eqStringS T t0.2.2.2.2.2.2.2.1 t1.2.2.2.2.2.2.2.1).bind fun d44 =>
        brk (!d44.1) (
         some (false, o_laws_eqNode)) (
         (laws_eqIntS T t0.2.2.2.2.2.2.2.2.1 t1.2.2.2.2.2.2.2.2.1).bind fun d50 =>
         brk (!d50.1) (
          some (false, o_laws_eqNode)) (
          some (true, o_laws_eqNode))))))))))
  := show (S.step T).fn 20 (t0, t1, ()) = _ from (Sys.step_fn (S := S) Try.func20 T (t0, t1, ())).trans (by kernel_rfl)

theorem laws_eqNodeS_eq (T : S.Tab) (t0 : List tyNode.den) (t1 : List tyNode.den) : laws_eqNodeS (S.step T) t0 t1 =
 brk (!decide ((t0.length : Int) = (t1.length : Int))) (
  some (false, o_laws_eqNodeS)) (
  (laws_eqNodeS_l4 T t0 t1 (0 : Int)).bind (out2
    (fun y4 =>
   some (y4.1, o_laws_eqNodeS))
    (fun y4 =>
   some (true, o_laws_eqNodeS))))
  := show (S.step T).fn 15 (t0, t1, ()) = _ from (Sys.step_fn (S := S) Try.func15 T (t0, t1, ())).trans (by kernel_rfl)

theorem laws_eqNodeS_l4_eq (T : S.Tab) (t0 : List tyNode.den) (t1 : List tyNode.den) (t5 : Int) : laws_eqNodeS_l4 (S.step T) t0 t1 t5 =
 brk (decide (t5 < (t0.length : Int))) (
  brk (decide ((0 : Int) ≤ t5) && decide (t5 < (t0.length : Int))) (
  brk (decide ((0 : Int) ≤ t5) && decide (t5 < (t1.length : Int))) (
  (laws_eqNode T (at_ (τ := tyNode) t0 t5) (at_ (τ := tyNode) t1 t5)).bind fun d25 =>
  brk (!d25.1) (
   some (Sum.inl (false, ()))) (
   laws_eqNodeS_l4 T t0 t1 (IntKind.i64.wrap (t5 + (1 : Int))))) none) none) (
  some (Sum.inr (Sum.inl ())))
  := show (S.step T).pc 15 true 4 (t0, t1, t5, ()) = _ from (Sys.step_pc1 (S := S) (r := 4) Try.func15 rfl T (t0, t1, t5, ())).trans (by kernel_rfl)

theorem laws_eqTree_eq (T : S.Tab) (t0 : List tyNode.den × Unit) (t1 : List tyNode.den × Unit) : laws_eqTree (S.step T) t0 t1 =
 (laws_eqNodeS T t0.1 t1.1).bind fun d9 =>
 brk (!d9.1) (
  some (false, o_laws_eqTree)) (
  some (true, o_laws_eqTree))
  := show (S.step T).fn 8 (t0, t1, ()) = _ from (Sys.step_fn (S := S) Try.func8 T (t0, t1, ())).trans (by kernel_rfl)

theorem laws_markText_eq (T : S.Tab) (t0 : Int) : laws_markText (S.step T) t0 =
 brk (decide (t0 ≤ (0 : Int))) (
  some (([109, 48] : List Int), o_laws_markText)) (
  (laws_markText_l4 T t0 ([] : List Int)).bind (out1
    (fun y4 =>
   brk (fits (1 + y4.1.length)) (
   some (([109] : List Int) ++ y4.1, o_laws_markText)) none)))
  := show (S.step T).fn 21 (t0, ()) = _ from (Sys.step_fn (S := S) Try.func21 T (t0, ())).trans (by kernel_rfl)

theorem laws_markText_l4_eq (T : S.Tab) (t0 : Int) (t3 : List Int) : laws_markText_l4 (S.step T) t0 t3 =
 brk (decide ((0 : Int) < t0)) (
  brk (fits ((([IntKind.u8.wrap (IntKind.i64.wrap ((48 : Int) + (t0.tmod (10 : Int))))] : List Int).map byte).length + t3.length)) (
  laws_markText_l4 T (IntKind.i64.wrap (t0.tdiv (10 : Int))) ((([IntKind.u8.wrap (IntKind.i64.wrap ((48 : Int) + (t0.tmod (10 : Int))))] : List Int).map byte) ++ t3)) none) (
  some (Sum.inl (t3, ())))
  := show (S.step T).pc 21 true 4 (t0, t3, ()) = _ from (Sys.step_pc1 (S := S) (r := 4) Try.func21 rfl T (t0, t3, ())).trans (by kernel_rfl)

theorem laws_markStringS_eq (T : S.Tab) (t0 : List (List Int)) (t1 : Int) : laws_markStringS (S.step T) t0 t1 =
 (laws_markStringS_l2 T t0 t1 (0 : Int)).bind (out1
   (fun y2 =>
  some (y2.2.1, y2.1, (), ())))
  := show (S.step T).fn 22 (t0, t1, ()) = _ from (Sys.step_fn (S := S) Try.func22 T (t0, t1, ())).trans (by kernel_rfl)

theorem laws_markStringS_l2_eq (T : S.Tab) (t0 : List (List Int)) (t1 : Int) (t5 : Int) : laws_markStringS_l2 (S.step T) t0 t1 t5 =
 brk (decide (t5 < (t0.length : Int))) (
  (laws_markText T t1).bind fun d15 =>
  brk (decide ((0 : Int) ≤ t5) && decide (t5 < (t0.length : Int))) (
  laws_markStringS_l2 T (t0.set t5.toNat d15.1) (IntKind.i64.wrap (t1 + (1 : Int))) (IntKind.i64.wrap (t5 + (1 : Int)))) none) (
  some (Sum.inl (t0, t1, ())))
  := show (S.step T).pc 22 true 2 (t0, t1, t5, ()) = _ from (Sys.step_pc1 (S := S) (r := 2) Try.func22 rfl T (t0, t1, t5, ())).trans (by kernel_rfl)

theorem laws_markIntS_eq (T : S.Tab) (t0 : List Int) (t1 : Int) : laws_markIntS (S.step T) t0 t1 =
 (laws_markIntS_l2 T t0 t1 (0 : Int)).bind (out1
   (fun y2 =>
  some (y2.2.1, y2.1, (), ())))
  := show (S.step T).fn 23 (t0, t1, ()) = _ from (Sys.step_fn (S := S) Try.func23 T (t0, t1, ())).trans (by kernel_rfl)

theorem laws_markIntS_l2_eq (T : S.Tab) (t0 : List Int) (t1 : Int) (t5 : Int) : laws_markIntS_l2 (S.step T) t0 t1 t5 =
 brk (decide (t5 < (t0.length : Int))) (
  brk (decide ((0 : Int) ≤ t5) && decide (t5 < (t0.length : Int))) (
  laws_markIntS_l2 T (t0.set t5.toNat t1) (IntKind.i64.wrap (t1 + (1 : Int))) (IntKind.i64.wrap (t5 + (1 : Int)))) none) (
  some (Sum.inl (t0, t1, ())))
  := show (S.step T).pc 23 true 2 (t0, t1, t5, ()) = _ from (Sys.step_pc1 (S := S) (r := 2) Try.func23 rfl T (t0, t1, t5, ())).trans (by kernel_rfl)

theorem laws_markNodeS_eq (T : S.Tab) (t0 : List tyNode.den) (t1 : Int) : laws_markNodeS (S.step T) t0 t1 =
 (laws_markNodeS_l2 T t0 t1 (0 : Int)).bind (out1
   (fun y2 =>
  some (y2.2.1, y2.1, (), ())))
  := show (S.step T).fn 16 (t0, t1, ()) = _ from (Sys.step_fn (S := S) Try.func16 T (t0, t1, ())).trans (by kernel_rfl)

theorem laws_markNodeS_l2_eq (T : S.Tab) (t0 : List tyNode.den) (t1 : Int) (t5 : Int) : laws_markNodeS_l2 (S.step T) t0 t1 t5 =
 brk (decide (t5 < (t0.length : Int))) (
  brk (decide ((0 : Int) ≤ t5) && decide (t5 < (t0.length : Int))) (
  brk (decide ((0 : Int) ≤ t5) && decide (t5 < ((updAt (τ := tyNode) t0 t5 (fun e => (t1, e.2))).length : Int))) (
  brk (decide ((0 : Int) ≤ t5) && decide (t5 < ((updAt (τ := tyNode) (updAt (τ := tyNode) t0 t5 (fun e => (t1, e.2))) t5 (fun e => (e.1, IntKind.i64.wrap (t1 + (1 : Int)), e.2.2))).length : Int))) (
  brk (decide ((0 : Int) ≤ t5) && decide (t5 < ((updAt (τ := tyNode) (updAt (τ := tyNode) (updAt (τ := tyNode) t0 t5 (fun e => (t1, e.2))) t5 (fun e => (e.1, IntKind.i64.wrap (t1 + (1 : Int)), e.2.2))) t5 (fun e => (e.1, e.2.1, IntKind.i64.wrap ((IntKind.i64.wrap (t1 + (1 : Int))) + (1 : Int)), e.2.2.2))).length : Int))) (
  brk (decide ((0 : Int) ≤ t5) && decide (t5 < ((updAt (τ := tyNode) (updAt (τ := tyNode) (updAt (τ := tyNode) (updAt (τ := tyNode) t0 t5 (fun e => (t1, e.2))) t5 (fun e => (e.1, IntKind.i64.wrap (t1 + (1 : Int)), e.2.2))) t5 (fun e => (e.1, e.2.1, IntKind.i64.wrap ((IntKind.i64.wrap (t1 + (1 : Int))) + (1 : Int)), e.2.2.2))) t5 (fun e => (e.1, e.2.1, e.2.2.1, IntKind.i64.wrap ((IntKind.i64.wrap ((IntKind.i64.wrap (t1 + (1 : Int))) + (1 : Int))) + (1 : Int)), e.2.2.2.2))).length : Int))) (
  brk (decide ((0 : Int) ≤ t5) && decide (t5 < ((updAt (τ := tyNode) (updAt (τ := tyNode) (updAt (τ := tyNode) (updAt (τ := tyNode) (updAt (τ := tyNode) t0 t5 (fun e => (t1, e.2))) t5 (fun e => (e.1, IntKind.i64.wrap (t1 + (1 : Int)), e.2.2))) t5 (fun e => (e.1, e.2.1, IntKind.i64.wrap ((IntKind.i64.wrap (t1 + (1 : Int))) + (1 : Int)), e.2.2.2))) t5 (fun e => (e.1, e.2.1, e.2.2.1, IntKind.i64.wrap ((IntKind.i64.wrap ((IntKind.i64.wrap (t1 + (1 : Int))) + (1 : Int))) + (1 : Int)), e.2.2.2.2))) t5 (fun e => (e.1, e.2.1, e.2.2.1, e.2.2.2.1, IntKind.i64.wrap ((IntKind.i64.wrap ((IntKind.i64.wrap ((IntKind.i64.wrap (t1 + (1 : Int))) + (1 : Int))) + (1 : Int))) + (1 : Int)), e.2.2.2.2.2))).length : Int))) (
  (laws_markText T (IntKind.i64.wrap ((IntKind.i64.wrap ((IntKind.i64.wrap ((IntKind.i64.wrap ((IntKind.i64.wrap ((IntKind.i64.wrap (t1 + (1 : Int))) + (1 : Int))) + (1 : Int))) + (1 : Int))) + (1 : Int))) + (1 : Int)))).bind fun d57 =>
  brk (decide ((0 : Int) ≤ t5) && decide (t5 < ((updAt (τ := tyNode) (updAt (τ := tyNode) (updAt (τ := tyNode) (updAt (τ := tyNode) (updAt (τ := tyNode) (updAt (τ := tyNode) t0 t5 (fun e => (t1, e.2))) t5 (fun e => (e.1, IntKind.i64.wrap (t1 + (1 : Int)), e.2.2))) t5 (fun e => (e.1, e.2.1, IntKind.i64.wrap ((IntKind.i64.wrap (t1 + (1 : Int))) + (1 : Int)), e.2.2.2))) t5 (fun e => (e.1, e.2.1, e.2.2.1, IntKind.i64.wrap ((IntKind.i64.wrap ((IntKind.i64.wrap (t1 + (1 : Int))) + (1 : Int))) + (1 : Int)), e.2.2.2.2))) t5 (fun e => (e.1, e.2.1, e.2.2.1, e.2.2.2.1, IntKind.i64.wrap ((IntKind.i64.wrap ((IntKind.i64.wrap ((IntKind.i64.wrap (t1 + (1 : Int))) + (1 : Int))) + (1 : Int))) + (1 : Int)), e.2.2.2.2.2))) t5 (fun e => (e.1, e.2.1, e.2.2.1, e.2.2.2.1, e.2.2.2.2.1, IntKind.i64.wrap ((IntKind.i64.wrap ((IntKind.i64.wrap ((IntKind.i64.wrap ((IntKind.i64.wrap (t1 + (1 : Int))) + (1 : Int))) + (1 : Int))) + (1 : Int))) + (1 : Int)), e.2.2.2.2.2.2))).length : Int))) (
  brk (decide ((0 : Int) ≤ t5) && decide (t5 < ((updAt (τ := tyNode) (updAt (τ := tyNode) (updAt (τ := tyNode) (updAt (τ := tyNode) (updAt (τ := tyNode) (updAt (τ := tyNode) (updAt (τ := tyNode) t0 t5 (fun e => (t1, e.2))) t5 (fun e => (e.1, IntKind.i64.wrap (t1 + (1 : Int)), e.2.2))) t5 (fun e => (e.1, e.2.1, IntKind.i64.wrap ((IntKind.i64.wrap (t1 + (1 : Int))) + (1 : Int)), e.2.2.2))) t5 (fun e => (e.1, e.2.1, e.2.2.1, IntKind.i64.wrap ((IntKind.i64.wrap ((IntKind.i64.wrap (t1 + (1 : Int))) + (1 : Int))) + (1 : Int)), e.2.2.2.2))) t5 (fun e => (e.1, e.2.1, e.2.2.1, e.2.2.2.1, IntKind.i64.wrap ((IntKind.i64.wrap ((IntKind.i64.wrap ((IntKind.i64.wrap (t1 + (1 : Int))) + (1 : Int))) + (1 : Int))) + (1 : Int)), e.2.2.2.2.2))) t5 (fun e => (e.1, e.2.1, e.2.2.1, e.2.2.2.1, e.2.2.2.2.1, IntKind.i64.wrap ((IntKind.i64.wrap ((IntKind.i64.wrap ((IntKind.i64.wrap ((IntKind.i64.wrap (t1 + (1 : Int))) + (1 : Int))) + (1 : Int))) + (1 : Int))) + (1 : Int)), e.2.2.2.2.2.2))) t5 (fun e => (e.1, e.2.1, e.2.2.1, e.2.2.2.1, e.2.2.2.2.1, e.2.2.2.2.2.1, d57.1, e.2.2.2.2.2.2.2))).length : Int))) (
  (laws_markStringS T (((((((((at_ (τ := tyNode) (updAt (τ := tyNode) (updAt (τ := tyNode) (updAt (τ := tyNode) (updAt (τ := tyNode) (updAt (τ := tyNode) (updAt (τ := tyNode) (updAt (τ := tyNode) t0 t5 (fun e => (t1, e.2))) t5 (fun e => (e.1, IntKind.i64.wrap (t1 + (1 : Int)), e.2.2))) t5 (fun e => (e.1, e.2.1, IntKind.i64.wrap ((IntKind.i64.wrap (t1 + (1 : Int))) + (1 : Int)), e.2.2.2))) t5 (fun e => (e.1, e.2.1, e.2.2.1, IntKind.i64.wrap ((IntKind.i64.wrap ((IntKind.i64.wrap (t1 + (1 : Int))) + (1 : Int))) + (1 : Int)), e.2.2.2.2))) t5 (fun e => (e.1, e.2.1, e.2.2.1, e.2.2.2.1, IntKind.i64.wrap ((IntKind.i64.wrap ((IntKind.i64.wrap ((IntKind.i64.wrap (t1 + (1 : Int))) + (1 : Int))) + (1 : Int))) + (1 : Int)), e.2.2.2.2.2))) t5 (fun e => (e.1, e.2.1, e.2.2.1, e.2.2.2.1, e.2.2.2.2.1, IntKind.i64.wrap ((IntKind.i64.wrap ((IntKind.i64.wrap ((IntKind.i64.wrap ((IntKind.i64.wrap (t1 + (1 : Int))) + (1 : Int))) + (1 : Int))) + (1 : Int))) + (1 : Int)), e.2.2.2.2.2.2))) t5 (fun e => (e.1, e.2.1, e.2.2.1, e.2.2.2.1, e.2.2.2.2.1, e.2.2.2.2.2.1, d57.1, e.2.2.2.2.2.2.2))) t5).2).2).2).2).2).2).2).1) (IntKind.i64.wrap ((IntKind.i64.wrap ((IntKind.i64.wrap ((IntKind.i64.wrap ((IntKind.i64.wrap ((IntKind.i64.wrap ((IntKind.i64.wrap (t1 + (1 : Int))) + (1 : Int))) + (1 : Int))) + (1 : Int))) + (1 : Int))) + (1 : Int))) + (1 : Int)))).bind fun d68 =>
  brk (decide ((0 : Int) ≤ t5) && decide (t5 < ((updAt (τ := tyNode) (updAt (τ := tyNode) (updAt (τ := tyNode) (updAt (τ := tyNode) (updAt (τ := tyNode) (updAt (τ := tyNode) (updAt (τ := tyNode) (updAt (τ := tyNode) t0 t5 (fun e => (t1, e.2))) t5 (fun e => (e.1, IntKind.i64.wrap (t1 + (1 : Int)), e.2.2))) t5 (fun e => (e.1, e.2.1, IntKind.i64.wrap ((IntKind.i64.wrap (t1 + (1 : Int))) + (1 : Int)), e.2.2.2))) t5 (fun e => (e.1, e.2.1, e.2.2.1, IntKind.i64.wrap ((IntKind.i64.wrap ((IntKind.i64.wrap (t1 + (1 : Int))) + (1 : Int))) + (1 : Int)), e.2.2.2.2))) t5 (fun e => (e.1, e.2.1, e.2.2.1, e.2.2.2.1, IntKind.i64.wrap ((IntKind.i64.wrap ((IntKind.i64.wrap ((IntKind.i64.wrap (t1 + (1 : Int))) + (1 : Int))) + (1 : Int))) + (1 : Int)), e.2.2.2.2.2))) t5 (fun e => (e.1, e.2.1, e.2.2.1, e.2.2.2.1, e.2.2.2.2.1, IntKind.i64.wrap ((IntKind.i64.wrap ((IntKind.i64.wrap ((IntKind.i64.wrap ((IntKind.i64.wrap (t1 + (1 : Int))) + (1 : Int))) + (1 : Int))) + (1 : Int))) + (1 : Int)), e.2.2.2.2.2.2))) t5 (fun e => (e.1, e.2.1, e.2.2.1, e.2.2.2.1, e.2.2.2.2.1, e.2.2.2.2.2.1, d57.1, e.2.2.2.2.2.2.2))) t5 (fun e => (e.1, e.2.1, e.2.2.1, e.2.2.2.1, e.2.2.2.2.1, e.2.2.2.2.2.1, e.2.2.2.2.2.2.1, d68.2.1, e.2.2.2.2.2.2.2.2))).length : Int))) (
  (laws_markIntS T ((((((((((at_ (τ := tyNode) (updAt (τ := tyNode) (updAt (τ := tyNode) (updAt (τ := tyNode) (updAt (τ := tyNode) (updAt (τ := tyNode) (updAt (τ := tyNode) (updAt (τ := tyNode) (updAt (τ := tyNode) t0 t5 (fun e => (t1, e.2))) t5 (fun e => (e.1, IntKind.i64.wrap (t1 + (1 : Int)), e.2.2))) t5 (fun e => (e.1, e.2.1, IntKind.i64.wrap ((IntKind.i64.wrap (t1 + (1 : Int))) + (1 : Int)), e.2.2.2))) t5 (fun e => (e.1, e.2.1, e.2.2.1, IntKind.i64.wrap ((IntKind.i64.wrap ((IntKind.i64.wrap (t1 + (1 : Int))) + (1 : Int))) + (1 : Int)), e.2.2.2.2))) t5 (fun e => (e.1, e.2.1, e.2.2.1, e.2.2.2.1, IntKind.i64.wrap ((IntKind.i64.wrap ((IntKind.i64.wrap ((IntKind.i64.wrap (t1 + (1 : Int))) + (1 : Int))) + (1 : Int))) + (1 : Int)), e.2.2.2.2.2))) t5 (fun e => (e.1, e.2.1, e.2.2.1, e.2.2.2.1, e.2.2.2.2.1, IntKind.i64.wrap ((IntKind.i64.wrap ((IntKind.i64.wrap ((IntKind.i64.wrap ((IntKind.i64.wrap (t1 + (1 : Int))) + (1 : Int))) + (1 : Int))) + (1 : Int))) + (1 : Int)), e.2.2.2.2.2.2))) t5 (fun e => (e.1, e.2.1, e.2.2.1, e.2.2.2.1, e.2.2.2.2.1, e.2.2.2.2.2.1, d57.1, e.2.2.2.2.2.2.2))) t5 (fun e => (e.1, e.2.1, e.2.2.1, e.2.2.2.1, e.2.2.2.2.1, e.2.2.2.2.2.1, e.2.2.2.2.2.2.1, d68.2.1, e.2.2.2.2.2.2.2.2))) t5).2).2).2).2).2).2).2).2).1) d68.1).bind fun d75 =>
  laws_markNodeS_l2 T (updAt (τ := tyNode) (updAt (τ := tyNode) (updAt (τ := tyNode) (updAt (τ := tyNode) (updAt (τ := tyNode) (updAt (τ := tyNode) (updAt (τ := tyNode) (updAt (τ := tyNode) (updAt (τ := tyNode) t0 t5 (fun e => (t1, e.2))) t5 (fun e => (e.1, IntKind.i64.wrap (t1 + (1 : Int)), e.2.2))) t5 (fun e => (e.1, e.2.1, IntKind.i64.wrap ((IntKind.i64.wrap (t1 + (1 : Int))) + (1 : Int)), e.2.2.2))) t5 (fun e => (e.1, e.2.1, e.2.2.1, IntKind.i64.wrap ((IntKind.i64.wrap ((IntKind.i64.wrap (t1 + (1 : Int))) + (1 : Int))) + (1 : Int)), e.2.2.2.2))) t5 (fun e => (e.1, e.2.1, e.2.2.1, e.2.2.2.1, IntKind.i64.wrap ((IntKind.i64.wrap ((IntKind.i64.wrap ((IntKind.i64.wrap (t1 + (1 : Int))) + (1 : Int))) + (1 : Int))) + (1 : Int)), e.2.2.2.2.2))) t5 (fun e => (e.1, e.2.1, e.2.2.1, e.2.2.2.1, e.2.2.2.2.1, IntKind.i64.wrap ((IntKind.i64.wrap ((IntKind.i64.wrap ((IntKind.i64.wrap ((IntKind.i64.wrap (t1 + (1 : Int))) + (1 : Int))) + (1 : Int))) + (1 : Int))) + (1 : Int)), e.2.2.2.2.2.2))) t5 (fun e => (e.1, e.2.1, e.2.2.1, e.2.2.2.1, e.2.2.2.2.1, e.2.2.2.2.2.1, d57.1, e.2.2.2.2.2.2.2))) t5 (fun e => (e.1, e.2.1, e.2.2.1, e.2.2.2.1, e.2.2.2.2.1, e.2.2.2.2.2.1, e.2.2.2.2.2.2.1, d68.2.1, e.2.2.2.2.2.2.2.2))) t5 (fun e => (e.1, e.2.1, e.2.2.1, e.2.2.2.1, e.2.2.2.2.1, e.2.2.2.2.2.1, e.2.2.2.2.2.2.1, e.2.2.2.2.2.2.2.1, d75.2.1, ()))) d75.1 (IntKind.i64.wrap (t5 + (1 : Int)))) none) none) none) none) none) none) none) none) none) (
  some (Sum.inl (t0, t1, ())))
  := show (S.step T).pc 16 true 2 (t0, t1, t5, ()) = _ from (Sys.step_pc1 (S := S) (r := 2) Try.func16 rfl T (t0, t1, t5, ())).trans (by kernel_rfl)

theorem laws_markTree_eq (T : S.Tab) (t0 : List tyNode.den × Unit) (t1 : Int) : laws_markTree (S.step T) t0 t1 =
 (laws_markNodeS T t0.1 t1).bind fun d8 =>
 some (d8.1, (d8.2.1, ()), (), ())
  := show (S.step T).fn 9 (t0, t1, ()) = _ from (Sys.step_fn (S := S) Try.func9 T (t0, t1, ())).trans (by kernel_rfl)

theorem laws_heldStringS_eq (T : S.Tab) (t0 : List (List Int)) (t1 : Int) : laws_heldStringS (S.step T) t0 t1 =
 (laws_heldStringS_l2 T t0 t1 (0 : Int)).bind (out2
   (fun y2 =>
  some (y2.1, o_laws_heldStringS))
   (fun y2 =>
  some (y2.1, o_laws_heldStringS)))
  := show (S.step T).fn 24 (t0, t1, ()) = _ from (Sys.step_fn (S := S) Try.func24 T (t0, t1, ())).trans (by kernel_rfl)

theorem laws_heldStringS_l2_eq (T : S.Tab) (t0 : List (List Int)) (t1 : Int) (t5 : Int) : laws_heldStringS_l2 (S.step T) t0 t1 t5 =
 brk (decide (t5 < (t0.length : Int))) (
  brk (decide ((0 : Int) ≤ t5) && decide (t5 < (t0.length : Int))) (
  (laws_markText T t1).bind fun d17 =>
  brk (!decide ((t0.getD t5.toNat []) = d17.1)) (
   some (Sum.inl ((-1 : Int), ()))) (
   laws_heldStringS_l2 T t0 (IntKind.i64.wrap (t1 + (1 : Int))) (IntKind.i64.wrap (t5 + (1 : Int))))) none) (
  some (Sum.inr (Sum.inl (t1, ()))))
  := show (S.step T).pc 24 true 2 (t0, t1, t5, ()) = _ from (Sys.step_pc1 (S := S) (r := 2) Try.func24 rfl T (t0, t1, t5, ())).trans (by kernel_rfl)

theorem laws_heldIntS_eq (T : S.Tab) (t0 : List Int) (t1 : Int) : laws_heldIntS (S.step T) t0 t1 =
 (laws_heldIntS_l2 T t0 t1 (0 : Int)).bind (out2
   (fun y2 =>
  some (y2.1, o_laws_heldIntS))
   (fun y2 =>
  some (y2.1, o_laws_heldIntS)))
  := show (S.step T).fn 25 (t0, t1, ()) = _ from (Sys.step_fn (S := S) Try.func25 T (t0, t1, ())).trans (by kernel_rfl)

theorem laws_heldIntS_l2_eq (T : S.Tab) (t0 : List Int) (t1 : Int) (t5 : Int) : laws_heldIntS_l2 (S.step T) t0 t1 t5 =
 brk (decide (t5 < (t0.length : Int))) (
  brk (decide ((0 : Int) ≤ t5) && decide (t5 < (t0.length : Int))) (
  brk (!decide (t0.getD t5.toNat 0 = t1)) (
   some (Sum.inl ((-1 : Int), ()))) (
   laws_heldIntS_l2 T t0 (IntKind.i64.wrap (t1 + (1 : Int))) (IntKind.i64.wrap (t5 + (1 : Int))))) none) (
  some (Sum.inr (Sum.inl (t1, ()))))
  := show (S.step T).pc 25 true 2 (t0, t1, t5, ()) = _ from (Sys.step_pc1 (S := S) (r := 2) Try.func25 rfl T (t0, t1, t5, ())).trans (by kernel_rfl)

theorem laws_heldNodeS_eq (T : S.Tab) (t0 : List tyNode.den) (t1 : Int) : laws_heldNodeS (S.step T) t0 t1 =
 (laws_heldNodeS_l2 T t0 t1 (0 : Int)).bind (out2
   (fun y2 =>
  some (y2.1, o_laws_heldNodeS))
   (fun y2 =>
  some (y2.1, o_laws_heldNodeS)))
  := show (S.step T).fn 17 (t0, t1, ()) = _ from (Sys.step_fn (S := S) Try.func17 T (t0, t1, ())).trans (by kernel_rfl)

theorem laws_heldNodeS_l2_eq (T : S.Tab) (t0 : List tyNode.den) (t1 : Int) (t5 : Int) : laws_heldNodeS_l2 (S.step T) t0 t1 t5 =
 brk (decide (t5 < (t0.length : Int))) (
  brk (decide ((0 : Int) ≤ t5) && decide (t5 < (t0.length : Int))) (
  brk (!decide ((at_ (τ := tyNode) t0 t5).1 = t1)) (
   some (Sum.inl ((-1 : Int), ()))) (
   brk (decide ((0 : Int) ≤ t5) && decide (t5 < (t0.length : Int))) (
   brk (!decide (((at_ (τ := tyNode) t0 t5).2).1 = IntKind.i64.wrap (t1 + (1 : Int)))) (
    some (Sum.inl ((-1 : Int), ()))) (
    brk (decide ((0 : Int) ≤ t5) && decide (t5 < (t0.length : Int))) (
    brk (!decide ((((at_ (τ := tyNode) t0 t5).2).2).1 = IntKind.i64.wrap ((IntKind.i64.wrap (t1 + (1 : Int))) + (1 : Int)))) (
     some (Sum.inl ((-1 : Int), ()))) (
     brk (decide ((0 : Int) ≤ t5) && decide (t5 < (t0.length : Int))) (
     brk (!decide (((((at_ (τ := tyNode) t0 t5).2).2).2).1 = IntKind.i64.wrap ((IntKind.i64.wrap ((IntKind.i64.wrap (t1 + (1 : Int))) + (1 : Int))) + (1 : Int)))) (
      some (Sum.inl ((-1 : Int), ()))) (
      brk (decide ((0 : Int) ≤ t5) && decide (t5 < (t0.length : Int))) (
      brk (!decide ((((((at_ (τ := tyNode) t0 t5).2).2).2).2).1 = IntKind.i64.wrap ((IntKind.i64.wrap ((IntKind.i64.wrap ((IntKind.i64.wrap (t1 + (1 : Int))) + (1 : Int))) + (1 : Int))) + (1 : Int)))) (
       some (Sum.inl ((-1 : Int), ()))) (
       brk (decide ((0 : Int) ≤ t5) && decide (t5 < (t0.length : Int))) (
       brk (!decide (((((((at_ (τ := tyNode) t0 t5).2).2).2).2).2).1 = IntKind.i64.wrap ((IntKind.i64.wrap ((IntKind.i64.wrap ((IntKind.i64.wrap ((IntKind.i64.wrap (t1 + (1 : Int))) + (1 : Int))) + (1 : Int))) + (1 : Int))) + (1 : Int)))) (
        some (Sum.inl ((-1 : Int), ()))) (
        brk (decide ((0 : Int) ≤ t5) && decide (t5 < (t0.length : Int))) (
        (laws_markText T (IntKind.i64.wrap ((IntKind.i64.wrap ((IntKind.i64.wrap ((IntKind.i64.wrap ((IntKind.i64.wrap ((IntKind.i64.wrap (t1 + (1 : Int))) + (1 : Int))) + (1 : Int))) + (1 : Int))) + (1 : Int))) + (1 : Int)))).bind fun d72 =>
        brk (!decide (((((((((at_ (τ := tyNode) t0 t5).2).2).2).2).2).2).1) = d72.1)) (
         some (Sum.inl ((-1 : Int), ()))) (
         brk (decide ((0 : Int) ≤ t5) && decide (t5 < (t0.length : Int))) (
         (laws_heldStringS T (((((((((at_ (τ := tyNode) t0 t5).2).2).2).2).2).2).2).1) (IntKind.i64.wrap ((IntKind.i64.wrap ((IntKind.i64.wrap ((IntKind.i64.wrap ((IntKind.i64.wrap ((IntKind.i64.wrap ((IntKind.i64.wrap (t1 + (1 : Int))) + (1 : Int))) + (1 : Int))) + (1 : Int))) + (1 : Int))) + (1 : Int))) + (1 : Int)))).bind fun d82 =>
         brk (decide (d82.1 < (0 : Int))) (
          some (Sum.inl ((-1 : Int), ()))) (
          brk (decide ((0 : Int) ≤ t5) && decide (t5 < (t0.length : Int))) (
          (laws_heldIntS T ((((((((((at_ (τ := tyNode) t0 t5).2).2).2).2).2).2).2).2).1) d82.1).bind fun d91 =>
          brk (decide (d91.1 < (0 : Int))) (
           some (Sum.inl ((-1 : Int), ()))) (
           laws_heldNodeS_l2 T t0 d91.1 (IntKind.i64.wrap (t5 + (1 : Int))))) none)) none)) none)) none)) none)) none)) none)) none)) none) (
  some (Sum.inr (Sum.inl (t1, ()))))
  := show (S.step T).pc 17 true 2 (t0, t1, t5, ()) = _ from (Sys.step_pc1 (S := S) (r := 2) Try.func17 rfl T (t0, t1, t5, ())).trans (by kernel_rfl)

theorem laws_heldTree_eq (T : S.Tab) (t0 : List tyNode.den × Unit) (t1 : Int) : laws_heldTree (S.step T) t0 t1 =
 (laws_heldNodeS T t0.1 t1).bind fun d8 =>
 brk (decide (d8.1 < (0 : Int))) (
  some ((-1 : Int), o_laws_heldTree)) (
  some (d8.1, o_laws_heldTree))
  := show (S.step T).fn 10 (t0, t1, ()) = _ from (Sys.step_fn (S := S) Try.func10 T (t0, t1, ())).trans (by kernel_rfl)

theorem laws_FnExactBare_eq (T : S.Tab) (t0 : List tyNode.den × Unit) : laws_FnExactBare (S.step T) t0 =
 (laws_szTree T t0 (1048576 : Int)).bind fun d13 =>
 brk (decide (d13.1 < (0 : Int))) (
  some (true, o_laws_FnExactBare)) (
  (laws_toTree T t0).bind fun d17 =>
  (spec_Bare T d17.1).bind fun d18 =>
  (laws_toTree T t0).bind fun d20 =>
  ((impl_Bare T d20.1).map fun y => (y.1, (d20.1, ()))).bind fun d22 =>
  ((laws_eqTree T d22.1 d18.1).map fun y => (y.1, (d22.1, d18.1, ()))).bind fun d25 =>
  brk (!d25.1) (
   some (false, o_laws_FnExactBare)) (
   (laws_toTree T t0).bind fun d29 =>
   ((laws_eqTree T d22.2.1 d29.1).map fun y => (y.1, (d22.2.1, d29.1, ()))).bind fun d30 =>
   brk (!d30.1) (
    some (false, o_laws_FnExactBare)) (
    (laws_markTree T d30.2.1 (1 : Int)).bind fun d34 =>
    brk (decide (d34.1 < (0 : Int))) (
     some (false, o_laws_FnExactBare)) (
     ((laws_eqTree T d25.2.1 d25.2.2.1).map fun y => (y.1, d25.2)).bind fun d40 =>
     brk (!d40.1) (
      some (false, o_laws_FnExactBare)) (
      (laws_markTree T d40.2.1 (1 : Int)).bind fun d45 =>
      ((laws_heldTree T d45.2.1 (1 : Int)).map fun y => (y.1, (d45.2.1, (), ()))).bind fun d48 =>
      brk (decide (d48.1 < (0 : Int))) (
       some (false, o_laws_FnExactBare)) (
       brk (!decide (d48.1 = d45.1)) (
        some (false, o_laws_FnExactBare)) (
        (laws_toTree T t0).bind fun d55 =>
        ((impl_Bare T d55.1).map fun y => (y.1, (d55.1, ()))).bind fun d56 =>
        ((laws_eqTree T d56.1 d40.2.2.1).map fun y => (y.1, (d56.1, d40.2.2))).bind fun d59 =>
        brk (!d59.1) (
         some (false, o_laws_FnExactBare)) (
         ((laws_heldTree T d48.2.1 (1 : Int)).map fun y => (y.1, (d48.2.1, (), ()))).bind fun d63 =>
         brk (decide (d63.1 < (0 : Int))) (
          some (false, o_laws_FnExactBare)) (
          brk (!decide (d63.1 = d45.1)) (
           some (false, o_laws_FnExactBare)) (
           some (true, o_laws_FnExactBare)))))))))))
  := show (S.step T).fn 3 (t0, ()) = _ from (Sys.step_fn (S := S) Try.func3 T (t0, ())).trans (by kernel_rfl)

end Go.Abs.D
end

section
namespace Go.Abs.D

structure Base2 (T : S.Tab) : Prop where
  mk ::

theorem base2 : Evt fun n => Base2 (S.tab n) := Evt.of fun _ => ⟨⟩

theorem inb_nat {n j : Nat} (h : j < n) : (decide ((0 : Int) ≤ (j : Int)) && decide ((j : Int) < (n : Int))) = true := by
  simp [h]

theorem wrap1 {j : Nat} (h : j ≤ 4194304) : IntKind.i64.wrap ((j : Int) + 1) = ((j + 1 : Nat) : Int) := by
  rw [wrap64 _ (by omega) (by omega)]; omega

def kidsOf (x : tyNode.den) : List Int := x.2.2.2.2.2.2.2.2.1
def namesOf (x : tyNode.den) : List (List Int) := x.2.2.2.2.2.2.2.1

theorem at_node (l : List tyNode.den) (j : Nat) (h : j < l.length) : at_ (τ := tyNode) l (j : Int) = l[j] := by
  show (l.getD (j : Int).toNat _) = _
  rw [Int.toNat_natCast, List.getD_eq_getElem?_getD, List.getElem?_eq_getElem h]; rfl

structure NodeOk (x : tyNode.den) : Prop where
  text : ∀ c ∈ x.2.2.2.2.2.2.1, isByte c
  names : ∀ m ∈ namesOf x, ∀ c ∈ m, isByte c
  nn : (namesOf x).length ≤ 2097152
  nk : (kidsOf x).length ≤ 2097152

theorem allL {R α : Type} {F : S.Tab → Nat → Option R} {P : α → Bool} {l : List α} {yes no : R} {q : S.Tab → Prop} (hq : Evt fun n => q (S.tab n))
    (hs : ∀ T j (h : j < l.length), q T → F (S.step T) j = bif P l[j] then F T (j + 1) else some no) (he : ∀ T, q T → F (S.step T) l.length = some yes) :
    ∀ k j, j + k = l.length → Evt fun n => F (S.tab n) j = some (bif (l.drop j).all P then yes else no)
  | 0, j, h => hq.up fun n hT => by
    show F (S.step (S.tab n)) j = _
    have : j = l.length := by omega
    subst this
    rw [he _ hT, List.drop_length]; rfl
  | k + 1, j, h => by
    have hj : j < l.length := by omega
    refine (hq.and (allL hq hs he k (j + 1) (by omega))).up fun n ⟨hT, ih⟩ => ?_
    show F (S.step (S.tab n)) j = _
    rw [hs _ j hj hT, List.drop_eq_getElem_cons hj, List.all_cons]
    cases hp : P l[j] with
    | true => rw [cond_true, ih, Bool.true_and]
    | false => rfl

end Go.Abs.D
end

section
namespace Go.Abs.D

/-! The text of a mark. -/
def dgs : Nat → Int → List Int → List Int
  | 0, _, o => o
  | k + 1, v, o => bif decide (0 < v) then dgs k (v / 10) ((48 + v % 10) :: o) else o

theorem markText_l4_ok : ∀ (k : Nat) (v : Int) (o : List Int), 0 ≤ v → v < 10 ^ k → k ≤ 18 → o.length + k ≤ 100 → Evt fun n => laws_markText_l4 (S.tab n) v o = some (Sum.inl (dgs k v o, ()))
  | 0, v, o, h0, h1, _, _ => base2.up fun n _ => by
    show laws_markText_l4 (S.step (S.tab n)) _ _ = _
    rw [laws_markText_l4_eq, brkF (by simp only [decide_eq_false_iff_not]; simp at h1; omega)]; rfl
  | k + 1, v, o, h0, h1, hk, ho => by
    by_cases hv : 0 < v
    · have hp : (10 : Int) ^ (k + 1) = 10 ^ k * 10 := Int.pow_succ ..
      have hk' : (10 : Int) ^ (k + 1) ≤ 10 ^ 18 := by
        have : ∀ j : Fin 19, (10 : Int) ^ j.1 ≤ 10 ^ 18 := by decide
        exact this ⟨k + 1, by omega⟩
      have em : v.tmod 10 = v % 10 := Int.tmod_eq_emod_of_nonneg h0
      have ed : v.tdiv 10 = v / 10 := Int.tdiv_eq_ediv_of_nonneg h0
      have w1 : IntKind.i64.wrap (48 + v % 10) = 48 + v % 10 := wrap64 _ (by omega) (by omega)
      have w2 : IntKind.u8.wrap (48 + v % 10) = 48 + v % 10 := wrap8 _ (by omega) (by omega)
      have w3 : IntKind.i64.wrap (v / 10) = v / 10 := wrap64 _ (by omega) (by omega)
      have wb : ([48 + v % 10] : List Int).map byte = [48 + v % 10] := map_byte fun c hc => by
        have : c = 48 + v % 10 := by simpa using hc
        subst this; exact ⟨by omega, by omega⟩
      refine (markText_l4_ok k (v / 10) ((48 + v % 10) :: o) (by omega) (by omega) (by omega) (by simp; omega)).up fun n h => ?_
      show laws_markText_l4 (S.step (S.tab n)) _ _ = _
      rw [laws_markText_l4_eq, brkT (decide_eq_true hv), em, ed, w1, w2, w3, wb, brkT (fits_of (by unfold lim; simp only [List.length_singleton]; omega))]
      unfold dgs
      rw [decide_eq_true hv]
      exact h
    · refine base2.up fun n _ => ?_
      show laws_markText_l4 (S.step (S.tab n)) _ _ = _
      unfold dgs
      rw [laws_markText_l4_eq, brkF (decide_eq_false hv), decide_eq_false hv]; rfl

def markT (v : Int) : List Int := 109 :: dgs 18 v []

theorem dgs_len : ∀ (k : Nat) (v : Int) (o : List Int), (dgs k v o).length ≤ o.length + k
  | 0, _, _ => Nat.le_refl _
  | k + 1, v, o => by
    unfold dgs
    cases decide (0 < v) with
    | true => have := dgs_len k (v / 10) ((48 + v % 10) :: o); simp at this ⊢; omega
    | false => simp

theorem markText_ok (v : Int) (h0 : 0 < v) (h1 : v < 1000000000000000000) : Evt fun n => laws_markText (S.tab n) v = some (markT v, o_laws_markText) := (markText_l4_ok 18 v [] (by omega) h1 (by omega) (by simp)).up fun n h => by
  show laws_markText (S.step (S.tab n)) _ = _
  have := dgs_len 18 v []
  rw [laws_markText_eq, brkF (decide_eq_false (by omega)), h]
  simp only [Option.bind_some, out1, Sum.elim_inl]
  rw [brkT (fits_of (by unfold lim; simp at this; omega))]; rfl

theorem set_mid {α : Type} (pre : List α) (x y : α) (r : List α) : (pre ++ x :: r).set pre.length y = pre ++ y :: r := by
  rw [List.set_append_right _ _ (Nat.le_refl _), Nat.sub_self]; rfl

theorem w6 {k : Int} (h0 : 0 < k) (h1 : k < 1000000000000) : IntKind.i64.wrap (k + 1) = k + 1 ∧ IntKind.i64.wrap (k + 1 + 1) = k + 2 ∧ IntKind.i64.wrap (k + 2 + 1) = k + 3 ∧ IntKind.i64.wrap (k + 3 + 1) = k + 4 ∧ IntKind.i64.wrap (k + 4 + 1) = k + 5 ∧ IntKind.i64.wrap (k + 5 + 1) = k + 6 := by
  refine ⟨?_, ?_, ?_, ?_, ?_, ?_⟩ <;> rw [wrap64 _ (by omega) (by omega)] <;> omega


end Go.Abs.D
end

section

end

section
namespace Go.Abs.D

/-! Sizes. -/
def szL : List (List Int) → Int → Int
  | [], l => l
  | m :: r, l => bif decide (l - (m.length : Int) < 0) then -1 else szL r (l - (m.length : Int))
def szSt (names : List (List Int)) (l : Int) : Int := bif decide (l - (names.length : Int) < 0) then -1 else szL names (l - (names.length : Int))
def szIn (kids : List Int) (l : Int) : Int := bif decide (l - (kids.length : Int) < 0) then -1 else l - (kids.length : Int)
def szNd (x : tyNode.den) (l : Int) : Int :=
  bif decide (l - (List.length (α := Int) x.2.2.2.2.2.2.1 : Int) < 0) then -1 else
  bif decide (szSt (namesOf x) (l - (List.length (α := Int) x.2.2.2.2.2.2.1 : Int)) < 0) then -1 else
  bif decide (szIn (kidsOf x) (szSt (namesOf x) (l - (List.length (α := Int) x.2.2.2.2.2.2.1 : Int))) < 0) then -1 else szIn (kidsOf x) (szSt (namesOf x) (l - (List.length (α := Int) x.2.2.2.2.2.2.1 : Int)))
def szNs : List tyNode.den → Int → Int
  | [], l => l
  | x :: r, l => bif decide (szNd x l < 0) then -1 else szNs r (szNd x l)
def szTr (ns : List tyNode.den) (l : Int) : Int := bif decide (l - (ns.length : Int) < 0) then -1 else szNs ns (l - (ns.length : Int))

def big : Int := 9223372036854775807
theorem wrapL {l : Int} {n : Nat} (h0 : 0 ≤ l) (h1 : l ≤ 1048576) (hn : n ≤ maxLen) : IntKind.i64.wrap (l - (n : Int)) = l - (n : Int) := by
  unfold maxLen at hn
  exact wrap64 _ (by omega) (by omega)

theorem szL_bd : ∀ (r : List (List Int)) (l : Int), szL r l ≤ l ∨ szL r l = -1
  | [], l => .inl (Int.le_refl _)
  | m :: r, l => by
    unfold szL
    by_cases h : l - (m.length : Int) < 0
    · rw [decide_eq_true h]; exact .inr rfl
    · rw [decide_eq_false h]
      rcases szL_bd r (l - (m.length : Int)) with h | h
      · left; simp only [cond_false]; omega
      · right; exact h

theorem szStr_l5_ok : ∀ (r pre : List (List Int)) (l : Int), 0 ≤ l → l ≤ 1048576 → (∀ m ∈ r, m.length ≤ maxLen) → (pre ++ r).length ≤ 2097152 →
    Evt fun n => ∃ y, laws_szStringS_l5 (S.tab n) (pre ++ r) l (pre.length : Int) = some y ∧ (y = .inl (szL r l, ()) ∨ y = .inr (.inl (szL r l, ())))
  | [], pre, l, _, _, _, _ => base2.up fun n _ => by
    show ∃ y, laws_szStringS_l5 (S.step (S.tab n)) _ _ _ = _ ∧ _
    rw [laws_szStringS_l5_eq, brkF (by simp)]
    exact ⟨_, rfl, .inr rfl⟩
  | m :: r, pre, l, h0, h1, hm, hl => by
    have hlen : (pre ++ m :: r).length = pre.length + (r.length + 1) := by simp
    have hg : (pre ++ m :: r).getD (pre.length : Int).toNat [] = m := getD_cut pre m r []
    have w := wrapL h0 h1 (hm m (List.mem_cons_self ..))
    have start : ∀ n, laws_szStringS_l5 (S.step (S.tab n)) (pre ++ m :: r) l (pre.length : Int) = _ := fun n => by
      rw [laws_szStringS_l5_eq, brkT (by simp only [decide_eq_true_eq]; omega), brkT (inb_nat (by omega)), hg, w, wrap1 (by omega)]
    unfold szL
    by_cases h : l - (m.length : Int) < 0
    · refine base2.up fun n _ => ?_
      show ∃ y, laws_szStringS_l5 (S.step (S.tab n)) _ _ _ = _ ∧ _
      rw [start, brkT (decide_eq_true h), decide_eq_true h]
      exact ⟨_, rfl, .inl rfl⟩
    · have ih := szStr_l5_ok r (pre ++ [m]) (l - (m.length : Int)) (by omega) (by omega) (fun x hx => hm x (List.mem_cons_of_mem _ hx)) (by simpa using hl)
      refine ih.up fun n ih => ?_
      show ∃ y, laws_szStringS_l5 (S.step (S.tab n)) _ _ _ = _ ∧ _
      rw [start, brkF (decide_eq_false h), decide_eq_false h]
      have e1 : (pre ++ [m]) ++ r = pre ++ m :: r := by simp
      have e2 : (pre ++ [m]).length = pre.length + 1 := by simp
      rw [e1, e2] at ih
      exact ih

theorem szStr_ok (names : List (List Int)) (l : Int) (h0 : 0 ≤ l) (h1 : l ≤ 1048576) (hm : ∀ m ∈ names, m.length ≤ maxLen) (hn : names.length ≤ maxLen) : Evt fun n => laws_szStringS (S.tab n) names l = some (szSt names l, o_laws_szStringS) := by
  have w := wrapL h0 h1 hn
  unfold szSt
  by_cases h : l - (names.length : Int) < 0
  · refine base2.up fun n _ => ?_
    show laws_szStringS (S.step (S.tab n)) _ _ = _
    rw [laws_szStringS_eq, w, brkT (decide_eq_true h), decide_eq_true h]; rfl
  · refine (szStr_l5_ok names [] (l - (names.length : Int)) (by omega) (by omega) hm (by simp only [List.nil_append]; omega)).up fun n ⟨y, h', hy⟩ => ?_
    show laws_szStringS (S.step (S.tab n)) _ _ = _
    have h' : laws_szStringS_l5 (S.tab n) names (l - (names.length : Int)) 0 = some y := h'
    rw [laws_szStringS_eq, w, brkF (decide_eq_false h), decide_eq_false h, h', Option.bind_some]
    rcases hy with rfl | rfl <;> rfl

theorem szInt_ok (kids : List Int) (l : Int) (h0 : 0 ≤ l) (h1 : l ≤ 1048576) (hn : kids.length ≤ maxLen) : Evt fun n => laws_szIntS (S.tab n) kids l = some (szIn kids l, o_laws_szIntS) := base2.up fun n _ => by
  show laws_szIntS (S.step (S.tab n)) _ _ = _
  unfold szIn
  rw [laws_szIntS_eq, wrapL h0 h1 hn]
  by_cases h : l - (kids.length : Int) < 0
  · rw [brkT (decide_eq_true h), decide_eq_true h]; rfl
  · rw [brkF (decide_eq_false h), decide_eq_false h]; rfl

/-- What a reading of a node tells. -/
structure Read (x : tyNode.den) : Prop where
  text : (∀ c ∈ x.2.2.2.2.2.2.1, isByte c) ∧ List.length (α := Int) x.2.2.2.2.2.2.1 ≤ maxLen
  names : (∀ m ∈ namesOf x, (∀ c ∈ m, isByte c) ∧ m.length ≤ maxLen) ∧ (namesOf x).length ≤ maxLen
  kids : (kidsOf x).length ≤ maxLen

theorem szSt_le {names : List (List Int)} {l : Int} (h : 0 ≤ szSt names l) : szSt names l ≤ l ∧ (names.length : Int) ≤ l := by
  unfold szSt at h ⊢
  by_cases hd : l - (names.length : Int) < 0
  · rw [decide_eq_true hd] at h; exact absurd (show (0 : Int) ≤ -1 from h) (by decide)
  · rw [decide_eq_false hd] at h ⊢
    simp only [cond_false] at h ⊢
    rcases szL_bd names (l - (names.length : Int)) with h' | h'
    · omega
    · rw [h'] at h; exact absurd (show (0 : Int) ≤ -1 from h) (by decide)
theorem szIn_le {kids : List Int} {l : Int} (h : 0 ≤ szIn kids l) : szIn kids l ≤ l ∧ (kids.length : Int) ≤ l := by
  unfold szIn at h ⊢
  by_cases hd : l - (kids.length : Int) < 0
  · rw [decide_eq_true hd] at h; exact absurd (show (0 : Int) ≤ -1 from h) (by decide)
  · rw [decide_eq_false hd] at h ⊢
    simp only [cond_false] at h ⊢
    omega
theorem szNd_le {x : tyNode.den} {l : Int} (h : 0 ≤ szNd x l) : szNd x l ≤ l ∧ ((namesOf x).length : Int) ≤ l ∧ ((kidsOf x).length : Int) ≤ l ∧ (List.length (α := Int) x.2.2.2.2.2.2.1 : Int) ≤ l := by
  unfold szNd at h ⊢
  by_cases h1 : l - (List.length (α := Int) x.2.2.2.2.2.2.1 : Int) < 0
  · rw [decide_eq_true h1] at h; exact absurd (show (0 : Int) ≤ -1 from h) (by decide)
  rw [decide_eq_false h1] at h ⊢
  by_cases h2 : szSt (namesOf x) (l - (List.length (α := Int) x.2.2.2.2.2.2.1 : Int)) < 0
  · rw [decide_eq_true h2] at h; exact absurd (show (0 : Int) ≤ -1 from h) (by decide)
  rw [decide_eq_false h2] at h ⊢
  by_cases h3 : szIn (kidsOf x) (szSt (namesOf x) (l - (List.length (α := Int) x.2.2.2.2.2.2.1 : Int))) < 0
  · rw [decide_eq_true h3] at h; exact absurd (show (0 : Int) ≤ -1 from h) (by decide)
  rw [decide_eq_false h3] at h ⊢
  simp only [cond_false] at h ⊢
  have a := szSt_le (show 0 ≤ szSt (namesOf x) (l - (List.length (α := Int) x.2.2.2.2.2.2.1 : Int)) by omega)
  have b := szIn_le (show 0 ≤ szIn (kidsOf x) (szSt (namesOf x) (l - (List.length (α := Int) x.2.2.2.2.2.2.1 : Int))) by omega)
  omega

theorem szNode_ok {x : tyNode.den} (hx : Read x) (l : Int) (h0 : 0 ≤ l) (h1 : l ≤ 1048576) : Evt fun n => laws_szNode (S.tab n) x l = some (szNd x l, o_laws_szNode) := by
  have w := wrapL h0 h1 hx.text.2
  unfold szNd
  by_cases c1 : l - (List.length (α := Int) x.2.2.2.2.2.2.1 : Int) < 0
  · refine base2.up fun n _ => ?_
    show laws_szNode (S.step (S.tab n)) _ _ = _
    rw [laws_szNode_eq, w, brkT (decide_eq_true c1), decide_eq_true c1]; rfl
  have hs := szStr_ok (namesOf x) (l - (List.length (α := Int) x.2.2.2.2.2.2.1 : Int)) (by omega) (by omega) (fun m hm => (hx.names.1 m hm).2) hx.names.2
  rw [decide_eq_false c1]
  by_cases c2 : szSt (namesOf x) (l - (List.length (α := Int) x.2.2.2.2.2.2.1 : Int)) < 0
  · refine hs.up fun n hs => ?_
    show laws_szNode (S.step (S.tab n)) _ _ = _
    rw [laws_szNode_eq, w, brkF (decide_eq_false c1)]
    show (laws_szStringS (S.tab n) (namesOf x) _).bind _ = _
    rw [hs, Option.bind_some, brkT (decide_eq_true c2), decide_eq_true c2]; rfl
  have a := szSt_le (show 0 ≤ szSt (namesOf x) (l - (List.length (α := Int) x.2.2.2.2.2.2.1 : Int)) by omega)
  have hi := szInt_ok (kidsOf x) (szSt (namesOf x) (l - (List.length (α := Int) x.2.2.2.2.2.2.1 : Int))) (by omega) (by omega) hx.kids
  rw [decide_eq_false c2]
  refine (hs.and hi).up fun n ⟨hs, hi⟩ => ?_
  show laws_szNode (S.step (S.tab n)) _ _ = _
  rw [laws_szNode_eq, w, brkF (decide_eq_false c1)]
  show (laws_szStringS (S.tab n) (namesOf x) _).bind _ = _
  rw [hs, Option.bind_some, brkF (decide_eq_false c2)]
  show (laws_szIntS (S.tab n) (kidsOf x) _).bind _ = _
  rw [hi, Option.bind_some]
  by_cases c3 : szIn (kidsOf x) (szSt (namesOf x) (l - (List.length (α := Int) x.2.2.2.2.2.2.1 : Int))) < 0
  · rw [brkT (decide_eq_true c3), decide_eq_true c3]; rfl
  · rw [brkF (decide_eq_false c3), decide_eq_false c3]; rfl

theorem szNs_l5_ok : ∀ (r pre : List tyNode.den) (l : Int), 0 ≤ l → l ≤ 1048576 → (∀ x ∈ r, Read x) → (pre ++ r).length ≤ 2097152 →
    Evt fun n => ∃ y, laws_szNodeS_l5 (S.tab n) (pre ++ r) l (pre.length : Int) = some y ∧ (y = .inl (szNs r l, ()) ∨ y = .inr (.inl (szNs r l, ())))
  | [], pre, l, _, _, _, _ => base2.up fun n _ => by
    show ∃ y, laws_szNodeS_l5 (S.step (S.tab n)) _ _ _ = _ ∧ _
    rw [laws_szNodeS_l5_eq, brkF (by simp)]
    exact ⟨_, rfl, .inr rfl⟩
  | x :: r, pre, l, h0, h1, hm, hl => by
    have hlen : (pre ++ x :: r).length = pre.length + (r.length + 1) := by simp
    have hg : at_ (τ := tyNode) (pre ++ x :: r) (pre.length : Int) = x := by rw [at_node _ _ (by omega)]; simp
    have hz := szNode_ok (hm x (List.mem_cons_self ..)) l h0 h1
    have start : ∀ n, laws_szNode (S.tab n) x l = some (szNd x l, o_laws_szNode) → laws_szNodeS_l5 (S.step (S.tab n)) (pre ++ x :: r) l (pre.length : Int) = _ := fun n hz => by
      rw [laws_szNodeS_l5_eq, brkT (by simp only [decide_eq_true_eq]; omega), brkT (inb_nat (by omega)), hg, hz, Option.bind_some, wrap1 (by omega)]
    unfold szNs
    by_cases h : szNd x l < 0
    · refine hz.up fun n hz => ?_
      show ∃ y, laws_szNodeS_l5 (S.step (S.tab n)) _ _ _ = _ ∧ _
      rw [start n hz, brkT (decide_eq_true h), decide_eq_true h]
      exact ⟨_, rfl, .inl rfl⟩
    · have hle := szNd_le (show 0 ≤ szNd x l by omega)
      have ih := szNs_l5_ok r (pre ++ [x]) (szNd x l) (by omega) (by omega) (fun y hy => hm y (List.mem_cons_of_mem _ hy)) (by simpa using hl)
      refine (hz.and ih).up fun n ⟨hz, ih⟩ => ?_
      show ∃ y, laws_szNodeS_l5 (S.step (S.tab n)) _ _ _ = _ ∧ _
      rw [start n hz, brkF (decide_eq_false h), decide_eq_false h]
      have e1 : (pre ++ [x]) ++ r = pre ++ x :: r := by simp
      have e2 : (pre ++ [x]).length = pre.length + 1 := by simp
      rw [e1, e2] at ih
      exact ih

theorem szNs_all : ∀ (r : List tyNode.den) (l : Int), 0 ≤ szNs r l → l ≤ 1048576 → ∀ x ∈ r, ((namesOf x).length : Int) ≤ 1048576 ∧ ((kidsOf x).length : Int) ≤ 1048576 ∧ (List.length (α := Int) x.2.2.2.2.2.2.1 : Int) ≤ 1048576
  | [], l, _, _, x, hx => by cases hx
  | y :: r, l, h, h1, x, hx => by
    unfold szNs at h
    by_cases hd : szNd y l < 0
    · rw [decide_eq_true hd] at h; exact absurd (show (0 : Int) ≤ -1 from h) (by decide)
    rw [decide_eq_false hd] at h
    have hle := szNd_le (show 0 ≤ szNd y l by omega)
    rcases List.mem_cons.1 hx with rfl | hx
    · omega
    · exact szNs_all r _ h (by omega) x hx

theorem szTree_ok (ns : List tyNode.den) (hN : ∀ x ∈ ns, Read x) (hn : ns.length ≤ maxLen) : Evt fun n => laws_szTree (S.tab n) (ns, ()) 1048576 = some (bif decide (szTr ns 1048576 < 0) then -1 else szTr ns 1048576, o_laws_szTree) := by
  have w := wrapL (l := 1048576) (by decide) (by decide) hn
  have hS : Evt fun n => laws_szNodeS (S.tab n) ns 1048576 = some (szTr ns 1048576, o_laws_szNodeS) := by
    unfold szTr
    by_cases h : 1048576 - (ns.length : Int) < 0
    · refine base2.up fun n _ => ?_
      show laws_szNodeS (S.step (S.tab n)) _ _ = _
      rw [laws_szNodeS_eq, w, brkT (decide_eq_true h), decide_eq_true h]; rfl
    · refine (szNs_l5_ok ns [] (1048576 - (ns.length : Int)) (by omega) (by omega) hN (by simp only [List.nil_append]; omega)).up fun n ⟨y, h', hy⟩ => ?_
      show laws_szNodeS (S.step (S.tab n)) _ _ = _
      have h' : laws_szNodeS_l5 (S.tab n) ns (1048576 - (ns.length : Int)) 0 = some y := h'
      rw [laws_szNodeS_eq, w, brkF (decide_eq_false h), decide_eq_false h, h', Option.bind_some]
      rcases hy with rfl | rfl <;> rfl
  refine hS.up fun n h => ?_
  show laws_szTree (S.step (S.tab n)) _ _ = _
  rw [laws_szTree_eq]
  show (laws_szNodeS (S.tab n) ns 1048576).bind _ = _
  rw [h, Option.bind_some]
  by_cases hd : szTr ns 1048576 < 0
  · rw [brkT (decide_eq_true hd), decide_eq_true hd]; rfl
  · rw [brkF (decide_eq_false hd), decide_eq_false hd]; rfl

/-! Copies. -/
theorem toStr_l3_ok : ∀ (r pre : List (List Int)), (pre ++ r).length ≤ 2097152 → Evt fun n => laws_toStringS_l3 (S.tab n) (pre ++ r) (pre ++ List.replicate r.length []) (pre.length : Int) = some (Sum.inl (pre ++ r, ()))
  | [], pre, hl => base2.up fun n _ => by
    show laws_toStringS_l3 (S.step (S.tab n)) _ _ _ = _
    rw [laws_toStringS_l3_eq, brkF (by simp)]
    simp
  | m :: r, pre, hl => by
    have hlen : (pre ++ m :: r).length = pre.length + (r.length + 1) := by simp
    have ih := toStr_l3_ok r (pre ++ [m]) (by simpa using hl)
    refine ih.up fun n h => ?_
    show laws_toStringS_l3 (S.step (S.tab n)) _ _ _ = _
    have hg : (pre ++ m :: r).getD (pre.length : Int).toNat [] = m := getD_cut pre m r []
    have e1 : (pre ++ [m]) ++ r = pre ++ m :: r := by simp
    have e2 : (pre ++ [m]).length = pre.length + 1 := by simp
    have e3 : (pre ++ [m]) ++ List.replicate r.length [] = pre ++ m :: List.replicate r.length [] := by simp
    rw [e1, e2, e3] at h
    rw [laws_toStringS_l3_eq, brkT (by simp only [decide_eq_true_eq]; omega), brkT (inb_nat (by omega)), List.length_cons, List.replicate_succ, brkT (inb_nat (by simp)), hg, Int.toNat_natCast, set_mid, wrap1 (by omega)]
    exact h

theorem limOk {k : Nat} (h : k ≤ 2097152) : (decide ((0 : Int) ≤ (k : Int)) && decide ((k : Int) ≤ (k : Int)) && decide ((k : Int) ≤ (lim : Int))) = true := by
  rw [decide_eq_true (show (0 : Int) ≤ (k : Int) by omega), decide_eq_true (show (k : Int) ≤ (k : Int) by omega), decide_eq_true (show (k : Int) ≤ (lim : Int) by unfold lim; omega)]; rfl

theorem toStr_ok (l : List (List Int)) (hl : l.length ≤ 2097152) : Evt fun n => laws_toStringS (S.tab n) l = some (l, o_laws_toStringS) := (toStr_l3_ok l [] (by simpa using hl)).up fun n h => by
  show laws_toStringS (S.step (S.tab n)) _ = _
  have h : laws_toStringS_l3 (S.tab n) l (List.replicate l.length []) 0 = some (Sum.inl (l, ())) := h
  rw [laws_toStringS_eq, brkT (limOk hl), Int.toNat_natCast, h]; rfl

theorem toInt_l3_ok : ∀ (r pre : List Int), (pre ++ r).length ≤ 2097152 → Evt fun n => laws_toIntS_l3 (S.tab n) (pre ++ r) (pre ++ List.replicate r.length 0) (pre.length : Int) = some (Sum.inl (pre ++ r, ()))
  | [], pre, hl => base2.up fun n _ => by
    show laws_toIntS_l3 (S.step (S.tab n)) _ _ _ = _
    rw [laws_toIntS_l3_eq, brkF (by simp)]
    simp
  | m :: r, pre, hl => by
    have hlen : (pre ++ m :: r).length = pre.length + (r.length + 1) := by simp
    have ih := toInt_l3_ok r (pre ++ [m]) (by simpa using hl)
    refine ih.up fun n h => ?_
    show laws_toIntS_l3 (S.step (S.tab n)) _ _ _ = _
    have hg : (pre ++ m :: r).getD (pre.length : Int).toNat 0 = m := getD_cut pre m r 0
    have e1 : (pre ++ [m]) ++ r = pre ++ m :: r := by simp
    have e2 : (pre ++ [m]).length = pre.length + 1 := by simp
    have e3 : (pre ++ [m]) ++ List.replicate r.length 0 = pre ++ m :: List.replicate r.length 0 := by simp
    rw [e1, e2, e3] at h
    rw [laws_toIntS_l3_eq, brkT (by simp only [decide_eq_true_eq]; omega), brkT (inb_nat (by omega)), List.length_cons, List.replicate_succ, brkT (inb_nat (by simp)), hg, Int.toNat_natCast, set_mid, wrap1 (by omega)]
    exact h

theorem toInt_ok (l : List Int) (hl : l.length ≤ 2097152) : Evt fun n => laws_toIntS (S.tab n) l = some (l, o_laws_toIntS) := (toInt_l3_ok l [] (by simpa using hl)).up fun n h => by
  show laws_toIntS (S.step (S.tab n)) _ = _
  have h : laws_toIntS_l3 (S.tab n) l (List.replicate l.length 0) 0 = some (Sum.inl (l, ())) := h
  rw [laws_toIntS_eq, brkT (limOk hl), Int.toNat_natCast, h]; rfl

theorem toNode_ok {x : tyNode.den} (hx : NodeOk x) : Evt fun n => laws_toNode (S.tab n) x = some (x, o_laws_toNode) := ((toStr_ok (namesOf x) hx.nn).and (toInt_ok (kidsOf x) hx.nk)).up fun n ⟨h1, h2⟩ => by
  show laws_toNode (S.step (S.tab n)) _ = _
  rw [laws_toNode_eq]
  show (laws_toStringS (S.tab n) (namesOf x)).bind _ = _
  rw [h1, Option.bind_some]
  show (laws_toIntS (S.tab n) (kidsOf x)).bind _ = _
  rw [h2]; rfl

theorem toNodes_l3_ok (d : tyNode.den) : ∀ (r pre : List tyNode.den), (∀ x ∈ r, NodeOk x) → (pre ++ r).length ≤ 2097152 → Evt fun n => laws_toNodeS_l3 (S.tab n) (pre ++ r) (pre ++ List.replicate r.length d) (pre.length : Int) = some (Sum.inl (pre ++ r, ()))
  | [], pre, _, hl => base2.up fun n _ => by
    show laws_toNodeS_l3 (S.step (S.tab n)) _ _ _ = _
    rw [laws_toNodeS_l3_eq, brkF (by simp)]
    simp
  | x :: r, pre, hN, hl => by
    have hlen : (pre ++ x :: r).length = pre.length + (r.length + 1) := by simp
    have ih := toNodes_l3_ok d r (pre ++ [x]) (fun y hy => hN y (List.mem_cons_of_mem _ hy)) (by simpa using hl)
    refine (ih.and (toNode_ok (hN x (List.mem_cons_self ..)))).up fun n ⟨h, hx⟩ => ?_
    show laws_toNodeS_l3 (S.step (S.tab n)) _ _ _ = _
    have hg : at_ (τ := tyNode) (pre ++ x :: r) (pre.length : Int) = x := by rw [at_node _ _ (by omega)]; simp
    have e1 : (pre ++ [x]) ++ r = pre ++ x :: r := by simp
    have e2 : (pre ++ [x]).length = pre.length + 1 := by simp
    have e3 : (pre ++ [x]) ++ List.replicate r.length d = pre ++ x :: List.replicate r.length d := by simp
    rw [e1, e2, e3] at h
    rw [laws_toNodeS_l3_eq, brkT (by simp only [decide_eq_true_eq]; omega), brkT (inb_nat (by omega)), hg, hx, Option.bind_some, List.length_cons, List.replicate_succ, brkT (inb_nat (by simp)), Int.toNat_natCast, set_mid, wrap1 (by omega)]
    exact h

theorem toTree_ok (ns : List tyNode.den) (hN : ∀ x ∈ ns, NodeOk x) (hl : ns.length ≤ 2097152) : Evt fun n => laws_toTree (S.tab n) (ns, ()) = some ((ns, ()), o_laws_toTree) := by
  have h1 : Evt fun n => laws_toNodeS (S.tab n) ns = some (ns, o_laws_toNodeS) := (toNodes_l3_ok _ ns [] hN (by simpa using hl)).up fun n h => by
    show laws_toNodeS (S.step (S.tab n)) _ = _
    rw [laws_toNodeS_eq, brkT (limOk hl), Int.toNat_natCast]
    have h : laws_toNodeS_l3 (S.tab n) ns (List.replicate ns.length ((0 : Int), (0 : Int), (0 : Int), (0 : Int), (0 : Int), (0 : Int), ([] : List Int), [], [], ())) 0 = some (Sum.inl (ns, ())) := h
    rw [h]; rfl
  exact h1.up fun n h => by
    show laws_toTree (S.step (S.tab n)) _ = _
    rw [laws_toTree_eq]
    show (laws_toNodeS (S.tab n) ns).bind _ = _
    rw [h]; rfl

/-! Equal to itself. -/
theorem eqStr_refl (l : List (List Int)) (hl : l.length ≤ 2097152) : Evt fun n => laws_eqStringS (S.tab n) l l = some (true, o_laws_eqStringS) := by
  have := allL (F := fun T j => laws_eqStringS_l4 T l l (j : Int)) (P := fun _ => true) (l := l) (yes := Sum.inr (Sum.inl ())) (no := Sum.inl (false, ())) (q := Base2) base2
    (fun T j h hT => by
      show laws_eqStringS_l4 (S.step T) _ _ _ = bif true then laws_eqStringS_l4 T l l ((j + 1 : Nat) : Int) else _
      rw [laws_eqStringS_l4_eq, brkT (by simp only [decide_eq_true_eq]; omega), brkT (inb_nat h), brkT (inb_nat h), brkF (by simp), wrap1 (by omega)]; rfl)
    (fun T hT => by
      show laws_eqStringS_l4 (S.step T) _ _ _ = _
      rw [laws_eqStringS_l4_eq, brkF (by simp)]) l.length 0 (by omega)
  refine this.up fun n h => ?_
  show laws_eqStringS (S.step (S.tab n)) _ _ = _
  have e : (l.drop 0).all (fun _ => true) = true := by simp
  rw [e] at h
  have h : laws_eqStringS_l4 (S.tab n) l l 0 = _ := h
  rw [laws_eqStringS_eq, brkF (by simp), h]; rfl

theorem eqInt_refl (l : List Int) (hl : l.length ≤ 2097152) : Evt fun n => laws_eqIntS (S.tab n) l l = some (true, o_laws_eqIntS) := by
  have := allL (F := fun T j => laws_eqIntS_l4 T l l (j : Int)) (P := fun _ => true) (l := l) (yes := Sum.inr (Sum.inl ())) (no := Sum.inl (false, ())) (q := Base2) base2
    (fun T j h hT => by
      show laws_eqIntS_l4 (S.step T) _ _ _ = bif true then laws_eqIntS_l4 T l l ((j + 1 : Nat) : Int) else _
      rw [laws_eqIntS_l4_eq, brkT (by simp only [decide_eq_true_eq]; omega), brkT (inb_nat h), brkT (inb_nat h), brkF (by simp), wrap1 (by omega)]; rfl)
    (fun T hT => by
      show laws_eqIntS_l4 (S.step T) _ _ _ = _
      rw [laws_eqIntS_l4_eq, brkF (by simp)]) l.length 0 (by omega)
  refine this.up fun n h => ?_
  show laws_eqIntS (S.step (S.tab n)) _ _ = _
  have e : (l.drop 0).all (fun _ => true) = true := by simp
  rw [e] at h
  have h : laws_eqIntS_l4 (S.tab n) l l 0 = _ := h
  rw [laws_eqIntS_eq, brkF (by simp), h]; rfl

theorem eqNode_refl {x : tyNode.den} (hx : NodeOk x) : Evt fun n => laws_eqNode (S.tab n) x x = some (true, o_laws_eqNode) := ((eqStr_refl (namesOf x) hx.nn).and (eqInt_refl (kidsOf x) hx.nk)).up fun n ⟨h1, h2⟩ => by
  show laws_eqNode (S.step (S.tab n)) _ _ = _
  have d : ∀ (x : Int), (!decide (x = x)) = false := fun x => by simp
  have d' : ∀ (x : List Int), (!decide (x = x)) = false := fun x => by simp
  have h1 : laws_eqStringS (S.tab n) x.2.2.2.2.2.2.2.1 x.2.2.2.2.2.2.2.1 = _ := h1
  have h2 : laws_eqIntS (S.tab n) x.2.2.2.2.2.2.2.2.1 x.2.2.2.2.2.2.2.2.1 = _ := h2
  rw [laws_eqNode_eq, brkF (d _), brkF (d _), brkF (d _), brkF (d _), brkF (d _), brkF (d _), brkF (d' _), h1, Option.bind_some, brkF (by rfl), h2, Option.bind_some, brkF (by rfl)]

theorem eqTree_refl (ns : List tyNode.den) (hN : ∀ x ∈ ns, NodeOk x) (hl : ns.length ≤ 2097152) : Evt fun n => laws_eqTree (S.tab n) (ns, ()) (ns, ()) = some (true, o_laws_eqTree) := by
  have hall : ∀ (l : List tyNode.den), (∀ x ∈ l, NodeOk x) → Evt fun n => ∀ x ∈ l, laws_eqNode (S.tab n) x x = some (true, o_laws_eqNode) := by
    intro l
    induction l with
    | nil => intro _; exact Evt.of fun _ j h => by cases h
    | cons a l ih =>
      intro h
      refine ((eqNode_refl (h a (List.mem_cons_self ..))).and (ih fun j hj => h j (List.mem_cons_of_mem _ hj))).mono fun n ⟨h1, h2⟩ j hj => ?_
      rcases List.mem_cons.1 hj with rfl | hj
      · exact h1
      · exact h2 j hj
  have := allL (F := fun T j => laws_eqNodeS_l4 T ns ns (j : Int)) (P := fun _ => true) (l := ns) (yes := Sum.inr (Sum.inl ())) (no := Sum.inl (false, ())) (q := fun T => ∀ x ∈ ns, laws_eqNode T x x = some (true, o_laws_eqNode)) (hall ns hN)
    (fun T j h hT => by
      show laws_eqNodeS_l4 (S.step T) _ _ _ = bif true then laws_eqNodeS_l4 T ns ns ((j + 1 : Nat) : Int) else _
      rw [laws_eqNodeS_l4_eq, brkT (by simp only [decide_eq_true_eq]; omega), brkT (inb_nat h), brkT (inb_nat h), at_node _ _ h, hT _ (List.getElem_mem h), Option.bind_some, brkF (by rfl), wrap1 (by omega)]; rfl)
    (fun T hT => by
      show laws_eqNodeS_l4 (S.step T) _ _ _ = _
      rw [laws_eqNodeS_l4_eq, brkF (by simp)]) ns.length 0 (by omega)
  have h2 : Evt fun n => laws_eqNodeS (S.tab n) ns ns = some (true, o_laws_eqNodeS) := this.up fun n h => by
    show laws_eqNodeS (S.step (S.tab n)) _ _ = _
    have e : (ns.drop 0).all (fun _ => true) = true := by simp
    rw [e] at h
    have h : laws_eqNodeS_l4 (S.tab n) ns ns 0 = _ := h
    rw [laws_eqNodeS_eq, brkF (by simp), h]; rfl
  exact h2.up fun n h => by
    show laws_eqTree (S.step (S.tab n)) _ _ = _
    rw [laws_eqTree_eq]
    show (laws_eqNodeS (S.tab n) ns ns).bind _ = _
    rw [h, Option.bind_some, brkF (by rfl)]

/-- What the guard lets in. -/
theorem guard (ns : List tyNode.den) (hN : ∀ x ∈ ns, Read x) (h : ¬ szTr ns 1048576 < 0) : (∀ x ∈ ns, NodeOk x) ∧ ns.length ≤ 2097152 := by
  unfold szTr at h
  by_cases hd : 1048576 - (ns.length : Int) < 0
  · rw [decide_eq_true hd] at h; exact absurd (show (-1 : Int) < 0 by decide) h
  rw [decide_eq_false hd] at h
  have h : ¬ szNs ns (1048576 - (ns.length : Int)) < 0 := h
  refine ⟨fun x hx => ?_, by omega⟩
  obtain ⟨h1, h2, h3⟩ := szNs_all ns (1048576 - (ns.length : Int)) (by omega) (by omega) x hx
  have hr := hN x hx
  exact ⟨hr.text.1, fun m hm => (hr.names.1 m hm).1, by omega, by omega⟩


end Go.Abs.D
end

section
namespace Go.Abs.D

def bareN (x : tyNode.den) : tyNode.den := (x.1, 0, 0, 0, x.2.2.2.2)
def bareM (l : List tyNode.den) : List tyNode.den := l.map bareN

theorem bareM_ok {l : List tyNode.den} (h : ∀ x ∈ l, NodeOk x) : ∀ x ∈ bareM l, NodeOk x := by
  intro y hy
  obtain ⟨x, hx, rfl⟩ := List.mem_map.1 hy
  have := h x hx
  exact ⟨this.text, this.names, this.nn, this.nk⟩

theorem l2copy_l4_ok (t1 t2 : tyNode.den) (a b c d e f : Int) (g : List Int) (ks : List Int) : ∀ (r pre : List (List Int)), (pre ++ r).length ≤ 2097152 →
    Evt fun n => spec_l2copy_l4 (S.tab n) t1 t2 (a, b, c, d, e, f, g, pre, ks, ()) (pre ++ r) ((pre ++ r).length : Int) (pre.length : Int) = some (Sum.inl (t1, t2, (a, b, c, d, e, f, g, pre ++ r, ks, ()), ()))
  | [], pre, hl => base2.up fun n _ => by
    show spec_l2copy_l4 (S.step (S.tab n)) _ _ _ _ _ _ = _
    rw [spec_l2copy_l4_eq, brkF (by simp)]
    simp
  | m :: r, pre, hl => by
    have hlen : (pre ++ m :: r).length = pre.length + (r.length + 1) := by simp
    have ih := l2copy_l4_ok t1 t2 a b c d e f g ks r (pre ++ [m]) (by simpa using hl)
    have e1 : (pre ++ [m]) ++ r = pre ++ m :: r := by simp
    have e2 : (pre ++ [m]).length = pre.length + 1 := by simp
    rw [e1, e2] at ih
    have hg : (pre ++ m :: r).getD (pre.length : Int).toNat [] = m := getD_cut pre m r []
    refine ih.up fun n ih => ?_
    show spec_l2copy_l4 (S.step (S.tab n)) _ _ _ _ _ _ = _
    rw [spec_l2copy_l4_eq, brkT (by simp only [decide_eq_true_eq]; omega), brkT (inb_nat (by omega)), brkT (fits_of (by show pre.length + 1 ≤ _; unfold lim; omega)), hg, wrap1 (by omega)]
    exact ih

theorem l2copy_l10_ok (t2 : tyNode.den) (a b c d e f : Int) (g : List Int) (ns : List (List Int)) : ∀ (r pre : List Int), (pre ++ r).length ≤ 2097152 →
    Evt fun n => spec_l2copy_l10 (S.tab n) t2 (a, b, c, d, e, f, g, ns, pre, ()) (pre ++ r) ((pre ++ r).length : Int) (pre.length : Int) = some (Sum.inl (t2, (a, b, c, d, e, f, g, ns, pre ++ r, ()), ()))
  | [], pre, hl => base2.up fun n _ => by
    show spec_l2copy_l10 (S.step (S.tab n)) _ _ _ _ _ = _
    rw [spec_l2copy_l10_eq, brkF (by simp)]
    simp
  | m :: r, pre, hl => by
    have hlen : (pre ++ m :: r).length = pre.length + (r.length + 1) := by simp
    have ih := l2copy_l10_ok t2 a b c d e f g ns r (pre ++ [m]) (by simpa using hl)
    have e1 : (pre ++ [m]) ++ r = pre ++ m :: r := by simp
    have e2 : (pre ++ [m]).length = pre.length + 1 := by simp
    rw [e1, e2] at ih
    have hg : (pre ++ m :: r).getD (pre.length : Int).toNat 0 = m := getD_cut pre m r 0
    refine ih.up fun n ih => ?_
    show spec_l2copy_l10 (S.step (S.tab n)) _ _ _ _ _ = _
    rw [spec_l2copy_l10_eq, brkT (by simp only [decide_eq_true_eq]; omega), brkT (inb_nat (by omega)), brkT (fits_of (by show pre.length + 1 ≤ _; unfold lim; omega)), hg, wrap1 (by omega)]
    exact ih

theorem l2copy_ok {x : tyNode.den} (hx : NodeOk x) : Evt fun n => spec_l2copy (S.tab n) x = some (x, o_spec_l2copy) := by
  obtain ⟨a, b, c, d, e, f, g, ns, ks, _⟩ := x
  have hn : ns.length ≤ 2097152 := hx.nn
  have hk : ks.length ≤ 2097152 := hx.nk
  refine ((l2copy_l4_ok (a, b, c, d, e, f, g, ns, ks, ()) (0, 0, 0, 0, 0, 0, [], [], [], ()) a b c d e f g ks ns [] (by simpa using hn)).and (l2copy_l10_ok (0, 0, 0, 0, 0, 0, [], [], [], ()) a b c d e f g ns ks [] (by simpa using hk))).up fun n ⟨h1, h2⟩ => ?_
  show spec_l2copy (S.step (S.tab n)) _ = _
  rw [spec_l2copy_eq]
  have h1 : spec_l2copy_l4 (S.tab n) (a, b, c, d, e, f, g, ns, ks, ()) ((0 : Int), (0 : Int), (0 : Int), (0 : Int), (0 : Int), (0 : Int), ([] : List Int), [], [], ()) (a, b, c, d, e, f, g, [], ks, ()) ns (ns.length : Int) 0 = some (Sum.inl ((a, b, c, d, e, f, g, ns, ks, ()), (0, 0, 0, 0, 0, 0, [], [], [], ()), (a, b, c, d, e, f, g, ns, ks, ()), ())) := h1
  have h2 : spec_l2copy_l10 (S.tab n) ((0 : Int), (0 : Int), (0 : Int), (0 : Int), (0 : Int), (0 : Int), ([] : List Int), [], [], ()) (a, b, c, d, e, f, g, ns, [], ()) ks (ks.length : Int) 0 = some (Sum.inl ((0, 0, 0, 0, 0, 0, [], [], [], ()), (a, b, c, d, e, f, g, ns, ks, ()), ())) := h2
  dsimp only
  rw [h1, Option.bind_some]
  simp only [out1, Sum.elim_inl]
  rw [h2]; rfl

theorem copyNode_ok {x : tyNode.den} (hx : NodeOk x) : Evt fun n => impl_copyNode (S.tab n) x = some (x, o_impl_copyNode) := base2.up fun n _ => by
  have hn : x.2.2.2.2.2.2.2.1.length ≤ 2097152 := hx.nn
  have hk : x.2.2.2.2.2.2.2.2.1.length ≤ 2097152 := hx.nk
  show impl_copyNode (S.step (S.tab n)) _ = _
  rw [impl_copyNode_eq, brkT (fits_of (by unfold lim; omega)), brkT (fits_of (by unfold lim; omega))]

theorem spec_Bare_l3_ok (t2 : List tyNode.den × Unit) : ∀ (r pre : List tyNode.den), (∀ x ∈ r, NodeOk x) → (pre ++ r).length ≤ 2097152 →
    Evt fun n => spec_Bare_l3 (S.tab n) t2 (bareM pre, ()) (pre ++ r) ((pre ++ r).length : Int) (pre.length : Int) = some (Sum.inl (t2, (bareM (pre ++ r), ()), ()))
  | [], pre, _, hl => base2.up fun n _ => by
    show spec_Bare_l3 (S.step (S.tab n)) _ _ _ _ _ = _
    rw [spec_Bare_l3_eq, brkF (by simp)]
    simp
  | m :: r, pre, hN, hl => by
    have hlen : (pre ++ m :: r).length = pre.length + (r.length + 1) := by simp
    have ih := spec_Bare_l3_ok t2 r (pre ++ [m]) (fun y hy => hN y (List.mem_cons_of_mem _ hy)) (by simpa using hl)
    have e1 : (pre ++ [m]) ++ r = pre ++ m :: r := by simp
    have e2 : (pre ++ [m]).length = pre.length + 1 := by simp
    have e3 : bareM (pre ++ [m]) = bareM pre ++ [bareN m] := by simp [bareM]
    rw [e1, e2, e3] at ih
    have hg : at_ (τ := tyNode) (pre ++ m :: r) (pre.length : Int) = m := by rw [at_node _ _ (by omega)]; simp
    have hb : (bareM pre).length = pre.length := by simp [bareM]
    refine (ih.and (l2copy_ok (hN m (List.mem_cons_self ..)))).up fun n ⟨ih, hc⟩ => ?_
    show spec_Bare_l3 (S.step (S.tab n)) _ _ _ _ _ = _
    rw [spec_Bare_l3_eq, brkT (by simp only [decide_eq_true_eq]; omega), brkT (inb_nat (by omega)), hg, hc, Option.bind_some, brkT (fits_of (by show (bareM pre).length + 1 ≤ _; unfold lim; omega)), wrap1 (by omega)]
    exact ih

theorem impl_Bare_l3_ok (t2 : List tyNode.den × Unit) : ∀ (r pre : List tyNode.den), (∀ x ∈ r, NodeOk x) → (pre ++ r).length ≤ 2097152 →
    Evt fun n => impl_Bare_l3 (S.tab n) t2 (bareM pre, ()) (pre ++ r) ((pre ++ r).length : Int) (pre.length : Int) = some (Sum.inl (t2, (bareM (pre ++ r), ()), ()))
  | [], pre, _, hl => base2.up fun n _ => by
    show impl_Bare_l3 (S.step (S.tab n)) _ _ _ _ _ = _
    rw [impl_Bare_l3_eq, brkF (by simp)]
    simp
  | m :: r, pre, hN, hl => by
    have hlen : (pre ++ m :: r).length = pre.length + (r.length + 1) := by simp
    have ih := impl_Bare_l3_ok t2 r (pre ++ [m]) (fun y hy => hN y (List.mem_cons_of_mem _ hy)) (by simpa using hl)
    have e1 : (pre ++ [m]) ++ r = pre ++ m :: r := by simp
    have e2 : (pre ++ [m]).length = pre.length + 1 := by simp
    have e3 : bareM (pre ++ [m]) = bareM pre ++ [bareN m] := by simp [bareM]
    rw [e1, e2, e3] at ih
    have hg : at_ (τ := tyNode) (pre ++ m :: r) (pre.length : Int) = m := by rw [at_node _ _ (by omega)]; simp
    have hb : (bareM pre).length = pre.length := by simp [bareM]
    refine (ih.and (copyNode_ok (hN m (List.mem_cons_self ..)))).up fun n ⟨ih, hc⟩ => ?_
    show impl_Bare_l3 (S.step (S.tab n)) _ _ _ _ _ = _
    rw [impl_Bare_l3_eq, brkT (by simp only [decide_eq_true_eq]; omega), brkT (inb_nat (by omega)), hg, hc, Option.bind_some, brkT (fits_of (by show (bareM pre).length + 1 ≤ _; unfold lim; omega)), wrap1 (by omega)]
    exact ih

theorem spec_Bare_ok (l : List tyNode.den) (hN : ∀ x ∈ l, NodeOk x) (hl : l.length ≤ 2097152) : Evt fun n => spec_Bare (S.tab n) (l, ()) = some ((bareM l, ()), o_spec_Bare) :=
  (spec_Bare_l3_ok ([], ()) l [] hN (by simpa using hl)).up fun n h => by
    show spec_Bare (S.step (S.tab n)) _ = _
    have h : spec_Bare_l3 (S.tab n) ([], ()) ([], ()) l (l.length : Int) 0 = some (Sum.inl (([], ()), (bareM l, ()), ())) := h
    rw [spec_Bare_eq, h]; rfl

theorem impl_Bare_ok (l : List tyNode.den) (hN : ∀ x ∈ l, NodeOk x) (hl : l.length ≤ 2097152) : Evt fun n => impl_Bare (S.tab n) (l, ()) = some ((bareM l, ()), o_impl_Bare) :=
  (impl_Bare_l3_ok ([], ()) l [] hN (by simpa using hl)).up fun n h => by
    show impl_Bare (S.step (S.tab n)) _ = _
    have h : impl_Bare_l3 (S.tab n) ([], ()) ([], ()) l (l.length : Int) 0 = some (Sum.inl (([], ()), (bareM l, ()), ())) := h
    rw [impl_Bare_eq, h]; rfl

end Go.Abs.D
end

section
namespace Go.Abs.D

theorem at_mid {τ : Ty} (pre : List τ.den) (x : τ.den) (r : List τ.den) : at_ (pre ++ x :: r) (pre.length : Int) = x := by
  unfold at_
  rw [Int.toNat_natCast]
  exact getD_cut pre x r _

theorem upN_mid {τ : Ty} (pre : List τ.den) (x : τ.den) (r : List τ.den) (f : τ.den → τ.den) : updAt (pre ++ x :: r) (pre.length : Int) f = pre ++ f x :: r := by
  unfold updAt
  rw [at_mid, Int.toNat_natCast]
  exact set_mid pre x (f x) r

theorem upn (pre : List tyNode.den) (x : tyNode.den) (r : List tyNode.den) (f : tyNode.den → tyNode.den) : updAt (τ := tyNode) (pre ++ x :: r) (pre.length : Int) f = pre ++ f x :: r := upN_mid (τ := tyNode) pre x r f
theorem atn (pre : List tyNode.den) (x : tyNode.den) (r : List tyNode.den) : at_ (τ := tyNode) (pre ++ x :: r) (pre.length : Int) = x := at_mid (τ := tyNode) pre x r

theorem upup {τ : Ty} (xs : List τ.den) (i : Int) (f g : τ.den → τ.den) : updAt (updAt xs i f) i g = updAt xs i (fun e => g (f e)) := by
  unfold updAt
  rw [List.set_set]
  by_cases h : i.toNat < xs.length
  · have : at_ (xs.set i.toNat (f (at_ xs i))) i = f (at_ xs i) := by
      unfold at_
      rw [List.getD_eq_getElem?_getD, List.getElem?_set_self h]; rfl
    rw [this]
  · rw [List.set_eq_of_length_le (by omega), List.set_eq_of_length_le (by omega)]

theorem in_mid {α : Type} (pre : List α) (x : α) (r : List α) : (decide ((0 : Int) ≤ (pre.length : Int)) && decide ((pre.length : Int) < ((pre ++ x :: r).length : Int))) = true := inb_nat (by simp)

def mkS : Int → List (List Int) → List (List Int)
  | _, [] => []
  | k, _ :: r => markT k :: mkS (k + 1) r
def mkI : Int → List Int → List Int
  | _, [] => []
  | k, _ :: r => k :: mkI (k + 1) r

theorem mkS_len : ∀ (l : List (List Int)) (k : Int), (mkS k l).length = l.length
  | [], _ => rfl
  | _ :: r, k => by simp [mkS, mkS_len r (k + 1)]
theorem mkI_len : ∀ (l : List Int) (k : Int), (mkI k l).length = l.length
  | [], _ => rfl
  | _ :: r, k => by simp [mkI, mkI_len r (k + 1)]

theorem markS_l2 : ∀ (r pre : List (List Int)) (k : Int), 0 < k → k + r.length < 1000000000000000 → (pre ++ r).length ≤ 2097152 →
    Evt fun n => laws_markStringS_l2 (S.tab n) (pre ++ r) k (pre.length : Int) = some (Sum.inl (pre ++ mkS k r, k + (r.length : Int), ()))
  | [], pre, k, _, _, _ => base2.up fun n _ => by
    show laws_markStringS_l2 (S.step (S.tab n)) _ _ _ = _
    rw [laws_markStringS_l2_eq, brkF (by simp)]
    simp [mkS]
  | m :: r, pre, k, h0, h1, hl => by
    have hlen : (pre ++ m :: r).length = pre.length + (r.length + 1) := by simp
    simp only [List.length_cons] at h1
    have ih := markS_l2 r (pre ++ [markT k]) (k + 1) (by omega) (by omega) (by simpa using hl)
    refine (ih.and (markText_ok k h0 (by omega))).up fun n ⟨ih, hm⟩ => ?_
    show laws_markStringS_l2 (S.step (S.tab n)) _ _ _ = _
    rw [laws_markStringS_l2_eq, brkT (by simp only [decide_eq_true_eq]; omega), hm, Option.bind_some, brkT (in_mid pre m r), Int.toNat_natCast, set_mid, wrap1 (by omega), wrap64 (k + 1) (by omega) (by omega)]
    have e1 : (pre ++ [markT k]) ++ r = pre ++ markT k :: r := by simp
    have e2 : (pre ++ [markT k]).length = pre.length + 1 := by simp
    rw [e1, e2] at ih
    rw [ih]
    simp [mkS]
    omega

theorem markS_ok (l : List (List Int)) (k : Int) (h0 : 0 < k) (h1 : k + l.length < 1000000000000000) (hl : l.length ≤ 2097152) : Evt fun n => laws_markStringS (S.tab n) l k = some (k + (l.length : Int), mkS k l, (), ()) :=
  (markS_l2 l [] k h0 h1 (by simpa using hl)).up fun n h => by
    show laws_markStringS (S.step (S.tab n)) _ _ = _
    have h : laws_markStringS_l2 (S.tab n) l k 0 = some (Sum.inl (mkS k l, k + (l.length : Int), ())) := h
    rw [laws_markStringS_eq, h]; rfl

theorem markI_l2 : ∀ (r pre : List Int) (k : Int), 0 < k → k + r.length < 1000000000000000 → (pre ++ r).length ≤ 2097152 →
    Evt fun n => laws_markIntS_l2 (S.tab n) (pre ++ r) k (pre.length : Int) = some (Sum.inl (pre ++ mkI k r, k + (r.length : Int), ()))
  | [], pre, k, _, _, _ => base2.up fun n _ => by
    show laws_markIntS_l2 (S.step (S.tab n)) _ _ _ = _
    rw [laws_markIntS_l2_eq, brkF (by simp)]
    simp [mkI]
  | m :: r, pre, k, h0, h1, hl => by
    have hlen : (pre ++ m :: r).length = pre.length + (r.length + 1) := by simp
    simp only [List.length_cons] at h1
    have ih := markI_l2 r (pre ++ [k]) (k + 1) (by omega) (by omega) (by simpa using hl)
    refine ih.up fun n ih => ?_
    show laws_markIntS_l2 (S.step (S.tab n)) _ _ _ = _
    rw [laws_markIntS_l2_eq, brkT (by simp only [decide_eq_true_eq]; omega), brkT (in_mid pre m r), Int.toNat_natCast, set_mid, wrap1 (by omega), wrap64 (k + 1) (by omega) (by omega)]
    have e1 : (pre ++ [k]) ++ r = pre ++ k :: r := by simp
    have e2 : (pre ++ [k]).length = pre.length + 1 := by simp
    rw [e1, e2] at ih
    rw [ih]
    simp [mkI]
    omega

theorem markI_ok (l : List Int) (k : Int) (h0 : 0 < k) (h1 : k + l.length < 1000000000000000) (hl : l.length ≤ 2097152) : Evt fun n => laws_markIntS (S.tab n) l k = some (k + (l.length : Int), mkI k l, (), ()) :=
  (markI_l2 l [] k h0 h1 (by simpa using hl)).up fun n h => by
    show laws_markIntS (S.step (S.tab n)) _ _ = _
    have h : laws_markIntS_l2 (S.tab n) l k 0 = some (Sum.inl (mkI k l, k + (l.length : Int), ())) := h
    rw [laws_markIntS_eq, h]; rfl

theorem heldS_l2 : ∀ (r pre : List (List Int)) (k : Int), 0 < k → k + r.length < 1000000000000000 → (pre ++ r).length ≤ 2097152 →
    Evt fun n => laws_heldStringS_l2 (S.tab n) (pre ++ mkS k r) k (pre.length : Int) = some (Sum.inr (Sum.inl (k + (r.length : Int), ())))
  | [], pre, k, _, _, _ => base2.up fun n _ => by
    show laws_heldStringS_l2 (S.step (S.tab n)) _ _ _ = _
    rw [laws_heldStringS_l2_eq, brkF (by simp [mkS])]
    simp
  | m :: r, pre, k, h0, h1, hl => by
    have hlen : (pre ++ m :: r).length = pre.length + (r.length + 1) := by simp
    have hlen2 : (pre ++ mkS k (m :: r)).length = pre.length + (r.length + 1) := by simp [mkS, mkS_len]
    simp only [List.length_cons] at h1
    have ih := heldS_l2 r (pre ++ [markT k]) (k + 1) (by omega) (by omega) (by simpa using hl)
    refine (ih.and (markText_ok k h0 (by omega))).up fun n ⟨ih, hm⟩ => ?_
    show laws_heldStringS_l2 (S.step (S.tab n)) _ _ _ = _
    rw [laws_heldStringS_l2_eq, brkT (by simp only [decide_eq_true_eq]; omega)]
    unfold mkS
    have hg : (pre ++ markT k :: mkS (k + 1) r).getD (pre.length : Int).toNat [] = markT k := getD_cut pre _ _ []
    rw [brkT (in_mid pre _ _), hm, Option.bind_some, hg, brkF (by simp), wrap1 (by omega), wrap64 (k + 1) (by omega) (by omega)]
    have e1 : (pre ++ [markT k]) ++ mkS (k + 1) r = pre ++ markT k :: mkS (k + 1) r := by simp
    have e2 : (pre ++ [markT k]).length = pre.length + 1 := by simp
    rw [e1, e2] at ih
    rw [ih]
    simp
    omega

theorem heldS_ok (l : List (List Int)) (k : Int) (h0 : 0 < k) (h1 : k + l.length < 1000000000000000) (hl : l.length ≤ 2097152) : Evt fun n => laws_heldStringS (S.tab n) (mkS k l) k = some (k + (l.length : Int), o_laws_heldStringS) :=
  (heldS_l2 l [] k h0 h1 (by simpa using hl)).up fun n h => by
    show laws_heldStringS (S.step (S.tab n)) _ _ = _
    have h : laws_heldStringS_l2 (S.tab n) (mkS k l) k 0 = some (Sum.inr (Sum.inl (k + (l.length : Int), ()))) := h
    rw [laws_heldStringS_eq, h]; rfl

theorem heldI_l2 : ∀ (r pre : List Int) (k : Int), 0 < k → k + r.length < 1000000000000000 → (pre ++ r).length ≤ 2097152 →
    Evt fun n => laws_heldIntS_l2 (S.tab n) (pre ++ mkI k r) k (pre.length : Int) = some (Sum.inr (Sum.inl (k + (r.length : Int), ())))
  | [], pre, k, _, _, _ => base2.up fun n _ => by
    show laws_heldIntS_l2 (S.step (S.tab n)) _ _ _ = _
    rw [laws_heldIntS_l2_eq, brkF (by simp [mkI])]
    simp
  | m :: r, pre, k, h0, h1, hl => by
    have hlen : (pre ++ m :: r).length = pre.length + (r.length + 1) := by simp
    have hlen2 : (pre ++ mkI k (m :: r)).length = pre.length + (r.length + 1) := by simp [mkI, mkI_len]
    simp only [List.length_cons] at h1
    have ih := heldI_l2 r (pre ++ [k]) (k + 1) (by omega) (by omega) (by simpa using hl)
    refine ih.up fun n ih => ?_
    show laws_heldIntS_l2 (S.step (S.tab n)) _ _ _ = _
    rw [laws_heldIntS_l2_eq, brkT (by simp only [decide_eq_true_eq]; omega)]
    unfold mkI
    have hg : (pre ++ k :: mkI (k + 1) r).getD (pre.length : Int).toNat 0 = k := getD_cut pre _ _ 0
    rw [brkT (in_mid pre _ _), hg, brkF (by simp), wrap1 (by omega), wrap64 (k + 1) (by omega) (by omega)]
    have e1 : (pre ++ [k]) ++ mkI (k + 1) r = pre ++ k :: mkI (k + 1) r := by simp
    have e2 : (pre ++ [k]).length = pre.length + 1 := by simp
    rw [e1, e2] at ih
    rw [ih]
    simp
    omega

theorem heldI_ok (l : List Int) (k : Int) (h0 : 0 < k) (h1 : k + l.length < 1000000000000000) (hl : l.length ≤ 2097152) : Evt fun n => laws_heldIntS (S.tab n) (mkI k l) k = some (k + (l.length : Int), o_laws_heldIntS) :=
  (heldI_l2 l [] k h0 h1 (by simpa using hl)).up fun n h => by
    show laws_heldIntS (S.step (S.tab n)) _ _ = _
    have h : laws_heldIntS_l2 (S.tab n) (mkI k l) k 0 = some (Sum.inr (Sum.inl (k + (l.length : Int), ()))) := h
    rw [laws_heldIntS_eq, h]; rfl

/-! Nodes. -/
def nd (k : Int) (x : tyNode.den) : tyNode.den := (k, k + 1, k + 2, k + 3, k + 4, k + 5, markT (k + 6), mkS (k + 7) (namesOf x), mkI (k + 7 + ((namesOf x).length : Int)) (kidsOf x), ())
def nx (k : Int) (x : tyNode.den) : Int := k + 7 + ((namesOf x).length : Int) + ((kidsOf x).length : Int)
def mkN : Int → List tyNode.den → List tyNode.den
  | _, [] => []
  | k, x :: r => nd k x :: mkN (nx k x) r
def kN : Int → List tyNode.den → Int
  | k, [] => k
  | k, x :: r => kN (nx k x) r
theorem mkN_len : ∀ (l : List tyNode.den) (k : Int), (mkN k l).length = l.length
  | [], _ => rfl
  | x :: r, k => by simp [mkN, mkN_len r (nx k x)]
theorem kN_le : ∀ (l : List tyNode.den) (k : Int), k ≤ kN k l
  | [], k => Int.le_refl _
  | x :: r, k => by
    have := kN_le r (nx k x)
    unfold kN
    unfold nx at this ⊢
    omega
theorem kN_bd : ∀ (l : List tyNode.den) (k : Int), (∀ x ∈ l, NodeOk x) → kN k l ≤ k + (l.length : Int) * 4194311
  | [], k, _ => by unfold kN; simp
  | x :: r, k, h => by
    have ih := kN_bd r (nx k x) (fun y hy => h y (List.mem_cons_of_mem _ hy))
    have hx := h x (List.mem_cons_self ..)
    have a := hx.nn
    have b := hx.nk
    unfold kN
    have e : nx k x ≤ k + 4194311 := by unfold nx; omega
    simp only [List.length_cons]
    omega

theorem w7 {k : Int} (h0 : 0 < k) (h1 : k < 1000000000000000) : IntKind.i64.wrap (k + 1) = k + 1 ∧ IntKind.i64.wrap (k + 1 + 1) = k + 2 ∧ IntKind.i64.wrap (k + 2 + 1) = k + 3 ∧ IntKind.i64.wrap (k + 3 + 1) = k + 4 ∧ IntKind.i64.wrap (k + 4 + 1) = k + 5 ∧ IntKind.i64.wrap (k + 5 + 1) = k + 6 ∧ IntKind.i64.wrap (k + 6 + 1) = k + 7 := by
  refine ⟨?_, ?_, ?_, ?_, ?_, ?_, ?_⟩ <;> rw [wrap64 _ (by omega) (by omega)] <;> omega

theorem markN_step {T : S.Tab} (pre : List tyNode.den) (x : tyNode.den) (r : List tyNode.den) (k : Int) (h0 : 0 < k) (hk : nx k x < 1000000000000000) (hl : (pre ++ x :: r).length ≤ 2097152)
    (hm : laws_markText T (k + 6) = some (markT (k + 6), o_laws_markText)) (hs : laws_markStringS T (namesOf x) (k + 7) = some (k + 7 + ((namesOf x).length : Int), mkS (k + 7) (namesOf x), (), ()))
    (hi : laws_markIntS T (kidsOf x) (k + 7 + ((namesOf x).length : Int)) = some (k + 7 + ((namesOf x).length : Int) + ((kidsOf x).length : Int), mkI (k + 7 + ((namesOf x).length : Int)) (kidsOf x), (), ())) :
    laws_markNodeS_l2 (S.step T) (pre ++ x :: r) k (pre.length : Int) = laws_markNodeS_l2 T (pre ++ nd k x :: r) (nx k x) ((pre.length + 1 : Nat) : Int) := by
  have hlen : (pre ++ x :: r).length = pre.length + (r.length + 1) := by simp
  have hk' := hk
  unfold nx at hk'
  obtain ⟨w1, w2, w3, w4, w5, w6, w7⟩ := w7 h0 (show k < 1000000000000000 by omega)
  rw [laws_markNodeS_l2_eq, brkT (by simp only [decide_eq_true_eq]; omega)]
  simp only [w1, w2, w3, w4, w5, w6, w7]
  obtain ⟨x1, x2, x3, x4, x5, x6, x7, x8, x9, _⟩ := x
  have hs : laws_markStringS T x8 (k + 7) = some (k + 7 + (x8.length : Int), mkS (k + 7) x8, (), ()) := hs
  have hi : laws_markIntS T x9 (k + 7 + (x8.length : Int)) = some (k + 7 + (x8.length : Int) + (x9.length : Int), mkI (k + 7 + (x8.length : Int)) x9, (), ()) := hi
  rw [upn]; dsimp only
  rw [upn]; dsimp only
  rw [upn]; dsimp only
  rw [upn]; dsimp only
  rw [upn]; dsimp only
  rw [upn]; dsimp only
  rw [brkT (in_mid pre _ _), brkT (in_mid pre _ _), brkT (in_mid pre _ _), brkT (in_mid pre _ _), brkT (in_mid pre _ _), brkT (in_mid pre _ _), hm, Option.bind_some, upn]
  dsimp only
  rw [brkT (in_mid pre _ _), brkT (in_mid pre _ _), atn]
  dsimp only
  rw [hs, Option.bind_some, upn]
  dsimp only
  rw [brkT (in_mid pre _ _), atn]
  dsimp only
  rw [hi, Option.bind_some, upn, wrap1 (by omega)]
  rfl

theorem markN_l2 : ∀ (r pre : List tyNode.den) (k : Int), 0 < k → kN k r < 1000000000000000 → (∀ x ∈ r, NodeOk x) → (pre ++ r).length ≤ 2097152 →
    Evt fun n => laws_markNodeS_l2 (S.tab n) (pre ++ r) k (pre.length : Int) = some (Sum.inl (pre ++ mkN k r, kN k r, ()))
  | [], pre, k, _, _, _, _ => base2.up fun n _ => by
    show laws_markNodeS_l2 (S.step (S.tab n)) _ _ _ = _
    rw [laws_markNodeS_l2_eq, brkF (by simp)]
    simp [mkN, kN]
  | x :: r, pre, k, h0, h1, hN, hl => by
    have hx := hN x (List.mem_cons_self ..)
    have hk : nx k x < 1000000000000000 := by
      have := kN_le r (nx k x)
      unfold kN at h1
      omega
    have hk' := hk
    unfold nx at hk'
    have ih := markN_l2 r (pre ++ [nd k x]) (nx k x) (by unfold nx; omega) h1 (fun y hy => hN y (List.mem_cons_of_mem _ hy)) (by simpa using hl)
    have e1 : (pre ++ [nd k x]) ++ r = pre ++ nd k x :: r := by simp
    have e2 : (pre ++ [nd k x]).length = pre.length + 1 := by simp
    have e3 : (pre ++ [nd k x]) ++ mkN (nx k x) r = pre ++ mkN k (x :: r) := by simp [mkN]
    rw [e1, e2, e3] at ih
    have hs := markS_ok (namesOf x) (k + 7) (by omega) (by omega) hx.nn
    have hi := markI_ok (kidsOf x) (k + 7 + ((namesOf x).length : Int)) (by omega) (by omega) hx.nk
    exact (ih.and ((markText_ok (k + 6) (by omega) (by omega)).and (hs.and hi))).up fun n ⟨ih, hm, hs, hi⟩ => (markN_step pre x r k h0 hk hl hm hs hi).trans ih

theorem markTree_ok (l : List tyNode.den) (hN : ∀ x ∈ l, NodeOk x) (hl : l.length ≤ 2097152) : Evt fun n => laws_markTree (S.tab n) (l, ()) 1 = some (kN 1 l, (mkN 1 l, ()), (), ()) := by
  have hk : kN 1 l < 1000000000000000 := by
    have := kN_bd l 1 hN
    have : (l.length : Int) * 4194311 ≤ 2097152 * 4194311 := Int.mul_le_mul_of_nonneg_right (by omega) (by decide)
    omega
  have h1 : Evt fun n => laws_markNodeS (S.tab n) l 1 = some (kN 1 l, mkN 1 l, (), ()) := (markN_l2 l [] 1 (by decide) hk hN (by simpa using hl)).up fun n h => by
    show laws_markNodeS (S.step (S.tab n)) _ _ = _
    have h : laws_markNodeS_l2 (S.tab n) l 1 0 = some (Sum.inl (mkN 1 l, kN 1 l, ())) := h
    rw [laws_markNodeS_eq, h]; rfl
  exact h1.up fun n h => by
    show laws_markTree (S.step (S.tab n)) _ _ = _
    rw [laws_markTree_eq]
    show (laws_markNodeS (S.tab n) l 1).bind _ = _
    rw [h]; rfl

theorem heldN_step {T : S.Tab} (pre : List tyNode.den) (x : tyNode.den) (r : List tyNode.den) (k : Int) (h0 : 0 < k) (hk : nx k x < 1000000000000000) (hl : (pre ++ nd k x :: r).length ≤ 2097152)
    (hm : laws_markText T (k + 6) = some (markT (k + 6), o_laws_markText)) (hs : laws_heldStringS T (mkS (k + 7) (namesOf x)) (k + 7) = some (k + 7 + ((namesOf x).length : Int), o_laws_heldStringS))
    (hi : laws_heldIntS T (mkI (k + 7 + ((namesOf x).length : Int)) (kidsOf x)) (k + 7 + ((namesOf x).length : Int)) = some (k + 7 + ((namesOf x).length : Int) + ((kidsOf x).length : Int), o_laws_heldIntS)) :
    laws_heldNodeS_l2 (S.step T) (pre ++ nd k x :: r) k (pre.length : Int) = laws_heldNodeS_l2 T (pre ++ nd k x :: r) (nx k x) ((pre.length + 1 : Nat) : Int) := by
  have hlen : (pre ++ nd k x :: r).length = pre.length + (r.length + 1) := by simp
  have hk' := hk
  unfold nx at hk'
  obtain ⟨w1, w2, w3, w4, w5, w6, w7⟩ := w7 h0 (show k < 1000000000000000 by omega)
  have hin : (decide ((0 : Int) ≤ (pre.length : Int)) && decide ((pre.length : Int) < ((pre ++ nd k x :: r).length : Int))) = true := in_mid pre _ _
  rw [laws_heldNodeS_l2_eq, brkT (by simp only [decide_eq_true_eq]; omega)]
  simp only [w1, w2, w3, w4, w5, w6, w7]
  rw [atn]
  rw [brkT hin, brkF (by simp [nd]), brkT hin, brkF (by simp [nd]), brkT hin, brkF (by simp [nd]), brkT hin, brkF (by simp [nd]), brkT hin, brkF (by simp [nd]), brkT hin, brkF (by simp [nd]), brkT hin, hm, Option.bind_some, brkF (by simp [nd]), brkT hin]
  have hs : laws_heldStringS T (nd k x).2.2.2.2.2.2.2.1 (k + 7) = _ := hs
  have hi : laws_heldIntS T (nd k x).2.2.2.2.2.2.2.2.1 (k + 7 + ((namesOf x).length : Int)) = _ := hi
  rw [hs, Option.bind_some, brkF (by simp only [decide_eq_false_iff_not]; omega), brkT hin, hi, Option.bind_some, brkF (by simp only [decide_eq_false_iff_not]; omega), wrap1 (by omega)]
  rfl

theorem heldN_l2 : ∀ (r pre : List tyNode.den) (k : Int), 0 < k → kN k r < 1000000000000000 → (∀ x ∈ r, NodeOk x) → (pre ++ r).length ≤ 2097152 →
    Evt fun n => laws_heldNodeS_l2 (S.tab n) (pre ++ mkN k r) k (pre.length : Int) = some (Sum.inr (Sum.inl (kN k r, ())))
  | [], pre, k, _, _, _, _ => base2.up fun n _ => by
    show laws_heldNodeS_l2 (S.step (S.tab n)) _ _ _ = _
    rw [laws_heldNodeS_l2_eq, brkF (by simp [mkN])]
    simp [kN]
  | x :: r, pre, k, h0, h1, hN, hl => by
    have hlen2 : (pre ++ nd k x :: mkN (nx k x) r).length = (pre ++ x :: r).length := by
      have := mkN_len r (nx k x)
      rw [List.length_append, List.length_append, List.length_cons, List.length_cons, this]
    have hx := hN x (List.mem_cons_self ..)
    have hk : nx k x < 1000000000000000 := by
      have := kN_le r (nx k x)
      unfold kN at h1
      omega
    have hk' := hk
    unfold nx at hk'
    have ih := heldN_l2 r (pre ++ [nd k x]) (nx k x) (by unfold nx; omega) h1 (fun y hy => hN y (List.mem_cons_of_mem _ hy)) (by simpa using hl)
    have hs := heldS_ok (namesOf x) (k + 7) (by omega) (by omega) hx.nn
    have hi := heldI_ok (kidsOf x) (k + 7 + ((namesOf x).length : Int)) (by omega) (by omega) hx.nk
    have e1 : (pre ++ [nd k x]) ++ mkN (nx k x) r = pre ++ nd k x :: mkN (nx k x) r := by simp
    have e2 : (pre ++ [nd k x]).length = pre.length + 1 := by simp
    rw [e1, e2] at ih
    exact (ih.and ((markText_ok (k + 6) (by omega) (by omega)).and (hs.and hi))).up fun n ⟨ih, hm, hs, hi⟩ => (heldN_step pre x _ k h0 hk (by rw [hlen2]; exact hl) hm hs hi).trans ih

theorem heldTree_ok (l : List tyNode.den) (hN : ∀ x ∈ l, NodeOk x) (hl : l.length ≤ 2097152) : Evt fun n => laws_heldTree (S.tab n) (mkN 1 l, ()) 1 = some (kN 1 l, o_laws_heldTree) := by
  have hk : kN 1 l < 1000000000000000 := by
    have := kN_bd l 1 hN
    have : (l.length : Int) * 4194311 ≤ 2097152 * 4194311 := Int.mul_le_mul_of_nonneg_right (by omega) (by decide)
    omega
  have h1 : Evt fun n => laws_heldNodeS (S.tab n) (mkN 1 l) 1 = some (kN 1 l, o_laws_heldNodeS) := (heldN_l2 l [] 1 (by decide) hk hN (by simpa using hl)).up fun n h => by
    show laws_heldNodeS (S.step (S.tab n)) _ _ = _
    have h : laws_heldNodeS_l2 (S.tab n) (mkN 1 l) 1 0 = some (Sum.inr (Sum.inl (kN 1 l, ()))) := h
    rw [laws_heldNodeS_eq, h]; rfl
  have h0 := kN_le l 1
  exact h1.up fun n h => by
    show laws_heldTree (S.step (S.tab n)) _ _ = _
    rw [laws_heldTree_eq]
    show (laws_heldNodeS (S.tab n) (mkN 1 l) 1).bind _ = _
    rw [h, Option.bind_some, brkF (by simp only [decide_eq_false_iff_not]; omega)]

end Go.Abs.D
end

section
namespace Go.Abs.D

theorem law_bare (ns : List tyNode.den) (hN : ∀ x ∈ ns, Read x) (hn : ns.length ≤ maxLen) : Evt fun n => laws_FnExactBare (S.tab n) (ns, ()) = some (true, o_laws_FnExactBare) := by
  have hsz := szTree_ok ns hN hn
  by_cases hd : szTr ns 1048576 < 0
  · refine hsz.up fun n h => ?_
    show laws_FnExactBare (S.step (S.tab n)) _ = _
    rw [decide_eq_true hd] at h
    rw [laws_FnExactBare_eq, h, Option.bind_some, brkT (by rfl)]
  · obtain ⟨hO, hl⟩ := guard ns hN hd
    have hO2 := bareM_ok hO
    have hl2 : (bareM ns).length ≤ 2097152 := by simpa [bareM] using hl
    have k1 := kN_le ns 1
    have k2 := kN_le (bareM ns) 1
    refine ((hsz.and (toTree_ok ns hO hl)).and (((spec_Bare_ok ns hO hl).and (impl_Bare_ok ns hO hl)).and (((eqTree_refl ns hO hl).and (eqTree_refl (bareM ns) hO2 hl2)).and (((markTree_ok ns hO hl).and (markTree_ok (bareM ns) hO2 hl2)).and (heldTree_ok (bareM ns) hO2 hl2))))).up fun n ⟨⟨h, ht⟩, ⟨hs, hi⟩, ⟨e1, e2⟩, ⟨m1, m2⟩, hh⟩ => ?_
    show laws_FnExactBare (S.step (S.tab n)) _ = _
    rw [decide_eq_false hd, cond_false] at h
    rw [laws_FnExactBare_eq, h, Option.bind_some, brkF (decide_eq_false hd), ht, Option.bind_some]
    try dsimp only
    rw [hs, Option.bind_some, Option.bind_some]
    try dsimp only
    rw [hi, Option.map_some, Option.bind_some]
    try dsimp only
    rw [e2, Option.map_some, Option.bind_some, brkF (by rfl), Option.bind_some]
    try dsimp only
    rw [e1, Option.map_some, Option.bind_some, brkF (by rfl)]
    try dsimp only
    rw [m1, Option.bind_some, brkF (by simp only [decide_eq_false_iff_not]; omega), e2, Option.map_some, Option.bind_some, brkF (by rfl)]
    try dsimp only
    rw [m2, Option.bind_some]
    try dsimp only
    rw [hh, Option.map_some, Option.bind_some, brkF (by simp only [decide_eq_false_iff_not]; omega), brkF (by simp), Option.bind_some]
    try dsimp only
    rw [hi, Option.map_some, Option.bind_some]
    try dsimp only
    rw [e2, Option.map_some, Option.bind_some, brkF (by rfl)]
    try dsimp only
    rw [hh, Option.map_some, Option.bind_some, brkF (by simp only [decide_eq_false_iff_not]; omega), brkF (by simp)]

end Go.Abs.D
end

section
namespace Go.Abs.D
theorem read_of {x : tyNode.den} (h : Good tyNode x) : Read x := by
  obtain ⟨_, _, _, _, _, _, h7, h8, h9, _⟩ := h
  exact ⟨h7, ⟨h8.1, h8.2⟩, h9.2⟩
end Go.Abs.D
namespace Go.Proofs.Ytnoddjddkbhnbaa.fnExactBare
open Go.ChangeShapes Go.WideShapes Go.ChangeAt Go.RowKit
open Go.ChangeMaps (open_string shut_string)

theorem sys : ∀ n, Abs.Sys.TabOk Abs.D.S (Abs.D.S.tab n) :=
  Abs.Sys.ok (by kernel_rfl) (fun f hf => Abs.Sys.fns_all Abs.D.fns_ok hf) (fun f c hf hl => by cases hl) (by kernel_rfl)

theorem agg_of_wide {P : Program} {W : World} {r : Reach} {base t : Nat} {fs : Array Field} {v : Value} (ht : P.underlying t = some (.struct fs)) (h : Value.okWide P W r base t v) : ∃ cs, v = .agg cs := by
  unfold Value.okWide at h
  rw [ht] at h
  obtain ⟨cs, rfl, _⟩ := h
  exact ⟨cs, rfl⟩

theorem walk (cs : Array Value) (ns : List Abs.D.tyNode.den) (W : World) (hR : Abs.Rc (Abs.snap W) (.pr (.sl Abs.D.tyNode) .un) (ns, ()) cs.toList) (hG : Abs.Good (.pr (.sl Abs.D.tyNode) .un) (ns, ())) : Calls Try.prog 3 #[.agg cs] W fun e w' => e = .returned (.bool true) ∧ Below W.heap.size W w' := by
  obtain ⟨N, h⟩ := Abs.D.law_bare ns (fun x hx => Abs.D.read_of (hG.1.1 x hx)) hG.1.2
  have hR2 : ∃ v, cs.toList = [v] ∧ Abs.Rc (Abs.snap W) (.sl Abs.D.tyNode) ns [v] := by
    obtain ⟨c1, c2, e, h1, h2⟩ := hR
    have h2 : c2 = [] := h2
    subst h2
    obtain ⟨A, c, rfl, h3⟩ := h1
    exact ⟨_, by rw [e]; rfl, A, c, rfl, h3⟩
  obtain ⟨v, ev, hv⟩ := hR2
  have hok := (sys N).fn 3 (by kernel_rfl) ((ns, ()), ()) (true, ((), ()), ()) (h N (Nat.le_refl N)) (Abs.snap W) W [.agg cs] [] (fun k c hk => by cases hk) (fun b L hb => Abs.snap_heap hb)
    ⟨_, _, [], [], rfl, rfl, ⟨cs.toList, by simp, [v], [], [], [], by rw [ev]; rfl, rfl, ⟨rfl, rfl, _, rfl, hv⟩, rfl, rfl⟩, rfl, rfl⟩ List.nodup_nil (fun b hb => by simp at hb)
  refine (Abs.calls_of_invokes Try.func3 rfl (by kernel_rfl) hok).mono ?_
  rintro e w' ⟨v, rfl, imm', n1, n2, A, ⟨_, h1, _, u, e2, h2⟩, h3⟩
  injection e2 with e2 _
  subst e2
  have h2 : [v] = [Value.bool true] := h2
  injection h2 with h2 _
  subst h2
  exact ⟨rfl, A.below⟩

theorem own : ownKnob Try.prog.godebug = none := by kernel_rfl
theorem laidOut : laidOutB Try.prog = true := by kernel_rfl

set_option maxRecDepth 100000 in
theorem lifted (os : Os) (started : os.Started) (H : Type) (enc : TypeId × Value → H) :
    ReturnsInHanded {} Try.checked os 3 .any (Rows.fnExactBareSpec.pre6 enc Try.prog Try.f3 Rows.fnExactBareRow.domain false) (Rows.fnExactBareSpec.post enc Try.prog Try.f3 false true false false) := by
  refine returnsInHanded_of_change_sized (C := Try.checked) own started (by kernel_rfl) Try.func3
    (ChangeSpec.witness6 (enc := enc) (C := Try.checked) false ⟨#[], #[.agg #[.slice none 0 0]], []⟩ 8 (by kernel_rfl) (by kernel_rfl) (by kernel_rfl) (by kernel_rfl)) ?_
  intro W base args ds gs before hval0 hW hcnd hsz0 _
  have hval : ∀ (j : Nat) t v, Try.f3.params[j]? = some t → args[j]? = some v → Value.okWide Try.prog W .any base t v := hval0
  have hW' := hW
  obtain ⟨p, q, hA0, hV, rfl, hfz, hnd⟩ := hW
  have hA : DataW.TrodAll enc Try.prog W 0 (fun _ => true) true Try.f3.params.toList args.toList ds p := hA0
  rw [Try.params3] at hA hval
  obtain ⟨v0, vs0, d0, ds0, p0, q0, hargs, rfl, rfl, h0, r0⟩ := trodAll_cons hA
  obtain ⟨rfl, rfl, rfl⟩ := trodAll_nil r0
  obtain rfl : args = #[v0] := by cases args; simp_all
  obtain ⟨rfl, rfl⟩ := trodVars_none hV
  obtain ⟨cs, rfl⟩ := agg_of_wide Try.underlying24 (hval 0 24 v0 rfl rfl)
  have h0k := h0
  obtain ⟨fuel, hf⟩ := h0
  obtain ⟨hR, hG⟩ := Abs.trod_in 5 fuel 24 (.pr (.sl Abs.D.tyNode) .un) _ _ (by kernel_rfl) hf
  have hlt : ∀ x ∈ p0, x.block < W.heap.size := fun x hx => by simpa using hW'.lt x (List.mem_append_left _ (List.mem_append_left _ hx))
  clear hA0 hval0
  refine (walk cs _ W hR hG).mono fun e W' ⟨he, bel⟩ => ?_
  subst he
  exact ⟨_, rfl, _, _, _, [], _, [], hW', trodAll_mk1 (shut_bool Try.underlying4 _), (trodAll_cons_mk (Below.trod laidOut (by kernel_rfl) (of_decide_eq_true (by kernel_rfl)) h0k bel hlt) trodAll_mk0), rfl, bel.frame _, fun h => by cases h⟩

theorem over : Rows.fnExactBareRow.holds Try.pinned (OpenSpec.ofChange Rows.fnExactBareSpec) :=
  OpenClaim.holds_of_wide 3 Try.f3 rfl rfl rfl rfl rfl rfl rfl ⟨rfl, rfl, rfl, rfl, rfl⟩ rfl rfl rfl rfl rfl (by kernel_rfl) Try.func3 (by kernel_rfl)
    (of_decide_eq_true (by kernel_rfl)) (by unfold Func.isWrapper; first | (rw [if_pos (by decide +kernel)]; kernel_rfl) | (rw [if_neg (by decide +kernel)]; exact ⟨rfl, rfl⟩))
    (fun os started H enc _ => lifted os started H enc)
end Go.Proofs.Ytnoddjddkbhnbaa.fnExactBare
namespace Go.Proofs.Ytnoddjddkbhnbaa
theorem fnExactBare_holds : Rows.FnExactBareSaid := fnExactBare.over
end Go.Proofs.Ytnoddjddkbhnbaa
#print axioms Go.Proofs.Ytnoddjddkbhnbaa.fnExactBare_holds
end
