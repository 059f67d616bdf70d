/- What is here: small laws on numbers, lists and levels, for the plain part of the proofs. -/
import Derived.Test.YtjjcobfhgfcfjaaQ2
import Derived.Laws.BitsLemmas
set_option linter.unusedVariables false
set_option linter.unusedSimpArgs false
set_option maxRecDepth 100000
section
namespace Go.Abs

def isByte (c : Int) : Prop := 0 ≤ c ∧ c < 256

theorem and15 : ∀ c : Int, isByte c → intBits .and .u8 c 15 = c % 16 := by
  have h : ∀ n : Fin 256, intBits .and .u8 (n.val : Int) 15 = (n.val : Int) % 16 := by decide +kernel
  intro c hc
  have := h ⟨c.toNat, by have := hc.1; have := hc.2; omega⟩
  simpa [Int.toNat_of_nonneg hc.1] using this

theorem shr4 (c : Int) (h : isByte c) : c.fdiv (2 ^ min (Int.toNat 4) IntKind.u8.bits) = c / 16 := by
  have e : (2 : Int) ^ min (Int.toNat 4) IntKind.u8.bits = 16 := by decide
  rw [e, Int.fdiv_eq_ediv_of_nonneg _ (by decide)]

theorem wrap8 (x : Int) (h0 : 0 ≤ x) (h1 : x < 256) : IntKind.u8.wrap x = x := by
  have : IntKind.u8.wrap x = x % 256 := rfl
  rw [this]; omega

theorem wrap64 (x : Int) (h0 : -9223372036854775808 ≤ x) (h1 : x < 9223372036854775808) : IntKind.i64.wrap x = x := by
  rw [IntKind.wrap_i64]; omega

theorem fits_of {n : Nat} (h : n ≤ lim) : fits n = true := Nat.ble_eq_true_of_le h


theorem isByte_bytesOf (s : ByteArray) : ∀ c ∈ bytesOf s, isByte c := by
  intro c hc
  unfold bytesOf at hc
  obtain ⟨b, _, rfl⟩ := List.mem_map.1 hc
  have := b.toNat_lt
  exact ⟨by omega, by omega⟩

theorem byte_of {c : Int} (h : isByte c) : byte c = c := by
  unfold byte
  obtain ⟨h0, h1⟩ := h
  omega

theorem map_byte {l : List Int} (h : ∀ c ∈ l, isByte c) : l.map byte = l := by
  induction l with
  | nil => rfl
  | cons x r ih =>
    rw [List.map_cons, byte_of (h x (List.mem_cons_self ..)), ih fun c hc => h c (List.mem_cons_of_mem _ hc)]

/-- The element at a place, where the list is cut there. -/
theorem getD_cut {α : Type} (pre : List α) (x : α) (r : List α) (d : α) : (pre ++ x :: r).getD pre.length d = x := by
  rw [List.getD_eq_getElem?_getD, List.getElem?_append_right (Nat.le_refl _), Nat.sub_self]
  rfl

theorem brkT {ρ : Type} {b : Bool} {x y : Option ρ} (h : b = true) : brk b x y = x := by rw [brk_eq, h]; rfl
theorem brkF {ρ : Type} {b : Bool} {x y : Option ρ} (h : b = false) : brk b x y = y := by rw [brk_eq, h]; rfl

end Go.Abs
end
