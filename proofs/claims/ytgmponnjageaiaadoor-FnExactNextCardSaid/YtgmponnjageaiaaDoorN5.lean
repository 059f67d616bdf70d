/- What is here: string tokens on both sides. What is here: string tokens of the reference. What is here: signs, plain. What is here: signs on both sides; a token read by both scanners. What is here: the whole scan on both sides. What is here: nothing of its own; what the next texts lean on. What is here: the tables of both grammars, as the functions of the program tell them, at every symbol and kind of token. What is here: what the program's machine does with a token: can and step, over rows of symbols. What is here: the program's step as a function of rows. What is here: the program's step at a whole stack. What is here: whether a token can stand, as the program tells it. What is here: the reference's stacks in their cells. What is here: what the reference's machine does with a token, over its cells. What is here: the kinds of tokens that can stand, on both sides. What is here: the kinds of tokens. What is here: what a fixed kind is written as, on both sides. What is here: how far a token that may stand begins, plain. What is here: how far a token that may stand begins, in the code of both sides. What is here: blanks and the whole scan on both sides. What is here: the walk over a text, on both sides: the same tokens, or the same first place from which no text goes on. What is here: small laws on rows. What is here: the law of Next. What is proved: FnExactNext answers true at every input; the package variables are as the program's text lays them. -/
import Derived.Test.YtgmponnjageaiaaDoorN4
import Derived.KernelRfl
import Derived.Test.YtgmponnjageaiaaDoorCards
set_option linter.unusedVariables false
set_option linter.unusedSimpArgs false
set_option maxRecDepth 100000
section
namespace Go.Abs.D
def S0 (s : List Int) : Nat → Nat → List Int → Nat ⊕ (Nat × List Int)
 | 0, j, _ => .inl j
 | k + 1, j, o =>
  bif decide (s.length ≤ j) then .inl j else
  bif decide (get s j = 10) then .inl j else
  bif decide (get s j = 34) then .inr (j + 1, o) else
  bif !decide (get s j = 92) then S0 s k (j + 1) (o ++ [get s j]) else
  bif decide (get s (j + 1) = 110) then S0 s k (j + 2) (o ++ [10]) else
  bif decide (get s (j + 1) = 116) then S0 s k (j + 2) (o ++ [9]) else
  bif decide (get s (j + 1) = 34) then S0 s k (j + 2) (o ++ [34]) else
  bif decide (get s (j + 1) = 92) then S0 s k (j + 2) (o ++ [92]) else
  bif !decide (get s (j + 1) = 120) then .inl (j + 1) else
  bif !W7 (get s (j + 2)) then .inl (j + 2) else
  bif !W7 (get s (j + 3)) then .inl (j + 3) else
  S0 s k (j + 4) (o ++ [Z8 (get s (j + 2)) * 16 + Z8 (get s (j + 3))])
def bH3 (i : Nat) : Nat ⊕ (Nat × List Int) → Nat ⊕ j7.den
 | .inl e => .inl e
 | .inr (e, o) => .inr (4, (i : Int), (e : Int), 0, 0, o.map byte, ())
def bD4 (s : List Int) (i : Nat) : Nat ⊕ j7.den := bH3 i (S0 s s.length (i + 1) [])
variable {s : List Int} (hs : s.length ≤ 2097152)
include hs
omit hs in
theorem aJ8 {j : Nat} (h : W7 (get s j) = true) : j < s.length := by
 rcases Nat.lt_or_ge j s.length with h' | h'
 ·exact h'
 ·rw [M9 h'] at h; cases h
omit hs in
theorem bQ1 (t4 : j7.den) (o : List Int) (j : Nat) : Evt fun n => K7 (S.tab n) s t4 o (j : Int) 4 = some (Sum.inr (Sum.inl (s, t4, o, (j : Int), ()))) := by
 refine r8.up fun n hb => ?_
 show K7 (S.step (S.tab n)) _ _ _ _ _ = _
 rw [ab5, q8 (by decide)]
theorem bP5 (t4 : j7.den) (o : List Int) (j : Nat) (hj : j < s.length) : Evt fun n => K7 (S.tab n) s t4 o (j : Int) 3 =
  some (bif W7 (get s (j + 3)) then Sum.inr (Sum.inl (s, t4, o, (j : Int), ())) else Sum.inl ((t4.1, t4.2.1, ((j + 3 : Nat) : Int), t4.2.2.2), true, ())) := by
 have e : IntKind.i64.wrap ((j : Int) + 3) = ((j + 3 : Nat) : Int) := by rw [wrap64 _ (by omega) (by omega)]; omega
 have e4 : IntKind.i64.wrap ((3 : Int) + 1) = 4 := by decide
 refine ((bQ1 (s := s) t4 o j).and r8).up fun n ⟨h, hb⟩ => ?_
 show K7 (S.step (S.tab n)) _ _ _ _ _ = _
 rw [ab5, l7 (by decide), e, e4, h]
 by_cases hl : j + 3 < s.length
 ·rw [q8 (by simp only [decide_eq_false_iff_not]; omega), l7 (n8 hl), n9, hb.ihex]
  simp only [Option.bind_some]
  cases W7 (get s (j + 3)) with
  | true => rw [q8 (by rfl)]; rfl
  | false => rw [l7 (by rfl)]; rfl
 ·rw [l7 (by simp only [decide_eq_true_eq]; omega), M9 (by omega)]; rfl
theorem bQ6 (t4 : j7.den) (o : List Int) (j : Nat) (hj : j < s.length) : Evt fun n => K7 (S.tab n) s t4 o (j : Int) 2 =
  some (bif W7 (get s (j + 2)) then (bif W7 (get s (j + 3)) then Sum.inr (Sum.inl (s, t4, o, (j : Int), ())) else Sum.inl ((t4.1, t4.2.1, ((j + 3 : Nat) : Int), t4.2.2.2), true, ())) else Sum.inl ((t4.1, t4.2.1, ((j + 2 : Nat) : Int), t4.2.2.2), true, ())) := by
 have e : IntKind.i64.wrap ((j : Int) + 2) = ((j + 2 : Nat) : Int) := by rw [wrap64 _ (by omega) (by omega)]; omega
 have e3 : IntKind.i64.wrap ((2 : Int) + 1) = 3 := by decide
 refine ((bP5 hs t4 o j hj).and r8).up fun n ⟨h, hb⟩ => ?_
 show K7 (S.step (S.tab n)) _ _ _ _ _ = _
 rw [ab5, l7 (by decide), e, e3, h]
 by_cases hl : j + 2 < s.length
 ·rw [q8 (by simp only [decide_eq_false_iff_not]; omega), l7 (n8 hl), n9, hb.ihex]
  simp only [Option.bind_some]
  cases W7 (get s (j + 2)) with
  | true => rw [q8 (by rfl)]; rfl
  | false => rw [l7 (by rfl)]; rfl
 ·rw [l7 (by simp only [decide_eq_true_eq]; omega), M9 (show s.length ≤ j + 2 by omega)]; rfl
omit hs in
theorem bP6 (t3 t4 : j7.den) (o : List Int) (j : Nat) : Evt fun n => C2 (S.tab n) s t3 t4 (j : Int) o 3 = some (Sum.inr (Sum.inl (s, t3, t4, (j : Int), o, ()))) := by
 refine r8.up fun n hb => ?_
 show C2 (S.step (S.tab n)) _ _ _ _ _ _ = _
 rw [R6, q8 (by decide)]
omit hs in
theorem bC5 (c : Int) : decide (Z8 c < 0) = !W7 c := by
 rw [← X3]
 by_cases h : 0 ≤ Z8 c
 ·rw [decide_eq_true h, decide_eq_false (by omega)]; rfl
 ·rw [decide_eq_false h, decide_eq_true (by omega)]; rfl
theorem bR0 (t3 t4 : j7.den) (o : List Int) (j : Nat) (hj : j ≤ s.length) : Evt fun n => C2 (S.tab n) s t3 t4 (j : Int) o 2 =
  some (bif W7 (get s (j + 2)) then Sum.inr (Sum.inl (s, t3, t4, (j : Int), o, ())) else Sum.inl (t3, ((j + 2 : Nat) : Int), ())) := by
 have e : IntKind.i64.wrap ((j : Int) + 2) = ((j + 2 : Nat) : Int) := by rw [wrap64 _ (by omega) (by omega)]; omega
 have e3 : IntKind.i64.wrap ((2 : Int) + 1) = 3 := by decide
 refine ((bP6 (s := s) t3 t4 o j).and r8).up fun n ⟨h, hb⟩ => ?_
 show C2 (S.step (S.tab n)) _ _ _ _ _ _ = _
 rw [R6, l7 (by decide), e, e3, h, hb.look]
 simp only [Option.bind_some, hb.shex, bC5]
 cases W7 (get s (j + 2)) with
 | true => rw [q8 (by rfl)]; rfl
 | false => rw [l7 (by rfl)]; rfl
theorem bR1 (t3 t4 : j7.den) (o : List Int) (j : Nat) (hj : j ≤ s.length) : Evt fun n => C2 (S.tab n) s t3 t4 (j : Int) o 1 =
  some (bif W7 (get s (j + 1)) then (bif W7 (get s (j + 2)) then Sum.inr (Sum.inl (s, t3, t4, (j : Int), o, ())) else Sum.inl (t3, ((j + 2 : Nat) : Int), ())) else Sum.inl (t3, ((j + 1 : Nat) : Int), ())) := by
 have e : IntKind.i64.wrap ((j : Int) + 1) = ((j + 1 : Nat) : Int) := I3 (by omega)
 have e3 : IntKind.i64.wrap ((1 : Int) + 1) = 2 := by decide
 refine ((bR0 hs t3 t4 o j hj).and r8).up fun n ⟨h, hb⟩ => ?_
 show C2 (S.step (S.tab n)) _ _ _ _ _ _ = _
 rw [R6, l7 (by decide), e, e3, h, hb.look]
 simp only [Option.bind_some, hb.shex, bC5]
 cases W7 (get s (j + 1)) with
 | true => rw [q8 (by rfl)]; rfl
 | false => rw [l7 (by rfl)]; rfl
def aN6 (c : Int) : Int := bif decide (c = 110) then 0 else bif decide (c = 116) then 1 else bif decide (c = 34) then 2 else bif decide (c = 92) then 3 else -1
omit hs in
theorem bF9 (c : Int) (h : isByte c) : Bld.idx [110, 116, 34, 92] (byte c) 0 = aN6 c := by
 rw [bI5 h]
 unfold aN6
 simp only [Bld.idx]
 by_cases h1 : c = 110
 ·subst h1; rfl
 by_cases h2 : c = 116
 ·subst h2; rfl
 by_cases h3 : c = 34
 ·subst h3; rfl
 by_cases h4 : c = 92
 ·subst h4; rfl
 have e1 := Ne.symm h1
 have e2 := Ne.symm h2
 have e3 := Ne.symm h3
 have e4 := Ne.symm h4
 simp [h1, h2, h3, h4, e1, e2, e3, e4]
omit hs in
theorem bA4 (hb : ∀ c ∈ s, isByte c) (j : Nat) : isByte (get s j) := by
 rcases Nat.lt_or_ge j s.length with h | h
 ·unfold get
  rw [List.getD_eq_getElem?_getD, List.getElem?_eq_getElem h]
  exact hb _ (List.getElem_mem h)
 ·rw [M9 h]; exact ⟨by decide, by decide⟩
omit hs in
theorem an8 : Evt fun n => ∀ c, isByte c → M3 (S.tab n) [110, 116, 34, 92] c = some (aN6 c, T2) := by
 have h1 : Evt fun n => ∀ c, isByte c → J0 (S.tab n) [110, 116, 34, 92] c = some (aN6 c, S2) := r8.up fun n _ c hc => by
  show J0 (S.step (S.tab n)) _ _ = _
  rw [ae4]
  unfold Bld.ar3
  rw [Option.bind_some, bF9 c hc]
 exact h1.up fun n h c hc => by
  show M3 (S.step (S.tab n)) _ _ = _
  rw [as0, h c hc]; rfl
omit hs in
theorem bu5 (a b : Int) (ha : W7 a = true) (hb : W7 b = true) : hv 0 [a, b] = Z8 a * 16 + Z8 b ∧ 0 ≤ Z8 a * 16 + Z8 b ∧ Z8 a * 16 + Z8 b < 256 := by
 have := ak3 ha
 have := ak3 hb
 have := ao7 a
 have := ao7 b
 refine ⟨?_, by omega, by omega⟩
 show (0 * 16 + Z8 a) * 16 + Z8 b = _
 omega
omit hs in
theorem aJ3 {j : Nat} (h : j + 2 ≤ s.length) : J8 s j (j + 2) = [get s j, get s (j + 1)] := by
 rw [show j + 2 = j + 1 + 1 from rfl, W0 (by omega) (by omega), W0 (by omega) (by omega), ab2]; rfl
theorem aX4 (hb8 : ∀ c ∈ s, isByte c) (i : Nat) : ∀ (k j : Nat) (o : List Int), s.length ≤ j + k → j ≤ s.length → o.length ≤ j →
  Evt fun n => ∃ t' b, x5 (S.tab n) s (4, (i : Int), 0, 0, 0, ([] : List Int), ()) o (j : Int) = some (Sum.inl (t', b, ())) ∧ IR k4 (bH3 i (S0 s k j o)) t' b := by
 intro k
 induction k with
 | zero =>
  intro j o hk hj ho
  refine r8.up fun n hb => ?_
  show ∃ t' b, x5 (S.step (S.tab n)) _ _ _ _ = _ ∧ _
  rw [M0, l7 (by simp only [decide_eq_true_eq]; omega)]
  first | exact ⟨_, _, rfl, rfl, rfl⟩ | exact ⟨_, _, rfl, rfl, rfl, rfl⟩
 | succ k ih =>
  intro j o hk hj ho
  have w1 : IntKind.i64.wrap ((j : Int) + 1) = ((j + 1 : Nat) : Int) := I3 (by omega)
  have w2 : IntKind.i64.wrap ((j : Int) + 2) = ((j + 2 : Nat) : Int) := by rw [wrap64 _ (by omega) (by omega)]; omega
  have w4 : IntKind.i64.wrap ((j : Int) + 4) = ((j + 4 : Nat) : Int) := by rw [wrap64 _ (by omega) (by omega)]; omega
  have hf : ∀ x : Int, fits (o.length + [x].length) = true := fun x => Z1 (by unfold lim; simp only [List.length_singleton]; omega)
  by_cases hl : s.length ≤ j
  ·have hR : S0 s (k + 1) j o = .inl j := by unfold S0; rw [decide_eq_true hl]; rfl
   rw [hR]
   refine r8.up fun n hb => ?_
   show ∃ t' b, x5 (S.step (S.tab n)) _ _ _ _ = _ ∧ _
   rw [M0, l7 (by simp only [decide_eq_true_eq]; omega)]
   first | exact ⟨_, _, rfl, rfl, rfl⟩ | exact ⟨_, _, rfl, rfl, rfl, rfl⟩
  have hl' : j < s.length := by omega
  have hin := n8 hl'
  have hnl : decide ((s.length : Int) ≤ (j : Int)) = false := by simp only [decide_eq_false_iff_not]; omega
  by_cases c10 : get s j = 10
  ·have hR : S0 s (k + 1) j o = .inl j := by unfold S0; rw [decide_eq_false hl, decide_eq_true c10]; rfl
   rw [hR]
   refine r8.up fun n hb => ?_
   show ∃ t' b, x5 (S.step (S.tab n)) _ _ _ _ = _ ∧ _
   rw [M0, q8 hnl, l7 hin, n9, l7 (decide_eq_true c10)]
   first | exact ⟨_, _, rfl, rfl, rfl⟩ | exact ⟨_, _, rfl, rfl, rfl, rfl⟩
  by_cases c34 : get s j = 34
  ·have hR : S0 s (k + 1) j o = .inr (j + 1, o) := by unfold S0; rw [decide_eq_false hl, decide_eq_false c10, decide_eq_true c34]; rfl
   rw [hR]
   refine r8.up fun n hb => ?_
   show ∃ t' b, x5 (S.step (S.tab n)) _ _ _ _ = _ ∧ _
   rw [M0, q8 hnl, l7 hin, n9, q8 (decide_eq_false c10), l7 hin, l7 (decide_eq_true c34), w1]
   first | exact ⟨_, _, rfl, rfl, rfl⟩ | exact ⟨_, _, rfl, rfl, rfl, rfl⟩
  by_cases c92 : ¬ (get s j = 92)
  ·have hR : S0 s (k + 1) j o = S0 s k (j + 1) (o ++ [get s j]) := by
    conv => lhs; unfold S0
    rw [decide_eq_false hl, decide_eq_false c10, decide_eq_false c34, decide_eq_false c92]; rfl
   rw [hR]
   refine (ih (j + 1) (o ++ [get s j]) (by omega) (by omega) (by simp; omega)).up fun n h => ?_
   show ∃ t' b, x5 (S.step (S.tab n)) _ _ _ _ = _ ∧ _
   rw [M0, q8 hnl, l7 hin, n9, q8 (decide_eq_false c10), l7 hin, q8 (decide_eq_false c34), l7 hin, l7 (by rw [decide_eq_false c92]; rfl), l7 hin, l7 (hf _), w1]
   exact h
  replace c92 := Decidable.not_not.1 c92
  have start : ∀ n, x5 (S.step (S.tab n)) s (4, (i : Int), 0, 0, 0, ([] : List Int), ()) o (j : Int) = _ := fun n => by
   rw [M0, q8 hnl, l7 hin, n9, q8 (decide_eq_false c10), l7 hin, q8 (decide_eq_false c34), l7 hin, q8 (by rw [decide_eq_true c92]; rfl), w1, w2]
  by_cases hl1 : ¬ (j + 1 < s.length)
  ·have hR : S0 s (k + 1) j o = .inl (j + 1) := by
    unfold S0; rw [decide_eq_false hl, decide_eq_false c10, decide_eq_false c34, decide_eq_true c92, M9 (show s.length ≤ j + 1 by omega)]; rfl
   rw [hR]
   refine r8.up fun n hb => ?_
   show ∃ t' b, x5 (S.step (S.tab n)) _ _ _ _ = _ ∧ _
   rw [start, l7 (by simp only [decide_eq_true_eq]; omega)]
   first | exact ⟨_, _, rfl, rfl, rfl⟩ | exact ⟨_, _, rfl, rfl, rfl, rfl⟩
  replace hl1 := Decidable.not_not.1 hl1
  have hin1 := n8 hl1
  have hnl1 : decide ((s.length : Int) ≤ ((j + 1 : Nat) : Int)) = false := by simp only [decide_eq_false_iff_not]; omega
  have hby := bA4 hb8 (j + 1)
  have short : ∀ (x y : Int), get s (j + 1) = x → aN6 x ≥ 0 → (decide ((0 : Int) ≤ aN6 x) && decide (aN6 x < 4)) = true → ([10, 9, 34, 92] : List Int).getD (aN6 x).toNat 0 = y → S0 s (k + 1) j o = S0 s k (j + 2) (o ++ [y]) →
    Evt fun n => ∃ t' b, x5 (S.tab n) s (4, (i : Int), 0, 0, 0, ([] : List Int), ()) o (j : Int) = some (Sum.inl (t', b, ())) ∧ IR k4 (bH3 i (S0 s (k + 1) j o)) t' b := fun x y hx h0 h4 hy hR => by
   rw [hR]
   refine ((ih (j + 2) (o ++ [y]) (by omega) (by omega) (by simp; omega)).and an8).up fun n ⟨h, hix⟩ => ?_
   show ∃ t' b, x5 (S.step (S.tab n)) _ _ _ _ = _ ∧ _
   rw [start, q8 hnl1, l7 hin1, n9, hix _ hby, hx]
   simp only [Option.bind_some]
   rw [l7 (by simpa using h0), l7 h4, hy, l7 (hf _)]
   exact h
  by_cases e110 : get s (j + 1) = 110
  ·refine short 110 10 e110 (by decide) (by decide) (by decide) ?_
   conv => lhs; unfold S0
   rw [decide_eq_false hl, decide_eq_false c10, decide_eq_false c34, decide_eq_true c92, e110]; rfl
  by_cases e116 : get s (j + 1) = 116
  ·refine short 116 9 e116 (by decide) (by decide) (by decide) ?_
   conv => lhs; unfold S0
   rw [decide_eq_false hl, decide_eq_false c10, decide_eq_false c34, decide_eq_true c92, e116]; rfl
  by_cases e34 : get s (j + 1) = 34
  ·refine short 34 34 e34 (by decide) (by decide) (by decide) ?_
   conv => lhs; unfold S0
   rw [decide_eq_false hl, decide_eq_false c10, decide_eq_false c34, decide_eq_true c92, e34]; rfl
  by_cases e92 : get s (j + 1) = 92
  ·refine short 92 92 e92 (by decide) (by decide) (by decide) ?_
   conv => lhs; unfold S0
   rw [decide_eq_false hl, decide_eq_false c10, decide_eq_false c34, decide_eq_true c92, e92]; rfl
  have hneg : aN6 (get s (j + 1)) = -1 := by
   unfold aN6; rw [decide_eq_false e110, decide_eq_false e116, decide_eq_false e34, decide_eq_false e92]; rfl
  by_cases e120 : ¬ (get s (j + 1) = 120)
  ·have hR : S0 s (k + 1) j o = .inl (j + 1) := by
    unfold S0; rw [decide_eq_false hl, decide_eq_false c10, decide_eq_false c34, decide_eq_true c92, decide_eq_false e110, decide_eq_false e116, decide_eq_false e34, decide_eq_false e92, decide_eq_false e120]; rfl
   rw [hR]
   refine an8.up fun n hix => ?_
   show ∃ t' b, x5 (S.step (S.tab n)) _ _ _ _ = _ ∧ _
   rw [start, q8 hnl1, l7 hin1, n9, hix _ hby, hneg]
   simp only [Option.bind_some]
   rw [q8 (by decide), l7 hin1, l7 (by rw [decide_eq_false e120]; rfl)]
   first | exact ⟨_, _, rfl, rfl, rfl⟩ | exact ⟨_, _, rfl, rfl, rfl, rfl⟩
  replace e120 := Decidable.not_not.1 e120
  have hR : S0 s (k + 1) j o = bif !W7 (get s (j + 2)) then .inl (j + 2) else bif !W7 (get s (j + 3)) then .inl (j + 3) else S0 s k (j + 4) (o ++ [Z8 (get s (j + 2)) * 16 + Z8 (get s (j + 3))]) := by
   conv => lhs; unfold S0
   rw [decide_eq_false hl, decide_eq_false c10, decide_eq_false c34, decide_eq_true c92, e120]; rfl
  have h39 := bQ6 hs (4, (i : Int), 0, 0, 0, ([] : List Int), ()) o j hl'
  have go : ∀ n, (∀ c, isByte c → M3 (S.tab n) [110, 116, 34, 92] c = some (aN6 c, T2)) → x5 (S.step (S.tab n)) s (4, (i : Int), 0, 0, 0, ([] : List Int), ()) o (j : Int) = _ := fun n hix => by
   rw [start, q8 hnl1, l7 hin1, n9, hix _ hby, hneg, Option.bind_some, q8 (by decide), l7 hin1, q8 (by rw [decide_eq_true e120]; rfl)]
  rw [hR]
  cases x2 : W7 (get s (j + 2)) with
  | false =>
   refine (h39.and an8).up fun n ⟨h, hix⟩ => ?_
   show ∃ t' b, x5 (S.step (S.tab n)) _ _ _ _ = _ ∧ _
   rw [go n hix, h, x2]
   first | exact ⟨_, _, rfl, rfl, rfl⟩ | exact ⟨_, _, rfl, rfl, rfl, rfl⟩
  | true =>
   cases x3 : W7 (get s (j + 3)) with
   | false =>
    refine (h39.and an8).up fun n ⟨h, hix⟩ => ?_
    show ∃ t' b, x5 (S.step (S.tab n)) _ _ _ _ = _ ∧ _
    rw [go n hix, h, x2, x3]
    first | exact ⟨_, _, rfl, rfl, rfl⟩ | exact ⟨_, _, rfl, rfl, rfl, rfl⟩
   | true =>
    have hl3 := aJ8 x3
    obtain ⟨hv2, hp0, hp1⟩ := bu5 _ _ x2 x3
    have hpu := aF4 [get s (j + 2), get s (j + 3)] 8 (.inl ⟨rfl, by simp⟩) (by simp) (by
     intro c hc
     rcases List.mem_cons.1 hc with rfl | hc
     ·exact x2
     ·have : c = get s (j + 3) := by simpa using hc
      rw [this]; exact x3)
    rw [hv2] at hpu
    have h2 := ih (j + 4) (o ++ [Z8 (get s (j + 2)) * 16 + Z8 (get s (j + 3))]) (by omega) (by omega) (by simp; omega)
    refine (((h39.and an8).and hpu).and h2).up fun n ⟨⟨⟨h, hix⟩, hpu⟩, h2⟩ => ?_
    show ∃ t' b, x5 (S.step (S.tab n)) _ _ _ _ = _ ∧ _
    rw [go n hix, h, x2, x3]
    simp only [cond_true, Option.bind_some, N0, Sum.elim_inr, Sum.elim_inl, w2, w4]
    rw [l7 (F0 (by omega) (by omega)), ah7, aJ3 (s := s) (j := j + 2) (by omega), hpu]
    simp only [Option.bind_some]
    rw [a43 _ hp0 hp1, l7 (hf _)]
    exact h2
end Go.Abs.D
end

section
namespace Go.Abs.D
def LR (r : Nat ⊕ j7.den) (y : (j7.den × Int × Unit) ⊕ (j7.den × j7.den × Int × Unit) ⊕ Empty) : Prop :=
 y.elim (fun y => SR k4 r y.1 y.2.1) fun y => y.elim (fun y => SR k4 r y.1 y.2.2.1) Empty.elim
variable {s : List Int} (hs : s.length ≤ 2097152)
include hs
theorem aT9 (t3 t4 : j7.den) (j : Nat) (o : List Int) (c : Int) (hj : j < s.length) (ho : o.length ≤ j) : Evt fun n => A8 (S.tab n) s t3 t4 (j : Int) o c true = some (Sum.inl (s, t3, t4, (j : Int), o ++ [get s j], ())) := by
 refine r8.up fun n hb => ?_
 show A8 (S.step (S.tab n)) _ _ _ _ _ _ _ = _
 rw [R7, l7 rfl, l7 (n8 hj), n9, l7 (Z1 (by unfold lim; simp only [List.length_singleton]; omega))]
omit hs in
theorem a44 (t3 t4 : j7.den) (j : Nat) (o : List Int) (c : Int) (hc : c ≠ 120) : Evt fun n => A8 (S.tab n) s t3 t4 (j : Int) o c false = some (Sum.inr (Sum.inl (t3, (j : Int), ()))) := by
 refine r8.up fun n hb => ?_
 show A8 (S.step (S.tab n)) _ _ _ _ _ _ _ = _
 rw [R7, q8 rfl, q8 (decide_eq_false hc)]
theorem bm1 (t3 t4 : j7.den) (j : Nat) (o : List Int) (hj : j ≤ s.length) (ho : o.length ≤ j) : Evt fun n => A8 (S.tab n) s t3 t4 (j : Int) o 120 false =
  some (bif W7 (get s (j + 1)) then (bif W7 (get s (j + 2)) then Sum.inl (s, t3, t4, ((j + 2 : Nat) : Int), o ++ [Z8 (get s (j + 1)) * 16 + Z8 (get s (j + 2))], ()) else Sum.inr (Sum.inl (t3, ((j + 2 : Nat) : Int), ()))) else Sum.inr (Sum.inl (t3, ((j + 1 : Nat) : Int), ()))) := by
 have w1 : IntKind.i64.wrap ((j : Int) + 1) = ((j + 1 : Nat) : Int) := I3 (by omega)
 have w2 : IntKind.i64.wrap ((j : Int) + 2) = ((j + 2 : Nat) : Int) := by rw [wrap64 _ (by omega) (by omega)]; omega
 refine ((bR1 hs t3 t4 o j hj).and r8).up fun n ⟨h, hb⟩ => ?_
 show A8 (S.step (S.tab n)) _ _ _ _ _ _ _ = _
 rw [R7, q8 rfl, l7 (by rfl), h]
 cases x1 : W7 (get s (j + 1)) with
 | false => rfl
 | true =>
  cases x2 : W7 (get s (j + 2)) with
  | false => rfl
  | true =>
   have hl2 := aJ8 x2
   obtain ⟨_, hp0, hp1⟩ := bu5 _ _ x1 x2
   have h0 := ak3 x1
   have h0' := ak3 x2
   have h1 := ao7 (get s (j + 1))
   have h1' := ao7 (get s (j + 2))
   have e1 : IntKind.i64.wrap (16 * Z8 (get s (j + 1))) = 16 * Z8 (get s (j + 1)) := wrap64 _ (by omega) (by omega)
   have e2 : IntKind.i64.wrap (16 * Z8 (get s (j + 1)) + Z8 (get s (j + 2))) = Z8 (get s (j + 1)) * 16 + Z8 (get s (j + 2)) := by rw [wrap64 _ (by omega) (by omega)]; omega
   simp only [cond_true, Option.bind_some, N0, Sum.elim_inr, Sum.elim_inl, w1, w2]
   rw [l7 (n8 (show j + 1 < s.length by omega)), n9, hb.shex, Option.bind_some, l7 (n8 hl2), n9, hb.shex, Option.bind_some]
   simp only [e1, e2]
   rw [a43 _ hp0 hp1, l7 (Z1 (by unfold lim; simp only [List.length_singleton]; omega))]
theorem aX8 (t4 : j7.den) (i : Nat) : ∀ (k j : Nat) (o : List Int), s.length ≤ j + k → j ≤ s.length → o.length ≤ j →
  Evt fun n => ∃ y, p8 (S.tab n) s (4, (i : Int), 0, 0, 0, ([] : List Int), ()) t4 (j : Int) o = some y ∧ LR (bH3 i (S0 s k j o)) y := by
 intro k
 induction k with
 | zero =>
  intro j o hk hj ho
  refine r8.up fun n hb => ?_
  show ∃ y, p8 (S.step (S.tab n)) _ _ _ _ _ = _ ∧ _
  rw [F7, q8 (by simp only [decide_eq_false_iff_not]; omega)]
  first | exact ⟨_, rfl, rfl, rfl⟩ | exact ⟨_, rfl, rfl⟩
 | succ k ih =>
  intro j o hk hj ho
  have w1 : IntKind.i64.wrap ((j : Int) + 1) = ((j + 1 : Nat) : Int) := I3 (by omega)
  have w2 : IntKind.i64.wrap (((j + 1 : Nat) : Int) + 1) = ((j + 2 : Nat) : Int) := by rw [wrap64 _ (by omega) (by omega)]; omega
  have w4 : IntKind.i64.wrap (((j + 1 + 2 : Nat) : Int) + 1) = ((j + 4 : Nat) : Int) := by rw [wrap64 _ (by omega) (by omega)]; omega
  have hf : ∀ x : Int, fits (o.length + [x].length) = true := fun x => Z1 (by unfold lim; simp only [List.length_singleton]; omega)
  have hf1 : fits (o.length + 1) = true := Z1 (by unfold lim; omega)
  by_cases hl : s.length ≤ j
  ·have hR : S0 s (k + 1) j o = .inl j := by unfold S0; rw [decide_eq_true hl]; rfl
   rw [hR]
   refine r8.up fun n hb => ?_
   show ∃ y, p8 (S.step (S.tab n)) _ _ _ _ _ = _ ∧ _
   rw [F7, q8 (by simp only [decide_eq_false_iff_not]; omega)]
   first | exact ⟨_, rfl, rfl, rfl⟩ | exact ⟨_, rfl, rfl⟩
  have hl' : j < s.length := by omega
  have hin := n8 hl'
  have hlt : decide ((j : Int) < (s.length : Int)) = true := by simp only [decide_eq_true_eq]; omega
  by_cases c10 : get s j = 10
  ·have hR : S0 s (k + 1) j o = .inl j := by unfold S0; rw [decide_eq_false hl, decide_eq_true c10]; rfl
   rw [hR]
   refine r8.up fun n hb => ?_
   show ∃ y, p8 (S.step (S.tab n)) _ _ _ _ _ = _ ∧ _
   rw [F7, l7 hlt, l7 hin, n9, q8 (decide_eq_false (by omega)), l7 (decide_eq_true c10)]
   first | exact ⟨_, rfl, rfl, rfl⟩ | exact ⟨_, rfl, rfl⟩
  by_cases c34 : get s j = 34
  ·have hR : S0 s (k + 1) j o = .inr (j + 1, o) := by unfold S0; rw [decide_eq_false hl, decide_eq_false c10, decide_eq_true c34]; rfl
   rw [hR]
   refine r8.up fun n hb => ?_
   show ∃ y, p8 (S.step (S.tab n)) _ _ _ _ _ = _ ∧ _
   rw [F7, l7 hlt, l7 hin, n9, l7 (decide_eq_true c34), w1]
   first | exact ⟨_, rfl, rfl, rfl⟩ | exact ⟨_, rfl, rfl⟩
  by_cases c92 : ¬ (get s j = 92)
  ·have hR : S0 s (k + 1) j o = S0 s k (j + 1) (o ++ [get s j]) := by
    conv => lhs; unfold S0
    rw [decide_eq_false hl, decide_eq_false c10, decide_eq_false c34, decide_eq_false c92]; rfl
   rw [hR]
   refine (ih (j + 1) (o ++ [get s j]) (by omega) (by omega) (by simp; omega)).up fun n h => ?_
   show ∃ y, p8 (S.step (S.tab n)) _ _ _ _ _ = _ ∧ _
   rw [F7, l7 hlt, l7 hin, n9, q8 (decide_eq_false c34), q8 (decide_eq_false c10), l7 (by rw [decide_eq_false c92]; rfl), l7 (hf _), w1]
   exact h
  replace c92 := Decidable.not_not.1 c92
  have start : ∀ n, Base2 (S.tab n) → p8 (S.step (S.tab n)) s (4, (i : Int), 0, 0, 0, ([] : List Int), ()) t4 (j : Int) o = _ := fun n hb => by
   rw [F7, l7 hlt, l7 hin, n9, q8 (decide_eq_false c34), q8 (decide_eq_false c10), q8 (by rw [decide_eq_true c92]; rfl), w1, w2, hb.look, Option.bind_some]
  by_cases e110 : get s (j + 1) = 110
  ·have hl1 := M6 e110 (by decide)
   have hR : S0 s (k + 1) j o = S0 s k (j + 2) (o ++ [10]) := by
    conv => lhs; unfold S0
    rw [decide_eq_false hl, decide_eq_false c10, decide_eq_false c34, decide_eq_true c92, e110]; rfl
   rw [hR]
   refine ((ih (j + 2) (o ++ [10]) (by omega) (by omega) (by simp; omega)).and r8).up fun n ⟨h, hb⟩ => ?_
   show ∃ y, p8 (S.step (S.tab n)) _ _ _ _ _ = _ ∧ _
   rw [start n hb, l7 (decide_eq_true e110), l7 hf1]
   exact h
  by_cases e116 : get s (j + 1) = 116
  ·have hl1 := M6 e116 (by decide)
   have hR : S0 s (k + 1) j o = S0 s k (j + 2) (o ++ [9]) := by
    conv => lhs; unfold S0
    rw [decide_eq_false hl, decide_eq_false c10, decide_eq_false c34, decide_eq_true c92, e116]; rfl
   rw [hR]
   refine ((ih (j + 2) (o ++ [9]) (by omega) (by omega) (by simp; omega)).and r8).up fun n ⟨h, hb⟩ => ?_
   show ∃ y, p8 (S.step (S.tab n)) _ _ _ _ _ = _ ∧ _
   rw [start n hb, q8 (decide_eq_false e110), l7 (decide_eq_true e116), l7 hf1]
   exact h
  by_cases e34 : get s (j + 1) = 34
  ·have hl1 := M6 e34 (by decide)
   have hR : S0 s (k + 1) j o = S0 s k (j + 2) (o ++ [34]) := by
    conv => lhs; unfold S0
    rw [decide_eq_false hl, decide_eq_false c10, decide_eq_false c34, decide_eq_true c92, e34]; rfl
   rw [hR]
   have h24 := aT9 hs (4, (i : Int), 0, 0, 0, ([] : List Int), ()) t4 (j + 1) o (get s (j + 1)) hl1 (by omega)
   refine (((ih (j + 2) (o ++ [34]) (by omega) (by omega) (by simp; omega)).and r8).and h24).up fun n ⟨⟨h, hb⟩, h24⟩ => ?_
   show ∃ y, p8 (S.step (S.tab n)) _ _ _ _ _ = _ ∧ _
   rw [start n hb, q8 (decide_eq_false e110), q8 (decide_eq_false e116), l7 (decide_eq_true e34)]
   simp only
   rw [decide_eq_true e34, h24, e34]
   simp only [Option.bind_some, N0, Sum.elim_inl, w2]
   exact h
  by_cases e92 : get s (j + 1) = 92
  ·have hl1 := M6 e92 (by decide)
   have hR : S0 s (k + 1) j o = S0 s k (j + 2) (o ++ [92]) := by
    conv => lhs; unfold S0
    rw [decide_eq_false hl, decide_eq_false c10, decide_eq_false c34, decide_eq_true c92, e92]; rfl
   rw [hR]
   have h24 := aT9 hs (4, (i : Int), 0, 0, 0, ([] : List Int), ()) t4 (j + 1) o (get s (j + 1)) hl1 (by omega)
   refine (((ih (j + 2) (o ++ [92]) (by omega) (by omega) (by simp; omega)).and r8).and h24).up fun n ⟨⟨h, hb⟩, h24⟩ => ?_
   show ∃ y, p8 (S.step (S.tab n)) _ _ _ _ _ = _ ∧ _
   rw [start n hb, q8 (decide_eq_false e110), q8 (decide_eq_false e116), q8 (decide_eq_false e34)]
   simp only
   rw [decide_eq_true e92, h24, e92]
   simp only [Option.bind_some, N0, Sum.elim_inl, w2]
   exact h
  by_cases e120 : ¬ (get s (j + 1) = 120)
  ·have hR : S0 s (k + 1) j o = .inl (j + 1) := by
    unfold S0; rw [decide_eq_false hl, decide_eq_false c10, decide_eq_false c34, decide_eq_true c92, decide_eq_false e110, decide_eq_false e116, decide_eq_false e34, decide_eq_false e92, decide_eq_false e120]; rfl
   rw [hR]
   have h24 := a44 (s := s) (4, (i : Int), 0, 0, 0, ([] : List Int), ()) t4 (j + 1) o (get s (j + 1)) e120
   refine (r8.and h24).up fun n ⟨hb, h24⟩ => ?_
   show ∃ y, p8 (S.step (S.tab n)) _ _ _ _ _ = _ ∧ _
   rw [start n hb, q8 (decide_eq_false e110), q8 (decide_eq_false e116), q8 (decide_eq_false e34)]
   simp only
   rw [decide_eq_false e92, h24]
   first | exact ⟨_, rfl, rfl, rfl⟩ | exact ⟨_, rfl, rfl⟩
  replace e120 := Decidable.not_not.1 e120
  have hl1 := M6 e120 (by decide)
  have hR : S0 s (k + 1) j o = bif !W7 (get s (j + 2)) then .inl (j + 2) else bif !W7 (get s (j + 3)) then .inl (j + 3) else S0 s k (j + 4) (o ++ [Z8 (get s (j + 2)) * 16 + Z8 (get s (j + 3))]) := by
   conv => lhs; unfold S0
   rw [decide_eq_false hl, decide_eq_false c10, decide_eq_false c34, decide_eq_true c92, e120]; rfl
  rw [hR]
  have h24 := bm1 hs (4, (i : Int), 0, 0, 0, ([] : List Int), ()) t4 (j + 1) o (by omega) (by omega)
  have e12 : j + 1 + 1 = j + 2 := rfl
  have e13 : j + 1 + 2 = j + 3 := rfl
  rw [e12, e13] at h24
  have go : ∀ n, Base2 (S.tab n) → p8 (S.step (S.tab n)) s (4, (i : Int), 0, 0, 0, ([] : List Int), ()) t4 (j : Int) o = (A8 (S.tab n) s (4, (i : Int), 0, 0, 0, ([] : List Int), ()) t4 ((j + 1 : Nat) : Int) o 120 false).bind (N0 (fun y24 => p8 (S.tab n) y24.1 y24.2.1 y24.2.2.1 (IntKind.i64.wrap (y24.2.2.2.1 + (1 : Int))) y24.2.2.2.2.1) (fun y24 => some (Sum.inl y24))) := fun n hb => by
   rw [start n hb, q8 (decide_eq_false e110), q8 (decide_eq_false e116), q8 (decide_eq_false e34)]
   simp only
   rw [decide_eq_false e92, e120]
  cases x2 : W7 (get s (j + 2)) with
  | false =>
   refine (h24.and r8).up fun n ⟨h, hb⟩ => ?_
   show ∃ y, p8 (S.step (S.tab n)) _ _ _ _ _ = _ ∧ _
   rw [go n hb, h, x2]
   first | exact ⟨_, rfl, rfl, rfl⟩ | exact ⟨_, rfl, rfl⟩
  | true =>
   cases x3 : W7 (get s (j + 3)) with
   | false =>
    refine (h24.and r8).up fun n ⟨h, hb⟩ => ?_
    show ∃ y, p8 (S.step (S.tab n)) _ _ _ _ _ = _ ∧ _
    rw [go n hb, h, x2, x3]
    first | exact ⟨_, rfl, rfl, rfl⟩ | exact ⟨_, rfl, rfl⟩
   | true =>
    have hl3 := aJ8 x3
    have h2 := ih (j + 4) (o ++ [Z8 (get s (j + 2)) * 16 + Z8 (get s (j + 3))]) (by omega) (by omega) (by simp; omega)
    refine ((h24.and r8).and h2).up fun n ⟨⟨h, hb⟩, h2⟩ => ?_
    show ∃ y, p8 (S.step (S.tab n)) _ _ _ _ _ = _ ∧ _
    rw [go n hb, h, x2, x3]
    have w5 : IntKind.i64.wrap (((j + 3 : Nat) : Int) + 1) = ((j + 4 : Nat) : Int) := w4
    simp only [cond_true, Option.bind_some, N0, Sum.elim_inl, w5]
    exact h2
theorem aG9 {i : Nat} (hi : i < s.length) : Evt fun n => ∃ t' b, aa8 (S.tab n) s (0, (i : Int), 0, 0, 0, ([] : List Int), ()) = some ((t', b, ()), ac4) ∧ SR k4 (bD4 s i) t' b := by
 have e1 : IntKind.i64.wrap ((i : Int) + 1) = ((i + 1 : Nat) : Int) := I3 (by omega)
 refine (aX8 hs (0, 0, 0, 0, 0, ([] : List Int), ()) i s.length (i + 1) [] (by omega) (by omega) (by simp)).up fun n ⟨y, h, hr⟩ => ?_
 show ∃ t' b, aa8 (S.step (S.tab n)) _ _ = _ ∧ _
 rw [aH3]
 simp only [e1]
 rw [h, Option.bind_some]
 rcases y with y | y | y
 ·exact ⟨y.1, y.2.1, rfl, hr⟩
 ·exact ⟨y.1, y.2.2.1, rfl, hr⟩
 ·exact y.elim
end Go.Abs.D
end

section
namespace Go.Abs.D
def r4 : List (List Int) := [[46, 46, 46], [46, 46], [46], [60, 60], [60, 61], [60], [62, 62], [62, 61], [62], [61, 61], [61], [126, 61], [126], [47, 47], [47], [40], [41], [123], [125], [91], [93], [44], [59], [35], [43], [45], [42], [37], [38], [124]]
def opsL : List (List Int) := [[], [43], [45], [42], [47], [47, 47], [37], [38], [124], [126], [60, 60], [62, 62], [46, 46], [61, 61], [126, 61], [60], [60, 61], [62], [62, 61]]
def fx (k : Nat) : List Int :=
 bif decide (10 ≤ k) && decide (k ≤ 31) then Lx.words.getD (k - 10) [] else
 bif decide (40 ≤ k) && decide (k ≤ 50) then Lx.ab0.getD (k - 40) [] else
 bif decide (61 ≤ k) && decide (k ≤ 78) then Lx.aw4.getD (k - 61) [] else
 bif decide (k = 5) then [59] else []
def okF (f : List Int) : Bool := !decide (f = []) && !x6 (f.getD 0 0)
def runK (p : List Int → Bool) : Nat → Nat × Nat → Nat × Nat
 | 0, st => st
 | k + 1, st => runK p k (bif okF (fx (k + 1)) && p (fx (k + 1)) && decide (st.2 < (fx (k + 1)).length) then (k + 1, (fx (k + 1)).length) else st)
def sq (l : List (List Int)) (f : List Int) (k : Nat) : Bool := decide (k < l.length) && !decide (l.getD k [] = f)
def sgn (f : List Int) : Nat :=
 bif decide (stop (sq opsL f) 19 1 < 19) then 60 + stop (sq opsL f) 19 1 else
 bif decide (stop (sq Lx.ab0 f) 11 0 < 11) then 40 + stop (sq Lx.ab0 f) 11 0 else 5
def pq (p : List Int → Bool) (k : Nat) : Bool := decide (k < 30) && !p (r4.getD k [])
def U8 (p : List Int → Bool) : Nat := stop (pq p) 30 0
def V4 (p : List Int → Bool) : Nat × Nat := bif decide (U8 p < 30) then (sgn (r4.getD (U8 p) []), (r4.getD (U8 p) []).length) else (0, 0)
def bz4 (a b c : Int) : List Int → Bool
 | [x] => decide (a = x)
 | [x, y] => decide (a = x) && decide (b = y)
 | [x, y, z] => decide (a = x) && decide (b = y) && decide (c = z)
 | _ => false
def rep (l : List Int) (a : Int) : Int := bif l.contains a then a else 0
def lA : List Int := [46, 60, 62, 61, 126, 47, 40, 41, 123, 125, 91, 93, 44, 59, 35, 43, 45, 42, 37, 38, 124]
def lB : List Int := [46, 60, 61, 62, 47]
def lC : List Int := [46]
theorem bc1 (l : List Int) (a : Int) : rep l a ∈ 0 :: l := by
 unfold rep
 cases h : l.contains a with
 | true => exact List.mem_cons_of_mem _ (by simpa using h)
 | false => exact List.mem_cons_self ..
theorem br0 (l : List Int) (a x : Int) (hx : l.contains x = true) (h0 : x ≠ 0) : decide (rep l a = x) = decide (a = x) := by
 unfold rep
 cases h : l.contains a with
 | true => rfl
 | false =>
  have : a ≠ x := fun e => by rw [e, hx] at h; cases h
  rw [decide_eq_false this, cond_false, decide_eq_false (fun e => h0 e.symm)]
theorem aC2 {p q : List Int → Bool} : ∀ (k : Nat) (st : Nat × Nat), (∀ j, j ≤ k → okF (fx j) = true → p (fx j) = q (fx j)) → runK p k st = runK q k st
 | 0, st, _ => rfl
 | k + 1, st, h => by
  unfold runK
  have : (okF (fx (k + 1)) && p (fx (k + 1))) = (okF (fx (k + 1)) && q (fx (k + 1))) := by
   cases ho : okF (fx (k + 1)) with
   | true => rw [h (k + 1) (Nat.le_refl _) ho]
   | false => rfl
  rw [this]
  exact aC2 k _ fun j hj => h j (by omega)
theorem bn5 {p q : Nat → Bool} (h : ∀ j, p j = q j) (k j : Nat) : stop p k j = stop q k j := by
 have : p = q := funext h
 rw [this]
theorem aq0 {p q : List Int → Bool} (h : ∀ f ∈ r4, p f = q f) : V4 p = V4 q := by
 have e : ∀ j, pq p j = pq q j := fun j => by
  unfold pq
  by_cases hj : j < 30
  ·rw [h]
   rw [List.getD_eq_getElem?_getD, List.getElem?_eq_getElem (show j < r4.length from hj)]
   exact List.getElem_mem _
  ·rw [decide_eq_false hj]; rfl
 have : U8 p = U8 q := bn5 e 30 0
 unfold V4
 rw [this]
theorem bM4 : ∀ j, j ≤ 78 → okF (fx j) = true → fx j ∈ r4 := by
 have h : ∀ j : Fin 79, okF (fx j) = true → fx j ∈ r4 := by decide +kernel
 exact fun j hj => h ⟨j, by omega⟩
theorem bk8 (a b c : Int) : ∀ f ∈ r4, bz4 a b c f = bz4 (rep lA a) (rep lB b) (rep lC c) f := by
 intro f hf
 simp only [r4, List.mem_cons, List.not_mem_nil, or_false] at hf
 rcases hf with rfl | rfl | rfl | rfl | rfl | rfl | rfl | rfl | rfl | rfl | rfl | rfl | rfl | rfl | rfl | rfl | rfl | rfl | rfl | rfl | rfl | rfl | rfl | rfl | rfl | rfl | rfl | rfl | rfl | rfl <;>
  simp only [bz4] <;> (first | rw [br0 lA a _ (by rfl) (by decide)] | skip) <;> (first | rw [br0 lB b _ (by rfl) (by decide)] | skip) <;> (first | rw [br0 lC c _ (by rfl) (by decide)] | skip)
theorem bs5 (a b c : Int) : runK (bz4 a b c) 78 (0, 0) = V4 (bz4 a b c) := by
 have h : ∀ x ∈ (0 :: lA), ∀ y ∈ (0 :: lB), ∀ z ∈ (0 :: lC), runK (bz4 x y z) 78 (0, 0) = V4 (bz4 x y z) := by decide +kernel
 rw [aC2 (q := bz4 (rep lA a) (rep lB b) (rep lC c)) 78 (0, 0) fun j hj ho => bk8 a b c _ (bM4 j hj ho), aq0 (bk8 a b c)]
 exact h _ (bc1 ..) _ (bc1 ..) _ (bc1 ..)
end Go.Abs.D
end

section
namespace Go.Abs.D
def pS (s : List Int) (i : Nat) (f : List Int) : Bool := decide (f.length ≤ s.length - i) && decide (J8 s i (i + f.length) = f)
def p3 (s : List Int) (i : Nat) : List Int → Bool := bz4 (get s i) (get s (i + 1)) (get s (i + 2))
theorem bO9 : Evt fun n => ∀ v lo hi, ag9 (S.tab n) v lo hi = some (decide (lo ≤ v) && decide (v ≤ hi), ap3) := r8.up fun n _ v lo hi => by
 show ag9 (S.step (S.tab n)) _ _ _ = _
 rw [aS4]
 cases h : decide (lo ≤ v) with
 | true => rw [l7 rfl]; rfl
 | false => rw [q8 rfl]; rfl
theorem bj1 : Evt fun n => ∀ k : Nat, k ≤ 78 → ah9 (S.tab n) (k : Int) = some (fx k, U5) := bO9.up fun n h k hk => by
 show ah9 (S.step (S.tab n)) _ = _
 rw [aW9, h, Option.bind_some]
 unfold fx
 by_cases h1 : 10 ≤ k ∧ k ≤ 31
 ·have e : IntKind.i64.wrap ((k : Int) - 10) = ((k - 10 : Nat) : Int) := by rw [wrap64 _ (by omega) (by omega)]; omega
  rw [l7 (by simp only [Bool.and_eq_true, decide_eq_true_eq]; omega), e, l7 (n8 (show k - 10 < Lx.words.length by show k - 10 < 22; omega)), decide_eq_true h1.1, decide_eq_true h1.2]; rfl
 rw [q8 (by simp only [Bool.and_eq_false_iff, decide_eq_false_iff_not]; omega), h, Option.bind_some]
 rw [show (decide (10 ≤ k) && decide (k ≤ 31)) = false by simp only [Bool.and_eq_false_iff, decide_eq_false_iff_not]; omega]
 by_cases h2 : 40 ≤ k ∧ k ≤ 50
 ·have e : IntKind.i64.wrap ((k : Int) - 40) = ((k - 40 : Nat) : Int) := by rw [wrap64 _ (by omega) (by omega)]; omega
  rw [l7 (by simp only [Bool.and_eq_true, decide_eq_true_eq]; omega), e, l7 (n8 (show k - 40 < Lx.ab0.length by show k - 40 < 11; omega)), decide_eq_true h2.1, decide_eq_true h2.2]; rfl
 rw [q8 (by simp only [Bool.and_eq_false_iff, decide_eq_false_iff_not]; omega), h, Option.bind_some]
 rw [show (decide (40 ≤ k) && decide (k ≤ 50)) = false by simp only [Bool.and_eq_false_iff, decide_eq_false_iff_not]; omega]
 by_cases h3 : 61 ≤ k ∧ k ≤ 78
 ·have e : IntKind.i64.wrap ((k : Int) - 60) = ((k - 60 : Nat) : Int) := by rw [wrap64 _ (by omega) (by omega)]; omega
  have e' : IntKind.i64.wrap (((k - 60 : Nat) : Int) - 1) = ((k - 61 : Nat) : Int) := by rw [wrap64 _ (by omega) (by omega)]; omega
  rw [l7 (by simp only [Bool.and_eq_true, decide_eq_true_eq]; omega), e, e', l7 (n8 (show k - 61 < Lx.aw4.length by show k - 61 < 18; omega)), decide_eq_true h3.1, decide_eq_true h3.2]; rfl
 rw [q8 (by simp only [Bool.and_eq_false_iff, decide_eq_false_iff_not]; omega)]
 rw [show (decide (61 ≤ k) && decide (k ≤ 78)) = false by simp only [Bool.and_eq_false_iff, decide_eq_false_iff_not]; omega]
 by_cases h5 : k = 5
 ·subst h5; rw [l7 (by rfl)]; rfl
 ·rw [q8 (by simp only [decide_eq_false_iff_not]; omega), decide_eq_false h5]; rfl
theorem bO3 (f : List Int) : ∀ j : Nat, 1 ≤ j → j ≤ 19 → Evt fun n => D9 (S.tab n) f opsL (j : Int) = some (bif decide (stop (sq opsL f) 19 j < 19) then Sum.inl (((60 + stop (sq opsL f) 19 j : Nat) : Int), ()) else Sum.inr (Sum.inl (f, ()))) := fun j h1 hj =>
 adv (F := fun T (j : Nat) => D9 T f opsL (j : Int)) (out := fun j => bif decide (j < 19) then Sum.inl (((60 + j : Nat) : Int), ()) else Sum.inr (Sum.inl (f, ()))) (N := 19) r8 (fun j h => by simp [sq, opsL]; omega)
  (fun T j _ hq => by
   simp only [sq, Bool.and_eq_true, decide_eq_true_eq, Bool.not_eq_true', decide_eq_false_iff_not] at hq
   have h19 : j < 19 := hq.1
   show D9 (S.step T) f opsL j = D9 T f opsL ((j + 1 : Nat) : Int)
   rw [ai7, l7 (by simp only [decide_eq_true_eq]; omega), l7 (n8 hq.1), q8 (decide_eq_false (show ¬ List.getD _ (j : Int).toNat [] = f from hq.2)), I3 (by omega)])
  (fun T j _ hq => by
   simp only [sq, Bool.and_eq_false_iff, decide_eq_false_iff_not, Bool.not_eq_false', decide_eq_true_eq] at hq
   show D9 (S.step T) f opsL j = _
   rw [ai7]
   by_cases hj : j < opsL.length
   ·have h19 : j < 19 := hj
    have he : opsL.getD (j : Int).toNat [] = f := by
     rcases hq with hq | hq
     ·exact absurd hj hq
     ·exact hq
    rw [l7 (by simp only [decide_eq_true_eq]; omega), l7 (n8 hj), l7 (decide_eq_true he), wrap64 _ (by omega) (by omega), decide_eq_true h19]
    simp only [cond_true]
    congr 2
   ·have h19 : ¬ j < 19 := hj
    rw [q8 (by simp only [decide_eq_false_iff_not]; omega), decide_eq_false h19]; rfl) 19 j (by omega)
theorem bP7 (f : List Int) : Evt fun n => G2 (S.tab n) f Lx.ab0 11 0 = some (bif decide (stop (sq Lx.ab0 f) 11 0 < 11) then Sum.inl (((40 + stop (sq Lx.ab0 f) 11 0 : Nat) : Int), ()) else Sum.inr (Sum.inl ())) :=
 adv (F := fun T (j : Nat) => G2 T f Lx.ab0 11 (j : Int)) (out := fun j => bif decide (j < 11) then Sum.inl (((40 + j : Nat) : Int), ()) else Sum.inr (Sum.inl ())) (N := 11) r8 (fun j h => by simp [sq, Lx.ab0]; omega)
  (fun T j _ hq => by
   simp only [sq, Bool.and_eq_true, decide_eq_true_eq, Bool.not_eq_true', decide_eq_false_iff_not] at hq
   have h11 : j < 11 := hq.1
   show G2 (S.step T) f Lx.ab0 11 j = G2 T f Lx.ab0 11 ((j + 1 : Nat) : Int)
   rw [ai6, l7 (by simp only [decide_eq_true_eq]; omega), l7 (n8 hq.1), q8 (decide_eq_false (show ¬ List.getD _ (j : Int).toNat [] = f from hq.2)), I3 (by omega)])
  (fun T j _ hq => by
   simp only [sq, Bool.and_eq_false_iff, decide_eq_false_iff_not, Bool.not_eq_false', decide_eq_true_eq] at hq
   show G2 (S.step T) f Lx.ab0 11 j = _
   rw [ai6]
   by_cases hj : j < Lx.ab0.length
   ·have h11 : j < 11 := hj
    have he : Lx.ab0.getD (j : Int).toNat [] = f := by
     rcases hq with hq | hq
     ·exact absurd hj hq
     ·exact hq
    rw [l7 (by simp only [decide_eq_true_eq]; omega), l7 (n8 hj), l7 (decide_eq_true he), wrap64 _ (by omega) (by omega), decide_eq_true h11]
    simp only [cond_true]
    congr 2
   ·have h11 : ¬ j < 11 := hj
    rw [q8 (by simp only [decide_eq_false_iff_not]; omega), decide_eq_false h11]; rfl) 11 0 (by omega)
theorem sign_one (f : List Int) : Evt fun n => L7 (S.tab n) f = some ((sgn f : Int), L4) := by
 refine ((bO3 f 1 (by omega) (by omega)).and (bP7 f)).up fun n ⟨h3, h9⟩ => ?_
 show L7 (S.step (S.tab n)) _ = _
 rw [aP5]
 have h3 : D9 (S.tab n) f opsL 1 = _ := h3
 show (D9 (S.tab n) f opsL 1).bind _ = _
 rw [h3, Option.bind_some]
 unfold sgn
 cases decide (stop (sq opsL f) 19 1 < 19) with
 | true => rfl
 | false =>
  show (G2 (S.tab n) f Lx.ab0 11 0).bind _ = _
  rw [h9, Option.bind_some]
  cases decide (stop (sq Lx.ab0 f) 11 0 < 11) with
  | true => rfl
  | false => rfl
theorem a15 {α : Type} {P : α → Nat → Prop} : ∀ (l : List α), (∀ a, Evt fun n => P a n) → Evt fun n => ∀ a ∈ l, P a n
 | [], _ => Evt.of fun _ a h => by cases h
 | x :: l, h => ((h x).and (a15 l h)).mono fun n ⟨h1, h2⟩ a ha => by
  rcases List.mem_cons.1 ha with rfl | ha
  ·exact h1
  ·exact h2 a ha
theorem aZ3 (f : List Int) : sgn f ≠ 0 := by
 unfold sgn
 cases h1 : decide (stop (sq opsL f) 19 1 < 19) with
 | true => rw [cond_true]; omega
 | false =>
  cases h2 : decide (stop (sq Lx.ab0 f) 11 0 < 11) with
  | true => rw [cond_false, cond_true]; omega
  | false => rw [cond_false, cond_false]; omega
theorem bi1 : Evt fun n => P8 (S.tab n) = some (r4, au3) := r8.up fun n _ => by
 show P8 (S.step (S.tab n)) = _
 rw [aO0]; rfl
variable {s : List Int} (hs : s.length ≤ 2097152)
include hs
omit hs in
theorem sub_one {i : Nat} (h : i + 1 ≤ s.length) : J8 s i (i + 1) = [get s i] := by rw [W0 (by omega) (by omega), ab2]; rfl
omit hs in
theorem bv5 {i : Nat} (h : i + 3 ≤ s.length) : J8 s i (i + 3) = [get s i, get s (i + 1), get s (i + 2)] := by
 rw [show i + 3 = i + 2 + 1 from rfl, W0 (by omega) (by omega), aJ3 (s := s) (by omega)]; rfl
omit hs in
theorem bH2 {i : Nat} (hi : i < s.length) : ∀ f ∈ r4, pS s i f = p3 s i f := by
 have h1 : ∀ x : Int, x ≠ 0 → pS s i [x] = decide (get s i = x) := fun x h0 => by
  unfold pS
  rw [show ([x] : List Int).length = 1 from rfl, sub_one (s := s) (by omega), decide_eq_true (by omega), Bool.true_and]
  simp
 have h2 : ∀ x y : Int, x ≠ 0 → y ≠ 0 → pS s i [x, y] = (decide (get s i = x) && decide (get s (i + 1) = y)) := fun x y h0 h0' => by
  unfold pS
  rw [show ([x, y] : List Int).length = 2 from rfl]
  by_cases h : 2 ≤ s.length - i
  ·rw [aJ3 (s := s) (by omega), decide_eq_true h, Bool.true_and]
   simp
  ·rw [decide_eq_false h, M9 (show s.length ≤ i + 1 by omega), show decide ((0 : Int) = y) = false from decide_eq_false (fun e => h0' e.symm), Bool.and_false]; rfl
 have h3 : ∀ x y z : Int, x ≠ 0 → y ≠ 0 → z ≠ 0 → pS s i [x, y, z] = (decide (get s i = x) && decide (get s (i + 1) = y) && decide (get s (i + 2) = z)) := fun x y z h0 h0' h0'' => by
  unfold pS
  rw [show ([x, y, z] : List Int).length = 3 from rfl]
  by_cases h : 3 ≤ s.length - i
  ·rw [bv5 (s := s) (by omega), decide_eq_true h, Bool.true_and]
   simp [Bool.and_assoc]
  ·rw [decide_eq_false h, M9 (show s.length ≤ i + 2 by omega), show decide ((0 : Int) = z) = false from decide_eq_false (fun e => h0'' e.symm), Bool.and_false]; rfl
 intro f hf
 simp only [r4, List.mem_cons, List.not_mem_nil, or_false] at hf
 unfold p3
 rcases hf with rfl | rfl | rfl | rfl | rfl | rfl | rfl | rfl | rfl | rfl | rfl | rfl | rfl | rfl | rfl | rfl | rfl | rfl | rfl | rfl | rfl | rfl | rfl | rfl | rfl | rfl | rfl | rfl | rfl | rfl <;>
  first
  | exact h1 _ (by decide)
  | exact h2 _ _ (by decide) (by decide)
  | exact h3 _ _ _ (by decide) (by decide) (by decide)
def bQ7 (i : Nat) (st : Nat × Nat) : j7.den := ((st.1 : Int), (i : Int), ((bif decide (st.1 = 0) then 0 else i + st.2 : Nat) : Int), 0, 0, ([] : List Int), ())
def aK2 (i : Nat) (st : Nat × Nat) : Nat ⊕ j7.den := bif decide (st.1 = 0) then .inl i else .inr ((st.1 : Int), (i : Int), ((i + st.2 : Nat) : Int), 0, 0, ([] : List Int), ())
omit hs in
theorem aM7 (hs : s.length ≤ 2097152) {i : Nat} (hi : i < s.length) : Evt fun n => ∀ f : List Int, J2 (S.tab n) (sub s (i : Int) (s.length : Int)) f = some (pS s i f, U0) := by
 have e : sub s (i : Int) (s.length : Int) = s.drop i := by
  rw [ah7]; unfold J8; rw [List.take_length]
 have h1 : Evt fun n => ∀ f : List Int, I8 (S.tab n) (s.drop i) f = some (pS s i f, L8) := r8.up fun n _ f => by
  show I8 (S.step (S.tab n)) _ _ = _
  rw [ae5]
  unfold pS
  by_cases h : f.length ≤ s.length - i
  ·have e2 : sub (s.drop i) (0 : Int) (f.length : Int) = J8 s i (i + f.length) := by
    show ((s.drop i).take f.length).drop 0 = _
    unfold J8
    rw [List.drop_zero, List.take_drop]
   rw [l7 (by simp only [decide_eq_true_eq, List.length_drop]; omega), l7 (show bounds (s.drop i).length (0 : Int) (f.length : Int) = true from F0 (i := 0) (by omega) (by rw [List.length_drop]; omega)), e2, decide_eq_true h, Bool.true_and]
  ·rw [q8 (by simp only [decide_eq_false_iff_not, List.length_drop]; omega), decide_eq_false h]; rfl
 rw [e]
 exact h1.up fun n h f => by
  show J2 (S.step (S.tab n)) _ _ = _
  rw [ar6, h]; rfl
theorem bC9 {i : Nat} (hi : i < s.length) : ∀ (k : Nat) (st : Nat × Nat), k ≤ 78 → Evt fun n => G6 (S.tab n) s (i : Int) (bQ7 i st) (st.2 : Int) (k : Int) = some (Sum.inl ((i : Int), bQ7 i (runK (pS s i) k st), ()))
 | 0, st, _ => r8.up fun n _ => by
  show G6 (S.step (S.tab n)) _ _ _ _ _ = _
  rw [ap7, q8 (by decide)]; rfl
 | k + 1, st, hk => by
  have ih := fun st => bC9 hi k st (by omega)
  refine ((((ih st).and (ih (k + 1, (fx (k + 1)).length))).and bj1).and ((aM7 hs hi).and r8)).up fun n ⟨⟨⟨ih1, ih2⟩, hf⟩, hp, hb⟩ => ?_
  show G6 (S.step (S.tab n)) _ _ _ _ _ = _
  have w : IntKind.i64.wrap (((k + 1 : Nat) : Int) - 1) = (k : Int) := by rw [wrap64 _ (by omega) (by omega)]; omega
  rw [ap7, l7 (by simp only [decide_eq_true_eq]; omega), hf (k + 1) (by omega), Option.bind_some, w]
  unfold runK
  unfold okF
  by_cases hne : fx (k + 1) = []
  ·rw [q8 (by rw [decide_eq_true hne]; rfl), decide_eq_true hne]
   exact ih1
  rw [l7 (by rw [decide_eq_false hne]; rfl), decide_eq_false hne]
  have hlen : 0 < (fx (k + 1)).length := List.length_pos_iff.2 hne
  rw [l7 (by simp only [decide_eq_true_eq]; omega), hb.iletter, Option.bind_some]
  cases hlt : x6 ((fx (k + 1)).getD 0 0) with
  | true =>
   rw [q8 (by rfl)]
   exact ih1
  | false =>
   rw [l7 (by rfl), l7 (F0 (by omega) (Nat.le_refl _)), hp, Option.bind_some]
   cases hpp : pS s i (fx (k + 1)) with
   | false =>
    rw [q8 (by rfl)]
    exact ih1
   | true =>
    rw [l7 (by rfl)]
    have hle : (fx (k + 1)).length ≤ s.length - i := by
     unfold pS at hpp
     simp only [Bool.and_eq_true, decide_eq_true_eq] at hpp
     exact hpp.1
    by_cases hb2 : st.2 < (fx (k + 1)).length
    ·have w2 : IntKind.i64.wrap ((i : Int) + ((fx (k + 1)).length : Int)) = ((i + (fx (k + 1)).length : Nat) : Int) := by rw [wrap64 _ (by omega) (by omega)]; omega
     simp only [w2]
     rw [l7 (by simp only [decide_eq_true_eq]; omega), decide_eq_true hb2]
     exact ih2
    ·rw [q8 (by simp only [decide_eq_false_iff_not]; omega), decide_eq_false hb2]
     exact ih1
theorem bJ9 {i : Nat} (hi : i < s.length) (t4 : j7.den) : Evt fun n => C7 (S.tab n) s (i : Int) t4 (0, (i : Int), 0, 0, 0, ([] : List Int), ()) r4 30 0 =
  some (bif decide (U8 (pS s i) < 30) then Sum.inl (((sgn (r4.getD (U8 (pS s i)) []) : Int), (i : Int), ((i + (r4.getD (U8 (pS s i)) []).length : Nat) : Int), 0, 0, ([] : List Int), ()), -1, ()) else Sum.inr (Sum.inl ((i : Int), t4, (0, (i : Int), 0, 0, 0, ([] : List Int), ()), ()))) := by
 have hp : Evt fun n => ∀ f ∈ r4, L7 (S.tab n) f = some ((sgn f : Int), L4) := a15 r4 sign_one
 have hlen : ∀ k, k < 30 → (r4.getD k []).length ≤ 3 := by
  have h : ∀ k : Fin 30, (r4.getD k.1 []).length ≤ 3 := by decide
  exact fun k hk => h ⟨k, hk⟩
 refine adv (F := fun T (j : Nat) => C7 T s (i : Int) t4 (0, (i : Int), 0, 0, 0, ([] : List Int), ()) r4 30 (j : Int)) (q := pq (pS s i)) (N := 30) (p := fun T => ∀ f ∈ r4, L7 T f = some ((sgn f : Int), L4))
  (out := fun k => bif decide (k < 30) then Sum.inl (((sgn (r4.getD k []) : Int), (i : Int), ((i + (r4.getD k []).length : Nat) : Int), 0, 0, ([] : List Int), ()), -1, ()) else Sum.inr (Sum.inl ((i : Int), t4, (0, (i : Int), 0, 0, 0, ([] : List Int), ()), ())))
  hp (fun j h => by unfold pq; rw [decide_eq_false (by omega)]; rfl) ?_ ?_ 30 0 (by omega)
 ·intro T j _ hq
  unfold pq pS at hq
  simp only [Bool.and_eq_true, decide_eq_true_eq, Bool.not_eq_true', Bool.and_eq_false_iff, decide_eq_false_iff_not] at hq
  have h30 := hq.1
  have hl3 := hlen j h30
  have hj : j < r4.length := h30
  show C7 (S.step T) s i t4 _ r4 30 j = C7 T s i t4 _ r4 30 ((j + 1 : Nat) : Int)
  rw [af9, l7 (by simp only [decide_eq_true_eq]; omega), l7 (n8 hj), I3 (by omega), wrap64 ((s.length : Int) - (i : Int)) (by omega) (by omega)]
  show brk (decide (((r4.getD j []).length : Int) ≤ _)) _ _ = _
  by_cases hle : (r4.getD j []).length ≤ s.length - i
  ·have w : IntKind.i64.wrap ((i : Int) + ((r4.getD j []).length : Int)) = ((i + (r4.getD j []).length : Nat) : Int) := by rw [wrap64 _ (by omega) (by omega)]; omega
   have hne : ¬ J8 s i (i + (r4.getD j []).length) = r4.getD j [] := by
    rcases hq.2 with h | h
    ·exact absurd hle h
    ·exact h
   rw [l7 (by simp only [decide_eq_true_eq]; omega)]
   show brk (bounds s.length i (IntKind.i64.wrap ((i : Int) + ((r4.getD j []).length : Int)))) (brk (decide (sub s i (IntKind.i64.wrap ((i : Int) + ((r4.getD j []).length : Int))) = r4.getD j [])) _ _) _ = _
   rw [w, l7 (F0 (by omega) (by omega)), ah7, q8 (decide_eq_false hne)]
  ·rw [q8 (by simp only [decide_eq_false_iff_not]; omega)]
 ·intro T j hsg hq
  show C7 (S.step T) s i t4 _ r4 30 j = _
  rw [af9]
  by_cases h30 : j < 30
  ·have hl3 := hlen j h30
   have hj : j < r4.length := h30
   unfold pq at hq
   rw [decide_eq_true h30, Bool.true_and, Bool.not_eq_false'] at hq
   unfold pS at hq
   simp only [Bool.and_eq_true, decide_eq_true_eq] at hq
   have hm : r4.getD j [] ∈ r4 := by
    rw [List.getD_eq_getElem?_getD, List.getElem?_eq_getElem hj]
    exact List.getElem_mem _
   have w : IntKind.i64.wrap ((i : Int) + ((r4.getD j []).length : Int)) = ((i + (r4.getD j []).length : Nat) : Int) := by rw [wrap64 _ (by omega) (by omega)]; omega
   rw [l7 (by simp only [decide_eq_true_eq]; omega), l7 (n8 hj), wrap64 ((s.length : Int) - (i : Int)) (by omega) (by omega)]
   show brk (decide (((r4.getD j []).length : Int) ≤ _)) (brk (bounds s.length i (IntKind.i64.wrap ((i : Int) + ((r4.getD j []).length : Int)))) (brk (decide (sub s i (IntKind.i64.wrap ((i : Int) + ((r4.getD j []).length : Int))) = r4.getD j [])) ((L7 T (r4.getD j [])).bind fun d68 => some (Sum.inl ((d68.1, _, IntKind.i64.wrap ((i : Int) + ((r4.getD j []).length : Int)), _), _, ()))) _) _) _ = _
   rw [l7 (by simp only [decide_eq_true_eq]; omega), w, l7 (F0 (by omega) (by omega)), ah7, l7 (decide_eq_true hq.2), hsg _ hm, Option.bind_some, decide_eq_true h30]; rfl
  ·rw [q8 (by simp only [decide_eq_false_iff_not]; omega), decide_eq_false h30]; rfl
def aC0 (s : List Int) (i : Nat) : Nat ⊕ j7.den :=
 bif x6 (get s i) then .inr (bD2 s i) else bif r6 (get s i) then W4 s i else bif decide (get s i = 34) then bD4 s i else aK2 i (V4 (p3 s i))
theorem bb4 (hb8 : ∀ c ∈ s, isByte c) {i : Nat} (hi : i < s.length) : Evt fun n => ∃ t' b, Q2 (S.tab n) s (i : Int) = some ((t', b, ()), J9) ∧ IR (kB (get s i)) (aC0 s i) t' b := by
 unfold aC0
 cases hl : x6 (get s i) with
 | true =>
  exact (aY5 hs hi hl).mono fun n h => ⟨_, _, h, rfl, rfl⟩
 | false =>
  have start : ∀ n, Base2 (S.tab n) → Q2 (S.step (S.tab n)) s (i : Int) = _ := fun n hb => by
   rw [aP0, l7 (n8 hi), n9, hb.iletter, hl, Option.bind_some, q8 (by rfl), hb.idigit, Option.bind_some]
  cases hd : r6 (get s i) with
  | true =>
   refine ((aR1 hs hi hd).and r8).up fun n ⟨⟨t', b, h, hr⟩, hb⟩ => ⟨t', b, ?_, hr.to fun k => by unfold kB; rw [hd]; rfl⟩
   show Q2 (S.step (S.tab n)) _ _ = _
   rw [start n hb, hd, l7 (by rfl), h]; rfl
  | false =>
   by_cases c34 : get s i = 34
   ·have w1 : IntKind.i64.wrap ((i : Int) + 1) = ((i + 1 : Nat) : Int) := I3 (by omega)
    rw [decide_eq_true c34]
    refine ((aX4 hs hb8 i s.length (i + 1) [] (by omega) (by omega) (by simp)).and r8).up fun n ⟨⟨t', b, h, hr⟩, hb⟩ => ⟨t', b, ?_, hr.to fun k => by unfold kB; rw [hd, decide_eq_true c34]; rfl⟩
    show Q2 (S.step (S.tab n)) _ _ = _
    rw [start n hb, hd, q8 (by rfl), l7 (decide_eq_true c34), w1, h]; rfl
   ·rw [decide_eq_false c34]
    show Evt fun n => ∃ t' b, _ ∧ IR (kB (get s i)) (aK2 i (V4 (p3 s i))) t' b
    have hlaw : runK (pS s i) 78 (0, 0) = V4 (p3 s i) := by
     rw [aC2 (q := p3 s i) 78 (0, 0) fun j hj ho => bH2 (s := s) hi _ (bM4 j hj ho)]
     exact bs5 _ _ _
    refine ((bC9 hs hi 78 (0, 0) (Nat.le_refl _)).and r8).up fun n ⟨h, hb⟩ => ?_
    show ∃ t' b, Q2 (S.step (S.tab n)) _ _ = _ ∧ _
    have h : G6 (S.tab n) s (i : Int) (0, (i : Int), 0, 0, 0, ([] : List Int), ()) 0 78 = _ := h
    rw [start n hb, hd, q8 (by rfl), q8 (decide_eq_false c34), h, hlaw, Option.bind_some]
    generalize V4 (p3 s i) = st
    obtain ⟨a, b⟩ := st
    unfold aK2 bQ7
    simp only [A9, Sum.elim_inl]
    by_cases h0 : a = 0
    ·have d : decide ((a : Int) = 0) = true := decide_eq_true (by omega)
     rw [l7 d, decide_eq_true h0]
     exact ⟨_, _, rfl, rfl, rfl, by unfold kB; rw [hd, decide_eq_false c34]; exact d⟩
    ·have d : decide ((a : Int) = 0) = false := decide_eq_false (by omega)
     rw [q8 d, decide_eq_false h0]
     exact ⟨_, _, rfl, rfl, rfl⟩
theorem a39 {i : Nat} (hi : i < s.length) (h10 : get s i ≠ 10) : Evt fun n => ∃ t' b, D5 (S.tab n) s (i : Int) = some ((t', b, ()), C1) ∧ SR (kB (get s i)) (aC0 s i) t' b := by
 unfold aC0
 have start : ∀ n, Base2 (S.tab n) → D5 (S.step (S.tab n)) s (i : Int) = _ := fun n hb => by
  rw [at5, l7 (n8 hi), n9, q8 (decide_eq_false h10), hb.sletter, Option.bind_some]
 cases hl : x6 (get s i) with
 | true =>
  refine ((aR5 hs hi _ rfl).and r8).up fun n ⟨h, hb⟩ => ?_
  show ∃ t' b, D5 (S.step (S.tab n)) _ _ = _ ∧ _
  rw [start n hb, hl, l7 (by rfl), h]
  exact ⟨_, _, rfl, rfl, rfl⟩
 | false =>
  cases hd : r6 (get s i) with
  | true =>
   refine ((aG1 hs hi hd).and r8).up fun n ⟨⟨t', b, h, hr⟩, hb⟩ => ⟨t', b, ?_, hr.to fun k => by unfold kB; rw [hd]; rfl⟩
   show D5 (S.step (S.tab n)) _ _ = _
   rw [start n hb, hl, q8 (by rfl), hb.sdigit, Option.bind_some, hd, l7 (by rfl), h]; rfl
  | false =>
   by_cases c34 : get s i = 34
   ·rw [decide_eq_true c34]
    refine ((aG9 hs hi).and r8).up fun n ⟨⟨t', b, h, hr⟩, hb⟩ => ⟨t', b, ?_, hr.to fun k => by unfold kB; rw [hd, decide_eq_true c34]; rfl⟩
    show D5 (S.step (S.tab n)) _ _ = _
    rw [start n hb, hl, q8 (by rfl), hb.sdigit, Option.bind_some, hd, q8 (by rfl), l7 (decide_eq_true c34), h]; rfl
   ·rw [decide_eq_false c34]
    show Evt fun n => ∃ t' b, _ ∧ SR (kB (get s i)) (aK2 i (V4 (p3 s i))) t' b
    have hlaw : V4 (pS s i) = V4 (p3 s i) := aq0 (bH2 (s := s) hi)
    refine ((bJ9 hs hi (0, 0, 0, 0, 0, ([] : List Int), ())).and (bi1.and r8)).up fun n ⟨h, hsi, hb⟩ => ?_
    show ∃ t' b, D5 (S.step (S.tab n)) _ _ = _ ∧ _
    rw [start n hb, hl, q8 (by rfl), hb.sdigit, Option.bind_some, hd, q8 (by rfl), q8 (decide_eq_false c34), hsi, Option.bind_some]
    show ∃ t' b, (C7 (S.tab n) s (i : Int) _ _ r4 30 0).bind _ = _ ∧ _
    rw [h, Option.bind_some, ← hlaw]
    unfold aK2 V4
    cases decide (U8 (pS s i) < 30) with
    | true =>
     simp only [cond_true]
     rw [decide_eq_false (aZ3 _)]
     exact ⟨_, _, rfl, rfl, rfl⟩
    | false => exact ⟨_, _, rfl, rfl, by unfold kB; rw [hd, decide_eq_false c34]; rfl⟩
theorem au0 {i : Nat} (hi : i < s.length) (h10 : get s i = 10) : Evt fun n => D5 (S.tab n) s (i : Int) = some (((7, (i : Int), ((i + 1 : Nat) : Int), 0, 0, ([] : List Int), ()), -1, ()), C1) := r8.up fun n hb => by
 show D5 (S.step (S.tab n)) _ _ = _
 have w1 : IntKind.i64.wrap ((i : Int) + 1) = ((i + 1 : Nat) : Int) := I3 (by omega)
 rw [at5, l7 (n8 hi), n9, l7 (decide_eq_true h10), w1]
end Go.Abs.D
end

section
namespace Go.Abs.D
def Adv (s : List Int) (i : Nat) (t : j7.den) : Prop := (∃ e : Nat, t.2.2.1 = (e : Int) ∧ i < e ∧ e ≤ s.length) ∧ t.1 ≠ 7
theorem aS5 {s : List Int} {i j : Nat} (f : Bool) (h1 : i < j) (h2 : j ≤ s.length) : Adv s i (W8 s i j f) := by
 unfold W8
 cases f || !decide (dv 0 (J8 s i j) < 9223372036854775808) with
 | true => exact ⟨⟨j, rfl, h1, h2⟩, show (3 : Int) ≠ 7 by decide⟩
 | false => exact ⟨⟨j, rfl, h1, h2⟩, show (2 : Int) ≠ 7 by decide⟩
theorem bg9 {s : List Int} {i j : Nat} (f : Bool) (h1 : i < j) (h2 : j ≤ s.length) {t : j7.den} (h : a77 s i j f = .inr t) : Adv s i t := by
 unfold a77 at h
 cases h5 : decide (get s j = 101) with
 | true =>
  rw [h5] at h
  cases hd : r6 (get s (aq6 s j)) with
  | true =>
   rw [hd] at h
   have hl := ac2 hd
   have hk : j < aq6 s j := by unfold aq6; cases decide (get s (j + 1) = 43) || decide (get s (j + 1) = 45) <;> simp
   have := ah1 s (aq6 s j)
   injection h with h
   subst h
   exact aS5 _ (by omega) (ah5 (by omega))
  | false => rw [hd] at h; cases h
 | false =>
  rw [h5] at h
  injection h with h
  subst h
  exact aS5 _ h1 h2
theorem bi0 {s : List Int} {i j : Nat} (h1 : i < j) (h2 : j ≤ s.length) {t : j7.den} (h : a95 s i j = .inr t) : Adv s i t := by
 unfold a95 at h
 cases h5 : decide (get s j = 46) && r6 (get s (j + 1)) with
 | true =>
  rw [h5] at h
  rw [Bool.and_eq_true] at h5
  have hl := ac2 h5.2
  have := ah1 s (j + 1)
  exact bg9 _ (by omega) (ah5 (by omega)) h
 | false =>
  rw [h5] at h
  exact bg9 _ h1 h2 h
theorem bl3 {s : List Int} {i : Nat} (hi : i + 2 ≤ s.length) {t : j7.den} (h : S1 s i = .inr t) : Adv s i t := by
 have h1 : an2 s (i + 18) (i + 2) ≤ s.length := at1 a29 _ _ hi
 have h2 : i + 2 ≤ an2 s (i + 18) (i + 2) := al5 _ _
 unfold S1 at h
 by_cases he : an2 s (i + 18) (i + 2) = i + 2
 ·simp only [he, if_true] at h; cases h
 ·simp only [he, if_false] at h
  cases hx : W7 (get s (an2 s (i + 18) (i + 2))) with
  | true => simp only [hx, if_true] at h; cases h
  | false =>
   simp only [hx, Bool.false_eq_true, if_false] at h
   injection h with h
   subst h
   exact ⟨⟨_, rfl, by omega, h1⟩, show (2 : Int) ≠ 7 by decide⟩
theorem aJ5 {s : List Int} : ∀ (k j : Nat) (o : List Int) (e : Nat) (r : List Int), S0 s k j o = .inr (e, r) → j < e ∧ e ≤ s.length
 | 0, j, o, e, r, h => by cases h
 | k + 1, j, o, e, r, h => by
  have ih1 := aJ5 (s := s) k (j + 1)
  have ih2 := aJ5 (s := s) k (j + 2)
  have ih4 := aJ5 (s := s) k (j + 4)
  unfold S0 at h
  by_cases hl : s.length ≤ j
  ·rw [decide_eq_true hl] at h; cases h
  rw [decide_eq_false hl] at h
  cases h1 : decide (get s j = 10) with
  | true => rw [h1] at h; cases h
  | false =>
  rw [h1] at h
  cases h1 : decide (get s j = 34) with
  | true => rw [h1] at h; injection h with h; injection h with h _; subst h; omega
  | false =>
  rw [h1] at h
  cases h1 : decide (get s j = 92) with
  | false => rw [h1] at h; have := ih1 _ _ _ h; omega
  | true =>
  rw [h1] at h
  cases h1 : decide (get s (j + 1) = 110) with
  | true => rw [h1] at h; have := ih2 _ _ _ h; omega
  | false =>
  rw [h1] at h
  cases h1 : decide (get s (j + 1) = 116) with
  | true => rw [h1] at h; have := ih2 _ _ _ h; omega
  | false =>
  rw [h1] at h
  cases h1 : decide (get s (j + 1) = 34) with
  | true => rw [h1] at h; have := ih2 _ _ _ h; omega
  | false =>
  rw [h1] at h
  cases h1 : decide (get s (j + 1) = 92) with
  | true => rw [h1] at h; have := ih2 _ _ _ h; omega
  | false =>
  rw [h1] at h
  cases h1 : decide (get s (j + 1) = 120) with
  | false => rw [h1] at h; cases h
  | true =>
  rw [h1] at h
  cases h1 : W7 (get s (j + 2)) with
  | false => rw [h1] at h; cases h
  | true =>
  rw [h1] at h
  cases h1 : W7 (get s (j + 3)) with
  | false => rw [h1] at h; cases h
  | true => rw [h1] at h; have := ih4 _ _ _ h; omega
theorem bS7 (f : List Int) : sgn f ≠ 7 := by
 unfold sgn
 cases h1 : decide (stop (sq opsL f) 19 1 < 19) with
 | true => rw [cond_true]; omega
 | false =>
  cases h2 : decide (stop (sq Lx.ab0 f) 11 0 < 11) with
  | true => rw [cond_false, cond_true]; omega
  | false => rw [cond_false, cond_false]; omega
theorem bs2 {s : List Int} (hs : s.length ≤ 2097152) {i : Nat} (hi : i < s.length) {t : j7.den} (h : aC0 s i = .inr t) : Adv s i t := by
 unfold aC0 at h
 cases hl : x6 (get s i) with
 | true =>
  rw [hl] at h
  injection h with h
  subst h
  have hle : aR4 s i ≤ s.length := at1 am7 _ _ (by omega)
  have hgt : i < aR4 s i := by
   have hq : wq s i = true := by unfold wq; rw [hl]; rfl
   have e := a33 (q := wq s) (N := s.length) am7 (k := s.length) (j := i) (by omega) hq
   have := al5 (q := wq s) s.length (i + 1)
   unfold aR4; omega
  unfold bD2
  simp only
  split
  ·exact ⟨⟨_, rfl, hgt, hle⟩, by show ((10 + aD5 _ : Nat) : Int) ≠ 7; omega⟩
  ·exact ⟨⟨_, rfl, hgt, hle⟩, show (1 : Int) ≠ 7 by decide⟩
 | false =>
  rw [hl] at h
  cases hd : r6 (get s i) with
  | true =>
   rw [hd] at h
   have h : W4 s i = .inr t := h
   unfold W4 at h
   cases h0 : decide (get s i = 48) with
   | true =>
    cases hx : decide (get s (i + 1) = 120) with
    | true =>
     rw [h0, hx] at h
     have := M6 (of_decide_eq_true hx) (by decide)
     exact bl3 (by omega) h
    | false =>
     rw [h0, hx] at h
     exact bi0 (j := i + 1) (by omega) (by omega) h
   | false =>
    rw [h0] at h
    have := ah1 s (i + 1)
    exact bi0 (j := ax6 s (i + 1)) (by omega) (ah5 (by omega)) h
  | false =>
   rw [hd] at h
   cases h34 : decide (get s i = 34) with
   | true =>
    rw [h34] at h
    have h : bH3 i (S0 s s.length (i + 1) []) = .inr t := h
    cases hr : S0 s s.length (i + 1) [] with
    | inl e => rw [hr] at h; cases h
    | inr y =>
     rw [hr] at h
     obtain ⟨e, r⟩ := y
     have := aJ5 _ _ _ _ _ hr
     injection h with h
     subst h
     exact ⟨⟨e, rfl, by omega, by omega⟩, show (4 : Int) ≠ 7 by decide⟩
   | false =>
    rw [h34] at h
    have h : aK2 i (V4 (p3 s i)) = .inr t := h
    rw [← aq0 (bH2 (s := s) hi)] at h
    unfold aK2 V4 at h
    cases hk : decide (U8 (pS s i) < 30) with
    | false => rw [hk] at h; cases h
    | true =>
     rw [hk] at h
     simp only [cond_true] at h
     rw [decide_eq_false (aZ3 _)] at h
     injection h with h
     subst h
     have hq : pq (pS s i) (U8 (pS s i)) = false := aj8 (N := 30) (fun j h => by unfold pq; rw [decide_eq_false (by omega)]; rfl) 30 0 (by omega)
     unfold pq at hq
     rw [hk, Bool.true_and, Bool.not_eq_false'] at hq
     have hq : (decide ((r4.getD (U8 (pS s i)) []).length ≤ s.length - i) && decide (J8 s i (i + (r4.getD (U8 (pS s i)) []).length) = r4.getD (U8 (pS s i)) [])) = true := hq
     rw [Bool.and_eq_true, decide_eq_true_eq] at hq
     have hpos : 0 < (r4.getD (U8 (pS s i)) []).length := by
      have h : ∀ k : Fin 30, 0 < (r4.getD k.1 []).length := by decide
      exact h ⟨_, of_decide_eq_true hk⟩
     exact ⟨⟨_, rfl, by omega, by omega⟩, by
      have := bS7 (r4.getD (U8 (pS s i)) [])
      show ((sgn _ : Nat) : Int) ≠ 7
      omega⟩
end Go.Abs.D
end

section

end

section
set_option maxRecDepth 100000
namespace Go.Abs.D
noncomputable def sn : Nat → S.Tab → S.Tab
 | 0, T => T
 | n + 1, T => S.step (sn n T)
noncomputable def j5 (t0 : List Int) : Option ((List Int × Bool × Bool × Unit) × Unit × Unit) :=
 some ((t0, true, false, ()), aA0)
theorem at2 (T : S.Tab) : l6 (sn 1 T) = j5 := by
 funext a0
 show l6 (S.step (sn 0 T)) a0 = _
 rw [aR9]
 rfl
noncomputable def ab8 (t0 : Int) : Option (Bool × Unit × Unit) :=
 brk (decide (t0 = 22)) (
  brk (decide (t0 = 22)) (
   some (true, j2)) (
   some (false, j2))) (
  brk (decide (t0 = 13)) (
   brk (decide (t0 = 13)) (
    some (true, j2)) (
    some (false, j2))) (
   brk (decide (t0 = 18)) (
    brk (decide (t0 = 18)) (
     some (true, j2)) (
     some (false, j2))) (
    brk (decide (t0 = 20)) (
     brk (decide (t0 = 20)) (
      some (true, j2)) (
      some (false, j2))) (
     brk (decide (t0 = 31)) (
      brk (decide (t0 = 31)) (
       some (true, j2)) (
       some (false, j2))) (
      brk (decide (t0 = 19)) (
       brk (decide (t0 = 19)) (
        some (true, j2)) (
        some (false, j2))) (
       brk (decide (t0 = 11)) (
        brk (decide (t0 = 11)) (
         some (true, j2)) (
         some (false, j2))) (
        brk (decide (t0 = 23)) (
         brk (decide (t0 = 23)) (
          some (true, j2)) (
          some (false, j2))) (
         brk (decide (t0 = 27)) (
          brk (decide (t0 = 27)) (
           some (true, j2)) (
           some (false, j2))) (
          brk (decide (t0 = 30)) (
           brk (decide (t0 = 30)) (
            some (true, j2)) (
            some (false, j2))) (
           brk (decide (t0 = 28)) (
            brk (decide (t0 = 28)) (
             some (true, j2)) (
             some (false, j2))) (
            brk (decide (t0 = 14)) (
             brk (decide (t0 = 14)) (
              some (true, j2)) (
              some (false, j2))) (
             brk (decide (t0 = 42)) (
              brk (decide (t0 = 42)) (
               some (true, j2)) (
               some (false, j2))) (
              brk (decide (t0 = 1)) (
               brk (decide (t0 = 1)) (
                some (true, j2)) (
                some (false, j2))) (
               brk (decide (t0 = 40)) (
                some (true, j2)) (
                some (false, j2))))))))))))))))
theorem aG2 (T : S.Tab) : W6 (sn 1 T) = ab8 := by
 funext a0
 show W6 (S.step (sn 0 T)) a0 = _
 rw [aH9]
 rfl
noncomputable def s4  : Option ((List Int × Bool × Bool × Unit) × Unit) :=
 some (([], false, true, ()), ay2)
theorem aR7 (T : S.Tab) : w9 (sn 1 T) = s4 := by
 show w9 (S.step (sn 0 T)) = _
 rw [aP8]
 rfl
noncomputable def B3  : Option ((List Int × Bool × Bool × Unit) × Unit) :=
 some (([], false, false, ()), aw9)
theorem aR3 (T : S.Tab) : C3 (sn 1 T) = B3 := by
 show C3 (S.step (sn 0 T)) = _
 rw [aQ7]
 rfl
noncomputable def r7 (t0 : Int) : Option (Bool × Unit × Unit) :=
 brk (decide (t0 = 25)) (
  some (true, D7)) (
  brk (decide (t0 = 50)) (
   some (true, D7)) (
   brk (decide (t0 = 62)) (
    some (true, D7)) (
    some (decide (t0 = 69), D7))))
theorem af3 (T : S.Tab) : s5 (sn 1 T) = r7 := by
 funext a0
 show s5 (S.step (sn 0 T)) a0 = _
 rw [ax4]
 rfl
noncomputable def E7 (t0 : Int) : Option (Bool × Unit × Unit) :=
 brk (decide (t0 = 1)) (
  brk (decide (t0 = 1)) (
   some (true, j9)) (
   (r7 t0).bind fun d17 =>
   some (d17.1, j9))) (
  brk (decide (t0 = 40)) (
   brk (decide (t0 = 40)) (
    some (true, j9)) (
    (r7 t0).bind fun d17 =>
    some (d17.1, j9))) (
   brk (decide (t0 = 2)) (
    brk (decide (t0 = 2)) (
     some (true, j9)) (
     (r7 t0).bind fun d17 =>
     some (d17.1, j9))) (
    brk (decide (t0 = 3)) (
     brk (decide (t0 = 3)) (
      some (true, j9)) (
      (r7 t0).bind fun d17 =>
      some (d17.1, j9))) (
     brk (decide (t0 = 4)) (
      brk (decide (t0 = 4)) (
       some (true, j9)) (
       (r7 t0).bind fun d17 =>
       some (d17.1, j9))) (
      brk (decide (t0 = 24)) (
       brk (decide (t0 = 24)) (
        some (true, j9)) (
        (r7 t0).bind fun d17 =>
        some (d17.1, j9))) (
       brk (decide (t0 = 29)) (
        brk (decide (t0 = 29)) (
         some (true, j9)) (
         (r7 t0).bind fun d17 =>
         some (d17.1, j9))) (
        brk (decide (t0 = 17)) (
         brk (decide (t0 = 17)) (
          some (true, j9)) (
          (r7 t0).bind fun d17 =>
          some (d17.1, j9))) (
         brk (decide (t0 = 49)) (
          brk (decide (t0 = 49)) (
           some (true, j9)) (
           (r7 t0).bind fun d17 =>
           some (d17.1, j9))) (
          brk (decide (t0 = 18)) (
           brk (decide (t0 = 18)) (
            some (true, j9)) (
            (r7 t0).bind fun d17 =>
            some (d17.1, j9))) (
           brk (decide (t0 = 42)) (
            some (true, j9)) (
            (r7 t0).bind fun d17 =>
            some (d17.1, j9))))))))))))
theorem aG7 (T : S.Tab) : E6 (sn 2 T) = E7 := by
 have h_impl_prefixKind : s5 (sn 1 T) = r7 := af3 (sn 0 T)
 funext a0
 show E6 (S.step (sn 1 T)) a0 = _
 rw [aG5]
 rw [h_impl_prefixKind]
 rfl
noncomputable def G3 (t0 : Int) (t1 : Int) (t2 : Int) : Option ((List Int × Bool × Unit) × Unit × Unit × Int × Unit) :=
 brk (decide (t2 = 48)) (
  some ((([48, 1, t0] : List Int), true, ()), (), (), t2, ())) (
  brk (decide (t2 = 44)) (
   some ((([44, 1018, 45, t0] : List Int), true, ()), (), (), t2, ())) (
   brk (decide (t2 = 40)) (
    some ((([40, 1022, 41, t1] : List Int), true, ()), (), (), t2, ())) (
    some (([], false, ()), (), (), t2, ()))))
theorem aR2 (T : S.Tab) : H6 (sn 1 T) = G3 := by
 funext a0
 funext a1
 funext a2
 show H6 (S.step (sn 0 T)) a0 a1 a2 = _
 rw [aP6]
 rfl
noncomputable def aL0 (t0 : Int) (t1 : Int) (t2 : Int) : Option (Bool × Unit × Unit × Unit × Unit) :=
 brk (decide (t1 ≤ t0)) (
  some (decide (t0 ≤ t2), ap3)) (
  some (false, ap3))
theorem bn2 (T : S.Tab) : ag9 (sn 1 T) = aL0 := by
 funext a0
 funext a1
 funext a2
 show ag9 (S.step (sn 0 T)) a0 a1 a2 = _
 rw [aS4]
 rfl
noncomputable def Z5 (t0 : Int) : Option (Bool × Unit × Unit) :=
 brk (decide (t0 = 10)) (
  some (true, K4)) (
  brk (decide (t0 = 26)) (
   some (true, K4)) (
   (aL0 t0 61 78).bind fun d11 =>
   some (d11.1, K4)))
theorem aD3 (T : S.Tab) : S6 (sn 2 T) = Z5 := by
 have h_impl_in : ag9 (sn 1 T) = aL0 := bn2 (sn 0 T)
 funext a0
 show S6 (S.step (sn 1 T)) a0 = _
 rw [aB8]
 rw [h_impl_in]
 rfl
noncomputable def W3 (t3 : Int) (t41 : Int) (t90 : Bool) : Option ((List Int × Bool × Bool × Unit) ⊕ (Unit) ⊕ Empty) :=
 brk (t90) (
  (j5 ([t3, 1001] : List Int)).bind fun d96 =>
  some (Sum.inl d96.1)) (
  brk (decide (t41 = 27)) (
   (j5 ([27, 1007, 1001] : List Int)).bind fun d104 =>
   some (Sum.inl d104.1)) (
   brk (decide (t41 = 30)) (
    (j5 ([30, 1027, 12, 1, 1008, 1027, 1001] : List Int)).bind fun d112 =>
    some (Sum.inl d112.1)) (
    brk (decide (t41 = 28)) (
     (j5 ([28, 1018, 1001] : List Int)).bind fun d120 =>
     some (Sum.inl d120.1)) (
     brk (decide (t41 = 14)) (
      (j5 ([14, 1015, 1001] : List Int)).bind fun d128 =>
      some (Sum.inl d128.1)) (
      brk (decide (t41 = 42)) (
       (j5 ([1027, 1001] : List Int)).bind fun d136 =>
       some (Sum.inl d136.1)) (
       brk (decide (t41 = 1)) (
        (j5 ([1, 1009, 1001] : List Int)).bind fun d144 =>
        some (Sum.inl d144.1)) (
        brk (decide (t41 = 40)) (
         (j5 ([40, 1018, 41, 1011, 1001] : List Int)).bind fun d152 =>
         some (Sum.inl d152.1)) (
         some (Sum.inr (Sum.inl ()))))))))))
theorem aH6 (T : S.Tab) : Q7 (sn 2 T) = W3 := by
 have h_impl_rule_1 : l6 (sn 1 T) = j5 := at2 (sn 0 T)
 funext a0
 funext a1
 funext a2
 show Q7 (S.step (sn 1 T)) a0 a1 a2 = _
 rw [aI3]
 rw [h_impl_rule_1]
 rfl
noncomputable def aK4 (t0 : Int) (t1 : Int) : Option ((List Int × Bool × Bool × Unit) × Unit × Unit × Unit) :=
 brk (decide (t0 = 1000)) (
  brk (decide (t1 = 5)) (
   (j5 ([5, 1000] : List Int)).bind fun d35 =>
   some (d35.1, b8)) (
   (ab8 t1).bind fun d40 =>
   brk (d40.1) (
    brk (decide (t1 = 22)) (
     (j5 ([22, 1, 1006, 1002, 1001] : List Int)).bind fun d46 =>
     some (d46.1, b8)) (
     brk (decide (t1 = 13)) (
      (j5 ([13, 1, 47, 1018, 1001] : List Int)).bind fun d54 =>
      some (d54.1, b8)) (
      brk (decide (t1 = 18)) (
       (j5 ([18, 1, 1028, 1001] : List Int)).bind fun d62 =>
       some (d62.1, b8)) (
       brk (decide (t1 = 20)) (
        (j5 ([20, 1018, 1027, 1003, 1001] : List Int)).bind fun d70 =>
        some (d70.1, b8)) (
        brk (decide (t1 = 31)) (
         (j5 ([31, 1018, 1027, 1001] : List Int)).bind fun d78 =>
         some (d78.1, b8)) (
         brk (decide (t1 = 19)) (
          (j5 ([19, 1, 1004, 1001] : List Int)).bind fun d86 =>
          some (d86.1, b8)) (
          brk (decide (t1 = 11)) (
           (W3 t1 t1 (decide (t1 = 11))).bind (N0
             (fun y25 =>
            some (y25, b8))
             (fun y25 =>
            (s4).bind fun d157 =>
            some (d157.1, b8)))) (
           (W3 t1 t1 (decide (t1 = 23))).bind (N0
             (fun y25 =>
            some (y25, b8))
             (fun y25 =>
            (s4).bind fun d157 =>
            some (d157.1, b8))))))))))) (
    (s4).bind fun d157 =>
    some (d157.1, b8)))) (
  brk (decide (t0 = 1001)) (
   brk (decide (t1 = 5)) (
    (j5 ([5, 1000] : List Int)).bind fun d167 =>
    some (d167.1, b8)) (
    (s4).bind fun d172 =>
    some (d172.1, b8))) (
   brk (decide (t0 = 1002)) (
    brk (decide (t1 = 47)) (
     (j5 ([47, 1018, 1023] : List Int)).bind fun d182 =>
     some (d182.1, b8)) (
     (s4).bind fun d187 =>
     some (d187.1, b8))) (
    brk (decide (t0 = 1003)) (
     brk (decide (t1 = 15)) (
      (j5 ([15, 1018, 1027, 1003] : List Int)).bind fun d197 =>
      some (d197.1, b8)) (
      brk (decide (t1 = 16)) (
       (j5 ([16, 1027] : List Int)).bind fun d205 =>
       some (d205.1, b8)) (
       (s4).bind fun d210 =>
       some (d210.1, b8)))) (
     brk (decide (t0 = 1004)) (
      brk (decide (t1 = 47)) (
       (j5 ([47, 1018, 46, 1018, 1005, 1027] : List Int)).bind fun d221 =>
       some (d221.1, b8)) (
       brk (decide (t1 = 46)) (
        (j5 ([46, 1, 1006, 21, 1018, 1027] : List Int)).bind fun d229 =>
        some (d229.1, b8)) (
        brk (decide (t1 = 21)) (
         (j5 ([21, 1018, 1027] : List Int)).bind fun d237 =>
         some (d237.1, b8)) (
         (B3).bind fun d242 =>
         some (d242.1, b8))))) (
      brk (decide (t0 = 1005)) (
       brk (decide (t1 = 46)) (
        (j5 ([46, 1018] : List Int)).bind fun d252 =>
        some (d252.1, b8)) (
        (s4).bind fun d257 =>
        some (d257.1, b8))) (
       brk (decide (t0 = 1006)) (
        brk (decide (t1 = 46)) (
         (j5 ([46, 1, 1006] : List Int)).bind fun d267 =>
         some (d267.1, b8)) (
         (s4).bind fun d272 =>
         some (d272.1, b8))) (
        brk (decide (t0 = 1007)) (
         (E7 t1).bind fun d279 =>
         brk (d279.1) (
          (j5 ([1018, 1023] : List Int)).bind fun d282 =>
          some (d282.1, b8)) (
          (s4).bind fun d287 =>
          some (d287.1, b8))) (
         brk (decide (t0 = 1008)) (
          brk (decide (t1 = 46)) (
           (j5 ([46, 1] : List Int)).bind fun d297 =>
           some (d297.1, b8)) (
           (s4).bind fun d302 =>
           some (d302.1, b8))) (
          brk (decide (t0 = 1009)) (
           (G3 1009 1010 t1).bind fun d310 =>
           brk (d310.1.2.1) (
            some ((d310.1.1, true, false, ()), b8)) (
            brk (decide (d310.2.2.2.1 = 47)) (
             (j5 ([47, 1018, 1023] : List Int)).bind fun d319 =>
             some (d319.1, b8)) (
             brk (decide (d310.2.2.2.1 = 46)) (
              (j5 ([46, 1012] : List Int)).bind fun d327 =>
              some (d327.1, b8)) (
              (B3).bind fun d332 =>
              some (d332.1, b8))))) (
           brk (decide (t0 = 1010)) (
            (G3 1009 1010 t1).bind fun d340 =>
            brk (d340.1.2.1) (
             some ((d340.1.1, true, false, ()), b8)) (
             (s4).bind fun d346 =>
             some (d346.1, b8))) (
            brk (decide (t0 = 1011)) (
             (G3 1009 1010 t1).bind fun d354 =>
             some ((d354.1.1, d354.1.2.1, false, ()), b8)) (
             brk (decide (t0 = 1012)) (
              brk (decide (t1 = 1)) (
               (j5 ([1, 1013] : List Int)).bind fun d365 =>
               some (d365.1, b8)) (
               brk (decide (t1 = 40)) (
                (j5 ([40, 1018, 41, 1014] : List Int)).bind fun d373 =>
                some (d373.1, b8)) (
                (B3).bind fun d378 =>
                some (d378.1, b8)))) (
              brk (decide (t0 = 1013)) (
               (G3 1013 1014 t1).bind fun d386 =>
               brk (d386.1.2.1) (
                some ((d386.1.1, true, false, ()), b8)) (
                brk (decide (d386.2.2.2.1 = 47)) (
                 (j5 ([47, 1018, 1023] : List Int)).bind fun d395 =>
                 some (d395.1, b8)) (
                 brk (decide (d386.2.2.2.1 = 46)) (
                  (j5 ([46, 1012] : List Int)).bind fun d403 =>
                  some (d403.1, b8)) (
                  (B3).bind fun d408 =>
                  some (d408.1, b8))))) (
               brk (decide (t0 = 1014)) (
                (G3 1013 1014 t1).bind fun d416 =>
                some ((d416.1.1, d416.1.2.1, false, ()), b8)) (
                brk (decide (t0 = 1015)) (
                 brk (decide (t1 = 1)) (
                  (j5 ([1, 1016] : List Int)).bind fun d427 =>
                  some (d427.1, b8)) (
                  brk (decide (t1 = 40)) (
                   (j5 ([40, 1018, 41, 1016] : List Int)).bind fun d435 =>
                   some (d435.1, b8)) (
                   (B3).bind fun d440 =>
                   some (d440.1, b8)))) (
                 brk (decide (t0 = 1016)) (
                  (G3 1016 1017 t1).bind fun d448 =>
                  some ((d448.1.1, d448.1.2.1, false, ()), b8)) (
                  brk (decide (t0 = 1017)) (
                   (G3 1016 1017 t1).bind fun d457 =>
                   some ((d457.1.1, d457.1.2.1, true, ()), b8)) (
                   brk (decide (t0 = 1018)) (
                    (E7 t1).bind fun d465 =>
                    brk (d465.1) (
                     (j5 ([1020, 1019] : List Int)).bind fun d468 =>
                     some (d468.1, b8)) (
                     (B3).bind fun d473 =>
                     some (d473.1, b8))) (
                    brk (decide (t0 = 1019)) (
                     (Z5 t1).bind fun d480 =>
                     brk (d480.1) (
                      (j5 ([t1, 1020, 1019] : List Int)).bind fun d484 =>
                      some (d484.1, b8)) (
                      (s4).bind fun d489 =>
                      some (d489.1, b8))) (
                     brk (decide (t0 = 1020)) (
                      (r7 t1).bind fun d497 =>
                      brk (d497.1) (
                       (j5 ([t1, 1020] : List Int)).bind fun d501 =>
                       some (d501.1, b8)) (
                       brk (decide (t1 = 1)) (
                        (j5 ([1, 1021] : List Int)).bind fun d510 =>
                        some (d510.1, b8)) (
                        brk (decide (t1 = 40)) (
                         (j5 ([40, 1018, 41, 1021] : List Int)).bind fun d519 =>
                         some (d519.1, b8)) (
                         brk (decide (t1 = 18)) (
                          (j5 ([18, 1028] : List Int)).bind fun d528 =>
                          some (d528.1, b8)) (
                          brk (decide (t1 = 42)) (
                           (j5 ([42, 1029, 43] : List Int)).bind fun d537 =>
                           some (d537.1, b8)) (
                           (E7 t1).bind fun d543 =>
                           brk (d543.1) (
                            (j5 ([t1] : List Int)).bind fun d547 =>
                            some (d547.1, b8)) (
                            (B3).bind fun d552 =>
                            some (d552.1, b8)))))))) (
                      brk (decide (t0 = 1021)) (
                       (G3 1021 1021 t1).bind fun d560 =>
                       some ((d560.1.1, d560.1.2.1, true, ()), b8)) (
                       brk (decide (t0 = 1022)) (
                        (E7 t1).bind fun d568 =>
                        brk (d568.1) (
                         (j5 ([1018, 1023] : List Int)).bind fun d571 =>
                         some (d571.1, b8)) (
                         (s4).bind fun d576 =>
                         some (d576.1, b8))) (
                        brk (decide (t0 = 1023)) (
                         brk (decide (t1 = 46)) (
                          (j5 ([46, 1018, 1023] : List Int)).bind fun d586 =>
                          some (d586.1, b8)) (
                          (s4).bind fun d591 =>
                          some (d591.1, b8))) (
                         brk (decide (t0 = 1028)) (
                          brk (decide (t1 = 40)) (
                           (j5 ([40, 1024, 41, 1027] : List Int)).bind fun d601 =>
                           some (d601.1, b8)) (
                           (B3).bind fun d606 =>
                           some (d606.1, b8))) (
                          brk (decide (t0 = 1024)) (
                           brk (decide (t1 = 49)) (
                            (j5 ([49] : List Int)).bind fun d616 =>
                            some (d616.1, b8)) (
                            brk (decide (t1 = 1)) (
                             (j5 ([1, 1025] : List Int)).bind fun d624 =>
                             some (d624.1, b8)) (
                             (s4).bind fun d629 =>
                             some (d629.1, b8)))) (
                           brk (decide (t0 = 1025)) (
                            brk (decide (t1 = 46)) (
                             (j5 ([46, 1026] : List Int)).bind fun d639 =>
                             some (d639.1, b8)) (
                             (s4).bind fun d644 =>
                             some (d644.1, b8))) (
                            brk (decide (t0 = 1026)) (
                             brk (decide (t1 = 1)) (
                              (j5 ([1, 1025] : List Int)).bind fun d654 =>
                              some (d654.1, b8)) (
                              brk (decide (t1 = 49)) (
                               (j5 ([49] : List Int)).bind fun d662 =>
                               some (d662.1, b8)) (
                               (B3).bind fun d667 =>
                               some (d667.1, b8)))) (
                             brk (decide (t0 = 1027)) (
                              brk (decide (t1 = 42)) (
                               (j5 ([42, 1000, 43] : List Int)).bind fun d677 =>
                               some (d677.1, b8)) (
                               (B3).bind fun d682 =>
                               some (d682.1, b8))) (
                              brk (decide (t0 = 1029)) (
                               (E7 t1).bind fun d689 =>
                               brk (d689.1) (
                                (j5 ([1032, 1030] : List Int)).bind fun d700 =>
                                some (d700.1, b8)) (
                                brk (decide (t1 = 44)) (
                                 (j5 ([1032, 1030] : List Int)).bind fun d700 =>
                                 some (d700.1, b8)) (
                                 brk (decide (t1 = 48)) (
                                  (j5 ([1032, 1030] : List Int)).bind fun d700 =>
                                  some (d700.1, b8)) (
                                  (s4).bind fun d705 =>
                                  some (d705.1, b8))))) (
                               brk (decide (t0 = 1030)) (
                                brk (decide (t1 = 46)) (
                                 (j5 ([46, 1031] : List Int)).bind fun d715 =>
                                 some (d715.1, b8)) (
                                 (s4).bind fun d720 =>
                                 some (d720.1, b8))) (
                                brk (decide (t0 = 1031)) (
                                 (E7 t1).bind fun d727 =>
                                 brk (d727.1) (
                                  (j5 ([1032, 1030] : List Int)).bind fun d738 =>
                                  some (d738.1, b8)) (
                                  brk (decide (t1 = 44)) (
                                   (j5 ([1032, 1030] : List Int)).bind fun d738 =>
                                   some (d738.1, b8)) (
                                   brk (decide (t1 = 48)) (
                                    (j5 ([1032, 1030] : List Int)).bind fun d738 =>
                                    some (d738.1, b8)) (
                                    (s4).bind fun d743 =>
                                    some (d743.1, b8))))) (
                                 brk (decide (t0 = 1032)) (
                                  brk (decide (t1 = 44)) (
                                   (j5 ([44, 1018, 45, 47, 1018] : List Int)).bind fun d754 =>
                                   some (d754.1, b8)) (
                                   brk (decide (t1 = 48)) (
                                    (j5 ([48, 1, 47, 1018] : List Int)).bind fun d763 =>
                                    some (d763.1, b8)) (
                                    (E7 t1).bind fun d769 =>
                                    brk (d769.1) (
                                     (j5 ([1018] : List Int)).bind fun d772 =>
                                     some (d772.1, b8)) (
                                     (B3).bind fun d777 =>
                                     some (d777.1, b8))))) (
                                  (B3).bind fun d782 =>
                                  some (d782.1, b8))))))))))))))))))))))))))))))))))
theorem a78 (T : S.Tab) : P6 (sn 3 T) = aK4 := by
 have h_impl_rule_1 : l6 (sn 2 T) = j5 := at2 (sn 1 T)
 have h_impl_statKind : W6 (sn 2 T) = ab8 := aG2 (sn 1 T)
 have h_impl_rule_2 : w9 (sn 2 T) = s4 := aR7 (sn 1 T)
 have h_impl_rule_3 : C3 (sn 2 T) = B3 := aR3 (sn 1 T)
 have h_impl_prefixKind : s5 (sn 2 T) = r7 := af3 (sn 1 T)
 have h_impl_unitKind : E6 (sn 2 T) = E7 := aG7 (sn 0 T)
 have h_impl_rule_4 : H6 (sn 2 T) = G3 := aR2 (sn 1 T)
 have h_impl_infixKind : S6 (sn 2 T) = Z5 := aD3 (sn 0 T)
 have h_impl_rule_j25 : Q7 (sn 2 T) = W3 := aH6 (sn 0 T)
 funext a0
 funext a1
 show P6 (S.step (sn 2 T)) a0 a1 = _
 rw [a45]
 rw [h_impl_rule_1, h_impl_statKind, h_impl_rule_2, h_impl_rule_3, h_impl_prefixKind, h_impl_unitKind, h_impl_rule_4, h_impl_infixKind, h_impl_rule_j25]
 rfl
noncomputable def j4 (t0 : List Int) : Option (List Int × Unit × Unit) :=
 some (t0, aE5)
theorem I5 (T : S.Tab) : l5 (sn 1 T) = j4 := by
 funext a0
 show l5 (S.step (sn 0 T)) a0 = _
 rw [aX0]
 rfl
noncomputable def Q0 (t0 : Int) (t4 : Int) (t35 : Bool) : Option ((List Int × Bool × Unit) ⊕ (Unit) ⊕ Empty) :=
 brk (t35) (
  (j4 ([t0] : List Int)).bind fun d40 =>
  some (Sum.inl (d40.1, true, ()))) (
  brk (decide (t4 = 27)) (
   (j4 ([t0, 108] : List Int)).bind fun d45 =>
   some (Sum.inl (d45.1, true, ()))) (
   brk (decide (t4 = 30)) (
    (j4 ([t0, 132, 12, 1, 109, 132] : List Int)).bind fun d50 =>
    some (Sum.inl (d50.1, true, ()))) (
    brk (decide (t4 = 28)) (
     (j4 ([t0, 119] : List Int)).bind fun d55 =>
     some (Sum.inl (d55.1, true, ()))) (
     brk (decide (t4 = 14)) (
      (j4 ([t0, 116] : List Int)).bind fun d60 =>
      some (Sum.inl (d60.1, true, ()))) (
      brk (decide (t4 = 42)) (
       (j4 ([132] : List Int)).bind fun d64 =>
       some (Sum.inl (d64.1, true, ()))) (
       brk (decide (t4 = 1)) (
        (j4 ([t0, 110] : List Int)).bind fun d69 =>
        some (Sum.inl (d69.1, true, ()))) (
        brk (decide (t4 = 40)) (
         (j4 ([t0, 119, 41, 112] : List Int)).bind fun d74 =>
         some (Sum.inl (d74.1, true, ()))) (
         some (Sum.inr (Sum.inl ()))))))))))
theorem ay7 (T : S.Tab) : M4 (sn 2 T) = Q0 := by
 have h_spec_l3row : l5 (sn 1 T) = j4 := I5 (sn 0 T)
 funext a0
 funext a1
 funext a2
 show M4 (S.step (sn 1 T)) a0 a1 a2 = _
 rw [ax5]
 rw [h_spec_l3row]
 rfl
noncomputable def am0 (t0 : Int) : Option ((List Int × Bool × Unit) × Unit × Unit) :=
 brk (decide (t0 = 22)) (
  (j4 ([t0, 1, 104, 103] : List Int)).bind fun d9 =>
  some ((d9.1, true, ()), s8)) (
  brk (decide (t0 = 13)) (
   (j4 ([t0, 1, 47, 119] : List Int)).bind fun d14 =>
   some ((d14.1, true, ()), s8)) (
   brk (decide (t0 = 18)) (
    (j4 ([t0, 1, 133] : List Int)).bind fun d19 =>
    some ((d19.1, true, ()), s8)) (
    brk (decide (t0 = 20)) (
     (j4 ([t0, 119, 132, 105] : List Int)).bind fun d24 =>
     some ((d24.1, true, ()), s8)) (
     brk (decide (t0 = 31)) (
      (j4 ([t0, 119, 132] : List Int)).bind fun d29 =>
      some ((d29.1, true, ()), s8)) (
      brk (decide (t0 = 19)) (
       (j4 ([t0, 1, 106] : List Int)).bind fun d34 =>
       some ((d34.1, true, ()), s8)) (
       brk (decide (t0 = 11)) (
        (Q0 t0 t0 (decide (t0 = 11))).bind (N0
          (fun y16 =>
         some (y16, s8))
          (fun y16 =>
         some (([], false, ()), s8)))) (
        (Q0 t0 t0 (decide (t0 = 23))).bind (N0
          (fun y16 =>
         some (y16, s8))
          (fun y16 =>
         some (([], false, ()), s8))))))))))
theorem aQ5 (T : S.Tab) : ad9 (sn 3 T) = am0 := by
 have h_spec_l3row : l5 (sn 2 T) = j4 := I5 (sn 1 T)
 have h_spec_l3stat_j16 : M4 (sn 2 T) = Q0 := ay7 (sn 0 T)
 funext a0
 show ad9 (S.step (sn 2 T)) a0 = _
 rw [aQ1]
 rw [h_spec_l3row, h_spec_l3stat_j16]
 rfl
noncomputable def w8 (t0 : Int) : Option (Bool × Unit × Unit) :=
 brk (decide (t0 = 25)) (
  some (true, H0)) (
  brk (decide (t0 = 50)) (
   some (true, H0)) (
   brk (decide (t0 = 62)) (
    some (true, H0)) (
    some (decide (t0 = 69), H0))))
theorem am8 (T : S.Tab) : x8 (sn 1 T) = w8 := by
 funext a0
 show x8 (S.step (sn 0 T)) a0 = _
 rw [aH7]
 rfl
noncomputable def A5 (t0 : Int) : Option (Bool × Unit × Unit) :=
 brk (decide (t0 = 1)) (
  brk (decide (t0 = 1)) (
   some (true, j8)) (
   (w8 t0).bind fun d17 =>
   some (d17.1, j8))) (
  brk (decide (t0 = 2)) (
   brk (decide (t0 = 2)) (
    some (true, j8)) (
    (w8 t0).bind fun d17 =>
    some (d17.1, j8))) (
   brk (decide (t0 = 3)) (
    brk (decide (t0 = 3)) (
     some (true, j8)) (
     (w8 t0).bind fun d17 =>
     some (d17.1, j8))) (
    brk (decide (t0 = 4)) (
     brk (decide (t0 = 4)) (
      some (true, j8)) (
      (w8 t0).bind fun d17 =>
      some (d17.1, j8))) (
     brk (decide (t0 = 24)) (
      brk (decide (t0 = 24)) (
       some (true, j8)) (
       (w8 t0).bind fun d17 =>
       some (d17.1, j8))) (
      brk (decide (t0 = 29)) (
       brk (decide (t0 = 29)) (
        some (true, j8)) (
        (w8 t0).bind fun d17 =>
        some (d17.1, j8))) (
       brk (decide (t0 = 17)) (
        brk (decide (t0 = 17)) (
         some (true, j8)) (
         (w8 t0).bind fun d17 =>
         some (d17.1, j8))) (
        brk (decide (t0 = 49)) (
         brk (decide (t0 = 49)) (
          some (true, j8)) (
          (w8 t0).bind fun d17 =>
          some (d17.1, j8))) (
         brk (decide (t0 = 18)) (
          brk (decide (t0 = 18)) (
           some (true, j8)) (
           (w8 t0).bind fun d17 =>
           some (d17.1, j8))) (
          brk (decide (t0 = 40)) (
           brk (decide (t0 = 40)) (
            some (true, j8)) (
            (w8 t0).bind fun d17 =>
            some (d17.1, j8))) (
           brk (decide (t0 = 42)) (
            some (true, j8)) (
            (w8 t0).bind fun d17 =>
            some (d17.1, j8))))))))))))
theorem S8 (T : S.Tab) : B4 (sn 2 T) = A5 := by
 have h_spec_l3prefix : x8 (sn 1 T) = w8 := am8 (sn 0 T)
 funext a0
 show B4 (S.step (sn 1 T)) a0 = _
 rw [aH5]
 rw [h_spec_l3prefix]
 rfl
noncomputable def B6 (t0 : Int) (t1 : Int) (t2 : Int) : Option (List Int × Unit × Unit × Unit × Unit) :=
 brk (decide (t0 = 48)) (
  (j4 ([t0, 1, t1] : List Int)).bind fun d13 =>
  some (d13.1, H4)) (
  brk (decide (t0 = 44)) (
   (j4 ([t0, 119, 45, t1] : List Int)).bind fun d19 =>
   some (d19.1, H4)) (
   brk (decide (t0 = 40)) (
    (j4 ([t0, 123, 41, t2] : List Int)).bind fun d25 =>
    some (d25.1, H4)) (
    some ([], H4))))
theorem am5 (T : S.Tab) : B8 (sn 2 T) = B6 := by
 have h_spec_l3row : l5 (sn 1 T) = j4 := I5 (sn 0 T)
 funext a0
 funext a1
 funext a2
 show B8 (S.step (sn 1 T)) a0 a1 a2 = _
 rw [aG3]
 rw [h_spec_l3row]
 rfl
noncomputable def J6 (t0 : Int) (t1 : Int) (t6 : List Int) (t9 : Int) (t10 : Bool) : Option ((Int × Int × List Int × Unit) ⊕ Empty) :=
 brk (t10) (
  (B6 t1 110 111).bind fun d15 =>
  some (Sum.inl (t0, t1, d15.1, ()))) (
  brk (decide (t9 = 114)) (
   brk (decide (t9 = 114)) (
    (B6 t1 114 115).bind fun d20 =>
    some (Sum.inl (t0, t1, d20.1, ()))) (
    brk (decide (t9 = 117)) (
     brk (decide (t9 = 117)) (
      (B6 t1 117 118).bind fun d25 =>
      some (Sum.inl (t0, t1, d25.1, ()))) (
      some (Sum.inl (t0, t1, t6, ())))) (
     brk (decide (t9 = 118)) (
      (B6 t1 117 118).bind fun d25 =>
      some (Sum.inl (t0, t1, d25.1, ()))) (
      some (Sum.inl (t0, t1, t6, ())))))) (
   brk (decide (t9 = 115)) (
    (B6 t1 114 115).bind fun d20 =>
    some (Sum.inl (t0, t1, d20.1, ()))) (
    brk (decide (t9 = 117)) (
     brk (decide (t9 = 117)) (
      (B6 t1 117 118).bind fun d25 =>
      some (Sum.inl (t0, t1, d25.1, ()))) (
      some (Sum.inl (t0, t1, t6, ())))) (
     brk (decide (t9 = 118)) (
      (B6 t1 117 118).bind fun d25 =>
      some (Sum.inl (t0, t1, d25.1, ()))) (
      some (Sum.inl (t0, t1, t6, ())))))))
theorem ar8 (T : S.Tab) : F9 (sn 3 T) = J6 := by
 have h_spec_l3suffix : B8 (sn 2 T) = B6 := am5 (sn 0 T)
 funext a0
 funext a1
 funext a2
 funext a3
 funext a4
 show F9 (S.step (sn 2 T)) a0 a1 a2 a3 a4 = _
 rw [ar9]
 rw [h_spec_l3suffix]
 rfl
noncomputable def I4 (t0 : Int) (t1 : Int) : Option ((List Int × Bool × Unit) ⊕ Empty) :=
 brk (decide (t0 = 113)) (
  brk (decide (t0 = 116)) (
   brk (decide (t1 = 1)) (
    (j4 ([t1, 117] : List Int)).bind fun d65 =>
    some (Sum.inl (d65.1, true, ()))) (
    brk (decide (t1 = 40)) (
     (j4 ([t1, 119, 41, 117] : List Int)).bind fun d71 =>
     some (Sum.inl (d71.1, true, ()))) (
     some (Sum.inl ([], false, ()))))) (
   brk (decide (t1 = 1)) (
    (j4 ([t1, 114] : List Int)).bind fun d65 =>
    some (Sum.inl (d65.1, true, ()))) (
    brk (decide (t1 = 40)) (
     (j4 ([t1, 119, 41, 115] : List Int)).bind fun d71 =>
     some (Sum.inl (d71.1, true, ()))) (
     some (Sum.inl ([], false, ())))))) (
  brk (decide (t0 = 116)) (
   brk (decide (t0 = 116)) (
    brk (decide (t1 = 1)) (
     (j4 ([t1, 117] : List Int)).bind fun d65 =>
     some (Sum.inl (d65.1, true, ()))) (
     brk (decide (t1 = 40)) (
      (j4 ([t1, 119, 41, 117] : List Int)).bind fun d71 =>
      some (Sum.inl (d71.1, true, ()))) (
      some (Sum.inl ([], false, ()))))) (
    brk (decide (t1 = 1)) (
     (j4 ([t1, 114] : List Int)).bind fun d65 =>
     some (Sum.inl (d65.1, true, ()))) (
     brk (decide (t1 = 40)) (
      (j4 ([t1, 119, 41, 115] : List Int)).bind fun d71 =>
      some (Sum.inl (d71.1, true, ()))) (
      some (Sum.inl ([], false, ())))))) (
   some (Sum.inl ([], false, ()))))
theorem ao5 (T : S.Tab) : E8 (sn 2 T) = I4 := by
 have h_spec_l3row : l5 (sn 1 T) = j4 := I5 (sn 0 T)
 funext a0
 funext a1
 show E8 (S.step (sn 1 T)) a0 a1 = _
 rw [ao1]
 rw [h_spec_l3row]
 rfl
noncomputable def I0 (t0 : Int) (t1 : Int) (t6 : List Int) : Option ((List Int × Bool × Unit) ⊕ Empty) :=
 brk (decide (0 < (t6.length : Int))) (
  some (Sum.inl (t6, true, ()))) (
  brk (decide (t0 = 111)) (
   some (Sum.inl ([], true, ()))) (
   brk (decide (t0 = 118)) (
    some (Sum.inl ([], true, ()))) (
    brk (decide (t0 = 110)) (
     brk (decide (t1 = 46)) (
      (j4 ([t1, 113] : List Int)).bind fun d46 =>
      some (Sum.inl (d46.1, true, ()))) (
      brk (decide (t1 = 47)) (
       (j4 ([t1, 124] : List Int)).bind fun d51 =>
       some (Sum.inl (d51.1, true, ()))) (
       (I4 t0 t1).bind (A9
         (fun y22 =>
        some (Sum.inl y22)))))) (
     brk (decide (t0 = 114)) (
      brk (decide (t1 = 46)) (
       (j4 ([t1, 113] : List Int)).bind fun d46 =>
       some (Sum.inl (d46.1, true, ()))) (
       brk (decide (t1 = 47)) (
        (j4 ([t1, 124] : List Int)).bind fun d51 =>
        some (Sum.inl (d51.1, true, ()))) (
        (I4 t0 t1).bind (A9
          (fun y22 =>
         some (Sum.inl y22)))))) (
      (I4 t0 t1).bind (A9
        (fun y22 =>
       some (Sum.inl y22))))))))
theorem ao2 (T : S.Tab) : E5 (sn 3 T) = I0 := by
 have h_spec_l3row : l5 (sn 2 T) = j4 := I5 (sn 1 T)
 have h_spec_l3expand2_j22 : E8 (sn 2 T) = I4 := ao5 (sn 0 T)
 funext a0
 funext a1
 funext a2
 show E5 (S.step (sn 2 T)) a0 a1 a2 = _
 rw [ao0]
 rw [h_spec_l3row, h_spec_l3expand2_j22]
 rfl
noncomputable def Z2 (t0 : Int) (t1 : Int) : Option ((List Int × Bool × Unit) × Unit × Unit × Unit) :=
 brk (decide (t0 = 110)) (
  (J6 t0 t1 [] t0 (decide (t0 = 110))).bind (A9
    (fun y6 =>
   (I0 y6.1 y6.2.1 y6.2.2.1).bind (A9
     (fun y13 =>
    some (y13, K0)))))) (
  brk (decide (t0 = 111)) (
   (J6 t0 t1 [] t0 (decide (t0 = 111))).bind (A9
     (fun y6 =>
    (I0 y6.1 y6.2.1 y6.2.2.1).bind (A9
      (fun y13 =>
     some (y13, K0)))))) (
   (J6 t0 t1 [] t0 (decide (t0 = 112))).bind (A9
     (fun y6 =>
    (I0 y6.1 y6.2.1 y6.2.2.1).bind (A9
      (fun y13 =>
     some (y13, K0)))))))
theorem aB6 (T : S.Tab) : S3 (sn 4 T) = Z2 := by
 have h_spec_l3expand2_j6 : F9 (sn 3 T) = J6 := ar8 (sn 0 T)
 have h_spec_l3expand2_j13 : E5 (sn 3 T) = I0 := ao2 (sn 0 T)
 funext a0
 funext a1
 show S3 (S.step (sn 3 T)) a0 a1 = _
 rw [aC6]
 rw [h_spec_l3expand2_j6, h_spec_l3expand2_j13]
 rfl
noncomputable def w7 (t0 : Int) (t1 : Int) (t93 : Bool) : Option ((List Int × Bool × Unit) ⊕ (O4.den) ⊕ Empty) :=
 brk (t93) (
  (Z2 t0 t1).bind fun d105 =>
  some (Sum.inl d105.1)) (
  some (Sum.inr (Sum.inl (t0, t1, ()))))
theorem ar7 (T : S.Tab) : u6 (sn 5 T) = w7 := by
 have h_spec_l3expand2 : S3 (sn 4 T) = Z2 := aB6 (sn 0 T)
 funext a0
 funext a1
 funext a2
 show u6 (S.step (sn 4 T)) a0 a1 a2 = _
 rw [as5]
 rw [h_spec_l3expand2]
 rfl
noncomputable def ak6 (t0 : Int) : Option ((List Int × Bool × Unit) × Unit × Unit) :=
 (w8 t0).bind fun d5 =>
 brk (d5.1) (
  (j4 ([t0, 120] : List Int)).bind fun d8 =>
  some ((d8.1, true, ()), D2)) (
  brk (decide (t0 = 1)) (
   (j4 ([t0, 122] : List Int)).bind fun d14 =>
   some ((d14.1, true, ()), D2)) (
   brk (decide (t0 = 40)) (
    (j4 ([t0, 119, 41, 122] : List Int)).bind fun d19 =>
    some ((d19.1, true, ()), D2)) (
    brk (decide (t0 = 42)) (
     (j4 ([t0, 129, 43] : List Int)).bind fun d24 =>
     some ((d24.1, true, ()), D2)) (
     brk (decide (t0 = 18)) (
      (j4 ([t0, 133] : List Int)).bind fun d29 =>
      some ((d29.1, true, ()), D2)) (
      (j4 ([t0] : List Int)).bind fun d32 =>
      (A5 t0).bind fun d34 =>
      some ((d32.1, d34.1, ()), D2))))))
theorem aQ8 (T : S.Tab) : ac9 (sn 3 T) = ak6 := by
 have h_spec_l3row : l5 (sn 2 T) = j4 := I5 (sn 1 T)
 have h_spec_l3prefix : x8 (sn 2 T) = w8 := am8 (sn 1 T)
 have h_spec_l3begins : B4 (sn 2 T) = A5 := S8 (sn 0 T)
 funext a0
 show ac9 (S.step (sn 2 T)) a0 = _
 rw [aP9]
 rw [h_spec_l3row, h_spec_l3prefix, h_spec_l3begins]
 rfl
noncomputable def ah2 (t0 : Int) : Option (Bool × Unit × Unit) :=
 brk (decide (t0 = 10)) (
  some (true, O3)) (
  brk (decide (t0 = 26)) (
   some (true, O3)) (
   some (decide (60 < t0), O3)))
theorem aL7 (T : S.Tab) : Y4 (sn 1 T) = ah2 := by
 funext a0
 show Y4 (S.step (sn 0 T)) a0 = _
 rw [aL6]
 rfl
noncomputable def L9 (t0 : Int) (t1 : Int) (t6 : Int) (t49 : Bool) : Option ((List Int × Bool × Unit) ⊕ (Int × Unit) ⊕ Empty) :=
 brk (t49) (
  brk (decide (t1 = 1)) (
   (j4 ([t1, 127] : List Int)).bind fun d56 =>
   some (Sum.inl (d56.1, true, ()))) (
   brk (decide (t1 = 49)) (
    (j4 ([t1] : List Int)).bind fun d61 =>
    some (Sum.inl (d61.1, true, ()))) (
    some (Sum.inl ([], decide (t0 = 126), ()))))) (
  brk (decide (t6 = 127)) (
   brk (decide (t1 = 46)) (
    (j4 ([t1, 128] : List Int)).bind fun d70 =>
    some (Sum.inl (d70.1, true, ()))) (
    some (Sum.inl ([], true, ())))) (
   brk (decide (t6 = 129)) (
    (A5 t1).bind fun d74 =>
    brk (d74.1) (
     (j4 ([131, 130] : List Int)).bind fun d84 =>
     some (Sum.inl (d84.1, true, ()))) (
     brk (decide (t1 = 48)) (
      (j4 ([131, 130] : List Int)).bind fun d84 =>
      some (Sum.inl (d84.1, true, ()))) (
      brk (decide (t1 = 44)) (
       (j4 ([131, 130] : List Int)).bind fun d84 =>
       some (Sum.inl (d84.1, true, ()))) (
       some (Sum.inl ([], true, ())))))) (
    brk (decide (t6 = 130)) (
     brk (decide (t1 = 46)) (
      (j4 ([t1, 129] : List Int)).bind fun d91 =>
      some (Sum.inl (d91.1, true, ()))) (
      some (Sum.inl ([], true, ())))) (
     brk (decide (t6 = 131)) (
      brk (decide (t1 = 48)) (
       (j4 ([t1, 1, 47, 119] : List Int)).bind fun d98 =>
       some (Sum.inl (d98.1, true, ()))) (
       brk (decide (t1 = 44)) (
        (j4 ([t1, 119, 45, 47, 119] : List Int)).bind fun d103 =>
        some (Sum.inl (d103.1, true, ()))) (
        (j4 ([119] : List Int)).bind fun d105 =>
        (A5 t1).bind fun d107 =>
        some (Sum.inl (d105.1, d107.1, ()))))) (
      brk (decide (t6 = 132)) (
       (j4 ([42, 100, 43] : List Int)).bind fun d111 =>
       some (Sum.inl (d111.1, decide (t1 = 42), ()))) (
       some (Sum.inr (Sum.inl (t1, ())))))))))
theorem ap2 (T : S.Tab) : H5 (sn 3 T) = L9 := by
 have h_spec_l3row : l5 (sn 2 T) = j4 := I5 (sn 1 T)
 have h_spec_l3begins : B4 (sn 2 T) = A5 := S8 (sn 0 T)
 funext a0
 funext a1
 funext a2
 funext a3
 show H5 (S.step (sn 2 T)) a0 a1 a2 a3 = _
 rw [ap4]
 rw [h_spec_l3row, h_spec_l3begins]
 rfl
noncomputable def Z0 (t0 : Int) (t1 : Int) : Option ((List Int × Bool × Unit) × Unit × Unit × Unit) :=
 brk (decide (t0 = 119)) (
  (j4 ([120, 121] : List Int)).bind fun d10 =>
  (A5 t1).bind fun d12 =>
  some ((d10.1, d12.1, ()), o8)) (
  brk (decide (t0 = 120)) (
   (ak6 t1).bind fun d16 =>
   some (d16.1, o8)) (
   brk (decide (t0 = 121)) (
    (ah2 t1).bind fun d22 =>
    brk (d22.1) (
     (j4 ([t1, 119] : List Int)).bind fun d25 =>
     some ((d25.1, true, ()), o8)) (
     some (([], true, ()), o8))) (
    brk (decide (t0 = 122)) (
     (B6 t1 122 122).bind fun d29 =>
     some ((d29.1, true, ()), o8)) (
     brk (decide (t0 = 123)) (
      (A5 t1).bind fun d33 =>
      brk (d33.1) (
       (j4 ([124] : List Int)).bind fun d35 =>
       some ((d35.1, true, ()), o8)) (
       some (([], true, ()), o8))) (
      brk (decide (t0 = 124)) (
       (j4 ([119, 125] : List Int)).bind fun d39 =>
       (A5 t1).bind fun d41 =>
       some ((d39.1, d41.1, ()), o8)) (
       brk (decide (t0 = 125)) (
        brk (decide (t1 = 46)) (
         (j4 ([t1, 119, 125] : List Int)).bind fun d48 =>
         some ((d48.1, true, ()), o8)) (
         some (([], true, ()), o8))) (
        brk (decide (t0 = 126)) (
         (L9 t0 t1 t0 (decide (t0 = 126))).bind (N0
           (fun y24 =>
          some (y24, o8))
           (fun y24 =>
          (j4 ([40, 126, 41, 132] : List Int)).bind fun d115 =>
          some ((d115.1, decide (y24.1 = 40), ()), o8)))) (
         (L9 t0 t1 t0 (decide (t0 = 128))).bind (N0
           (fun y24 =>
          some (y24, o8))
           (fun y24 =>
          (j4 ([40, 126, 41, 132] : List Int)).bind fun d115 =>
          some ((d115.1, decide (y24.1 = 40), ()), o8)))))))))))
theorem aE0 (T : S.Tab) : S4 (sn 4 T) = Z0 := by
 have h_spec_l3row : l5 (sn 3 T) = j4 := I5 (sn 2 T)
 have h_spec_l3begins : B4 (sn 3 T) = A5 := S8 (sn 1 T)
 have h_spec_l3suffix : B8 (sn 3 T) = B6 := am5 (sn 1 T)
 have h_spec_l3unit : ac9 (sn 3 T) = ak6 := aQ8 (sn 0 T)
 have h_spec_l3infix : Y4 (sn 3 T) = ah2 := aL7 (sn 2 T)
 have h_spec_l3expand3_j24 : H5 (sn 3 T) = L9 := ap2 (sn 0 T)
 funext a0
 funext a1
 show S4 (S.step (sn 3 T)) a0 a1 = _
 rw [aD6]
 rw [h_spec_l3row, h_spec_l3begins, h_spec_l3suffix, h_spec_l3unit, h_spec_l3infix, h_spec_l3expand3_j24]
 rfl
noncomputable def v8 (t0 : Int) (t1 : Int) : Option ((List Int × Bool × Unit) ⊕ Empty) :=
 (Z0 t0 t1).bind fun d110 =>
 some (Sum.inl d110.1)
theorem as6 (T : S.Tab) : u7 (sn 5 T) = v8 := by
 have h_spec_l3expand3 : S4 (sn 4 T) = Z0 := aE0 (sn 0 T)
 funext a0
 funext a1
 show u7 (S.step (sn 4 T)) a0 a1 = _
 rw [as3]
 rw [h_spec_l3expand3]
 rfl
noncomputable def ap6 (t0 : Int) (t1 : Int) : Option ((List Int × Bool × Unit) × Unit × Unit × Unit) :=
 brk (decide (t0 = 100)) (
  brk (decide (t1 = 5)) (
   (j4 ([t1, 100] : List Int)).bind fun d15 =>
   some ((d15.1, true, ()), b9)) (
   (am0 t1).bind fun d18 =>
   brk (d18.1.2.1) (
    brk (fits (d18.1.1.length + 1)) (
    some ((d18.1.1 ++ ([101] : List Int), true, ()), b9)) none) (
    some (([], true, ()), b9)))) (
  brk (decide (t0 = 101)) (
   brk (decide (t1 = 5)) (
    (j4 ([t1, 100] : List Int)).bind fun d31 =>
    some ((d31.1, true, ()), b9)) (
    some (([], true, ()), b9))) (
   brk (decide (t0 = 103)) (
    brk (decide (t1 = 47)) (
     (j4 ([t1, 124] : List Int)).bind fun d38 =>
     some ((d38.1, true, ()), b9)) (
     some (([], true, ()), b9))) (
    brk (decide (t0 = 104)) (
     brk (decide (t1 = 46)) (
      (j4 ([t1, 1, 104] : List Int)).bind fun d45 =>
      some ((d45.1, true, ()), b9)) (
      some (([], true, ()), b9))) (
     brk (decide (t0 = 105)) (
      brk (decide (t1 = 15)) (
       (j4 ([t1, 119, 132, 105] : List Int)).bind fun d52 =>
       some ((d52.1, true, ()), b9)) (
       brk (decide (t1 = 16)) (
        (j4 ([t1, 132] : List Int)).bind fun d57 =>
        some ((d57.1, true, ()), b9)) (
        some (([], true, ()), b9)))) (
      brk (decide (t0 = 106)) (
       brk (decide (t1 = 47)) (
        (j4 ([t1, 119, 46, 119, 107, 132] : List Int)).bind fun d64 =>
        some ((d64.1, true, ()), b9)) (
        (j4 ([104, 21, 119, 132] : List Int)).bind fun d66 =>
        brk (decide (t1 = 46)) (
         some ((d66.1, true, ()), b9)) (
         some ((d66.1, decide (t1 = 21), ()), b9)))) (
       brk (decide (t0 = 107)) (
        brk (decide (t1 = 46)) (
         (j4 ([t1, 119] : List Int)).bind fun d79 =>
         some ((d79.1, true, ()), b9)) (
         some (([], true, ()), b9))) (
        brk (decide (t0 = 108)) (
         (A5 t1).bind fun d83 =>
         brk (d83.1) (
          (j4 ([124] : List Int)).bind fun d85 =>
          some ((d85.1, true, ()), b9)) (
          some (([], true, ()), b9))) (
         brk (decide (t0 = 109)) (
          brk (decide (t1 = 46)) (
           (j4 ([t1, 1] : List Int)).bind fun d92 =>
           some ((d92.1, true, ()), b9)) (
           some (([], true, ()), b9))) (
          brk (decide (t0 = 110)) (
           (w7 t0 t1 (decide (t0 = 110))).bind (N0
             (fun y52 =>
            some (y52, b9))
             (fun y52 =>
            (v8 y52.1 y52.2.1).bind (A9
              (fun y53 =>
             some (y53, b9)))))) (
           brk (decide (t0 = 111)) (
            (w7 t0 t1 (decide (t0 = 111))).bind (N0
              (fun y52 =>
             some (y52, b9))
              (fun y52 =>
             (v8 y52.1 y52.2.1).bind (A9
               (fun y53 =>
              some (y53, b9)))))) (
            brk (decide (t0 = 112)) (
             (w7 t0 t1 (decide (t0 = 112))).bind (N0
               (fun y52 =>
              some (y52, b9))
               (fun y52 =>
              (v8 y52.1 y52.2.1).bind (A9
                (fun y53 =>
               some (y53, b9)))))) (
             brk (decide (t0 = 113)) (
              (w7 t0 t1 (decide (t0 = 113))).bind (N0
                (fun y52 =>
               some (y52, b9))
                (fun y52 =>
               (v8 y52.1 y52.2.1).bind (A9
                 (fun y53 =>
                some (y53, b9)))))) (
              brk (decide (t0 = 114)) (
               (w7 t0 t1 (decide (t0 = 114))).bind (N0
                 (fun y52 =>
                some (y52, b9))
                 (fun y52 =>
                (v8 y52.1 y52.2.1).bind (A9
                  (fun y53 =>
                 some (y53, b9)))))) (
               brk (decide (t0 = 115)) (
                (w7 t0 t1 (decide (t0 = 115))).bind (N0
                  (fun y52 =>
                 some (y52, b9))
                  (fun y52 =>
                 (v8 y52.1 y52.2.1).bind (A9
                   (fun y53 =>
                  some (y53, b9)))))) (
                brk (decide (t0 = 116)) (
                 (w7 t0 t1 (decide (t0 = 116))).bind (N0
                   (fun y52 =>
                  some (y52, b9))
                   (fun y52 =>
                  (v8 y52.1 y52.2.1).bind (A9
                    (fun y53 =>
                   some (y53, b9)))))) (
                 brk (decide (t0 = 117)) (
                  (w7 t0 t1 (decide (t0 = 117))).bind (N0
                    (fun y52 =>
                   some (y52, b9))
                    (fun y52 =>
                   (v8 y52.1 y52.2.1).bind (A9
                     (fun y53 =>
                    some (y53, b9)))))) (
                  (w7 t0 t1 (decide (t0 = 118))).bind (N0
                    (fun y52 =>
                   some (y52, b9))
                    (fun y52 =>
                   (v8 y52.1 y52.2.1).bind (A9
                     (fun y53 =>
                    some (y53, b9))))))))))))))))))))))
theorem aG0 (T : S.Tab) : I6 (sn 6 T) = ap6 := by
 have h_spec_l3row : l5 (sn 5 T) = j4 := I5 (sn 4 T)
 have h_spec_l3stat : ad9 (sn 5 T) = am0 := aQ5 (sn 2 T)
 have h_spec_l3begins : B4 (sn 5 T) = A5 := S8 (sn 3 T)
 have h_spec_l3expand_j52 : u6 (sn 5 T) = w7 := ar7 (sn 0 T)
 have h_spec_l3expand_j53 : u7 (sn 5 T) = v8 := as6 (sn 0 T)
 funext a0
 funext a1
 show I6 (S.step (sn 5 T)) a0 a1 = _
 rw [aI4]
 rw [h_spec_l3row, h_spec_l3stat, h_spec_l3begins, h_spec_l3expand_j52, h_spec_l3expand_j53]
 rfl
noncomputable abbrev RI (s : Int) : Bool := kinds.all fun k => decide (aK4 s k = some (((J3 s k).1, (J3 s k).2.1, (J3 s k).2.2, ()), b8))
noncomputable abbrev RS (s : Int) : Bool := kinds.all fun k => decide (ap6 s k = some (((aB4 s k).1, (aB4 s k).2, ()), b9))
theorem bS0 : (allI.all RI) = true := by kernel_rfl
theorem bS3 : (a25.all RS) = true := by kernel_rfl
theorem bJ0 (T : S.Tab) {s : Int} (h : s ∈ allI) : (kinds.all fun k => decide (P6 (sn 3 T) s k = some (((J3 s k).1, (J3 s k).2.1, (J3 s k).2.2, ()), b8))) = true := by
 rw [a78]
 exact List.all_eq_true.1 bS0 s h
theorem bK2 (T : S.Tab) {s : Int} (h : s ∈ a25) : (kinds.all fun k => decide (I6 (sn 6 T) s k = some (((aB4 s k).1, (aB4 s k).2, ()), b9))) = true := by
 rw [aG0]
 exact List.all_eq_true.1 bS3 s h
end Go.Abs.D
end

section
namespace Go.Abs.D
theorem aX5 : Evt fun n => ∀ s k : Int, s ∈ allI → 0 ≤ k → k ≤ 78 → P6 (S.tab n) s k = some (((J3 s k).1, (J3 s k).2.1, (J3 s k).2.2, ()), b8) := by
 have h : Evt fun n => ∀ s k : Int, s ∈ allI → 0 ≤ k → k ≤ 78 → P6 (S.tab (n + 3)) s k = some (((J3 s k).1, (J3 s k).2.1, (J3 s k).2.2, ()), b8) := Evt.of fun n s k hs h0 h1 =>
  of_decide_eq_true (List.all_eq_true.1 (bJ0 (S.tab n) hs) k (P3 h0 h1))
 obtain ⟨N, h⟩ := h
 exact ⟨N + 3, fun n hn => by
  have e : n - 3 + 3 = n := by omega
  rw [← e]
  exact h (n - 3) (by omega)⟩
theorem a42 : Evt fun n => ∀ s k : Int, s ∈ a25 → 0 ≤ k → k ≤ 78 → I6 (S.tab n) s k = some (((aB4 s k).1, (aB4 s k).2, ()), b9) := by
 have h : Evt fun n => ∀ s k : Int, s ∈ a25 → 0 ≤ k → k ≤ 78 → I6 (S.tab (n + 6)) s k = some (((aB4 s k).1, (aB4 s k).2, ()), b9) := Evt.of fun n s k hs h0 h1 =>
  of_decide_eq_true (List.all_eq_true.1 (bK2 (S.tab n) hs) k (P3 h0 h1))
 obtain ⟨N, h⟩ := h
 exact ⟨N + 6, fun n hn => by
  have e : n - 6 + 6 = n := by omega
  rw [← e]
  exact h (n - 6) (by omega)⟩
theorem isEmpty_cons (s : Int) (r : List Int) : (!(s :: r).isEmpty) = true := rfl
theorem bs9 (k : Int) (row : List Int) (hrow : row.length ≤ 100) : ∀ (m : Nat) (st : List Int), m ≤ row.length → Evt fun n => K6 (S.tab n) st k row ((m : Int) - 1) = some (Sum.inl (row.take m ++ st, k, ()))
 | 0, st, _ => r8.up fun n _ => by
  show K6 (S.step (S.tab n)) _ _ _ _ = _
  rw [am2, q8 (by decide)]; rfl
 | m + 1, st, hm => by
  have hml : m < row.length := by omega
  have ih := bs9 k row hrow m (row[m] :: st) (by omega)
  have e0 : ((m + 1 : Nat) : Int) - 1 = (m : Int) := by omega
  have hg : row.getD (m : Int).toNat 0 = row[m] := by rw [Int.toNat_natCast, List.getD_eq_getElem?_getD, List.getElem?_eq_getElem hml]; rfl
  refine ih.up fun n ih => ?_
  show K6 (S.step (S.tab n)) _ _ _ _ = _
  rw [e0, am2, l7 (by simp only [decide_eq_true_eq]; omega), l7 (n8 hml), hg, wrap64 _ (by omega) (by omega), ih, List.take_succ_eq_append_getElem hml, List.append_assoc]; rfl
theorem bm3 {s k : Int} (hs : s ∈ allI) (h0 : 0 ≤ k) (h1 : k ≤ 78) (r : List Int) {X : (List Int × Unit) ⊕ Unit ⊕ Empty} (hlen : (J3 s k).1.length ≤ 100)
  (hy : (J3 s k).2.1 = true → Evt fun n => x4 (S.tab n) ((J3 s k).1 ++ r) k = some X)
  (he : (J3 s k).2.1 = false → (J3 s k).2.2 = true → Evt fun n => x4 (S.tab n) r k = some X)
  (hn : (J3 s k).2.1 = false → (J3 s k).2.2 = false → X = Sum.inl ([], ())) : Evt fun n => x4 (S.tab n) (s :: r) k = some X := by
 have hge : 1000 ≤ s := by
  unfold allI at hs
  obtain ⟨n, _, rfl⟩ := List.mem_map.1 hs
  omega
 have start : ∀ n, (∀ s k : Int, s ∈ allI → 0 ≤ k → k ≤ 78 → P6 (S.tab n) s k = some (((J3 s k).1, (J3 s k).2.1, (J3 s k).2.2, ()), b8)) → x4 (S.step (S.tab n)) (s :: r) k = brk (J3 s k).2.1 ((K6 (S.tab n) r k (J3 s k).1 (IntKind.i64.wrap (((J3 s k).1.length : Int) - 1))).bind (A9 fun y13 => x4 (S.tab n) y13.1 y13.2.1)) (brk (J3 s k).2.2 (x4 (S.tab n) r k) (some (Sum.inl (([] : List Int), ())))) := fun n hr => by
  rw [ad2, l7 (isEmpty_cons s r), l7 (isEmpty_cons s r), l7 (isEmpty_cons s r), q8 (by show decide (s < 1000) = false; simp only [decide_eq_false_iff_not]; omega), l7 (isEmpty_cons s r), l7 (isEmpty_cons s r)]
  show (P6 (S.tab n) s k).bind _ = _
  rw [hr s k hs h0 h1, Option.bind_some]
  dsimp only
  rw [l7 (isEmpty_cons s r)]
  show brk _ (brk (!(s :: r).isEmpty) _ none) _ = _
  rw [l7 (isEmpty_cons s r), l7 (isEmpty_cons s r), l7 (isEmpty_cons s r)]
  rfl
 cases c1 : (J3 s k).2.1 with
 | true =>
  refine ((aX5.and (hy c1)).and (bs9 k (J3 s k).1 hlen (J3 s k).1.length r (Nat.le_refl _))).up fun n ⟨⟨hr, hX⟩, hp⟩ => ?_
  show x4 (S.step (S.tab n)) _ _ = _
  rw [start n hr, l7 c1, wrap64 _ (by omega) (by omega)]
  show (K6 (S.tab n) r k (J3 s k).1 (((J3 s k).1.length : Int) - 1)).bind _ = _
  rw [hp, Option.bind_some, List.take_length]
  exact hX
 | false =>
  cases c2 : (J3 s k).2.2 with
  | true =>
   refine (aX5.and (he c1 c2)).up fun n ⟨hr, hX⟩ => ?_
   show x4 (S.step (S.tab n)) _ _ = _
   rw [start n hr, q8 c1, l7 c2]
   exact hX
  | false =>
   refine aX5.up fun n hr => ?_
   show x4 (S.step (S.tab n)) _ _ = _
   rw [start n hr, q8 c1, q8 c2, hn c1 c2]
end Go.Abs.D
end

section
namespace Go.Abs.D
def bG2 : Nat → List Int → Int → Bool
 | 0, _, _ => false
 | _ + 1, [], _ => true
 | n + 1, s :: r, k => bif decide (s < 1000) then true else bif (J3 s k).2.1 then bG2 n ((J3 s k).1 ++ r) k else bif (J3 s k).2.2 then bG2 n r k else true
def bM5 (s : Int) : Bool := (decide (0 ≤ s) && decide (s ≤ 78)) || allI.contains s
theorem bw9 : (allI.all fun s => kinds.all fun k => bG2 9 [s] k) = true := by kernel_rfl
theorem bN6 : (allI.all fun s => kinds.all fun k => (J3 s k).1.all bM5 && decide ((J3 s k).1.length ≤ 100)) = true := by kernel_rfl
theorem bb8 {s : Int} (h : bM5 s = true) : okI s := by
 unfold bM5 at h
 simp only [Bool.or_eq_true, Bool.and_eq_true, decide_eq_true_eq, List.contains_iff_mem] at h
 exact h
theorem bF8 {s k : Int} (hs : s ∈ allI) (h0 : 0 ≤ k) (h1 : k ≤ 78) : (∀ x ∈ (J3 s k).1, okI x) ∧ (J3 s k).1.length ≤ 100 := by
 have := List.all_eq_true.1 (List.all_eq_true.1 bN6 s hs) k (P3 h0 h1)
 rw [Bool.and_eq_true, decide_eq_true_eq] at this
 exact ⟨fun x hx => bb8 (List.all_eq_true.1 this.1 x hx), this.2⟩
def bJ5 (o : Out) (c : List Int) : (List Int × Unit) ⊕ Unit ⊕ Empty := match o with
 | .no => Sum.inl ([], ())
 | .gone => Sum.inl ([], ())
 | .left l => Sum.inl (l ++ c, ())
theorem bA9 {s k : Int} (h : s < 1000) (r : List Int) (hr : r ≠ []) : Evt fun n => x4 (S.tab n) (s :: r) k = some (bif decide (s = k) then Sum.inl (r, ()) else Sum.inl ([], ())) := r8.up fun n _ => by
 show x4 (S.step (S.tab n)) _ _ = _
 rw [ad2, l7 (isEmpty_cons s r), l7 (isEmpty_cons s r), l7 (isEmpty_cons s r), l7 (by show decide (s < 1000) = true; exact decide_eq_true h), l7 (isEmpty_cons s r), l7 (isEmpty_cons s r)]
 show brk (decide (s = k)) _ _ = _
 by_cases e : s = k
 ·rw [l7 (decide_eq_true e), decide_eq_true e, l7 (isEmpty_cons s r), l7 (isEmpty_cons s r)]
  show brk r.isEmpty _ _ = _
  rw [q8 (by cases r with | nil => exact absurd rfl hr | cons a b => rfl), l7 (isEmpty_cons s r), l7 (isEmpty_cons s r)]; rfl
 ·rw [q8 (decide_eq_false e), decide_eq_false e]; rfl
theorem aW5 {k : Int} (h0 : 0 ≤ k) (h1 : k ≤ 78) {c : List Int} (hc : c ≠ []) {X : (List Int × Unit) ⊕ Unit ⊕ Empty} : ∀ (f : Nat) (l : List Int), (∀ s ∈ l, okI s) → bG2 f l k = true →
  (∀ l', aP4 f l k = .left l' → X = Sum.inl (l' ++ c, ())) → (aP4 f l k = .no → X = Sum.inl ([], ())) → (aP4 f l k = .gone → Evt fun n => x4 (S.tab n) c k = some X) → Evt fun n => x4 (S.tab n) (l ++ c) k = some X
 | 0, l, _, ht, _, _, _ => by cases ht
 | f + 1, [], _, _, _, _, hg => hg rfl
 | f + 1, s :: r, hs, ht, hl, hn, hg => by
  have hrest : ∀ x ∈ r, okI x := fun x hx => hs x (List.mem_cons_of_mem _ hx)
  unfold bG2 at ht
  unfold aP4 at hl hn hg
  by_cases hlt : s < 1000
  ·rw [decide_eq_true hlt] at hl hn hg
   simp only [cond_true] at hl hn hg
   have := bA9 (k := k) hlt (r ++ c) (by simp [hc])
   by_cases e : s = k
   ·rw [decide_eq_true e] at hl hn hg this
    rw [hl r rfl]
    exact this
   ·rw [decide_eq_false e] at hl hn hg this
    rw [hn rfl]
    exact this
  ·rw [decide_eq_false hlt] at ht hl hn hg
   simp only [cond_false] at ht hl hn hg
   have hsI : s ∈ allI := by
    rcases hs s (List.mem_cons_self ..) with h | h
    ·omega
    ·exact h
   obtain ⟨ro, rl⟩ := bF8 hsI h0 h1
   refine bm3 hsI h0 h1 (r ++ c) rl (fun e => ?_) (fun e e2 => ?_) (fun e e2 => ?_)
   ·rw [e] at ht hl hn hg
    rw [← List.append_assoc]
    exact aW5 h0 h1 hc f ((J3 s k).1 ++ r) (fun x hx => (List.mem_append.1 hx).elim (ro x) (hrest x)) ht hl hn hg
   ·rw [e, e2] at ht hl hn hg
    exact aW5 h0 h1 hc f r hrest ht hl hn hg
   ·rw [e, e2] at hl hn hg
    exact hn rfl
end Go.Abs.D
end

section
namespace Go.Abs.D
theorem bI0 {k : Int} (h : k ≠ 6) : Evt fun n => x4 (S.tab n) [6] k = some (Sum.inl ([], ())) := r8.up fun n _ => by
 show x4 (S.step (S.tab n)) _ _ = _
 rw [ad2, l7 (isEmpty_cons 6 []), l7 (isEmpty_cons 6 []), l7 (isEmpty_cons 6 []), l7 (by rfl), l7 (isEmpty_cons 6 []), l7 (isEmpty_cons 6 [])]
 show brk (decide ((6 : Int) = k)) _ _ = _
 rw [q8 (decide_eq_false (fun e => h e.symm))]
theorem bT2 {s k : Int} (hs : okI s) (h0 : 0 ≤ k) (h1 : k ≤ 78) : bG2 9 [s] k = true := by
 rcases hs with ⟨_, h⟩ | h
 ·unfold bG2
  rw [decide_eq_true (show s < 1000 by omega)]; rfl
 ·exact List.all_eq_true.1 (List.all_eq_true.1 bw9 s h) k (P3 h0 h1)
theorem bk9 {k : Int} (h0 : 0 ≤ k) (h1 : k ≤ 78) (h6 : k ≠ 6) : ∀ a : List Int, (∀ s ∈ a, okI s) → Evt fun n => x4 (S.tab n) (a ++ [6]) k = some (bJ5 (ae0 a k) [6])
 | [], _ => bI0 h6
 | s :: r, hs => by
  have hr : ∀ x ∈ r, okI x := fun x hx => hs x (List.mem_cons_of_mem _ hx)
  have ih := bk9 h0 h1 h6 r hr
  have hso := hs s (List.mem_cons_self ..)
  have e2 : ae0 (s :: r) k = (stI s k).then r (ae0 r k) := K8 stI s r k
  rw [e2]
  have run := aW5 (k := k) h0 h1 (c := r ++ [6]) (by simp) (X := bJ5 ((stI s k).then r (ae0 r k)) [6]) 9 [s] (fun x hx => by
   have : x = s := by simpa using hx
   subst this; exact hso) (bT2 hso h0 h1) (fun l' e => ?_) (fun e => ?_) (fun e => ?_)
  ·exact run
  ·have e : stI s k = .left l' := e
   rw [e]
   show Sum.inl ((l' ++ r) ++ [6], ()) = Sum.inl (l' ++ (r ++ [6]), ())
   rw [List.append_assoc]
  ·have e : stI s k = .no := e
   rw [e]; rfl
  ·have e : stI s k = .gone := e
   rw [e]
   exact ih
theorem aY9 {k : Int} (h0 : 0 ≤ k) (h1 : k ≤ 78) (h6 : k ≠ 6) (a : List Int) (ha : ∀ s ∈ a, okI s) : Evt fun n => Y6 (S.tab n) (a ++ [6]) k = some (match ae0 a k with | .left l => l ++ [6] | _ => [], ac8) :=
 (bk9 h0 h1 h6 a ha).up fun n h => by
  show Y6 (S.step (S.tab n)) _ _ = _
  rw [a56, h, Option.bind_some]
  cases ae0 a k <;> rfl
end Go.Abs.D
end

section
namespace Go.Abs.D
def isLeft : Out → Bool
 | .left _ => true
 | _ => false
def bg5 : Out → Bool
 | .gone => true
 | _ => false
theorem bS8 : (allI.all fun s => kinds.all fun k => bif (J3 s k).2.1 then isLeft (aP4 9 [s] k) else bif (J3 s k).2.2 then bg5 (aP4 9 [s] k) else decide (aP4 9 [s] k = .no)) = true := by kernel_rfl
def aZ0 (o : Out) (d : Bool) : Bool := match o with
 | .no => false
 | .gone => d
 | .left _ => true
theorem bo2 {k : Int} (h0 : 0 ≤ k) (h1 : k ≤ 78) : ∀ a : List Int, (∀ s ∈ a, okI s) → Evt fun n => T1 (S.tab n) (a ++ [6]) k = some (Sum.inl (aZ0 (ae0 a k) (decide (6 = k)), ()))
 | [], _ => r8.up fun n _ => by
  show T1 (S.step (S.tab n)) [6] _ = _
  rw [ah3, l7 (isEmpty_cons 6 []), l7 (isEmpty_cons 6 []), l7 (isEmpty_cons 6 []), l7 (by rfl), l7 (isEmpty_cons 6 []), l7 (isEmpty_cons 6 [])]; rfl
 | s :: r, hs => by
  have hr : ∀ x ∈ r, okI x := fun x hx => hs x (List.mem_cons_of_mem _ hx)
  have ih := bo2 h0 h1 r hr
  have e2 : ae0 (s :: r) k = (stI s k).then r (ae0 r k) := K8 stI s r k
  rw [e2, List.cons_append]
  rcases hs s (List.mem_cons_self ..) with h | h
  ·refine r8.up fun n _ => ?_
   show T1 (S.step (S.tab n)) _ _ = _
   rw [ah3, l7 (isEmpty_cons s (r ++ [6])), l7 (isEmpty_cons s (r ++ [6])), l7 (isEmpty_cons s (r ++ [6])), l7 (by show decide (s < 1000) = true; simp only [decide_eq_true_eq]; omega), l7 (isEmpty_cons s (r ++ [6])), l7 (isEmpty_cons s (r ++ [6])), a17 h.2]
   show some (Sum.inl (decide (s = k), ())) = _
   cases decide (s = k) <;> rfl
  ·have y := List.all_eq_true.1 (List.all_eq_true.1 bS8 s h) k (P3 h0 h1)
   have hge : 1000 ≤ s := by
    unfold allI at h
    obtain ⟨n, _, rfl⟩ := List.mem_map.1 h
    omega
   refine (ih.and aX5).up fun n ⟨ih, hrule⟩ => ?_
   show T1 (S.step (S.tab n)) _ _ = _
   rw [ah3, l7 (isEmpty_cons s (r ++ [6])), l7 (isEmpty_cons s (r ++ [6])), l7 (isEmpty_cons s (r ++ [6])), q8 (by show decide (s < 1000) = false; simp only [decide_eq_false_iff_not]; omega), l7 (isEmpty_cons s (r ++ [6])), l7 (isEmpty_cons s (r ++ [6]))]
   show (P6 (S.tab n) s k).bind _ = _
   rw [hrule s k h h0 h1, Option.bind_some]
   dsimp only
   have e9 : stI s k = aP4 9 [s] k := rfl
   rw [e9]
   cases c1 : (J3 s k).2.1 with
   | true =>
    rw [c1] at y
    rw [l7 (by rfl)]
    cases ho : aP4 9 [s] k with
    | left l => rfl
    | no => rw [ho] at y; cases y
    | gone => rw [ho] at y; cases y
   | false =>
    rw [c1] at y
    cases c2 : (J3 s k).2.2 with
    | true =>
     rw [c2] at y
     rw [q8 (by rfl), q8 (by rfl), l7 (isEmpty_cons s (r ++ [6])), l7 (isEmpty_cons s (r ++ [6]))]
     cases ho : aP4 9 [s] k with
     | gone => exact ih
     | no => rw [ho] at y; cases y
     | left l => rw [ho] at y; cases y
    | false =>
     rw [c2] at y
     rw [q8 (by rfl), l7 (by rfl)]
     cases ho : aP4 9 [s] k with
     | no => rfl
     | gone => rw [ho] at y; cases y
     | left l => rw [ho] at y; cases y
theorem a38 {k : Int} (h0 : 0 ≤ k) (h1 : k ≤ 78) (a : List Int) (ha : ∀ s ∈ a, okI s) : Evt fun n => O5 (S.tab n) (a ++ [6]) k = some (aZ0 (ae0 a k) (decide (6 = k)), U2) :=
 (bo2 h0 h1 a ha).up fun n h => by
  show O5 (S.step (S.tab n)) _ _ = _
  rw [bd2, h]; rfl
end Go.Abs.D
end

section
namespace Go.Abs.D
abbrev Cls : Type := List O4.den
def Reads (cs : Cls) : Int → List Int → Prop
 | top, [] => top = -1
 | top, s :: l => ∃ (i : Nat) (b : Int), top = (i : Int) ∧ cs[i]? = some (s, b, ()) ∧ Reads cs b l
theorem Reads.mono {cs ds : Cls} : ∀ {l : List Int} {top : Int}, Reads cs top l → Reads (cs ++ ds) top l
 | [], _, h => h
 | s :: l, _, ⟨i, b, e, h, hr⟩ => ⟨i, b, e, by
   have hi := (List.getElem?_eq_some_iff.1 h).1
   rw [List.getElem?_append_left hi]; exact h, hr.mono⟩
theorem Reads.push {cs : Cls} {l : List Int} {top : Int} (h : Reads cs top l) (s : Int) : Reads (cs ++ [(s, top, ())]) (cs.length : Int) (s :: l) :=
 ⟨cs.length, top, rfl, by simp, h.mono⟩
theorem aY4 (cs : Cls) (hl : cs.length ≤ 2000000) (top s : Int) : Evt fun n => N6 (S.tab n) (cs, ()) top s = some ((cs.length : Int), (cs ++ [(s, top, ())], ()), (), (), ()) := r8.up fun n _ => by
 show N6 (S.step (S.tab n)) _ _ _ = _
 rw [aH2]
 dsimp only
 rw [l7 (Z1 (by unfold lim; simp; omega)), wrap64 _ (by simp) (by simp; omega)]
 simp
end Go.Abs.D
end

section
namespace Go.Abs.D
theorem a88 (k : Int) (row : List Int) (hrow : row.length ≤ 100) : ∀ (m : Nat) (cs : Cls) (top : Int) (l : List Int), m ≤ row.length → Reads cs top l → cs.length + m ≤ 2000000 →
  ∃ (ds : Cls) (top' : Int), ds.length = m ∧ Reads (cs ++ ds) top' (row.take m ++ l) ∧ Evt fun n => G0 (S.tab n) (cs, ()) top k row ((m : Int) - 1) = some (Sum.inl ((cs ++ ds, ()), top', k, ()))
 | 0, cs, top, l, hm, hr, _ => ⟨[], top, rfl, by rw [List.append_nil]; exact hr, r8.up fun n _ => by
  show G0 (S.step (S.tab n)) _ _ _ _ _ = _
  rw [aa0, q8 (by decide), List.append_nil]⟩
 | m + 1, cs, top, l, hm, hr, hl => by
  have hml : m < row.length := by omega
  obtain ⟨ds, top', hd, hR, hE⟩ := a88 k row hrow m (cs ++ [(row[m], top, ())]) (cs.length : Int) (row[m] :: l) (by omega) (hr.push row[m]) (by simp; omega)
  have e0 : ((m + 1 : Nat) : Int) - 1 = (m : Int) := by omega
  have hg : row.getD (m : Int).toNat 0 = row[m] := by rw [Int.toNat_natCast, List.getD_eq_getElem?_getD, List.getElem?_eq_getElem hml]; rfl
  refine ⟨(row[m], top, ()) :: ds, top', by simp [hd], ?_, ?_⟩
  ·have e : cs ++ (row[m], top, ()) :: ds = cs ++ [(row[m], top, ())] ++ ds := by rw [List.append_assoc]; rfl
   have e' : row.take (m + 1) ++ l = row.take m ++ row[m] :: l := by rw [List.take_succ_eq_append_getElem hml, List.append_assoc]; rfl
   rw [e, e']; exact hR
  ·refine (hE.and (aY4 cs (by omega) top row[m])).up fun n ⟨h, hp⟩ => ?_
   show G0 (S.step (S.tab n)) _ _ _ _ _ = _
   rw [e0, aa0, l7 (by simp only [decide_eq_true_eq]; omega), l7 (n8 hml), hg, hp, Option.bind_some, wrap64 _ (by omega) (by omega)]
   dsimp only
   rw [h, List.append_assoc]; rfl
def bI7 : Nat → List Int → Int → Bool
 | 0, _, _ => false
 | _ + 1, [], _ => true
 | n + 1, s :: r, k => bif decide (s < 100) then true else bif (aB4 s k).2 then bI7 n ((aB4 s k).1 ++ r) k else true
def bw5 : Nat → List Int → Int → Nat
 | 0, _, _ => 0
 | _ + 1, [], _ => 0
 | n + 1, s :: r, k => bif decide (s < 100) then 0 else bif (aB4 s k).2 then (aB4 s k).1.length + bw5 n ((aB4 s k).1 ++ r) k else 0
def bN0 (s : Int) : Bool := (decide (0 ≤ s) && decide (s ≤ 78)) || a25.contains s
theorem by5 : (a25.all fun s => kinds.all fun k => bI7 9 [s] k) = true := by kernel_rfl
theorem bB5 : (a25.all fun s => kinds.all fun k => decide (bw5 9 [s] k ≤ 20) && (bif decide (aT3 9 [s] k = .gone) then decide (bw5 9 [s] k = 0) else true)) = true := by kernel_rfl
theorem bN9 : (a25.all fun s => kinds.all fun k => (aB4 s k).1.all bN0 && decide ((aB4 s k).1.length ≤ 100)) = true := by kernel_rfl
theorem br1 {s : Int} (h : bN0 s = true) : okS s := by
 unfold bN0 at h
 simp only [Bool.or_eq_true, Bool.and_eq_true, decide_eq_true_eq, List.contains_iff_mem] at h
 exact h
theorem bx0 {s k : Int} (hs : s ∈ a25) (h0 : 0 ≤ k) (h1 : k ≤ 78) : (∀ x ∈ (aB4 s k).1, okS x) ∧ (aB4 s k).1.length ≤ 100 := by
 have := List.all_eq_true.1 (List.all_eq_true.1 bN9 s hs) k (P3 h0 h1)
 rw [Bool.and_eq_true, decide_eq_true_eq] at this
 exact ⟨fun x hx => br1 (List.all_eq_true.1 this.1 x hx), this.2⟩
theorem bj4 {cs : Cls} {top s : Int} {r : List Int} (h : Reads cs top (s :: r)) : decide (0 ≤ top) = true ∧ (decide (0 ≤ top) && decide (top < (cs.length : Int))) = true ∧ ∃ b : Int, at_ (τ := O4) cs top = (s, b, ()) ∧ Reads cs b r := by
 obtain ⟨i, b, rfl, hi, hr⟩ := h
 have hl := (List.getElem?_eq_some_iff.1 hi).1
 refine ⟨by simp, n8 hl, b, ?_, hr⟩
 unfold at_
 rw [Int.toNat_natCast, List.getD_eq_getElem?_getD, hi]; rfl
def by6 (cs : Cls) (top k : Int) (y : (List O4.den × Unit) × Int × Bool × Unit) : Prop := Evt fun n => u9 (S.tab n) (cs, ()) top k = some (Sum.inl y)
theorem bi5 {k : Int} (h0 : 0 ≤ k) (h1 : k ≤ 78) {c : List Int} : ∀ (f : Nat) (l : List Int) (cs : Cls) (top : Int), (∀ s ∈ l, okS s) → bI7 f l k = true → Reads cs top (l ++ c) → cs.length + bw5 f l k ≤ 2000000 →
  ∃ ds : Cls, ds.length ≤ bw5 f l k ∧
   (∀ l', aT3 f l k = .left l' → ∃ top', Reads (cs ++ ds) top' (l' ++ c) ∧ by6 cs top k ((cs ++ ds, ()), top', true, ())) ∧
   (aT3 f l k = .no → ∃ top', by6 cs top k ((cs ++ ds, ()), top', false, ())) ∧
   (aT3 f l k = .gone → ∃ top', Reads (cs ++ ds) top' c ∧ ∀ X, (Evt fun n => u9 (S.tab n) (cs ++ ds, ()) top' k = some X) → Evt fun n => u9 (S.tab n) (cs, ()) top k = some X)
 | 0, l, _, _, _, ht, _, _ => by cases ht
 | f + 1, [], cs, top, _, _, hr, _ => ⟨[], Nat.zero_le _, fun _ e => (by cases e), fun e => (by cases e), fun _ => ⟨top, by rw [List.append_nil]; exact hr, fun X h => by rw [List.append_nil] at h; exact h⟩⟩
 | f + 1, s :: r, cs, top, hs, ht, hr, hl => by
  have hrest : ∀ x ∈ r, okS x := fun x hx => hs x (List.mem_cons_of_mem _ hx)
  obtain ⟨d0, d1, b, hb, hrb⟩ := bj4 (s := s) (r := r ++ c) hr
  unfold bI7 at ht
  unfold bw5 at hl ⊢
  unfold aT3
  by_cases hlt : s < 100
  ·rw [decide_eq_true hlt] at hl ⊢
   simp only [cond_true]
   have hE : by6 cs top k ((cs, ()), b, decide (s = k), ()) := r8.up fun n _ => by
    show u9 (S.step (S.tab n)) _ _ _ = _
    rw [T4, l7 d0, l7 d1, hb, l7 (decide_eq_true hlt)]
   refine ⟨[], Nat.zero_le _, ?_⟩
   rw [List.append_nil]
   by_cases e : s = k
   ·rw [decide_eq_true e] at hE ⊢
    refine ⟨fun l' e' => ?_, fun e' => (by cases e'), fun e' => (by cases e')⟩
    injection e' with e'
    subst e'
    exact ⟨b, hrb, hE⟩
   ·rw [decide_eq_false e] at hE ⊢
    exact ⟨fun l' e' => (by cases e'), fun _ => ⟨b, hE⟩, fun e' => (by cases e')⟩
  ·rw [decide_eq_false hlt] at ht hl ⊢
   simp only [cond_false] at ht hl ⊢
   have hsS : s ∈ a25 := by
    rcases hs s (List.mem_cons_self ..) with h | h
    ·omega
    ·exact h
   obtain ⟨ro, rl⟩ := bx0 hsS h0 h1
   have start : ∀ n, (∀ s k : Int, s ∈ a25 → 0 ≤ k → k ≤ 78 → I6 (S.tab n) s k = some (((aB4 s k).1, (aB4 s k).2, ()), b9)) → u9 (S.step (S.tab n)) (cs, ()) top k = brk (!(aB4 s k).2) (some (Sum.inl ((cs, ()), b, false, ()))) ((G0 (S.tab n) (cs, ()) b k (aB4 s k).1 (IntKind.i64.wrap (((aB4 s k).1.length : Int) - 1))).bind (A9 fun y10 => u9 (S.tab n) y10.1 y10.2.1 y10.2.2.1)) := fun n hx => by
    rw [T4, l7 d0, l7 d1, hb, q8 (decide_eq_false hlt)]
    show (I6 (S.tab n) s k).bind _ = _
    rw [hx s k hsS h0 h1, Option.bind_some]
   cases c1 : (aB4 s k).2 with
   | false =>
    refine ⟨[], Nat.zero_le _, fun l' e' => (by cases e'), fun _ => ⟨b, ?_⟩, fun e' => (by cases e')⟩
    rw [List.append_nil]
    refine a42.up fun n hx => ?_
    show u9 (S.step (S.tab n)) _ _ _ = _
    rw [start n hx, c1, l7 (by rfl)]
   | true =>
    rw [c1] at ht hl
    simp only [cond_true] at ht hl ⊢
    obtain ⟨ds, top1, hd, hR, hE⟩ := a88 k (aB4 s k).1 rl (aB4 s k).1.length cs b (r ++ c) (Nat.le_refl _) hrb (by omega)
    rw [List.take_length, ← List.append_assoc] at hR
    obtain ⟨es, he, a1, a2, a3⟩ := bi5 h0 h1 f ((aB4 s k).1 ++ r) (cs ++ ds) top1 (fun x hx => (List.mem_append.1 hx).elim (ro x) (hrest x)) ht hR (by simp; omega)
    have pass : ∀ X, (Evt fun n => u9 (S.tab n) (cs ++ ds, ()) top1 k = some X) → Evt fun n => u9 (S.tab n) (cs, ()) top k = some X := fun X h => by
     refine ((a42.and h).and hE).up fun n ⟨⟨hx, h⟩, hE⟩ => ?_
     show u9 (S.step (S.tab n)) _ _ _ = _
     rw [start n hx, c1, q8 (by rfl), wrap64 _ (by omega) (by omega), hE, Option.bind_some]
     exact h
    refine ⟨ds ++ es, by simp; omega, ?_⟩
    rw [← List.append_assoc]
    refine ⟨fun l' e' => ?_, fun e' => ?_, fun e' => ?_⟩
    ·obtain ⟨t, h, hF⟩ := a1 l' e'
     exact ⟨t, h, pass _ hF⟩
    ·obtain ⟨t, hF⟩ := a2 e'
     exact ⟨t, pass _ hF⟩
    ·obtain ⟨t, h, hF⟩ := a3 e'
     exact ⟨t, h, fun X hX => pass _ (hF X hX)⟩
theorem bQ0 {s k : Int} (hs : okS s) (h0 : 0 ≤ k) (h1 : k ≤ 78) : bI7 9 [s] k = true ∧ bw5 9 [s] k ≤ 20 ∧ (stS s k = .gone → bw5 9 [s] k = 0) := by
 rcases hs with ⟨_, h⟩ | h
 ·refine ⟨by unfold bI7; rw [decide_eq_true (show s < 100 by omega)]; rfl, by unfold bw5; rw [decide_eq_true (show s < 100 by omega)]; exact Nat.zero_le _, fun _ => by unfold bw5; rw [decide_eq_true (show s < 100 by omega)]; rfl⟩
 ·have := List.all_eq_true.1 (List.all_eq_true.1 bB5 s h) k (P3 h0 h1)
  rw [Bool.and_eq_true, decide_eq_true_eq] at this
  refine ⟨List.all_eq_true.1 (List.all_eq_true.1 by5 s h) k (P3 h0 h1), this.1, fun e => ?_⟩
  have e : aT3 9 [s] k = .gone := e
  rw [decide_eq_true e] at this
  exact of_decide_eq_true this.2
theorem bg1 {k : Int} (h0 : 0 ≤ k) (h1 : k ≤ 78) (cs : Cls) (hl : cs.length ≤ 1999900) : ∀ (b : List Int) (top : Int), (∀ s ∈ b, okS s) → Reads cs top (b ++ [6]) →
  ∃ (ds : Cls) (top' : Int), ds.length ≤ 20 ∧ (∀ l, av3 b k = .left l → Reads (cs ++ ds) top' (l ++ [6])) ∧ by6 cs top k ((cs ++ ds, ()), top', aZ0 (av3 b k) (decide (6 = k)), ())
 | [], top, _, hr => by
  obtain ⟨d0, d1, b, hb, hrb⟩ := bj4 (s := 6) (r := []) hr
  refine ⟨[], b, Nat.zero_le _, fun l e => (by cases e), ?_⟩
  rw [List.append_nil]
  refine r8.up fun n _ => ?_
  show u9 (S.step (S.tab n)) _ _ _ = _
  rw [T4, l7 d0, l7 d1, hb, l7 (by rfl)]; rfl
 | s :: r, top, hs, hr => by
  have hrest : ∀ x ∈ r, okS x := fun x hx => hs x (List.mem_cons_of_mem _ hx)
  have hso := hs s (List.mem_cons_self ..)
  have e2 : av3 (s :: r) k = (stS s k).then r (av3 r k) := K8 stS s r k
  obtain ⟨t1, t2, t3⟩ := bQ0 hso h0 h1
  obtain ⟨ds, hd, a1, a2, a3⟩ := bi5 h0 h1 (c := r ++ [6]) 9 [s] cs top (fun x hx => by
   have : x = s := by simpa using hx
   subst this; exact hso) t1 hr (by omega)
  rw [e2]
  cases ho : stS s k with
  | left l =>
   obtain ⟨t, h, hF⟩ := a1 l ho
   refine ⟨ds, t, by omega, fun l' e => ?_, hF⟩
   injection e with e
   subst e
   rw [List.append_assoc]; exact h
  | no =>
   obtain ⟨t, hF⟩ := a2 ho
   exact ⟨ds, t, by omega, fun l' e => (by cases e), hF⟩
  | gone =>
   obtain ⟨t, h, hF⟩ := a3 ho
   have hd0 : ds = [] := List.length_eq_zero_iff.1 (by have := t3 ho; omega)
   subst hd0
   rw [List.append_nil] at h
   obtain ⟨es, t', he, b1, b2⟩ := bg1 h0 h1 cs hl r t hrest h
   exact ⟨es, t', he, b1, hF _ (by rw [List.append_nil]; exact b2)⟩
theorem aX2 {k : Int} (h0 : 0 ≤ k) (h1 : k ≤ 78) (cs : Cls) (hl : cs.length ≤ 1999900) (b : List Int) (top : Int) (hs : ∀ s ∈ b, okS s) (hr : Reads cs top (b ++ [6])) :
  ∃ (ds : Cls) (top' : Int), ds.length ≤ 20 ∧ (∀ l, av3 b k = .left l → Reads (cs ++ ds) top' (l ++ [6])) ∧ Evt fun n => Q5 (S.tab n) (cs, ()) top k = some ((top', aZ0 (av3 b k) (decide (6 = k)), ()), (cs ++ ds, ()), (), (), ()) := by
 obtain ⟨ds, t, hd, h, hF⟩ := bg1 h0 h1 cs hl b top hs hr
 refine ⟨ds, t, hd, h, hF.up fun n h => ?_⟩
 show Q5 (S.step (S.tab n)) _ _ _ = _
 rw [aG4, h]; rfl
end Go.Abs.D
end

section
namespace Go.Abs.D
def bL8 (s : Int) : Bool := bN0 s && !(decide (s = 2) || decide (s = 3) || decide (s = 7))
def bt2 (p : Int → Bool) : Out → Bool
 | .left l => l.all p
 | _ => true
theorem bO6 : (allI.all fun s => kinds.all fun k => bt2 bM5 (aP4 9 [s] k)) = true := by kernel_rfl
theorem bQ3 : (a25.all fun s => kinds.all fun k => bt2 bL8 (aT3 9 [s] k)) = true := by kernel_rfl
theorem bS9 : (a25.all fun s => !isLeft (aT3 9 [s] 7)) = true := by kernel_rfl
theorem bT1 : (a25.all fun s => (isLeft (aT3 9 [s] 2) == isLeft (aT3 9 [s] 3)) && (bg5 (aT3 9 [s] 2) == bg5 (aT3 9 [s] 3))) = true := by kernel_rfl
def gdI (a : List Int) : Prop := ∀ s ∈ a, okI s
def gdS (b : List Int) : Prop := ∀ s ∈ b, bL8 s = true
theorem aW2 {s : Int} (h : bL8 s = true) : okS s ∧ s ≠ 2 ∧ s ≠ 3 ∧ s ≠ 7 := by
 unfold bL8 at h
 simp only [Bool.and_eq_true, Bool.not_eq_true', Bool.or_eq_false_iff, decide_eq_false_iff_not] at h
 exact ⟨br1 h.1, h.2.1.1, h.2.1.2, h.2.2⟩
theorem gdS.ok {b : List Int} (h : gdS b) : ∀ s ∈ b, okS s := fun s hs => (aW2 (h s hs)).1
theorem bh7 {k : Int} (h0 : 0 ≤ k) (h1 : k ≤ 78) : ∀ {a l : List Int}, gdI a → ae0 a k = .left l → gdI l
 | [], l, _, e => by cases e
 | s :: r, l, h, e => by
  have hr : gdI r := fun x hx => h x (List.mem_cons_of_mem _ hx)
  have e2 : ae0 (s :: r) k = (stI s k).then r (ae0 r k) := K8 stI s r k
  rw [e2] at e
  have hs : ∀ l', stI s k = .left l' → gdI l' := fun l' e' x hx => by
   rcases h s (List.mem_cons_self ..) with ⟨_, h⟩ | h
   ·rw [a17 h] at e'
    cases hd : decide (s = k) with
    | true => rw [hd] at e'; injection e' with e'; subst e'; cases hx
    | false => rw [hd] at e'; cases e'
   ·have := List.all_eq_true.1 (List.all_eq_true.1 bO6 s h) k (P3 h0 h1)
    have e' : aP4 9 [s] k = .left l' := e'
    rw [e'] at this
    exact bb8 (List.all_eq_true.1 this x hx)
  cases ho : stI s k with
  | no => rw [ho] at e; cases e
  | gone => rw [ho] at e; exact bh7 h0 h1 hr e
  | left l' =>
   rw [ho] at e
   injection e with e
   subst e
   exact fun x hx => (List.mem_append.1 hx).elim (hs l' ho x) (hr x)
theorem bi2 {k : Int} (h0 : 0 ≤ k) (h1 : k ≤ 78) : ∀ {b l : List Int}, gdS b → av3 b k = .left l → gdS l
 | [], l, _, e => by cases e
 | s :: r, l, h, e => by
  have hr : gdS r := fun x hx => h x (List.mem_cons_of_mem _ hx)
  have e2 : av3 (s :: r) k = (stS s k).then r (av3 r k) := K8 stS s r k
  rw [e2] at e
  have hs : ∀ l', stS s k = .left l' → gdS l' := fun l' e' x hx => by
   rcases (aW2 (h s (List.mem_cons_self ..))).1 with ⟨_, h⟩ | h
   ·rw [aO3 h] at e'
    cases hd : decide (s = k) with
    | true => rw [hd] at e'; injection e' with e'; subst e'; cases hx
    | false => rw [hd] at e'; cases e'
   ·have := List.all_eq_true.1 (List.all_eq_true.1 bQ3 s h) k (P3 h0 h1)
    have e' : aT3 9 [s] k = .left l' := e'
    rw [e'] at this
    exact List.all_eq_true.1 this x hx
  cases ho : stS s k with
  | no => rw [ho] at e; cases e
  | gone => rw [ho] at e; exact bi2 h0 h1 hr e
  | left l' =>
   rw [ho] at e
   injection e with e
   subst e
   exact fun x hx => (List.mem_append.1 hx).elim (hs l' ho x) (hr x)
theorem bh0 : ∀ {b : List Int}, gdS b → isLeft (av3 b 7) = false
 | [], _ => rfl
 | s :: r, h => by
  have hr : gdS r := fun x hx => h x (List.mem_cons_of_mem _ hx)
  have e2 : av3 (s :: r) 7 = (stS s 7).then r (av3 r 7) := K8 stS s r 7
  obtain ⟨hs, _, _, h7⟩ := aW2 (h s (List.mem_cons_self ..))
  rw [e2]
  rcases hs with ⟨_, h⟩ | h
  ·rw [aO3 h, decide_eq_false h7]; rfl
  ·have := List.all_eq_true.1 bS9 s h
   have e : aT3 9 [s] 7 = stS s 7 := rfl
   rw [e] at this
   cases ho : stS s 7 with
   | no => rfl
   | gone => exact bh0 hr
   | left l => rw [ho] at this; cases this
theorem aM8 : ∀ {b : List Int}, gdS b → aZ0 (av3 b 2) false = aZ0 (av3 b 3) false
 | [], _ => rfl
 | s :: r, h => by
  have hr : gdS r := fun x hx => h x (List.mem_cons_of_mem _ hx)
  have ih := aM8 hr
  have e2 : av3 (s :: r) 2 = (stS s 2).then r (av3 r 2) := K8 stS s r 2
  have e3 : av3 (s :: r) 3 = (stS s 3).then r (av3 r 3) := K8 stS s r 3
  obtain ⟨hs, h2, h3, _⟩ := aW2 (h s (List.mem_cons_self ..))
  rw [e2, e3]
  rcases hs with ⟨_, h⟩ | h
  ·rw [aO3 h, aO3 h, decide_eq_false h2, decide_eq_false h3]; rfl
  ·have := List.all_eq_true.1 bT1 s h
   have e : aT3 9 [s] 2 = stS s 2 := rfl
   have e' : aT3 9 [s] 3 = stS s 3 := rfl
   rw [e, e'] at this
   cases ho : stS s 2 <;> cases ho' : stS s 3 <;> rw [ho, ho'] at this <;> first | rfl | exact ih | (simp [isLeft, bg5] at this)
def aJ2 (a : List Int) (k : Int) : Bool := aZ0 (ae0 a k) (decide (6 = k))
def Y9 (b : List Int) (k : Int) : Bool := aZ0 (av3 b k) (decide (6 = k))
theorem bh2 (f : List Int → List Int) (o : Out) (d : Bool) : aZ0 (o.map f) d = aZ0 o d := by cases o <;> rfl
theorem a19 {a b : List Int} (ha : gdI a) (hb : gdS b) (h : NI a = NS b) {k : Int} (h0 : 0 ≤ k) (h1 : k ≤ 78) : aJ2 a k = Y9 b k := by
 unfold aJ2 Y9
 rw [← bh2 NI (ae0 a k), ← bh2 NS (av3 b k), bi3 h0 h1 ha hb.ok h]
theorem a58 {a b : List Int} (ha : gdI a) (hb : gdS b) (h : NI a = NS b) {k : Int} (h0 : 0 ≤ k) (h1 : k ≤ 78) (h6 : k ≠ 6) (hc : aJ2 a k = true) : ∃ l m, ae0 a k = .left l ∧ av3 b k = .left m ∧ gdI l ∧ gdS m ∧ NI l = NS m := by
 have hs := bi3 h0 h1 ha hb.ok h
 unfold aJ2 at hc
 rw [decide_eq_false (fun e => h6 e.symm)] at hc
 cases ho : ae0 a k with
 | no => rw [ho] at hc; cases hc
 | gone => rw [ho] at hc; cases hc
 | left l =>
  rw [ho] at hs
  cases ho' : av3 b k with
  | no => rw [ho'] at hs; cases hs
  | gone => rw [ho'] at hs; cases hs
  | left m =>
   rw [ho'] at hs
   injection hs with hs
   exact ⟨l, m, rfl, rfl, bh7 h0 h1 ha ho, bi2 h0 h1 hb ho', hs⟩
def pick (p : Int → Bool) : Nat → List Int
 | 0 => []
 | m + 1 => (bif p ((78 - m : Nat) : Int) then [((78 - m : Nat) : Int)] else []) ++ pick p m
theorem aT2 {p q : Int → Bool} (h : ∀ k : Int, 1 ≤ k → k ≤ 78 → p k = q k) : ∀ m : Nat, m ≤ 78 → pick p m = pick q m
 | 0, _ => rfl
 | m + 1, hm => by
  unfold pick
  rw [h _ (by omega) (by omega), aT2 h m (by omega)]
theorem a10 {p : Int → Bool} : ∀ {m : Nat} {k : Int}, k ∈ pick p m → p k = true ∧ k ≤ 78
 | 0, k, h => by cases h
 | m + 1, k, h => by
  unfold pick at h
  rcases List.mem_append.1 h with h | h
  ·cases hp : p ((78 - m : Nat) : Int) with
   | true =>
    rw [hp] at h
    have : k = ((78 - m : Nat) : Int) := by simpa using h
    rw [this]; exact ⟨hp, by omega⟩
   | false => rw [hp] at h; cases h
  ·exact a10 h
theorem a22 {p : Int → Bool} : ∀ {m : Nat} {k : Int}, m ≤ 78 → (79 : Int) - (m : Int) ≤ k → k ≤ 78 → p k = true → k ∈ pick p m
 | 0, k, _, h, h', _ => by omega
 | m + 1, k, hm, h, h', hp => by
  unfold pick
  by_cases e : k = ((78 - m : Nat) : Int)
  ·rw [← e, hp]; exact List.mem_append_left _ (List.mem_singleton.2 rfl)
  ·exact List.mem_append_right _ (a22 (by omega) (by omega) h' hp)
theorem a18 {p : Int → Bool} : ∀ m : Nat, (pick p m).length ≤ m
 | 0 => Nat.le_refl _
 | m + 1 => by
  unfold pick
  have := a18 (p := p) m
  cases p ((78 - m : Nat) : Int) <;> simp <;> omega
theorem aY8 (a : List Int) (ha : gdI a) : ∀ (m : Nat) (acc : List Int), m ≤ 78 → acc.length + m ≤ 100 → Evt fun n => H2 (S.tab n) (a ++ [6]) acc ((79 - m : Nat) : Int) = some (Sum.inl (acc ++ pick (fun k => !decide (k = 7) && aJ2 a k) m, ()))
 | 0, acc, _, _ => r8.up fun n _ => by
  show H2 (S.step (S.tab n)) _ _ _ = _
  rw [V5, q8 (by decide)]
  show _ = some (Sum.inl (acc ++ [], ()))
  rw [List.append_nil]
 | m + 1, acc, hm, hl => by
  have e : (79 - (m + 1) : Nat) = 78 - m := by omega
  have w : IntKind.i64.wrap (((78 - m : Nat) : Int) + 1) = ((79 - m : Nat) : Int) := by rw [wrap64 _ (by omega) (by omega)]; omega
  have d : decide (((78 - m : Nat) : Int) ≤ 78) = true := by simp only [decide_eq_true_eq]; omega
  rw [e]
  unfold pick
  by_cases h7 : ((78 - m : Nat) : Int) = 7
  ·refine (aY8 a ha m acc (by omega) (by omega)).up fun n h => ?_
   show H2 (S.step (S.tab n)) _ _ _ = _
   rw [V5, l7 d, q8 (by rw [decide_eq_true h7]; rfl), w, h, decide_eq_true h7]; rfl
  ·have hc := a38 (k := ((78 - m : Nat) : Int)) (by omega) (by omega) a ha
   have hk : aZ0 (ae0 a ((78 - m : Nat) : Int)) (decide ((6 : Int) = ((78 - m : Nat) : Int))) = aJ2 a ((78 - m : Nat) : Int) := rfl
   rw [hk] at hc
   rw [decide_eq_false h7]
   cases hci : aJ2 a ((78 - m : Nat) : Int) with
   | true =>
    rw [hci] at hc
    refine ((aY8 a ha m (acc ++ [((78 - m : Nat) : Int)]) (by omega) (by simp; omega)).and hc).up fun n ⟨h, hc⟩ => ?_
    show H2 (S.step (S.tab n)) _ _ _ = _
    rw [V5, l7 d, l7 (by rw [decide_eq_false h7]; rfl), hc, Option.bind_some, l7 (by rfl), l7 (Z1 (by unfold lim; simp; omega)), w, h, List.append_assoc]; rfl
   | false =>
    rw [hci] at hc
    refine ((aY8 a ha m acc (by omega) (by omega)).and hc).up fun n ⟨h, hc⟩ => ?_
    show H2 (S.step (S.tab n)) _ _ _ = _
    rw [V5, l7 d, l7 (by rw [decide_eq_false h7]; rfl), hc, Option.bind_some, q8 (by rfl), w, h]; rfl
theorem bt1 (cs : Cls) (hcl : cs.length ≤ 1999900) (b : List Int) (top : Int) (hb : gdS b) (hr : Reads cs top (b ++ [6])) : ∀ (m : Nat) (acc : List Int), m ≤ 78 → acc.length + m ≤ 100 → Evt fun n => E2 (S.tab n) (cs, ()) top acc (cs.length : Int) ((79 - m : Nat) : Int) = some (Sum.inl ((cs, ()), acc ++ pick (Y9 b) m, ()))
 | 0, acc, _, _ => r8.up fun n _ => by
  show E2 (S.step (S.tab n)) _ _ _ _ _ = _
  rw [V8, q8 (by decide)]
  show _ = some (Sum.inl ((cs, ()), acc ++ [], ()))
  rw [List.append_nil]
 | m + 1, acc, hm, hl => by
  have e : (79 - (m + 1) : Nat) = 78 - m := by omega
  have w : IntKind.i64.wrap (((78 - m : Nat) : Int) + 1) = ((79 - m : Nat) : Int) := by rw [wrap64 _ (by omega) (by omega)]; omega
  have d : decide (((78 - m : Nat) : Int) ≤ 78) = true := by simp only [decide_eq_true_eq]; omega
  rw [e]
  unfold pick
  obtain ⟨ds, top', hd, _, hF⟩ := aX2 (k := ((78 - m : Nat) : Int)) (by omega) (by omega) cs hcl b top hb.ok hr
  have hk : aZ0 (av3 b ((78 - m : Nat) : Int)) (decide ((6 : Int) = ((78 - m : Nat) : Int))) = Y9 b ((78 - m : Nat) : Int) := rfl
  rw [hk] at hF
  have hbo : bounds (cs ++ ds).length 0 (cs.length : Int) = true := F0 (i := 0) (Nat.zero_le _) (by simp)
  have htk : (cs ++ ds).take (cs.length : Int).toNat = cs := by rw [Int.toNat_natCast, List.take_left]
  cases hci : Y9 b ((78 - m : Nat) : Int) with
  | true =>
   rw [hci] at hF
   refine ((bt1 cs hcl b top hb hr m (acc ++ [((78 - m : Nat) : Int)]) (by omega) (by simp; omega)).and hF).up fun n ⟨h, hc⟩ => ?_
   show E2 (S.step (S.tab n)) _ _ _ _ _ = _
   rw [V8, l7 d, hc, Option.bind_some]
   dsimp only
   rw [l7 hbo, l7 rfl, l7 (Z1 (by unfold lim; simp; omega)), htk, w, h, List.append_assoc]; rfl
  | false =>
   rw [hci] at hF
   refine ((bt1 cs hcl b top hb hr m acc (by omega) (by omega)).and hF).up fun n ⟨h, hc⟩ => ?_
   show E2 (S.step (S.tab n)) _ _ _ _ _ = _
   rw [V8, l7 d, hc, Option.bind_some]
   dsimp only
   rw [l7 hbo, q8 rfl, htk, w, h]; rfl
theorem bD7 (cs : Cls) (hcl : cs.length ≤ 1999900) (b : List Int) (top : Int) (hb : gdS b) (hr : Reads cs top (b ++ [6])) : Evt fun n => U6 (S.tab n) (cs, ()) top = some (pick (Y9 b) 78, (cs, ()), (), ()) :=
 (bt1 cs hcl b top hb hr 78 [] (Nat.le_refl _) (by simp)).up fun n h => by
  show U6 (S.step (S.tab n)) _ _ = _
  have h : E2 (S.tab n) (cs, ()) top [] (cs.length : Int) 1 = _ := h
  rw [aO6]
  dsimp only
  rw [h]; rfl
theorem bl8 {a b : List Int} (ha : gdI a) (hb : gdS b) (h : NI a = NS b) : pick (fun k => !decide (k = 7) && aJ2 a k) 78 = pick (Y9 b) 78 :=
 aT2 (fun k h0 h1 => by
  rw [← a19 ha hb h (by omega) h1]
  by_cases h7 : k = 7
  ·have e : aJ2 a k = false := by
    rw [a19 ha hb h (by omega) h1, h7]
    unfold Y9
    have := bh0 hb
    cases ho : av3 b 7 with
    | no => rfl
    | gone => rfl
    | left l => rw [ho] at this; cases this
   rw [e, Bool.and_false]
  ·rw [decide_eq_false h7]; rfl) 78 (Nat.le_refl _)
end Go.Abs.D
end

section
namespace Go.Abs.D
theorem aN0 (s : List Int) (i j : Nat) (f : Bool) : (W8 s i j f).1 = 2 ∨ (W8 s i j f).1 = 3 := by
 unfold W8
 cases f || !decide (dv 0 (J8 s i j) < 9223372036854775808) with
 | true => exact .inr rfl
 | false => exact .inl rfl
theorem a50 {s : List Int} {i j : Nat} {f : Bool} {t : j7.den} (h : a77 s i j f = .inr t) : t.1 = 2 ∨ t.1 = 3 := by
 unfold a77 at h
 cases h5 : decide (get s j = 101) with
 | true =>
  rw [h5] at h
  cases hd : r6 (get s (aq6 s j)) with
  | true => rw [hd] at h; injection h with h; subst h; exact aN0 ..
  | false => rw [hd] at h; cases h
 | false => rw [h5] at h; injection h with h; subst h; exact aN0 ..
theorem bj0 {s : List Int} {i : Nat} {t : j7.den} (h : W4 s i = .inr t) : t.1 = 2 ∨ t.1 = 3 := by
 unfold W4 at h
 have fr : ∀ j, a95 s i j = .inr t → t.1 = 2 ∨ t.1 = 3 := fun j h => by
  unfold a95 at h
  cases h5 : decide (get s j = 46) && r6 (get s (j + 1)) with
  | true => rw [h5] at h; exact a50 h
  | false => rw [h5] at h; exact a50 h
 cases h0 : decide (get s i = 48) && decide (get s (i + 1) = 120) with
 | false => rw [h0] at h; exact fr _ h
 | true =>
  rw [h0] at h
  have h : S1 s i = .inr t := h
  unfold S1 at h
  by_cases he : an2 s (i + 18) (i + 2) = i + 2
  ·simp only [he, if_true] at h; cases h
  ·simp only [he, if_false] at h
   cases hx : W7 (get s (an2 s (i + 18) (i + 2))) with
   | true => simp only [hx, if_true] at h; cases h
   | false => simp only [hx, Bool.false_eq_true, if_false] at h; injection h with h; subst h; exact .inl rfl
def kd (t : j7.den) : Int := t.1
theorem bT0 (f : List Int) : 5 ≤ sgn f := by
 unfold sgn
 cases h1 : decide (stop (sq opsL f) 19 1 < 19) with
 | true => rw [cond_true]; omega
 | false =>
  cases h2 : decide (stop (sq Lx.ab0 f) 11 0 < 11) with
  | true => rw [cond_false, cond_true]; omega
  | false => rw [cond_false, cond_false]; omega
theorem by1 {s : List Int} {i : Nat} {t : j7.den} (h : aC0 s i = .inr t) :
  (x6 (get s i) = true → kd t = 1 ∨ 10 ≤ kd t) ∧ (x6 (get s i) = false → r6 (get s i) = true → kd t = 2 ∨ kd t = 3) ∧ (x6 (get s i) = false → r6 (get s i) = false → 4 ≤ kd t) := by
 unfold aC0 at h
 refine ⟨fun hl => ?_, fun hl hd => ?_, fun hl hd => ?_⟩
 ·rw [hl] at h
  injection h with h
  subst h
  unfold bD2
  simp only
  split
  ·right; show (10 : Int) ≤ ((10 + _ : Nat) : Int); omega
  ·exact .inl rfl
 ·rw [hl, hd] at h
  exact bj0 h
 ·rw [hl, hd] at h
  cases h34 : decide (get s i = 34) with
  | true =>
   rw [h34] at h
   have h : bH3 i (S0 s s.length (i + 1) []) = .inr t := h
   cases hr : S0 s s.length (i + 1) [] with
   | inl e => rw [hr] at h; cases h
   | inr y =>
    rw [hr] at h
    obtain ⟨e, r⟩ := y
    injection h with h
    subst h
    exact Int.le_refl 4
  | false =>
   rw [h34] at h
   have h : aK2 i (V4 (p3 s i)) = .inr t := h
   unfold aK2 V4 at h
   cases hk : decide (U8 (p3 s i) < 30) with
   | false => rw [hk] at h; cases h
   | true =>
    rw [hk] at h
    simp only [cond_true] at h
    rw [decide_eq_false (aZ3 _)] at h
    injection h with h
    subst h
    have := bT0 (r4.getD (U8 (p3 s i)) [])
    show (4 : Int) ≤ ((sgn _ : Nat) : Int)
    omega
def one (k : Int) (s : List Int) : Bool := match aC0 s 0 with | .inl _ => false | .inr t => decide (t.1 = k) && decide (t.2.2.1 = (s.length : Int))
theorem aE8 {c : Int} (h : x6 c = true) : r6 c = false := by
 cases hd : r6 c with
 | false => rfl
 | true =>
  have := dig hd
  simp only [x6, Bool.or_eq_true, Bool.and_eq_true, decide_eq_true_eq] at h
  omega
end Go.Abs.D
end

section
namespace Go.Abs.D
def fxI (t : Int) : List Int := bif decide (0 ≤ t) && decide (t ≤ 78) then fx t.toNat else []
def tq (t : Int) (k : Nat) : Bool := decide (k < 30) && !decide (((sgn (r4.getD k []) : Nat) : Int) = t)
def bN3 (t : Int) : List Int := bif decide (stop (tq t) 30 0 < 30) then r4.getD (stop (tq t) 30 0) [] else []
theorem bn6 (t : Int) : Evt fun n => C5 (S.tab n) t r4 30 0 = some (bif decide (stop (tq t) 30 0 < 30) then Sum.inl (r4.getD (stop (tq t) 30 0) [], ()) else Sum.inr (Sum.inl ())) := by
 have hp : Evt fun n => ∀ f ∈ r4, L7 (S.tab n) f = some ((sgn f : Int), L4) := a15 r4 sign_one
 refine adv (F := fun T (j : Nat) => C5 T t r4 30 (j : Int)) (q := tq t) (N := 30) (p := fun T => ∀ f ∈ r4, L7 T f = some ((sgn f : Int), L4))
  (out := fun k => bif decide (k < 30) then Sum.inl (r4.getD k [], ()) else Sum.inr (Sum.inl ())) hp (fun j h => by unfold tq; rw [decide_eq_false (by omega)]; rfl) ?_ ?_ 30 0 (by omega)
 ·intro T j hs hq
  unfold tq at hq
  simp only [Bool.and_eq_true, decide_eq_true_eq, Bool.not_eq_true', decide_eq_false_iff_not] at hq
  have hj : j < r4.length := hq.1
  have hm : r4.getD j [] ∈ r4 := by
   rw [List.getD_eq_getElem?_getD, List.getElem?_eq_getElem hj]
   exact List.getElem_mem hj
  show C5 (S.step T) t r4 30 j = C5 T t r4 30 ((j + 1 : Nat) : Int)
  have h30 := hq.1
  rw [ai9, l7 (by simp only [decide_eq_true_eq]; omega), l7 (n8 hj), Int.toNat_natCast, hs _ hm, Option.bind_some, q8 (decide_eq_false hq.2), I3 (by omega)]
 ·intro T j hs hq
  show C5 (S.step T) t r4 30 j = _
  rw [ai9]
  by_cases h30 : j < 30
  ·have hj : j < r4.length := h30
   have hm : r4.getD j [] ∈ r4 := by
    rw [List.getD_eq_getElem?_getD, List.getElem?_eq_getElem hj]
    exact List.getElem_mem hj
   unfold tq at hq
   rw [decide_eq_true h30, Bool.true_and, Bool.not_eq_false', decide_eq_true_eq] at hq
   rw [l7 (by simp only [decide_eq_true_eq]; omega), l7 (n8 hj), Int.toNat_natCast, hs _ hm, Option.bind_some, l7 (decide_eq_true hq), decide_eq_true h30]; rfl
  ·rw [q8 (by simp only [decide_eq_false_iff_not]; omega), decide_eq_false h30]; rfl
theorem bK4 : ∀ k : Nat, k < 30 → 5 ≤ sgn (r4.getD k []) ∧ sgn (r4.getD k []) ≤ 78 := by
 have h : ∀ k : Fin 30, 5 ≤ sgn (r4.getD k.1 []) ∧ sgn (r4.getD k.1 []) ≤ 78 := by decide +kernel
 exact fun k hk => h ⟨k, hk⟩
theorem bz5 (t : Int) (h5 : t ≠ 5) (hw : ¬ (10 ≤ t ∧ t ≤ 31)) : bN3 t = fxI t := by
 by_cases h : 0 ≤ t ∧ t ≤ 78
 ·have key : ∀ k : Fin 79, k.1 ≠ 5 → ¬ (10 ≤ k.1 ∧ k.1 ≤ 31) → bN3 (k.1 : Int) = fxI (k.1 : Int) := by decide +kernel
  have := key ⟨t.toNat, by omega⟩ (by show t.toNat ≠ 5; omega) (by show ¬ (10 ≤ t.toNat ∧ t.toNat ≤ 31); omega)
  have e : ((t.toNat : Nat) : Int) = t := Int.toNat_of_nonneg h.1
  simpa only [e] using this
 ·have hall : ∀ k, k < 30 → tq t k = true := fun k hk => by
   have := bK4 k hk
   unfold tq
   rw [decide_eq_true hk, Bool.true_and, decide_eq_false (by omega)]; rfl
  have hst : ¬ stop (tq t) 30 0 < 30 := fun hlt => by
   have := aj8 (q := tq t) (N := 30) (fun j hj => by unfold tq; rw [decide_eq_false (by omega)]; rfl) 30 0 (by omega)
   rw [hall _ hlt] at this; cases this
  unfold bN3 fxI
  rw [decide_eq_false hst, show (decide (0 ≤ t) && decide (t ≤ 78)) = false by simp only [Bool.and_eq_false_iff, decide_eq_false_iff_not]; omega]; rfl
theorem aT6 : Evt fun n => Base1 (S.tab n) := Evt.up (Evt.of (p := fun _ => True) fun _ => trivial) fun n _ => ar5 _
theorem bu4 (t : Int) (h1 : -9223372036854775808 ≤ t) (h2 : t ≤ 9223372036854775807) : Evt fun n => w6 (S.tab n) t = some (fxI t, x9) := by
 by_cases h5 : t = 5
 ·subst h5
  refine r8.up fun n _ => ?_
  show w6 (S.step (S.tab n)) _ = _
  rw [au2, l7 (by rfl)]; rfl
 refine ((bn6 t).and (bi1.and aT6)).up fun n ⟨h7, hsg, hb⟩ => ?_
 show w6 (S.step (S.tab n)) _ = _
 rw [au2, q8 (decide_eq_false h5), hb.words, Option.bind_some]
 by_cases hw : 10 ≤ t ∧ t ≤ 31
 ·have e : IntKind.i64.wrap (t - 10) = ((t.toNat - 10 : Nat) : Int) := by rw [wrap64 _ (by omega) (by omega)]; omega
  have wl : IntKind.i64.wrap (10 + ((Lx.words.length : Nat) : Int)) = 32 := rfl
  rw [l7 (decide_eq_true hw.1)]
  show brk (decide (t < IntKind.i64.wrap (10 + ((Lx.words.length : Nat) : Int)))) (brk (decide (0 ≤ IntKind.i64.wrap (t - 10)) && decide (IntKind.i64.wrap (t - 10) < ((Lx.words.length : Nat) : Int))) (some (Lx.words.getD (IntKind.i64.wrap (t - 10)).toNat [], x9)) none) _ = _
  rw [wl, l7 (decide_eq_true (by omega)), e, l7 (n8 (show t.toNat - 10 < Lx.words.length by show t.toNat - 10 < 22; omega)), Int.toNat_natCast]
  unfold fxI fx
  rw [decide_eq_true (show 0 ≤ t by omega), decide_eq_true (show t ≤ 78 by omega), decide_eq_true (show 10 ≤ t.toNat by omega), decide_eq_true (show t.toNat ≤ 31 by omega)]; rfl
 ·have fin : (P8 (S.tab n)).bind (fun d23 => (C5 (S.tab n) t d23.1 (d23.1.length : Int) (0 : Int)).bind (N0 (fun y7 => some (y7.1, x9)) (fun y7 => some (([] : List Int), x9)))) = some (fxI t, x9) := by
   rw [hsg, Option.bind_some]
   show (C5 (S.tab n) t r4 30 0).bind _ = _
   rw [h7, Option.bind_some, ← bz5 t h5 hw]
   unfold bN3
   cases decide (stop (tq t) 30 0 < 30) <;> rfl
  by_cases h10 : 10 ≤ t
  ·rw [l7 (decide_eq_true h10)]
   have wl : IntKind.i64.wrap (10 + ((Lx.words.length : Nat) : Int)) = 32 := rfl
   show brk (decide (t < IntKind.i64.wrap (10 + ((Lx.words.length : Nat) : Int)))) _ _ = _
   rw [wl, q8 (decide_eq_false (by omega))]
   exact fin
  ·rw [q8 (decide_eq_false h10)]
   exact fin
end Go.Abs.D
end

section
namespace Go.Abs.D
def cq (s : List Int) (i : Nat) (f : List Int) (n : Nat) : Bool := decide (n < f.length) && (decide (i + n < s.length) && decide (f.getD n 0 = get s (i + n)))
def cp (s : List Int) (i : Nat) (f : List Int) : Nat := stop (cq s i f) f.length 0
theorem bp2 {s : List Int} {i : Nat} {f : List Int} : ∀ j, f.length ≤ j → cq s i f j = false := fun j h => by unfold cq; rw [decide_eq_false (by omega)]; rfl
theorem bk7 {s : List Int} {i : Nat} {f : List Int} {n : Nat} (h : n < cp s i f) : cq s i f n = true := ar4 _ _ _ (Nat.zero_le _) h
theorem bJ7 (s : List Int) (i : Nat) (f : List Int) : cq s i f (cp s i f) = false := aj8 bp2 _ _ (by omega)
theorem bO2 {s : List Int} {i : Nat} {f : List Int} {j : Nat} (h : ∀ n, n < j → cq s i f n = true) : j ≤ cp s i f := by
 rcases Nat.lt_or_ge (cp s i f) j with hl | hl
 ·have := h _ hl
  rw [bJ7] at this; cases this
 ·exact hl
theorem bM3 (s : List Int) (i : Nat) (f : List Int) : cp s i f ≤ f.length := at1 bp2 _ _ (Nat.zero_le _)
theorem bQ5 {s : List Int} {i : Nat} (hi : i ≤ s.length) (f : List Int) : i + cp s i f ≤ s.length := by
 rcases Nat.eq_zero_or_pos (cp s i f) with h | h
 ·omega
 ·have := bk7 (s := s) (i := i) (f := f) (n := cp s i f - 1) (by omega)
  unfold cq at this
  simp only [Bool.and_eq_true, decide_eq_true_eq] at this
  omega
def lq (s : List Int) (i n : Nat) : Bool := wq s (i + n)
def idl (s : List Int) (i : Nat) : Nat := stop (lq s i) s.length 0
theorem bM2 {s : List Int} {i : Nat} : ∀ j, s.length ≤ j → lq s i j = false := fun j h => am7 _ (by omega)
theorem bp8 (s : List Int) (i : Nat) : lq s i (idl s i) = false := aj8 bM2 _ _ (by omega)
theorem bD6 {s : List Int} {i j : Nat} (h : ∀ n, n < j → lq s i n = true) : j ≤ idl s i := by
 rcases Nat.lt_or_ge (idl s i) j with hl | hl
 ·have := h _ hl
  rw [bp8] at this; cases this
 ·exact hl
theorem bD5 {s : List Int} {i j : Nat} (h : lq s i j = false) : idl s i ≤ j := by
 rcases Nat.lt_or_ge j (idl s i) with hl | hl
 ·have := ar4 (q := lq s i) s.length 0 j (Nat.zero_le _) hl
  rw [h] at this; cases this
 ·exact hl
theorem bJ1 {s : List Int} {i : Nat} (hi : i ≤ s.length) : i + idl s i ≤ s.length := by
 have := bD5 (s := s) (i := i) (j := s.length - i) (am7 _ (by omega))
 omega
def mxK (can : Int → Bool) (s : List Int) (i : Nat) : Nat → Nat → Nat
 | 0, acc => acc
 | m + 1, acc => mxK can s i m (bif decide (fx (78 - m) = []) then acc else bif can ((78 - m : Nat) : Int) then max acc (cp s i (fx (78 - m))) else acc)
theorem bB6 (s : List Int) (i : Nat) : cp s i [] = 0 := rfl
theorem bh6 {can : Int → Bool} {s : List Int} {i j : Nat} (hj : 1 ≤ j) : ∀ (m acc : Nat), m ≤ 78 → (j ≤ mxK can s i m acc ↔ j ≤ acc ∨ ∃ k : Nat, 79 - m ≤ k ∧ k ≤ 78 ∧ can (k : Int) = true ∧ j ≤ cp s i (fx k))
 | 0, acc, _ => ⟨fun h => .inl h, fun h => h.elim id fun ⟨k, h1, h2, _⟩ => by omega⟩
 | m + 1, acc, hm => by
  unfold mxK
  rw [bh6 hj m _ (by omega)]
  have key : (j ≤ (bif decide (fx (78 - m) = []) then acc else bif can ((78 - m : Nat) : Int) then max acc (cp s i (fx (78 - m))) else acc)) ↔ j ≤ acc ∨ (can ((78 - m : Nat) : Int) = true ∧ j ≤ cp s i (fx (78 - m))) := by
   by_cases hf : fx (78 - m) = []
   ·rw [decide_eq_true hf, hf, bB6, cond_true]
    exact ⟨fun h => .inl h, fun h => h.elim id fun h => by omega⟩
   ·rw [decide_eq_false hf, cond_false]
    cases hc : can ((78 - m : Nat) : Int) with
    | true =>
     rw [cond_true]
     constructor
     ·intro h
      rcases Nat.le_total (cp s i (fx (78 - m))) acc with h' | h'
      ·rw [Nat.max_eq_left h'] at h; exact .inl h
      ·rw [Nat.max_eq_right h'] at h; exact .inr ⟨rfl, h⟩
     ·rintro (h | ⟨_, h⟩) <;> omega
    | false =>
     rw [cond_false]
     exact ⟨fun h => .inl h, fun h => h.elim id fun h => by cases h.1⟩
  rw [key]
  constructor
  ·rintro ((h | h) | ⟨k, h1, h2, h3, h4⟩)
   ·exact .inl h
   ·exact .inr ⟨78 - m, by omega, by omega, h⟩
   ·exact .inr ⟨k, by omega, h2, h3, h4⟩
  ·rintro (h | ⟨k, h1, h2, h3, h4⟩)
   ·exact .inl (.inl h)
   ·by_cases e : k = 78 - m
    ·subst e; exact .inl (.inr ⟨h3, h4⟩)
    ·exact .inr ⟨k, by omega, h2, h3, h4⟩
def m0 (s : List Int) (i : Nat) : Nat := bif decide (get s i = 45) then 1 else 0
def V9 (can : Int → Bool) (s : List Int) (i : Nat) : Nat := bif x6 (get s i) && can 1 then max (mxK can s i 78 (m0 s i)) (idl s i) else mxK can s i 78 (m0 s i)
def bq1 (p : List Int) (k : Int) : Bool :=
 (decide (k = 1) && x6 (get p 0)) || (((decide (k = 2) || decide (k = 3)) && r6 (get p 0)) || ((decide (k = 4) && decide (get p 0 = 34)) || (decide (p.length ≤ (fxI k).length) && decide (J8 (fxI k) 0 p.length = p))))
def bw6 (kinds : List Int) (p : List Int) : Bool := (decide (p.length = 1) && decide (get p 0 = 45)) || kinds.any (bq1 p)
theorem a71 : ∀ k : Nat, k ≤ 78 → x6 ((fx k).getD 0 0) = true → ∀ c ∈ fx k, x6 c = true := by
 have h : ∀ k : Fin 79, x6 ((fx k.1).getD 0 0) = true → (fx k.1).all x6 = true := by decide +kernel
 exact fun k hk h' c hc => List.all_eq_true.1 (h ⟨k, by omega⟩ h') c hc
theorem bx1 (f : List Int) (n : Nat) : f.getD n 0 = get f n := rfl
theorem ar2 {s : List Int} {a b n : Nat} (h : a + n < b) : get (J8 s a b) n = get s (a + n) := by
 unfold get J8
 rw [List.getD_eq_getElem?_getD, List.getElem?_drop, List.getElem?_take_of_lt h, List.getD_eq_getElem?_getD]
theorem bu2 {a b : List Int} (hl : a.length = b.length) (h : ∀ n, n < a.length → get a n = get b n) : a = b := by
 apply List.ext_getElem hl
 intro n h1 h2
 have := h n h1
 unfold get at this
 rw [List.getD_eq_getElem?_getD, List.getD_eq_getElem?_getD, List.getElem?_eq_getElem h1, List.getElem?_eq_getElem h2] at this
 exact this
theorem bD8 {s : List Int} {i j : Nat} (hj : i + j ≤ s.length) (f : List Int) : (decide ((J8 s i (i + j)).length ≤ f.length) && decide (J8 f 0 (J8 s i (i + j)).length = J8 s i (i + j))) = true ↔ j ≤ cp s i f := by
 have hl : (J8 s i (i + j)).length = j := by rw [X8 hj]; omega
 rw [hl, Bool.and_eq_true, decide_eq_true_eq, decide_eq_true_eq]
 constructor
 ·rintro ⟨h1, h2⟩
  refine bO2 fun n hn => ?_
  unfold cq
  rw [decide_eq_true (show n < f.length by omega), decide_eq_true (show i + n < s.length by omega), Bool.true_and, Bool.true_and, decide_eq_true_eq, bx1]
  have e : get (J8 f 0 j) n = get (J8 s i (i + j)) n := congrArg (fun l => get l n) h2
  rw [ar2 (by omega), ar2 (by omega), Nat.zero_add] at e
  exact e
 ·intro h
  have h1 := bM3 s i f
  refine ⟨by omega, bu2 (by rw [hl, X8 (by omega)]; omega) fun n hn => ?_⟩
  rw [X8 (by omega)] at hn
  have := bk7 (s := s) (i := i) (f := f) (n := n) (by omega)
  unfold cq at this
  simp only [Bool.and_eq_true, decide_eq_true_eq] at this
  rw [ar2 (by omega), ar2 (by omega), Nat.zero_add]
  exact this.2.2
theorem bs0 {k : Nat} (h : k ≤ 78) : fxI (k : Int) = fx k := by
 unfold fxI
 rw [decide_eq_true (by omega), decide_eq_true (by omega), Int.toNat_natCast]; rfl
structure WrongAt (can : Int → Bool) (c : Int) : Prop where
 num : r6 c = true → can 2 = false ∧ can 3 = false
 str : c = 34 → can 4 = false
theorem a48 {c : Int} (h : x6 c = true) : r6 c = false ∧ c ≠ 34 ∧ c ≠ 45 := by
 refine ⟨aE8 h, fun e => ?_, fun e => ?_⟩ <;> (subst e; cases h)
theorem bA5 {can : Int → Bool} {s : List Int} {i j : Nat} (hw : WrongAt can (get s i)) (hn : (x6 (get s i) && can 1) = false) (hj : 1 ≤ j) (hl : i + j ≤ s.length) : bw6 (pick can 78) (J8 s i (i + j)) = true ↔ j ≤ mxK can s i 78 (m0 s i) := by
 have hlen : (J8 s i (i + j)).length = j := by rw [X8 hl]; omega
 have hg : get (J8 s i (i + j)) 0 = get s i := by rw [ar2 (by omega)]; rfl
 rw [bh6 hj 78 _ (Nat.le_refl _)]
 unfold bw6
 rw [Bool.or_eq_true, hlen, hg, Bool.and_eq_true, decide_eq_true_eq, decide_eq_true_eq, List.any_eq_true]
 have e0 : (j = 1 ∧ get s i = 45) ↔ j ≤ m0 s i := by
  unfold m0
  by_cases h : get s i = 45
  ·rw [decide_eq_true h, cond_true]; exact ⟨fun h => by omega, fun h' => ⟨by omega, h⟩⟩
  ·rw [decide_eq_false h, cond_false]; exact ⟨fun h' => absurd h'.2 h, fun h => by omega⟩
 rw [e0]
 refine or_congr Iff.rfl ⟨?_, ?_⟩
 ·rintro ⟨k, hk, hb⟩
  obtain ⟨hc, hk78⟩ := a10 hk
  have hk0 : 0 ≤ k ∨ k < 0 := by omega
  unfold bq1 at hb
  rw [hg] at hb
  simp only [Bool.or_eq_true] at hb
  rcases hb with hb | hb | hb | hb
  ·rw [Bool.and_eq_true, decide_eq_true_eq] at hb
   rw [← hb.1, hc, hb.2] at hn; cases hn
  ·rw [Bool.and_eq_true, Bool.or_eq_true, decide_eq_true_eq, decide_eq_true_eq] at hb
   have := hw.num hb.2
   rcases hb.1 with e | e
   ·rw [← e, hc] at this; cases this.1
   ·rw [← e, hc] at this; cases this.2
  ·rw [Bool.and_eq_true, decide_eq_true_eq, decide_eq_true_eq] at hb
   have := hw.str hb.2
   rw [← hb.1, hc] at this; cases this
  ·have h1 := (bD8 hl (fxI k)).1 hb
   have hlo : 1 ≤ k := by
    rcases Int.lt_or_le k 1 with h | h
    ·have e : fxI k = [] := by
      by_cases h0 : k = 0
      ·rw [h0]; rfl
      ·unfold fxI; rw [decide_eq_false (by omega)]; rfl
     rw [e, bB6] at h1; omega
    ·exact h
   have ek : ((k.toNat : Nat) : Int) = k := Int.toNat_of_nonneg (by omega)
   refine ⟨k.toNat, by omega, by omega, by rw [ek]; exact hc, ?_⟩
   rw [← bs0 (by omega), ek]; exact h1
 ·rintro ⟨k, h1, h2, h3, h4⟩
  refine ⟨(k : Int), a22 (Nat.le_refl _) (by omega) (by omega) h3, ?_⟩
  unfold bq1
  rw [(bD8 hl (fxI (k : Int))).2 (by rw [bs0 h2]; exact h4)]
  simp only [Bool.or_true]
theorem bv8 {can : Int → Bool} {s : List Int} {i j : Nat} (hn : (x6 (get s i) && can 1) = true) (hj : 1 ≤ j) (hl : i + j ≤ s.length) : bw6 (pick can 78) (J8 s i (i + j)) = true := by
 have hg : get (J8 s i (i + j)) 0 = get s i := by rw [ar2 (by omega)]; rfl
 rw [Bool.and_eq_true] at hn
 unfold bw6
 rw [Bool.or_eq_true, List.any_eq_true]
 refine .inr ⟨1, a22 (Nat.le_refl _) (by omega) (by omega) hn.2, ?_⟩
 unfold bq1
 rw [hg, hn.1]; rfl
theorem bM1 {s : List Int} {i k : Nat} (hl : x6 (get s i) = true) (hk : k ≤ 78) : cp s i (fx k) ≤ idl s i := by
 refine bD6 fun n hn => ?_
 have h0 := bk7 (s := s) (i := i) (f := fx k) (n := 0) (by omega)
 have h1 := bk7 hn
 unfold cq at h0 h1
 simp only [Bool.and_eq_true, decide_eq_true_eq] at h0 h1
 have hw := a71 k hk (by rw [h0.2.2]; exact hl)
 have hm : (fx k).getD n 0 ∈ fx k := by
  rw [List.getD_eq_getElem?_getD, List.getElem?_eq_getElem h1.1]
  exact List.getElem_mem _
 have := hw _ hm
 unfold lq wq
 rw [← h1.2.2, this]; rfl
theorem bC0 {can : Int → Bool} {s : List Int} {i : Nat} (hl : x6 (get s i) = true) : mxK can s i 78 (m0 s i) ≤ idl s i := by
 rcases Nat.eq_zero_or_pos (mxK can s i 78 (m0 s i)) with h | h
 ·omega
 ·rcases (bh6 (can := can) (s := s) (i := i) h 78 (m0 s i) (Nat.le_refl _)).1 (Nat.le_refl _) with h' | ⟨k, _, h2, _, h4⟩
  ·have e : m0 s i = 0 := by unfold m0; rw [decide_eq_false (a48 hl).2.2]; rfl
   omega
  ·exact Nat.le_trans h4 (bM1 hl h2)
theorem bO0 {can : Int → Bool} {s : List Int} {i : Nat} (hi : i < s.length) : i + mxK can s i 78 (m0 s i) ≤ s.length := by
 rcases Nat.eq_zero_or_pos (mxK can s i 78 (m0 s i)) with h | h
 ·omega
 ·rcases (bh6 (can := can) (s := s) (i := i) h 78 (m0 s i) (Nat.le_refl _)).1 (Nat.le_refl _) with h' | ⟨k, _, h2, _, h4⟩
  ·have e : m0 s i ≤ 1 := by unfold m0; cases decide (get s i = 45) <;> simp
   omega
  ·have := bQ5 (s := s) (i := i) (by omega) (fx k)
   omega
theorem a04 {can : Int → Bool} {s : List Int} {i : Nat} (hi : i < s.length) (hw : WrongAt can (get s i)) :
  i + V9 can s i ≤ s.length ∧ (x6 (get s i) = true → V9 can s i ≤ idl s i) ∧
  (∀ j, 1 ≤ j → i + j ≤ s.length → (x6 (get s i) = true → j ≤ idl s i) → (bw6 (pick can 78) (J8 s i (i + j)) = true ↔ j ≤ V9 can s i)) := by
 unfold V9
 cases hn : x6 (get s i) && can 1 with
 | false =>
  rw [cond_false]
  exact ⟨bO0 hi, bC0, fun j hj hl _ => bA5 hw hn hj hl⟩
 | true =>
  have hl : x6 (get s i) = true := by rw [Bool.and_eq_true] at hn; exact hn.1
  have h1 := bC0 (can := can) hl
  rw [cond_true, Nat.max_eq_right h1]
  exact ⟨bJ1 (by omega), fun _ => Nat.le_refl _, fun j hj hjl hji => ⟨fun _ => hji hl, fun _ => bv8 hn hj hjl⟩⟩
end Go.Abs.D
end

section
namespace Go.Abs.D
theorem by3 (kinds : List Int) (hk : ∀ k ∈ kinds, 0 ≤ k ∧ k ≤ 78) : Evt fun n => ∀ k ∈ kinds, w6 (S.tab n) k = some (fxI k, x9) := by
 have h : Evt fun n => ∀ k ∈ kinds, (0 ≤ k ∧ k ≤ 78) → w6 (S.tab n) k = some (fxI k, x9) := a15 kinds fun k => by
  by_cases h : 0 ≤ k ∧ k ≤ 78
  ·exact (bu4 k (by omega) (by omega)).mono fun n h' _ => h'
  ·exact Evt.of fun n h' => absurd h' h
 exact h.mono fun n h k hm => h k hm (hk k hm)
def tB (p : List Int) (k : Int) : Bool := decide (p.length ≤ (fxI k).length) && decide (J8 (fxI k) 0 p.length = p)
theorem av6 {T : S.Tab} {p : List Int} {k : Int} (ht : w6 T k = some (fxI k, x9)) {R N : Option ((Bool × Unit) ⊕ (Unit) ⊕ Empty)} :
  ((w6 T k).bind fun d52 => brk (decide ((p.length : Int) ≤ (d52.1.length : Int))) (brk (bounds d52.1.length 0 (p.length : Int)) (brk (decide ((sub d52.1 0 (p.length : Int)) = p)) R N) none) N) = bif tB p k then R else N := by
 rw [ht, Option.bind_some]
 unfold tB
 by_cases h : p.length ≤ (fxI k).length
 ·have hbo : bounds (fxI k).length 0 (p.length : Int) = true := F0 (i := 0) (Nat.zero_le _) h
  have hsub : sub (fxI k) 0 (p.length : Int) = J8 (fxI k) 0 p.length := rfl
  dsimp only
  rw [l7 (by simp only [decide_eq_true_eq]; omega), l7 hbo, hsub, decide_eq_true h, Bool.true_and]
  cases decide (J8 (fxI k) 0 p.length = p) with
  | true => rw [l7 rfl]; rfl
  | false => rw [q8 rfl]; rfl
 ·dsimp only
  rw [q8 (by simp only [decide_eq_false_iff_not]; omega), decide_eq_false h]; rfl
theorem aU4 {T : S.Tab} (hb : Base1 T) {p kinds : List Int} (hp : 0 < p.length) {j : Nat} (hj : j < kinds.length) (ht : w6 T (kinds.getD j 0) = some (fxI (kinds.getD j 0), x9)) (hl : kinds.length ≤ 100) :
  l8 (S.step T) p kinds (kinds.length : Int) (j : Int) = bif bq1 p (kinds.getD j 0) then some (Sum.inl (true, ())) else l8 T p kinds (kinds.length : Int) ((j + 1 : Nat) : Int) := by
 have hpos : decide ((0 : Int) < (p.length : Int)) = true := by simp only [decide_eq_true_eq]; omega
 have g0 : p.getD 0 0 = get p 0 := rfl
 rw [ag5, l7 (by simp only [decide_eq_true_eq]; omega), l7 (n8 hj), Int.toNat_natCast, I3 (by omega), g0]
 generalize kinds.getD j 0 = k at ht ⊢
 generalize l8 T p kinds (kinds.length : Int) ((j + 1 : Nat) : Int) = N
 have e : bq1 p k = ((decide (k = 1) && x6 (get p 0)) || (((decide (k = 2) || decide (k = 3)) && r6 (get p 0)) || ((decide (k = 4) && decide (get p 0 = 34)) || tB p k))) := rfl
 rw [e]
 by_cases h1 : k = 1
 ·have h2 : ¬ k = 2 := by omega
  have h3 : ¬ k = 3 := by omega
  have h4 : ¬ k = 4 := by omega
  rw [l7 (decide_eq_true h1), l7 hpos, hb.sletter, Option.bind_some, decide_eq_true h1, decide_eq_false h2, decide_eq_false h3, decide_eq_false h4]
  cases x6 (get p 0) with
  | true => rw [l7 (by rfl)]; rfl
  | false => rw [q8 (by rfl), q8 rfl, q8 rfl, q8 rfl, av6 ht]; rfl
 rw [q8 (decide_eq_false h1), decide_eq_false h1]
 by_cases h2 : k = 2
 ·have h3 : ¬ k = 3 := by omega
  have h4 : ¬ k = 4 := by omega
  rw [l7 (decide_eq_true h2), l7 hpos, hb.sdigit, Option.bind_some, decide_eq_true h2, decide_eq_false h4]
  cases r6 (get p 0) with
  | true => rw [l7 (by rfl)]; rfl
  | false => rw [q8 (by rfl), q8 rfl, av6 ht, Bool.and_false]; rfl
 rw [q8 (decide_eq_false h2), decide_eq_false h2]
 by_cases h3 : k = 3
 ·have h4 : ¬ k = 4 := by omega
  rw [l7 (decide_eq_true h3), l7 hpos, hb.sdigit, Option.bind_some, decide_eq_true h3, decide_eq_false h4]
  cases r6 (get p 0) with
  | true => rw [l7 (by rfl)]; rfl
  | false => rw [q8 (by rfl), q8 rfl, av6 ht]; rfl
 rw [q8 (decide_eq_false h3), decide_eq_false h3]
 by_cases h4 : k = 4
 ·rw [l7 (decide_eq_true h4), l7 hpos, decide_eq_true h4]
  by_cases c : get p 0 = 34
  ·rw [l7 (decide_eq_true c), decide_eq_true c]; rfl
  ·rw [q8 (decide_eq_false c), decide_eq_false c, av6 ht]; rfl
 rw [q8 (decide_eq_false h4), decide_eq_false h4, av6 ht]; rfl
def bq (p kinds : List Int) (j : Nat) : Bool := decide (j < kinds.length) && !bq1 p (kinds.getD j 0)
theorem bC7 {p kinds : List Int} : ∀ j, kinds.length ≤ j → bq p kinds j = false := fun j h => by unfold bq; rw [decide_eq_false (by omega)]; rfl
theorem bA3 (p kinds : List Int) : kinds.any (bq1 p) = decide (stop (bq p kinds) kinds.length 0 < kinds.length) := by
 have hend := aj8 (q := bq p kinds) bC7 kinds.length 0 (by omega)
 by_cases h : stop (bq p kinds) kinds.length 0 < kinds.length
 ·rw [decide_eq_true h]
  generalize stop (bq p kinds) kinds.length 0 = m at hend h
  unfold bq at hend
  rw [decide_eq_true h, Bool.true_and, Bool.not_eq_false'] at hend
  refine List.any_eq_true.2 ⟨_, ?_, hend⟩
  rw [List.getD_eq_getElem?_getD, List.getElem?_eq_getElem h]
  exact List.getElem_mem _
 ·rw [decide_eq_false h]
  refine List.any_eq_false.2 fun k hk => ?_
  obtain ⟨j, hj, rfl⟩ := List.getElem_of_mem hk
  have := ar4 (q := bq p kinds) kinds.length 0 j (Nat.zero_le _) (by omega)
  unfold bq at this
  rw [decide_eq_true hj, Bool.true_and, Bool.not_eq_true', List.getD_eq_getElem?_getD, List.getElem?_eq_getElem hj] at this
  exact (by simpa using this)
theorem bA7 {p kinds : List Int} (hp : 0 < p.length) (hk : ∀ k ∈ kinds, 0 ≤ k ∧ k ≤ 78) (hl : kinds.length ≤ 100) : Evt fun n => l8 (S.tab n) p kinds (kinds.length : Int) 0 = some (bif kinds.any (bq1 p) then Sum.inl (true, ()) else Sum.inr (Sum.inl ())) := by
 have hpp : Evt fun n => Base1 (S.tab n) ∧ ∀ k ∈ kinds, w6 (S.tab n) k = some (fxI k, x9) := aT6.and (by3 kinds hk)
 rw [bA3]
 refine adv (F := fun T (j : Nat) => l8 T p kinds (kinds.length : Int) (j : Int)) (q := bq p kinds) (N := kinds.length) (p := fun T => Base1 T ∧ ∀ k ∈ kinds, w6 T k = some (fxI k, x9))
  (out := fun j => bif decide (j < kinds.length) then Sum.inl (true, ()) else Sum.inr (Sum.inl ())) hpp bC7 ?_ ?_ kinds.length 0 (by omega)
 ·intro T j ⟨hb, ht⟩ hq
  unfold bq at hq
  simp only [Bool.and_eq_true, decide_eq_true_eq, Bool.not_eq_true'] at hq
  have hm : kinds.getD j 0 ∈ kinds := by
   rw [List.getD_eq_getElem?_getD, List.getElem?_eq_getElem hq.1]
   exact List.getElem_mem _
  show l8 (S.step T) p kinds _ _ = l8 T p kinds _ _
  rw [aU4 hb hp hq.1 (ht _ hm) hl, hq.2]; rfl
 ·intro T j ⟨hb, ht⟩ hq
  show l8 (S.step T) p kinds _ _ = _
  by_cases hj : j < kinds.length
  ·unfold bq at hq
   rw [decide_eq_true hj, Bool.true_and, Bool.not_eq_false'] at hq
   have hm : kinds.getD j 0 ∈ kinds := by
    rw [List.getD_eq_getElem?_getD, List.getElem?_eq_getElem hj]
    exact List.getElem_mem _
   rw [aU4 hb hp hj (ht _ hm) hl, hq, decide_eq_true hj]; rfl
  ·rw [ag5, q8 (by simp only [decide_eq_false_iff_not]; omega), decide_eq_false hj]; rfl
theorem bw7 {p kinds : List Int} (hp : 0 < p.length) (hk : ∀ k ∈ kinds, 0 ≤ k ∧ k ≤ 78) (hl : kinds.length ≤ 100) : Evt fun n => Y3 (S.tab n) kinds p = some (bw6 kinds p, E0) :=
 (bA7 hp hk hl).up fun n h => by
  show Y3 (S.step (S.tab n)) _ _ = _
  have g0 : p.getD 0 0 = get p 0 := rfl
  have fin : ((l8 (S.tab n) p kinds (kinds.length : Int) 0).bind (N0 (fun y4 => some (y4.1, E0)) (fun y4 => some (false, E0)))) = some (kinds.any (bq1 p), E0) := by
   rw [h]
   cases kinds.any (bq1 p) <;> rfl
  unfold bw6
  rw [aK3, g0]
  by_cases h1 : p.length = 1
  ·rw [l7 (by simp only [decide_eq_true_eq]; omega), l7 (by simp only [decide_eq_true_eq]; omega), decide_eq_true h1]
   by_cases h45 : get p 0 = 45
   ·rw [l7 (decide_eq_true h45), decide_eq_true h45]; rfl
   ·rw [q8 (decide_eq_false h45), decide_eq_false h45]; exact fin
  ·rw [q8 (by simp only [decide_eq_false_iff_not]; omega), decide_eq_false h1]; exact fin
theorem bn7 {p : Int → Bool} : ∀ k ∈ pick p 78, 0 ≤ k ∧ k ≤ 78 := fun k h => by
 have := (a10 h).2
 have h0 : ∀ (m : Nat) (k : Int), k ∈ pick p m → 0 ≤ k := fun m => by
  induction m with
  | zero => intro k h; cases h
  | succ m ih =>
   intro k h
   unfold pick at h
   rcases List.mem_append.1 h with h | h
   ·cases hp : p ((78 - m : Nat) : Int) with
    | true =>
     rw [hp] at h
     have : k = ((78 - m : Nat) : Int) := by simpa using h
     omega
    | false => rw [hp] at h; cases h
   ·exact ih k h
 exact ⟨h0 78 k h, this⟩
variable {s : List Int} (hs : s.length ≤ 65536)
include hs
theorem bx8 {can : Int → Bool} {i : Nat} (hi : i < s.length) (hw : WrongAt can (get s i)) : ∀ (d n : Nat), s.length - (i + n) ≤ d → n ≤ V9 can s i → (x6 (get s i) = true → n < idl s i) → Evt fun m => z6 (S.tab m) s (i : Int) (pick can 78) (n : Int) = some (Sum.inl ((i : Int), (V9 can s i : Int), ())) := by
 obtain ⟨l1, l2, l3⟩ := a04 hi hw
 intro d
 induction d with
 | zero =>
  intro n hd hn hli
  have e : n = V9 can s i := by omega
  refine r8.up fun m hb => ?_
  show z6 (S.step (S.tab m)) _ _ _ _ = _
  rw [O9, wrap64 _ (by omega) (by omega), q8 (by simp only [decide_eq_false_iff_not]; omega), e]
 | succ d ih =>
  intro n hd hn hli
  by_cases hl : i + n < s.length
  ·have w1 : IntKind.i64.wrap ((i : Int) + (n : Int)) = ((i + n : Nat) : Int) := by rw [wrap64 _ (by omega) (by omega)]; omega
   have w2 : IntKind.i64.wrap (((i + n : Nat) : Int) + 1) = ((i + (n + 1) : Nat) : Int) := by rw [wrap64 _ (by omega) (by omega)]; omega
   have w3 : IntKind.i64.wrap ((n : Int) + 1) = ((n + 1 : Nat) : Int) := I3 (by omega)
   have w4 : IntKind.i64.wrap ((i : Int) + ((n + 1 : Nat) : Int)) = ((i + (n + 1) : Nat) : Int) := by rw [wrap64 _ (by omega) (by omega)]; omega
   have hbeg := bw7 (p := J8 s i (i + (n + 1))) (kinds := pick can 78) (by rw [X8 (by omega)]; omega) bn7 (Nat.le_trans (a18 78) (by omega))
   have hiff := l3 (n + 1) (by omega) (by omega) (fun h => by have := hli h; omega)
   have start : ∀ T : S.Tab, Y3 T (pick can 78) (J8 s i (i + (n + 1))) = some (bw6 (pick can 78) (J8 s i (i + (n + 1))), E0) → Base1 T → z6 (S.step T) s (i : Int) (pick can 78) (n : Int) = _ := fun T hbg hb => by
    rw [O9, w1, l7 (by simp only [decide_eq_true_eq]; omega), w2, l7 (F0 (by omega) (by omega)), ah7, hbg, Option.bind_some, l7 (n8 hi), n9, hb.sletter, Option.bind_some, w3, w4, hb.look, Option.bind_some]
   by_cases hle : n + 1 ≤ V9 can s i
   ·have hbt := hiff.2 hle
    rw [hbt] at hbeg start
    have next := fun h => ih (n + 1) (by omega) hle h
    by_cases hlet : x6 (get s i) = true
    ·by_cases hstop : lq s i (n + 1) = true
     ·refine ((next (fun h => by
       have h1 := hli h
       rcases Nat.lt_or_ge (n + 1) (idl s i) with h' | h'
       ·exact h'
       ·have : idl s i = n + 1 := by omega
        have e := bp8 s i
        rw [this, hstop] at e; cases e)).and (hbeg.and aT6)).up fun m ⟨hx, hbg, hb⟩ => ?_
      show z6 (S.step (S.tab m)) _ _ _ _ = _
      rw [start _ hbg hb, l7 rfl, hlet, l7 rfl, hb.sletter, Option.bind_some]
      unfold lq wq at hstop
      cases hl2 : x6 (get s (i + (n + 1))) with
      | true => rw [q8 (by rfl)]; exact hx
      | false =>
       rw [hl2, Bool.false_or] at hstop
       rw [l7 (by rfl), Option.bind_some, hb.sdigit, Option.bind_some, hstop, q8 (by rfl)]; exact hx
     ·have hstop : lq s i (n + 1) = false := by simpa using hstop
      have h1 := bD5 hstop
      have h2 := l2 hlet
      have e : V9 can s i = n + 1 := by omega
      refine (hbeg.and aT6).up fun m ⟨hbg, hb⟩ => ?_
      show z6 (S.step (S.tab m)) _ _ _ _ = _
      rw [start _ hbg hb, l7 rfl, hlet, l7 rfl, hb.sletter, Option.bind_some]
      unfold lq wq at hstop
      rw [Bool.or_eq_false_iff] at hstop
      rw [hstop.1, l7 (by rfl), Option.bind_some, hb.sdigit, Option.bind_some, hstop.2, l7 (by rfl), e]
    ·have hlet' : x6 (get s i) = false := by simpa using hlet
     refine ((next (fun h => absurd h hlet)).and (hbeg.and aT6)).up fun m ⟨hx, hbg, hb⟩ => ?_
     show z6 (S.step (S.tab m)) _ _ _ _ = _
     rw [start _ hbg hb, l7 rfl, hlet', q8 rfl]; exact hx
   ·have hbf : bw6 (pick can 78) (J8 s i (i + (n + 1))) = false := by
     cases hx : bw6 (pick can 78) (J8 s i (i + (n + 1))) with
     | true => exact absurd (hiff.1 hx) hle
     | false => rfl
    have e : V9 can s i = n := by omega
    rw [hbf] at hbeg start
    refine (hbeg.and aT6).up fun m ⟨hbg, hb⟩ => ?_
    show z6 (S.step (S.tab m)) _ _ _ _ = _
    rw [O9, w1, l7 (by simp only [decide_eq_true_eq]; omega), w2, l7 (F0 (by omega) (by omega)), ah7, hbg, Option.bind_some, q8 rfl, e]
  ·have e : n = V9 can s i := by omega
   refine r8.up fun m hb => ?_
   show z6 (S.step (S.tab m)) _ _ _ _ = _
   rw [O9, wrap64 _ (by omega) (by omega), q8 (by simp only [decide_eq_false_iff_not]; omega), e]
omit hs in
theorem bG9 {i : Nat} (h : x6 (get s i) = true) : 0 < idl s i := by
 have : lq s i 0 = true := by unfold lq wq; rw [Nat.add_zero, h]; rfl
 exact bD6 (j := 1) fun n hn => by
  have : n = 0 := by omega
  subst this; assumption
theorem bz0 {can : Int → Bool} {i : Nat} (hi : i < s.length) (hw : WrongAt can (get s i)) : Evt fun n => Y5 (S.tab n) s (i : Int) (pick can 78) = some (((i + V9 can s i : Nat) : Int), au5) :=
 (bx8 hs hi hw s.length 0 (by omega) (Nat.zero_le _) bG9).up fun n h => by
  show Y5 (S.step (S.tab n)) _ _ _ = _
  obtain ⟨l1, _, _⟩ := a04 hi hw
  have h : z6 (S.tab n) s (i : Int) (pick can 78) 0 = _ := h
  rw [aM4, h]
  simp only [Option.bind_some, A9, Sum.elim_inl]
  rw [wrap64 _ (by omega) (by omega)]; rfl
theorem bc8 (a : List Int) (i : Nat) (hi : i ≤ s.length) (t7 t8 : Int) (f : List Int) (hf : f.length ≤ 100) : Evt fun n => F2 (S.tab n) a s (i : Int) t7 t8 f 0 = some (Sum.inl (a, s, (i : Int), t7, t8, (cp s i f : Int), ())) :=
 adv (F := fun T j => F2 T a s (i : Int) t7 t8 f (j : Int)) (q := cq s i f) (N := f.length) (p := fun _ => True) (out := fun j => Sum.inl (a, s, (i : Int), t7, t8, (j : Int), ())) (Evt.of fun _ => trivial) bp2
  (fun T j _ hq => by
   unfold cq at hq
   simp only [Bool.and_eq_true, decide_eq_true_eq] at hq
   have w : IntKind.i64.wrap ((i : Int) + (j : Int)) = ((i + j : Nat) : Int) := by rw [wrap64 _ (by omega) (by omega)]; omega
   show F2 (S.step T) _ _ _ _ _ _ _ = F2 T _ _ _ _ _ _ _
   rw [ac1, l7 (by simp only [decide_eq_true_eq]; omega), w, l7 (by simp only [decide_eq_true_eq]; omega), l7 (n8 hq.1), l7 (n8 hq.2.1), Int.toNat_natCast, n9, l7 (decide_eq_true hq.2.2), I3 (by omega)])
  (fun T j _ hq => by
   show F2 (S.step T) _ _ _ _ _ _ _ = _
   rw [ac1]
   by_cases h1 : j < f.length
   ·have w : IntKind.i64.wrap ((i : Int) + (j : Int)) = ((i + j : Nat) : Int) := by rw [wrap64 _ (by omega) (by omega)]; omega
    rw [l7 (by simp only [decide_eq_true_eq]; omega), w]
    by_cases h2 : i + j < s.length
    ·unfold cq at hq
     rw [decide_eq_true h1, decide_eq_true h2, Bool.true_and, Bool.true_and] at hq
     rw [l7 (by simp only [decide_eq_true_eq]; omega), l7 (n8 h1), l7 (n8 h2), Int.toNat_natCast, n9, q8 hq]
    ·rw [q8 (by simp only [decide_eq_false_iff_not]; omega)]
   ·rw [q8 (by simp only [decide_eq_false_iff_not]; omega)]) f.length 0 (by omega)
omit hs in
theorem bR8 {R : Type} {F : S.Tab → Nat → Option R} {q : Nat → Bool} {out : Nat → R} {N : Nat} {p : S.Tab → Prop} (hp : Evt fun n => p (S.tab n)) (hN : q N = false)
  (h1 : ∀ T j, j < N → p T → q j = true → F (S.step T) j = F T (j + 1)) (h2 : ∀ T j, j ≤ N → p T → q j = false → F (S.step T) j = some (out j)) :
  ∀ (k j : Nat), N ≤ j + k → j ≤ N → Evt fun n => F (S.tab n) j = some (out (stop q k j))
 | 0, j, hk, hj => hp.up fun n h => by
  have e : j = N := by omega
  show F (S.step (S.tab n)) j = _
  rw [h2 _ _ hj h (by rw [e]; exact hN)]; rfl
 | k + 1, j, hk, hj => by
  cases hq : q j with
  | false =>
   refine hp.up fun n h => ?_
   show F (S.step (S.tab n)) j = _
   rw [h2 _ _ hj h hq, ax2 hq]
  | true =>
   have hlt : j < N := by
    rcases Nat.lt_or_ge j N with h | h
    ·exact h
    ·have : j = N := by omega
     rw [this, hN] at hq; cases hq
   refine ((bR8 hp hN h1 h2 k (j + 1) (by omega) (by omega)).and hp).up fun n ⟨ih, h⟩ => ?_
   show F (S.step (S.tab n)) j = _
   have e : stop q (k + 1) j = stop q k (j + 1) := by
    show (bif q j then stop q k (j + 1) else j) = _
    rw [hq]; rfl
   rw [h1 _ _ hlt h hq, ih, e]
theorem bc6 (i : Nat) (hi : i ≤ s.length) (t7 : Int) : Evt fun n => D4 (S.tab n) s (i : Int) t7 0 = some (Sum.inl (t7, (idl s i : Int), ())) :=
 bR8 (F := fun T j => D4 T s (i : Int) t7 (j : Int)) (q := lq s i) (N := s.length) (p := fun T => Base2 T) (out := fun j => Sum.inl (t7, (j : Int), ())) r8 (am7 _ (by omega))
  (fun T j hj hb hq => by
   have hl : i + j < s.length := by
    rcases Nat.lt_or_ge (i + j) s.length with h | h
    ·exact h
    ·have := am7 (s := s) _ h
     unfold lq at hq
     rw [this] at hq; cases hq
   have w : IntKind.i64.wrap ((i : Int) + (j : Int)) = ((i + j : Nat) : Int) := by rw [wrap64 _ (by omega) (by omega)]; omega
   show D4 (S.step T) _ _ _ _ = D4 T _ _ _ _
   rw [ad3, w, l7 (by simp only [decide_eq_true_eq]; omega), l7 (n8 hl), n9, hb.iletter, Option.bind_some, I3 (by omega)]
   unfold lq wq at hq
   cases h : x6 (get s (i + j)) with
   | true => rw [l7 (by rfl)]
   | false =>
    rw [h, Bool.false_or] at hq
    rw [q8 (by rfl), l7 (n8 hl), hb.idigit, Option.bind_some, hq, l7 (by rfl)])
  (fun T j hj hb hq => by
   have w : IntKind.i64.wrap ((i : Int) + (j : Int)) = ((i + j : Nat) : Int) := by rw [wrap64 _ (by omega) (by omega)]; omega
   show D4 (S.step T) _ _ _ _ = _
   rw [ad3, w]
   by_cases hl : i + j < s.length
   ·unfold lq wq at hq
    rw [Bool.or_eq_false_iff] at hq
    rw [l7 (by simp only [decide_eq_true_eq]; omega), l7 (n8 hl), n9, hb.iletter, Option.bind_some, hq.1, q8 (by rfl), l7 (n8 hl), hb.idigit, Option.bind_some, hq.2, q8 (by rfl)]
   ·rw [q8 (by simp only [decide_eq_false_iff_not]; omega)]) s.length 0 (by omega) (by omega)
omit hs in
theorem bM0 : ∀ k : Nat, k ≤ 78 → (fx k).length ≤ 100 := by
 have h : ∀ k : Fin 79, (fx k.1).length ≤ 100 := by decide +kernel
 exact fun k hk => h ⟨k, by omega⟩
theorem aq3 (a : List Int) (ha : gdI a) (i : Nat) (hi : i ≤ s.length) : ∀ (m acc : Nat), m ≤ 78 → Evt fun n => B5 (S.tab n) (a ++ [6]) s (i : Int) (acc : Int) ((79 - m : Nat) : Int) = some (Sum.inl (a ++ [6], s, (i : Int), (mxK (aJ2 a) s i m acc : Int), ()))
 | 0, acc, _ => r8.up fun n _ => by
  show B5 (S.step (S.tab n)) _ _ _ _ _ = _
  rw [O7, q8 (by decide)]; rfl
 | m + 1, acc, hm => by
  have e : (79 - (m + 1) : Nat) = 78 - m := by omega
  have w : IntKind.i64.wrap (((78 - m : Nat) : Int) + 1) = ((79 - m : Nat) : Int) := by rw [wrap64 _ (by omega) (by omega)]; omega
  have d : decide (((78 - m : Nat) : Int) ≤ 78) = true := by simp only [decide_eq_true_eq]; omega
  have hfx := bj1
  rw [e]
  unfold mxK
  by_cases hf : fx (78 - m) = []
  ·refine ((aq3 a ha i hi m acc (by omega)).and hfx).up fun n ⟨h, hx⟩ => ?_
   show B5 (S.step (S.tab n)) _ _ _ _ _ = _
   rw [O7, l7 d, hx _ (by omega), Option.bind_some, l7 (decide_eq_true hf), w, h, decide_eq_true hf]; rfl
  ·have hc := a38 (k := ((78 - m : Nat) : Int)) (by omega) (by omega) a ha
   have hk : aZ0 (ae0 a ((78 - m : Nat) : Int)) (decide ((6 : Int) = ((78 - m : Nat) : Int))) = aJ2 a ((78 - m : Nat) : Int) := rfl
   rw [hk] at hc
   rw [decide_eq_false hf]
   cases hci : aJ2 a ((78 - m : Nat) : Int) with
   | false =>
    rw [hci] at hc
    refine (((aq3 a ha i hi m acc (by omega)).and hfx).and hc).up fun n ⟨⟨h, hx⟩, hc⟩ => ?_
    show B5 (S.step (S.tab n)) _ _ _ _ _ = _
    rw [O7, l7 d, hx _ (by omega), Option.bind_some, q8 (decide_eq_false hf), hc, Option.bind_some, l7 (by rfl), w, h]; rfl
   | true =>
    rw [hci] at hc
    have hmx : (if ((cp s i (fx (78 - m)) : Nat) : Int) > (acc : Int) then ((cp s i (fx (78 - m)) : Nat) : Int) else (acc : Int)) = ((max acc (cp s i (fx (78 - m))) : Nat) : Int) := by
     by_cases h : acc < cp s i (fx (78 - m))
     ·rw [if_pos (by omega), Nat.max_eq_right (by omega)]
     ·rw [if_neg (by omega), Nat.max_eq_left (by omega)]
    refine ((((aq3 a ha i hi m (max acc (cp s i (fx (78 - m)))) (by omega)).and hfx).and hc).and (bc8 hs (a ++ [6]) i hi (acc : Int) ((78 - m : Nat) : Int) (fx (78 - m)) (bM0 _ (by omega)))).up fun n ⟨⟨⟨h, hx⟩, hc⟩, h10⟩ => ?_
    show B5 (S.step (S.tab n)) _ _ _ _ _ = _
    rw [O7, l7 d, hx _ (by omega), Option.bind_some, q8 (decide_eq_false hf), hc, Option.bind_some, q8 (by rfl), h10, Option.bind_some]
    simp only [A9, Sum.elim_inl]
    rw [hmx, w, h]; rfl
theorem bn8 (a : List Int) (ha : gdI a) (i : Nat) (hi : i < s.length) : Evt fun n => N1 (S.tab n) (a ++ [6]) s (i : Int) = some ((V9 (aJ2 a) s i : Int), S5) := by
 have hj4 : Evt fun n => J5 (S.tab n) (a ++ [6]) s (i : Int) (m0 s i : Int) = some (Sum.inl ((V9 (aJ2 a) s i : Int), ())) := by
  have hc := a38 (k := 1) (by decide) (by decide) a ha
  have hk : aZ0 (ae0 a 1) (decide ((6 : Int) = 1)) = aJ2 a 1 := rfl
  rw [hk] at hc
  refine ((((aq3 hs a ha i (by omega) 78 (m0 s i) (Nat.le_refl _)).and hc).and (bc6 hs i (by omega) (mxK (aJ2 a) s i 78 (m0 s i) : Int))).and r8).up fun n ⟨⟨⟨h5, hc⟩, h15⟩, hb⟩ => ?_
  show J5 (S.step (S.tab n)) _ _ _ _ = _
  have h5 : B5 (S.tab n) (a ++ [6]) s (i : Int) (m0 s i : Int) 1 = _ := h5
  rw [az1, h5, Option.bind_some]
  simp only [A9, Sum.elim_inl]
  rw [l7 (n8 hi), n9, hb.iletter, Option.bind_some]
  unfold V9
  cases x6 (get s i) with
  | false => rw [q8 (by rfl)]; rfl
  | true =>
   rw [l7 (by rfl), hc, Option.bind_some]
   cases aJ2 a 1 with
   | false => rw [q8 (by rfl)]; rfl
   | true =>
    rw [l7 (by rfl), h15, Option.bind_some]
    have hmx : (if ((idl s i : Nat) : Int) > ((mxK (aJ2 a) s i 78 (m0 s i) : Nat) : Int) then ((idl s i : Nat) : Int) else ((mxK (aJ2 a) s i 78 (m0 s i) : Nat) : Int)) = ((max (mxK (aJ2 a) s i 78 (m0 s i)) (idl s i) : Nat) : Int) := by
     by_cases h : mxK (aJ2 a) s i 78 (m0 s i) < idl s i
     ·rw [if_pos (by omega), Nat.max_eq_right (by omega)]
     ·rw [if_neg (by omega), Nat.max_eq_left (by omega)]
    simp only [Sum.elim_inl, Bool.and_self, cond_true]
    rw [hmx]
 refine hj4.up fun n h => ?_
 show N1 (S.step (S.tab n)) _ _ _ = _
 rw [aO4, l7 (n8 hi), n9]
 unfold m0 at h
 by_cases h45 : get s i = 45
 ·rw [decide_eq_true h45] at h
  have h : J5 (S.tab n) (a ++ [6]) s (i : Int) 1 = _ := h
  rw [l7 (decide_eq_true h45), h]; rfl
 ·rw [decide_eq_false h45] at h
  have h : J5 (S.tab n) (a ++ [6]) s (i : Int) 0 = _ := h
  rw [q8 (decide_eq_false h45), h]; rfl
end Go.Abs.D
end

section
namespace Go.Abs.D
def nq (s : List Int) (j : Nat) : Bool := decide (j < s.length) && !decide (get s j = 10)
def bw4 (s : List Int) (j : Nat) : Nat := stop (nq s) s.length j
def blk (s : List Int) : Nat → Nat → Nat
 | 0, j => j
 | k + 1, j =>
  bif decide (s.length ≤ j) then j else
  bif decide (get s j = 32) then blk s k (j + 1) else
  bif decide (get s j = 9) then blk s k (j + 1) else
  bif decide (get s j = 13) then blk s k (j + 1) else
  bif decide (get s j = 45) && decide (get s (j + 1) = 45) then blk s k (bw4 s j) else j
def blank (s : List Int) (j : Nat) : Nat := blk s s.length j
theorem aU1 {s : List Int} : ∀ j, s.length ≤ j → nq s j = false := fun j h => by unfold nq; rw [decide_eq_false (by omega)]; rfl
theorem bF1 {s : List Int} {j : Nat} (h : j ≤ s.length) : bw4 s j ≤ s.length := at1 aU1 _ _ h
theorem bK0 {s : List Int} {j : Nat} (h : get s j = 45) : j < bw4 s j := by
 have hl := M6 h (by decide)
 have hq : nq s j = true := by unfold nq; rw [decide_eq_true hl, h]; rfl
 have := al5 (q := nq s) s.length (j + 1)
 have e := a33 (q := nq s) (N := s.length) aU1 (k := s.length) (j := j) (by omega) hq
 unfold bw4
 omega
theorem bv6 {s : List Int} : ∀ (k j : Nat), j ≤ s.length → blk s k j ≤ s.length ∧ j ≤ blk s k j
 | 0, j, h => ⟨h, Nat.le_refl _⟩
 | k + 1, j, h => by
  unfold blk
  by_cases hl : s.length ≤ j
  ·rw [decide_eq_true hl]; exact ⟨h, Nat.le_refl _⟩
  have ih := bv6 (s := s) k (j + 1) (by omega)
  rw [decide_eq_false hl]
  simp only [cond_false]
  cases decide (get s j = 32) with
  | true => exact ⟨ih.1, by have := ih.2; simp only [cond_true]; omega⟩
  | false =>
  cases decide (get s j = 9) with
  | true => exact ⟨ih.1, by have := ih.2; simp only [cond_true, cond_false]; omega⟩
  | false =>
  cases decide (get s j = 13) with
  | true => exact ⟨ih.1, by have := ih.2; simp only [cond_true, cond_false]; omega⟩
  | false =>
  cases decide (get s j = 45) && decide (get s (j + 1) = 45) with
  | true =>
   have ih := bv6 (s := s) k (bw4 s j) (bF1 h)
   have := al5 (q := nq s) s.length j
   refine ⟨ih.1, ?_⟩
   have := ih.2
   simp only [cond_true, cond_false]
   unfold bw4 at this ⊢
   omega
  | false => exact ⟨h, Nat.le_refl _⟩
variable {s : List Int} (hs : s.length ≤ 2097152)
include hs
theorem bn0 (j : Nat) : Evt fun n => K5 (S.tab n) s (j : Int) = some (Sum.inl (s, (bw4 s j : Int), ())) :=
 adv (F := fun T j => K5 T s (j : Int)) (out := fun j => Sum.inl (s, (j : Int), ())) r8 aU1
  (fun T j h hq => by
   have hj := U9 aU1 hq
   unfold nq at hq
   rw [Bool.and_eq_true] at hq
   show K5 (S.step T) s j = K5 T s ((j + 1 : Nat) : Int)
   rw [am6, l7 (by simpa using hj), l7 (n8 hj), n9, l7 hq.2, I3 (by omega)])
  (fun T j h hq => by
   show K5 (S.step T) s j = _
   rw [am6]
   by_cases hj : j < s.length
   ·unfold nq at hq
    rw [decide_eq_true hj, Bool.true_and] at hq
    rw [l7 (by simpa using hj), l7 (n8 hj), n9, q8 hq]
   ·rw [q8 (by simpa using hj)]) s.length j (by omega)
theorem bm8 (j : Nat) : Evt fun n => F3 (S.tab n) s (j : Int) = some (Sum.inl (s, (bw4 s j : Int), ())) :=
 adv (F := fun T j => F3 T s (j : Int)) (out := fun j => Sum.inl (s, (j : Int), ())) r8 aU1
  (fun T j h hq => by
   have hj := U9 aU1 hq
   unfold nq at hq
   rw [Bool.and_eq_true] at hq
   show F3 (S.step T) s j = F3 T s ((j + 1 : Nat) : Int)
   rw [ab6, l7 (by simpa using hj), l7 (n8 hj), n9, l7 hq.2, I3 (by omega)])
  (fun T j h hq => by
   show F3 (S.step T) s j = _
   rw [ab6]
   by_cases hj : j < s.length
   ·unfold nq at hq
    rw [decide_eq_true hj, Bool.true_and] at hq
    rw [l7 (by simpa using hj), l7 (n8 hj), n9, q8 hq]
   ·rw [q8 (by simpa using hj)]) s.length j (by omega)
def BR (e : Nat) (y : (Int × Unit) ⊕ (Int × Unit) ⊕ Empty) : Prop := y = .inl ((e : Int), ()) ∨ y = .inr (.inl ((e : Int), ()))
omit hs in
theorem bF4 {j : Nat} (hj : j < s.length) : pS s j [45, 45] = (decide (get s j = 45) && decide (get s (j + 1) = 45)) := by
 unfold pS
 rw [show ([45, 45] : List Int).length = 2 from rfl]
 by_cases h : 2 ≤ s.length - j
 ·rw [aJ3 (s := s) (by omega), decide_eq_true h, Bool.true_and]
  simp
 ·rw [decide_eq_false h, M9 (show s.length ≤ j + 1 by omega), show decide ((0 : Int) = 45) = false from rfl, Bool.and_false]; rfl
theorem Z6 : ∀ (k j : Nat), s.length ≤ j + k → j ≤ s.length → Evt fun n => ∃ y, A4 (S.tab n) s (j : Int) = some y ∧ BR (blk s k j) y
 | 0, j, hk, hj => by
  refine r8.up fun n hb => ?_
  show ∃ y, A4 (S.step (S.tab n)) _ _ = _ ∧ _
  rw [K3, q8 (by simp only [decide_eq_false_iff_not]; omega)]
  exact ⟨_, rfl, .inr rfl⟩
 | k + 1, j, hk, hj => by
  by_cases hl : s.length ≤ j
  ·refine r8.up fun n hb => ?_
   show ∃ y, A4 (S.step (S.tab n)) _ _ = _ ∧ _
   rw [K3, q8 (by simp only [decide_eq_false_iff_not]; omega)]
   refine ⟨_, rfl, .inr ?_⟩
   unfold blk; rw [decide_eq_true hl]; rfl
  have hl' : j < s.length := by omega
  have hin := n8 hl'
  have hlt : decide ((j : Int) < (s.length : Int)) = true := by simp only [decide_eq_true_eq]; omega
  have w1 : IntKind.i64.wrap ((j : Int) + 1) = ((j + 1 : Nat) : Int) := I3 (by omega)
  have ih := Z6 k (j + 1) (by omega) (by omega)
  unfold blk
  rw [decide_eq_false hl]
  by_cases c1 : get s j = 32
  ·refine ih.up fun n h => ?_
   show ∃ y, A4 (S.step (S.tab n)) _ _ = _ ∧ _
   rw [K3, l7 hlt, l7 hin, n9, l7 (decide_eq_true c1), w1, decide_eq_true c1]; exact h
  by_cases c2 : get s j = 9
  ·refine ih.up fun n h => ?_
   show ∃ y, A4 (S.step (S.tab n)) _ _ = _ ∧ _
   rw [K3, l7 hlt, l7 hin, n9, q8 (decide_eq_false c1), l7 hin, l7 (decide_eq_true c2), w1, decide_eq_true c2, decide_eq_false c1]; exact h
  by_cases c3 : get s j = 13
  ·refine ih.up fun n h => ?_
   show ∃ y, A4 (S.step (S.tab n)) _ _ = _ ∧ _
   rw [K3, l7 hlt, l7 hin, n9, q8 (decide_eq_false c1), l7 hin, q8 (decide_eq_false c2), l7 hin, l7 (decide_eq_true c3), w1, decide_eq_true c3, decide_eq_false c2, decide_eq_false c1]; exact h
  rw [decide_eq_false c1, decide_eq_false c2, decide_eq_false c3]
  have start : ∀ n, (∀ f : List Int, J2 (S.tab n) (sub s (j : Int) (s.length : Int)) f = some (pS s j f, U0)) → A4 (S.step (S.tab n)) s (j : Int) = _ := fun n hp => by
   rw [K3, l7 hlt, l7 hin, n9, q8 (decide_eq_false c1), l7 hin, q8 (decide_eq_false c2), l7 hin, q8 (decide_eq_false c3), l7 (F0 (by omega) (Nat.le_refl _)), hp, Option.bind_some, bF4 (s := s) hl']
  cases hd : decide (get s j = 45) && decide (get s (j + 1) = 45) with
  | true =>
   have h45 : get s j = 45 := by
    rw [Bool.and_eq_true, decide_eq_true_eq] at hd; exact hd.1
   have hg := bK0 h45
   have hle := bF1 (s := s) (j := j) hj
   have ih := Z6 k (bw4 s j) (by omega) hle
   refine ((ih.and (bn0 hs j)).and (aM7 hs hl')).up fun n ⟨⟨h, h6⟩, hp⟩ => ?_
   show ∃ y, A4 (S.step (S.tab n)) _ _ = _ ∧ _
   rw [start n hp, hd, l7 (by rfl), h6]
   exact h
  | false =>
   refine (aM7 hs hl').up fun n hp => ?_
   show ∃ y, A4 (S.step (S.tab n)) _ _ = _ ∧ _
   rw [start n hp, hd, q8 (by rfl)]
   exact ⟨_, rfl, .inl rfl⟩
theorem W9 : ∀ (k j : Nat), s.length ≤ j + k → j ≤ s.length → Evt fun n => ∃ y, s9 (S.tab n) s (j : Int) = some y ∧ BR (blk s k j) y
 | 0, j, hk, hj => by
  refine r8.up fun n hb => ?_
  show ∃ y, s9 (S.step (S.tab n)) _ _ = _ ∧ _
  rw [B7, q8 (by simp only [decide_eq_false_iff_not]; omega)]
  exact ⟨_, rfl, .inr rfl⟩
 | k + 1, j, hk, hj => by
  by_cases hl : s.length ≤ j
  ·refine r8.up fun n hb => ?_
   show ∃ y, s9 (S.step (S.tab n)) _ _ = _ ∧ _
   rw [B7, q8 (by simp only [decide_eq_false_iff_not]; omega)]
   refine ⟨_, rfl, .inr ?_⟩
   unfold blk; rw [decide_eq_true hl]; rfl
  have hl' : j < s.length := by omega
  have hin := n8 hl'
  have hlt : decide ((j : Int) < (s.length : Int)) = true := by simp only [decide_eq_true_eq]; omega
  have w1 : IntKind.i64.wrap ((j : Int) + 1) = ((j + 1 : Nat) : Int) := I3 (by omega)
  have ih := W9 k (j + 1) (by omega) (by omega)
  unfold blk
  rw [decide_eq_false hl]
  by_cases c1 : get s j = 32
  ·refine ih.up fun n h => ?_
   show ∃ y, s9 (S.step (S.tab n)) _ _ = _ ∧ _
   rw [B7, l7 hlt, l7 hin, n9, l7 (decide_eq_true c1), w1, decide_eq_true c1]; exact h
  by_cases c2 : get s j = 9
  ·refine ih.up fun n h => ?_
   show ∃ y, s9 (S.step (S.tab n)) _ _ = _ ∧ _
   rw [B7, l7 hlt, l7 hin, n9, q8 (decide_eq_false c1), l7 (decide_eq_true c2), w1, decide_eq_true c2, decide_eq_false c1]; exact h
  by_cases c3 : get s j = 13
  ·refine ih.up fun n h => ?_
   show ∃ y, s9 (S.step (S.tab n)) _ _ = _ ∧ _
   rw [B7, l7 hlt, l7 hin, n9, q8 (decide_eq_false c1), q8 (decide_eq_false c2), l7 (decide_eq_true c3), w1, decide_eq_true c3, decide_eq_false c2, decide_eq_false c1]; exact h
  rw [decide_eq_false c1, decide_eq_false c2, decide_eq_false c3]
  by_cases h45 : ¬ get s j = 45
  ·rw [decide_eq_false h45]
   refine r8.up fun n hb => ?_
   show ∃ y, s9 (S.step (S.tab n)) _ _ = _ ∧ _
   rw [B7, l7 hlt, l7 hin, n9, q8 (decide_eq_false c1), q8 (decide_eq_false c2), q8 (decide_eq_false c3), l7 (by rw [decide_eq_false h45]; rfl)]
   exact ⟨_, rfl, .inl rfl⟩
  replace h45 := Decidable.not_not.1 h45
  by_cases h46 : ¬ get s (j + 1) = 45
  ·rw [decide_eq_false h46, Bool.and_false]
   refine r8.up fun n hb => ?_
   show ∃ y, s9 (S.step (S.tab n)) _ _ = _ ∧ _
   rw [B7, l7 hlt, l7 hin, n9, q8 (decide_eq_false c1), q8 (decide_eq_false c2), q8 (decide_eq_false c3), q8 (by rw [decide_eq_true h45]; rfl), w1, hb.look, Option.bind_some, l7 (by rw [decide_eq_false h46]; rfl)]
   exact ⟨_, rfl, .inl rfl⟩
  replace h46 := Decidable.not_not.1 h46
  have hg := bK0 h45
  have hle := bF1 (s := s) (j := j) hj
  have ih := W9 k (bw4 s j) (by omega) hle
  refine ((ih.and (bm8 hs j)).and r8).up fun n ⟨⟨h, h6⟩, hb⟩ => ?_
  show ∃ y, s9 (S.step (S.tab n)) _ _ = _ ∧ _
  rw [B7, l7 hlt, l7 hin, n9, q8 (decide_eq_false c1), q8 (decide_eq_false c2), q8 (decide_eq_false c3), q8 (by rw [decide_eq_true h45]; rfl), w1, hb.look, Option.bind_some, q8 (by rw [decide_eq_true h46]; rfl), h6, decide_eq_true h45, decide_eq_true h46]
  exact h
theorem aa7 {j : Nat} (hj : j ≤ s.length) : Evt fun n => K1 (S.tab n) s (j : Int) = some ((blank s j : Int), U3) :=
 (Z6 hs s.length j (by omega) hj).up fun n ⟨y, h, hr⟩ => by
  show K1 (S.step (S.tab n)) _ _ = _
  rw [aX7, h, Option.bind_some]
  rcases hr with rfl | rfl <;> rfl
theorem ah0 {j : Nat} (hj : j ≤ s.length) : Evt fun n => I9 (S.tab n) s (j : Int) = some ((blank s j : Int), ad7) :=
 (W9 hs s.length j (by omega) hj).up fun n ⟨y, h, hr⟩ => by
  show I9 (S.step (S.tab n)) _ _ = _
  rw [aI2, h, Option.bind_some]
  rcases hr with rfl | rfl <;> rfl
end Go.Abs.D
end

section
namespace Go.Abs.D
theorem bS2 : ∀ k : Nat, k < 30 → sgn (r4.getD k []) ≠ 6 := by
 have h : ∀ k : Fin 30, sgn (r4.getD k.1 []) ≠ 6 := by decide +kernel
 exact fun k hk => h ⟨k, hk⟩
theorem bu1 {s : List Int} {i : Nat} {t : j7.den} (h : aC0 s i = .inr t) : 1 ≤ kd t ∧ kd t ≤ 78 ∧ kd t ≠ 6 ∧ (get s i = 34 → kd t = 4) := by
 unfold aC0 at h
 cases hl : x6 (get s i) with
 | true =>
  rw [hl] at h
  injection h with h
  subst h
  have h34 : get s i ≠ 34 := (a48 hl).2.1
  unfold bD2
  simp only
  split
  ·rename_i hk
   have hk : aD5 (sub s (i : Int) (aR4 s i : Int)) < 22 := hk
   exact ⟨by show (1 : Int) ≤ ((10 + aD5 (sub s (i : Int) (aR4 s i : Int)) : Nat) : Int); omega, by show ((10 + aD5 (sub s (i : Int) (aR4 s i : Int)) : Nat) : Int) ≤ 78; omega, by show ((10 + aD5 (sub s (i : Int) (aR4 s i : Int)) : Nat) : Int) ≠ 6; omega, fun e => absurd e h34⟩
  ·exact ⟨by show (1 : Int) ≤ 1; decide, by show (1 : Int) ≤ 78; decide, by show (1 : Int) ≠ 6; decide, fun e => absurd e h34⟩
 | false =>
  rw [hl] at h
  cases hd : r6 (get s i) with
  | true =>
   rw [hd] at h
   have h34 : get s i ≠ 34 := fun e => by rw [e] at hd; cases hd
   rcases bj0 h with h | h
   ·have h : kd t = 2 := h
    rw [h]; exact ⟨by decide, by decide, by decide, fun e => absurd e h34⟩
   ·have h : kd t = 3 := h
    rw [h]; exact ⟨by decide, by decide, by decide, fun e => absurd e h34⟩
  | false =>
   rw [hd] at h
   cases h34 : decide (get s i = 34) with
   | true =>
    rw [h34] at h
    have h : bH3 i (S0 s s.length (i + 1) []) = .inr t := h
    cases hr : S0 s s.length (i + 1) [] with
    | inl e => rw [hr] at h; cases h
    | inr y =>
     rw [hr] at h
     obtain ⟨e, r⟩ := y
     injection h with h
     subst h
     exact ⟨by show (1 : Int) ≤ 4; decide, by show (4 : Int) ≤ 78; decide, by show (4 : Int) ≠ 6; decide, fun _ => rfl⟩
   | false =>
    have h34' : get s i ≠ 34 := of_decide_eq_false h34
    rw [h34] at h
    have h : aK2 i (V4 (p3 s i)) = .inr t := h
    unfold aK2 V4 at h
    cases hk : decide (U8 (p3 s i) < 30) with
    | false => rw [hk] at h; cases h
    | true =>
     rw [hk] at h
     simp only [cond_true] at h
     rw [decide_eq_false (aZ3 _)] at h
     injection h with h
     subst h
     have hk := of_decide_eq_true hk
     have h1 := bK4 _ hk
     have h2 := bS2 _ hk
     refine ⟨?_, ?_, ?_, fun e => absurd e h34'⟩
     ·show (1 : Int) ≤ ((sgn _ : Nat) : Int); omega
     ·show ((sgn _ : Nat) : Int) ≤ 78; omega
     ·show ((sgn _ : Nat) : Int) ≠ 6; omega
def lnd (t : j7.den) (line : Int) : j7.den := (t.1, t.2.1, t.2.2.1, line, t.2.2.2.2)
def foldI (a : List Int) : List Int → Option (List Int)
 | [] => some a
 | k :: ks => match ae0 a k with | .left l => foldI l ks | _ => none
theorem aC4 : ∀ (ks : List Int) (a b l : List Int) (k : Int), foldI a ks = some b → ae0 b k = .left l → foldI a (ks ++ [k]) = some l
 | [], a, b, l, k, h, ho => by
  injection h with h
  subst h
  show (match ae0 a k with | .left l => foldI l [] | _ => none) = _
  rw [ho]; rfl
 | k' :: ks, a, b, l, k, h, ho => by
  have h : (match ae0 a k' with | .left l => foldI l ks | _ => none) = some b := h
  show (match ae0 a k' with | .left l => foldI l (ks ++ [k]) | _ => none) = some l
  cases hx : ae0 a k' with
  | no => rw [hx] at h; cases h
  | gone => rw [hx] at h; cases h
  | left m => rw [hx] at h; exact aC4 ks m b l k h ho
def bP9 (s : List Int) (t : j7.den) : Prop :=
 (∃ (i : Nat) (line : Nat) (t0 : j7.den), i < s.length ∧ line ≤ i + 1 ∧ get s i ≠ 10 ∧ aC0 s i = .inr t0 ∧ t = lnd t0 line) ∨
 (∃ (i : Nat) (line : Nat), i < s.length ∧ line ≤ i + 1 ∧ get s i = 10 ∧ t = (5, (i : Int), ((i + 1 : Nat) : Int), (line : Int), 0, ([] : List Int), ()))
theorem a74 {p q : Int → Bool} (h : ∀ k : Int, 0 ≤ k → k ≤ 78 → p k = q k) (s : List Int) (i : Nat) : ∀ m acc : Nat, m ≤ 78 → mxK p s i m acc = mxK q s i m acc
 | 0, _, _ => rfl
 | m + 1, acc, hm => by
  unfold mxK
  rw [h _ (by omega) (by omega), a74 h s i m _ (by omega)]
theorem bd5 {p q : Int → Bool} (h : ∀ k : Int, 0 ≤ k → k ≤ 78 → p k = q k) (s : List Int) (i : Nat) : V9 p s i = V9 q s i := by
 unfold V9
 rw [a74 h s i 78 _ (Nat.le_refl _), h 1 (by decide) (by decide)]
theorem bQ8 : gdI [1000] := fun x hx => by
 have e : x = 1000 := by simpa using hx
 have h : bM5 1000 = true := by kernel_rfl
 rw [e]; exact bb8 h
theorem bS5 : gdS [100] := fun x hx => by
 have e : x = 100 := by simpa using hx
 have h : bL8 100 = true := by kernel_rfl
 rw [e]; exact h
theorem bs4 {s : List Int} {j : Nat} (h : j ≤ s.length) : blank s j ≤ s.length ∧ j ≤ blank s j := bv6 _ _ h
variable {s : List Int} (hs : s.length ≤ 65536) (hb8 : ∀ c ∈ s, isByte c)
include hs
theorem a35 {b : List Int} {cs : Cls} {top : Int} (hb : gdS b) (hr : Reads cs top (b ++ [6])) (hcl : cs.length ≤ 1999900) {i : Nat} (hi : i < s.length) (hw : WrongAt (Y9 b) (get s i)) (out : List j7.den) (line : Int) :
  Evt fun n => ∀ (tok : j7.den) (t12 t13 t14 : Int), tok.1 ≠ 7 → z7 (S.tab n) (cs, ()) s top out line (i : Int) tok t12 t13 t14 false = some (Sum.inr (Sum.inl ((cs, ()), [], top, ((i + V9 (Y9 b) s i : Nat) : Int), ()))) :=
 ((bD7 cs hcl b top hb hr).and (bz0 hs hi hw)).up fun n ⟨hm, hx⟩ tok t12 t13 t14 h7 => by
  show z7 (S.step (S.tab n)) _ _ _ _ _ _ _ _ _ _ _ = _
  rw [O8, l7 (by rfl), q8 (decide_eq_false h7), l7 (by rfl), hm, Option.bind_some]
  dsimp only
  rw [hx, Option.bind_some]
omit hs in
theorem bE7 (cs : Cls) (top : Int) (i : Nat) (out : List j7.den) (line : Int) : Evt fun n => ∀ (tok : j7.den) (e : Nat) (t13 t14 : Int), tok.1 ≠ 7 → z7 (S.tab n) (cs, ()) s top out line (i : Int) tok (e : Int) t13 t14 true = some (Sum.inr (Sum.inl ((cs, ()), [], top, (e : Int), ()))) :=
 r8.up fun n _ tok e t13 t14 h7 => by
  show z7 (S.step (S.tab n)) _ _ _ _ _ _ _ _ _ _ _ = _
  rw [O8, q8 (by rfl), q8 (by rfl), l7 (by simp only [decide_eq_true_eq]; omega)]
theorem bi7 (cs : Cls) (top : Int) (i : Nat) (out : List j7.den) (ho : out.length ≤ 70000) (line : Int) (tok : j7.den) {e : Nat} (he : tok.2.2.1 = (e : Int)) (hel : e ≤ s.length) (t13 t14 : Int) : Evt fun n => z7 (S.tab n) (cs, ()) s top out line (i : Int) tok (-1) t13 t14 true = some (Sum.inr (Sum.inr (Sum.inl ((cs, ()), s, t14, out ++ [(t13, tok.2)], line, (blank s e : Int), ())))) :=
 (ah0 (s := s) (by omega) (j := e) hel).up fun n hbk => by
  show z7 (S.step (S.tab n)) _ _ _ _ _ _ _ _ _ _ _ = _
  rw [O8, q8 (by rfl), q8 (by rfl), q8 (by rfl), l7 (Z1 (by unfold lim; simp; omega)), he, hbk, Option.bind_some]
theorem bv1 (cs : Cls) (top : Int) (i : Nat) (out : List j7.den) (line : Int) (tok : j7.den) {e : Nat} (he : tok.2.2.1 = (e : Int)) (h7 : tok.1 = 7) (hel : e ≤ s.length) (t12 t13 t14 : Int) : Evt fun n => z7 (S.tab n) (cs, ()) s top out line (i : Int) tok t12 t13 t14 false = some (Sum.inl ((cs, ()), s, top, out, line, (blank s e : Int), ())) :=
 (ah0 (s := s) (by omega) (j := e) hel).up fun n hbk => by
  show z7 (S.step (S.tab n)) _ _ _ _ _ _ _ _ _ _ _ = _
  rw [O8, l7 (by rfl), l7 (decide_eq_true h7), he, hbk, Option.bind_some]
abbrev W16 : Type := ((List O4.den × Unit) × List Int × Int × List j7.den × Int × Int × Unit) ⊕ ((List O4.den × Unit) × List j7.den × O4.den) ⊕ ((List O4.den × Unit) × List Int × Int × List j7.den × Int × Int × Unit) ⊕ Empty
omit hs in
theorem br2 (y : W16) : bI9 (fun y16 => some (Sum.inl y16 : W16)) (fun y16 => some (Sum.inr (Sum.inl y16))) (fun y16 => some (Sum.inr (Sum.inr (Sum.inl y16)))) y = some y := by
 rcases y with y | y | y | y
 ·rfl
 ·rfl
 ·rfl
 ·exact y.elim
omit hs in
theorem aw8 {k : Int} (hk : 1 ≤ k) {cs ds : Cls} {top top' : Int} {ok : Bool} {out : List j7.den} {line : Int} {i : Nat} {n : Nat} (hF : Q5 (S.tab n) (cs, ()) top k = some ((top', ok, ()), (ds, ()), (), (), ())) {tok : j7.den} {t12 : Int} {y : W16}
  (h : z7 (S.tab n) (ds, ()) s top out line (i : Int) tok t12 k top' ok = some y) : u5 (S.step (S.tab n)) (cs, ()) s top out line (i : Int) tok t12 k = some y := by
 rw [af4, l7 (by simp only [decide_eq_true_eq]; omega), hF, Option.bind_some]
 dsimp only
 rw [h, Option.bind_some]
 exact br2 y
omit hs in
theorem by8 {cs : Cls} {top : Int} {out : List j7.den} {line : Int} {i : Nat} {n : Nat} {tok : j7.den} {t12 : Int} {y : W16}
  (h : z7 (S.tab n) (cs, ()) s top out line (i : Int) tok t12 0 top false = some y) : u5 (S.step (S.tab n)) (cs, ()) s top out line (i : Int) tok t12 0 = some y := by
 rw [af4, q8 (by rfl)]
 show (z7 (S.tab n) (cs, ()) s top out line (i : Int) tok t12 0 top false).bind _ = _
 rw [h, Option.bind_some]
 exact br2 y
theorem by7 {b : List Int} {cs : Cls} {top : Int} (hb : gdS b) (hr : Reads cs top (b ++ [6])) (hcl : cs.length ≤ 1999800) {i : Nat} (hi : i < s.length) {k : Int} (h1 : 1 ≤ k) (h78 : k ≤ 78) (hw : Y9 b k = false → WrongAt (Y9 b) (get s i)) (out : List j7.den) (line : Int) (e : Nat) :
  Evt fun n => ∀ (tok : j7.den) (t12 : Int), tok.1 ≠ 7 → (Y9 b k = true → t12 = (e : Int)) → ∃ c t, u5 (S.tab n) (cs, ()) s top out line (i : Int) tok t12 k = some (Sum.inr (Sum.inl (c, [], t, ((bif Y9 b k then e else i + V9 (Y9 b) s i : Nat) : Int), ()))) := by
 obtain ⟨ds, top', hd, _, hF⟩ := aX2 (k := k) (by omega) h78 cs (by omega) b top hb.ok hr
 have hk : aZ0 (av3 b k) (decide ((6 : Int) = k)) = Y9 b k := rfl
 rw [hk] at hF
 cases hc : Y9 b k with
 | false =>
  rw [hc] at hF
  exact (hF.and (a35 hs hb hr.mono (by simp; omega) hi (hw hc) out line)).up fun n ⟨hF, h16⟩ tok t12 h7 _ => ⟨_, _, aw8 h1 hF (h16 tok t12 k top' h7)⟩
 | true =>
  rw [hc] at hF
  refine (hF.and (bE7 (s := s) (cs ++ ds) top i out line)).up fun n ⟨hF, h16⟩ tok t12 h7 ht => ?_
  rw [ht rfl]
  exact ⟨_, _, aw8 h1 hF (h16 tok e k top' h7)⟩
def bO8 (s : List Int) (out : List j7.den) (line i : Nat) (a : List Int) (cs : Cls) (top : Int) : Prop :=
 (∃ p : Nat, (Evt fun n => ∃ l, q9 (S.tab n) s out (a ++ [6]) (line : Int) (i : Int) = some (Sum.inl ([], l, (p : Int), ()))) ∧
  Evt fun n => ∃ c t, p4 (S.tab n) (cs, ()) s top out (line : Int) (i : Int) = some (Sum.inl (c, [], t, (p : Int), ()))) ∨
 (∃ (out' : List j7.den) (a' b' : List Int) (cs' : Cls) (top' : Int) (line' : Nat), gdI a' ∧ gdS b' ∧ NI a' = NS b' ∧ Reads cs' top' (b' ++ [6]) ∧ cs'.length ≤ 1999900 ∧ out'.length ≤ s.length ∧ line' ≤ s.length + 1 ∧
  foldI [1000] (out'.map kd) = some a' ∧ (∀ t ∈ out', bP9 s t) ∧
  (Evt fun n => q9 (S.tab n) s out (a ++ [6]) (line : Int) (i : Int) = some (Sum.inr (Sum.inl (out', a' ++ [6], ())))) ∧
  Evt fun n => p4 (S.tab n) (cs, ()) s top out (line : Int) (i : Int) = some (Sum.inr (Sum.inl ((cs', ()), s, top', out', (line' : Int), ()))))
include hb8 in
theorem bF5 : ∀ (d i line : Nat) (out : List j7.den) (a b : List Int) (cs : Cls) (top : Int), s.length < i + d → i ≤ s.length → line ≤ i + 1 → out.length ≤ i → gdI a → gdS b → NI a = NS b → Reads cs top (b ++ [6]) → cs.length ≤ 20 * i + 2 →
    foldI [1000] (out.map kd) = some a → (∀ t ∈ out, bP9 s t) → bO8 s out line i a cs top := by
  have hs2 : s.length ≤ 2097152 := by omega
  intro d
  induction d with
  | zero => intro i line out a b cs top hd hi; omega
  | succ d ih =>
    intro i line out a b cs top hd hi hline ho ha hb hn hr hcl hf htp
    by_cases hl : s.length ≤ i
    ·
      refine .inr ⟨out, a, b, cs, top, line, ha, hb, hn, hr, by omega, by omega, by omega, hf, htp, r8.up fun n _ => ?_, r8.up fun n _ => ?_⟩
      · show q9 (S.step (S.tab n)) _ _ _ _ _ = _
        rw [W5, q8 (by simp only [decide_eq_false_iff_not]; omega)]
      · show p4 (S.step (S.tab n)) _ _ _ _ _ _ = _
        rw [Q6, q8 (by simp only [decide_eq_false_iff_not]; omega)]
    have hl' : i < s.length := by omega
    have hlt : decide ((i : Int) < (s.length : Int)) = true := by simp only [decide_eq_true_eq]; omega
    have hin := n8 hl'
    have w1 : IntKind.i64.wrap ((i : Int) + 1) = ((i + 1 : Nat) : Int) := I3 (by omega)
    have wl : IntKind.i64.wrap ((line : Int) + 1) = ((line + 1 : Nat) : Int) := I3 (by omega)
    have hfit : ∀ x : j7.den, fits (out.length + ([x] : List j7.den).length) = true := fun x => Z1 (by unfold lim; simp only [List.length_singleton]; omega)
    have hcs : ∀ k : Int, 0 ≤ k → k ≤ 78 → aJ2 a k = Y9 b k := fun k h0 h1 => a19 ha hb hn h0 h1
    by_cases h10 : get s i = 10
    ·
      have hbl := bs4 (s := s) (j := i + 1) (by omega)
      obtain ⟨ds, top', hdl, hR, hF⟩ := aX2 (k := 5) (by decide) (by decide) cs (by omega) b top hb.ok hr
      have hk : aZ0 (av3 b 5) (decide ((6 : Int) = 5)) = Y9 b 5 := rfl
      rw [hk] at hF
      have hcan := a38 (k := 5) (by decide) (by decide) a ha
      have hk : aZ0 (ae0 a 5) (decide ((6 : Int) = 5)) = aJ2 a 5 := rfl
      rw [hk, hcs 5 (by decide) (by decide)] at hcan
      cases hc : Y9 b 5 with
      | false =>
        rw [hc] at hF hcan
        have ih := ih (blank s (i + 1)) (line + 1) out a b (cs ++ ds) top (by omega) hbl.1 (by omega) (by omega) ha hb hn hr.mono (by simp; omega) hf htp
        have stepI : ∀ n, O5 (S.tab n) (a ++ [6]) 5 = some (false, U2) → K1 (S.tab n) s ((i + 1 : Nat) : Int) = some ((blank s (i + 1) : Int), U3) → q9 (S.step (S.tab n)) s out (a ++ [6]) (line : Int) (i : Int) = q9 (S.tab n) s out (a ++ [6]) ((line + 1 : Nat) : Int) (blank s (i + 1) : Int) := fun n hcan hbk => by
          rw [W5, l7 hlt, l7 hin, n9, l7 (decide_eq_true h10), hcan, Option.bind_some, q8 (by rfl), w1, hbk, Option.bind_some, wl]
        have hj12 : Evt fun n => u5 (S.tab n) (cs, ()) s top out ((line + 1 : Nat) : Int) (i : Int) (7, (i : Int), ((i + 1 : Nat) : Int), (line : Int), 0, ([] : List Int), ()) (-1) 5 = some (Sum.inl ((cs ++ ds, ()), s, top, out, ((line + 1 : Nat) : Int), (blank s (i + 1) : Int), ())) :=
          (hF.and (bv1 hs (cs ++ ds) top i out ((line + 1 : Nat) : Int) (7, (i : Int), ((i + 1 : Nat) : Int), (line : Int), 0, ([] : List Int), ()) (e := i + 1) rfl rfl (by omega) (-1) 5 top')).up fun n ⟨hF, h16⟩ => aw8 (by decide) hF h16
        have stepS : ∀ n, D5 (S.tab n) s (i : Int) = some (((7, (i : Int), ((i + 1 : Nat) : Int), 0, 0, ([] : List Int), ()), -1, ()), C1) → u5 (S.tab n) (cs, ()) s top out ((line + 1 : Nat) : Int) (i : Int) (7, (i : Int), ((i + 1 : Nat) : Int), (line : Int), 0, ([] : List Int), ()) (-1) 5 = some (Sum.inl ((cs ++ ds, ()), s, top, out, ((line + 1 : Nat) : Int), (blank s (i + 1) : Int), ())) →
            p4 (S.step (S.tab n)) (cs, ()) s top out (line : Int) (i : Int) = p4 (S.tab n) (cs ++ ds, ()) s top out ((line + 1 : Nat) : Int) (blank s (i + 1) : Int) := fun n hrd h12 => by
          rw [Q6, l7 hlt, hrd, Option.bind_some]
          dsimp only
          rw [l7 (by rfl), wl, h12]; rfl
        have hrd := au0 hs2 hl' h10
        have hbk := aa7 (s := s) hs2 (j := i + 1) (by omega)
        rcases ih with ⟨p, e1, e2⟩ | ⟨out', a', b', cs', top'', line', g1, g2, g3, g4, g5, g6, g7, g8, g9, e1, e2⟩
        · refine .inl ⟨p, ((e1.and hcan).and hbk).up fun n ⟨⟨⟨l, h⟩, hc⟩, hk⟩ => ⟨l, ?_⟩, ((e2.and hrd).and hj12).up fun n ⟨⟨⟨c, t, h⟩, hrd⟩, h12⟩ => ⟨c, t, ?_⟩⟩
          · show q9 (S.step (S.tab n)) _ _ _ _ _ = _
            rw [stepI n hc hk, h]
          · show p4 (S.step (S.tab n)) _ _ _ _ _ _ = _
            rw [stepS n hrd h12, h]
        · refine .inr ⟨out', a', b', cs', top'', line', g1, g2, g3, g4, g5, g6, g7, g8, g9, ((e1.and hcan).and hbk).up fun n ⟨⟨h, hc⟩, hk⟩ => ?_, ((e2.and hrd).and hj12).up fun n ⟨⟨h, hrd⟩, h12⟩ => ?_⟩
          · show q9 (S.step (S.tab n)) _ _ _ _ _ = _
            rw [stepI n hc hk, h]
          · show p4 (S.step (S.tab n)) _ _ _ _ _ _ = _
            rw [stepS n hrd h12, h]
      | true =>
        rw [hc] at hF hcan
        obtain ⟨l, m, hol, hom, gl, gm, hnm⟩ := a58 ha hb hn (k := 5) (by decide) (by decide) (by decide) (by rw [hcs 5 (by decide) (by decide)]; exact hc)
        have hst := aY9 (k := 5) (by decide) (by decide) (by decide) a ha
        rw [hol] at hst
        have ih := ih (blank s (i + 1)) (line + 1) (out ++ [(5, (i : Int), ((i + 1 : Nat) : Int), (line : Int), 0, ([] : List Int), ())]) l m (cs ++ ds) top' (by omega) hbl.1 (by omega) (by simp; omega) gl gm hnm (hR m hom) (by simp; omega)
          (by rw [List.map_append]; exact aC4 _ _ a l 5 hf hol) (fun t ht => (List.mem_append.1 ht).elim (htp t) fun ht => .inr ⟨i, line, hl', hline, h10, by simpa using ht⟩)
        have stepI : ∀ n, O5 (S.tab n) (a ++ [6]) 5 = some (true, U2) → Y6 (S.tab n) (a ++ [6]) 5 = some (l ++ [6], ac8) → K1 (S.tab n) s ((i + 1 : Nat) : Int) = some ((blank s (i + 1) : Int), U3) → q9 (S.step (S.tab n)) s out (a ++ [6]) (line : Int) (i : Int) = q9 (S.tab n) s (out ++ [(5, (i : Int), ((i + 1 : Nat) : Int), (line : Int), 0, ([] : List Int), ())]) (l ++ [6]) ((line + 1 : Nat) : Int) (blank s (i + 1) : Int) := fun n hcan hst hbk => by
          rw [W5, l7 hlt, l7 hin, n9, l7 (decide_eq_true h10), hcan, Option.bind_some, l7 (by rfl), hst, Option.bind_some, l7 (hfit _), w1, hbk, Option.bind_some, wl]
        have hj12 : Evt fun n => u5 (S.tab n) (cs, ()) s top out ((line + 1 : Nat) : Int) (i : Int) (7, (i : Int), ((i + 1 : Nat) : Int), (line : Int), 0, ([] : List Int), ()) (-1) 5 = some (Sum.inr (Sum.inr (Sum.inl ((cs ++ ds, ()), s, top', out ++ [(5, (i : Int), ((i + 1 : Nat) : Int), (line : Int), 0, ([] : List Int), ())], ((line + 1 : Nat) : Int), (blank s (i + 1) : Int), ())))) :=
          (hF.and (bi7 hs (cs ++ ds) top i out (by omega) ((line + 1 : Nat) : Int) (7, (i : Int), ((i + 1 : Nat) : Int), (line : Int), 0, ([] : List Int), ()) (e := i + 1) rfl (by omega) 5 top')).up fun n ⟨hF, h16⟩ => aw8 (by decide) hF h16
        have stepS : ∀ n, D5 (S.tab n) s (i : Int) = some (((7, (i : Int), ((i + 1 : Nat) : Int), 0, 0, ([] : List Int), ()), -1, ()), C1) → u5 (S.tab n) (cs, ()) s top out ((line + 1 : Nat) : Int) (i : Int) (7, (i : Int), ((i + 1 : Nat) : Int), (line : Int), 0, ([] : List Int), ()) (-1) 5 = some (Sum.inr (Sum.inr (Sum.inl ((cs ++ ds, ()), s, top', out ++ [(5, (i : Int), ((i + 1 : Nat) : Int), (line : Int), 0, ([] : List Int), ())], ((line + 1 : Nat) : Int), (blank s (i + 1) : Int), ())))) →
            p4 (S.step (S.tab n)) (cs, ()) s top out (line : Int) (i : Int) = p4 (S.tab n) (cs ++ ds, ()) s top' (out ++ [(5, (i : Int), ((i + 1 : Nat) : Int), (line : Int), 0, ([] : List Int), ())]) ((line + 1 : Nat) : Int) (blank s (i + 1) : Int) := fun n hrd h12 => by
          rw [Q6, l7 hlt, hrd, Option.bind_some]
          dsimp only
          rw [l7 (by rfl), wl, h12]; rfl
        have hrd := au0 hs2 hl' h10
        have hbk := aa7 (s := s) hs2 (j := i + 1) (by omega)
        rcases ih with ⟨p, e1, e2⟩ | ⟨out', a', b', cs', top'', line', g1, g2, g3, g4, g5, g6, g7, g8, g9, e1, e2⟩
        · refine .inl ⟨p, (((e1.and hcan).and hst).and hbk).up fun n ⟨⟨⟨⟨l', h⟩, hc⟩, hst⟩, hk⟩ => ⟨l', ?_⟩, ((e2.and hrd).and hj12).up fun n ⟨⟨⟨c, t, h⟩, hrd⟩, h12⟩ => ⟨c, t, ?_⟩⟩
          · show q9 (S.step (S.tab n)) _ _ _ _ _ = _
            rw [stepI n hc hst hk, h]
          · show p4 (S.step (S.tab n)) _ _ _ _ _ _ = _
            rw [stepS n hrd h12, h]
        · refine .inr ⟨out', a', b', cs', top'', line', g1, g2, g3, g4, g5, g6, g7, g8, g9, (((e1.and hcan).and hst).and hbk).up fun n ⟨⟨⟨h, hc⟩, hst⟩, hk⟩ => ?_, ((e2.and hrd).and hj12).up fun n ⟨⟨h, hrd⟩, h12⟩ => ?_⟩
          · show q9 (S.step (S.tab n)) _ _ _ _ _ = _
            rw [stepI n hc hst hk, h]
          · show p4 (S.step (S.tab n)) _ _ _ _ _ _ = _
            rw [stepS n hrd h12, h]
    have hread := a39 hs2 hl' h10
    have hlex := bb4 hs2 hb8 hl'
    have hlong := bn8 hs a ha i hl'
    rw [bd5 hcs s i] at hlong
    have wI : ∀ n, N1 (S.tab n) (a ++ [6]) s (i : Int) = some ((V9 (Y9 b) s i : Int), S5) → WrongAt (Y9 b) (get s i) → ((N1 (S.tab n) (a ++ [6]) s (i : Int)).bind fun d61 => some (Sum.inl (([] : List j7.den), a ++ [6], IntKind.i64.wrap ((i : Int) + d61.1), ()))) = (some (Sum.inl ([], a ++ [6], ((i + V9 (Y9 b) s i : Nat) : Int), ())) : Option ((List j7.den × List Int × Int × Unit) ⊕ (List j7.den × List Int × Unit) ⊕ Empty)) := fun n h hw => by
      obtain ⟨l1, _, _⟩ := a04 hl' hw
      rw [h, Option.bind_some]
      dsimp only
      rw [wrap64 _ (by omega) (by omega)]; rfl
    have startI : ∀ n t' bd, Q2 (S.tab n) s (i : Int) = some ((t', bd, ()), J9) → q9 (S.step (S.tab n)) s out (a ++ [6]) (line : Int) (i : Int) = _ := fun n t' bd h => by
      rw [W5, l7 hlt, l7 hin, n9, q8 (decide_eq_false h10), h, Option.bind_some]
    have startS : ∀ n (t' : j7.den) (bd : Int), D5 (S.tab n) s (i : Int) = some ((t', bd, ()), C1) → t'.1 ≠ 7 → p4 (S.step (S.tab n)) (cs, ()) s top out (line : Int) (i : Int) = (u5 (S.tab n) (cs, ()) s top out (line : Int) (i : Int) (t'.1, t'.2.1, t'.2.2.1, (line : Int), t'.2.2.2.2) bd t'.1).bind (bI9
       (fun y12 => p4 (S.tab n) y12.1 y12.2.1 y12.2.2.1 y12.2.2.2.1 y12.2.2.2.2.1 y12.2.2.2.2.2.1)
       (fun y12 => some (Sum.inl y12))
       (fun y12 => p4 (S.tab n) y12.1 y12.2.1 y12.2.2.1 y12.2.2.2.1 y12.2.2.2.2.1 y12.2.2.2.2.2.1)) := fun n t' bd h h7 => by
      rw [Q6, l7 hlt, h, Option.bind_some]
      dsimp only
      rw [q8 (decide_eq_false h7)]
    have badI : ∀ n (t' : j7.den) (bd : Bool) (k : Int) (e : Nat), t'.1 = k → k ≠ 0 → Q2 (S.tab n) s (i : Int) = some ((t', bd, ()), J9) → O5 (S.tab n) (a ++ [6]) k = some (Y9 b k, U2) → N1 (S.tab n) (a ++ [6]) s (i : Int) = some ((V9 (Y9 b) s i : Int), S5) → (Y9 b k = true → bd = true ∧ t'.2.2.1 = (e : Int)) → (Y9 b k = false → WrongAt (Y9 b) (get s i)) →
        q9 (S.step (S.tab n)) s out (a ++ [6]) (line : Int) (i : Int) = some (Sum.inl ([], a ++ [6], ((bif Y9 b k then e else i + V9 (Y9 b) s i : Nat) : Int), ())) := fun n t' bd k e hk h0 hx hc hlg h1 h2 => by
      rw [startI n t' bd hx]
      dsimp only
      rw [q8 (decide_eq_false (by rw [hk]; exact h0))]
      rw [hk, hc, Option.bind_some]
      cases hv : Y9 b k with
      | false =>
        rw [l7 (by rfl)]
        exact wI n hlg (h2 hv)
      | true =>
        obtain ⟨rfl, e2⟩ := h1 hv
        rw [q8 (by rfl), l7 rfl, e2]; rfl
    have canE : ∀ k : Int, 0 ≤ k → k ≤ 78 → Evt fun n => O5 (S.tab n) (a ++ [6]) k = some (Y9 b k, U2) := fun k h0 h1 => by
      have hcan := a38 h0 h1 a ha
      have hk : aZ0 (ae0 a k) (decide ((6 : Int) = k)) = aJ2 a k := rfl
      rw [hk, hcs k h0 h1] at hcan
      exact hcan
    cases hx : aC0 s i with
    | inl e =>
      rw [hx] at hread hlex
      have h23 : Y9 b 2 = Y9 b 3 := aM8 hb
      cases hd : r6 (get s i) with
      | true =>
        have h34 : get s i ≠ 34 := fun e => by rw [e] at hd; cases hd
        have hw : Y9 b 2 = false → WrongAt (Y9 b) (get s i) := fun h => ⟨fun _ => ⟨h, by rw [← h23]; exact h⟩, fun e => absurd e h34⟩
        have kind : ∀ k : Int, kB (get s i) k = true → k = 2 ∨ k = 3 := fun k h => by
          unfold kB at h
          rw [hd] at h
          have h : k23 k = true := h
          unfold k23 at h
          simpa only [Bool.or_eq_true, decide_eq_true_eq] using h
        refine .inl ⟨bif Y9 b 2 then e else i + V9 (Y9 b) s i, ((((canE 2 (by decide) (by decide)).and (canE 3 (by decide) (by decide))).and hlong).and hlex).up fun n ⟨⟨⟨c2, c3⟩, hlg⟩, t', bd, h, hR⟩ => ⟨a ++ [6], ?_⟩, ?_⟩
        · show q9 (S.step (S.tab n)) _ _ _ _ _ = _
          obtain ⟨r1, r2, r3⟩ : bd = true ∧ t'.2.2.1 = (e : Int) ∧ kB (get s i) t'.1 = true := hR
          rcases kind _ r3 with hk | hk
          · exact badI n t' bd 2 e hk (by decide) h c2 hlg (fun _ => ⟨r1, r2⟩) hw
          · rw [h23]
            exact badI n t' bd 3 e hk (by decide) h c3 hlg (fun _ => ⟨r1, r2⟩) (fun h => hw (by rw [h23]; exact h))
        · refine (((by7 hs hb hr (by omega) hl' (k := 2) (by decide) (by decide) hw out line e).and (by7 hs hb hr (by omega) hl' (k := 3) (by decide) (by decide) (fun h => hw (by rw [h23]; exact h)) out line e)).and hread).up fun n ⟨⟨b2, b3⟩, t', bd, h, hR⟩ => ?_
          obtain ⟨r1, r3⟩ : bd = (e : Int) ∧ kB (get s i) t'.1 = true := hR
          show ∃ c t, p4 (S.step (S.tab n)) _ _ _ _ _ _ = _
          rcases kind _ r3 with hk | hk
          · obtain ⟨c, t, hh⟩ := b2 (t'.1, t'.2.1, t'.2.2.1, (line : Int), t'.2.2.2.2) bd (by show t'.1 ≠ 7; rw [hk]; decide) (fun _ => r1)
            rw [startS n t' bd h (by rw [hk]; decide)]
            rw [← hk] at hh
            refine ⟨c, t, ?_⟩
            rw [hh, hk]; rfl
          · obtain ⟨c, t, hh⟩ := b3 (t'.1, t'.2.1, t'.2.2.1, (line : Int), t'.2.2.2.2) bd (by show t'.1 ≠ 7; rw [hk]; decide) (fun _ => r1)
            rw [startS n t' bd h (by rw [hk]; decide)]
            rw [← hk] at hh
            refine ⟨c, t, ?_⟩
            rw [hh, hk, h23]; rfl
      | false =>
        by_cases h34 : get s i = 34
        · have hw : Y9 b 4 = false → WrongAt (Y9 b) (get s i) := fun h => ⟨fun e => (by rw [hd] at e; cases e), fun _ => h⟩
          have kind : ∀ k : Int, kB (get s i) k = true → k = 4 := fun k h => by
            unfold kB at h
            rw [hd, decide_eq_true h34] at h
            exact of_decide_eq_true h
          refine .inl ⟨bif Y9 b 4 then e else i + V9 (Y9 b) s i, (((canE 4 (by decide) (by decide)).and hlong).and hlex).up fun n ⟨⟨c4, hlg⟩, t', bd, h, hR⟩ => ⟨a ++ [6], ?_⟩, ((by7 hs hb hr (by omega) hl' (k := 4) (by decide) (by decide) hw out line e).and hread).up fun n ⟨b4, t', bd, h, hR⟩ => ?_⟩
          · show q9 (S.step (S.tab n)) _ _ _ _ _ = _
            obtain ⟨r1, r2, r3⟩ : bd = true ∧ t'.2.2.1 = (e : Int) ∧ kB (get s i) t'.1 = true := hR
            exact badI n t' bd 4 e (kind _ r3) (by decide) h c4 hlg (fun _ => ⟨r1, r2⟩) hw
          · obtain ⟨r1, r3⟩ : bd = (e : Int) ∧ kB (get s i) t'.1 = true := hR
            show ∃ c t, p4 (S.step (S.tab n)) _ _ _ _ _ _ = _
            have hk := kind _ r3
            obtain ⟨c, t, hh⟩ := b4 (t'.1, t'.2.1, t'.2.2.1, (line : Int), t'.2.2.2.2) bd (by show t'.1 ≠ 7; rw [hk]; decide) (fun _ => r1)
            rw [startS n t' bd h (by rw [hk]; decide)]
            rw [← hk] at hh
            refine ⟨c, t, ?_⟩
            rw [hh, hk]; rfl
        · have hw : WrongAt (Y9 b) (get s i) := ⟨fun e => (by rw [hd] at e; cases e), fun e => absurd e h34⟩
          have kind : ∀ k : Int, kB (get s i) k = true → k = 0 := fun k h => by
            unfold kB at h
            rw [hd, decide_eq_false h34] at h
            exact of_decide_eq_true h
          refine .inl ⟨i + V9 (Y9 b) s i, (hlong.and hlex).up fun n ⟨hlg, t', bd, h, hR⟩ => ⟨a ++ [6], ?_⟩, ?_⟩
          · show q9 (S.step (S.tab n)) _ _ _ _ _ = _
            obtain ⟨r1, r2, r3⟩ : bd = true ∧ t'.2.2.1 = (e : Int) ∧ kB (get s i) t'.1 = true := hR
            rw [startI n t' bd h]
            dsimp only
            rw [l7 (decide_eq_true (kind _ r3))]
            exact wI n hlg hw
          · have h12 : Evt fun n => ∀ (tok : j7.den) (t12 : Int), tok.1 ≠ 7 → u5 (S.tab n) (cs, ()) s top out (line : Int) (i : Int) tok t12 0 = some (Sum.inr (Sum.inl ((cs, ()), [], top, ((i + V9 (Y9 b) s i : Nat) : Int), ()))) :=
              (a35 hs hb hr (by omega) hl' hw out line).up fun n h16 tok t12 h7 => by8 (h16 tok t12 0 top h7)
            refine (h12.and hread).up fun n ⟨h12, t', bd, h, hR⟩ => ⟨(cs, ()), top, ?_⟩
            obtain ⟨r1, r3⟩ : bd = (e : Int) ∧ kB (get s i) t'.1 = true := hR
            have hk := kind _ r3
            show p4 (S.step (S.tab n)) _ _ _ _ _ _ = _
            rw [startS n t' bd h (by rw [hk]; decide)]
            have hh := h12 (t'.1, t'.2.1, t'.2.2.1, (line : Int), t'.2.2.2.2) bd (by show t'.1 ≠ 7; rw [hk]; decide)
            rw [← hk] at hh
            rw [hh]; rfl
    | inr t =>
      rw [hx] at hread hlex
      obtain ⟨k1, k78, k6, k34⟩ := bu1 hx
      obtain ⟨⟨e, he, hie, hel⟩, h7⟩ := bs2 hs2 hl' hx
      cases hc : Y9 b (kd t) with
      | false =>
        have h23 : Y9 b 2 = Y9 b 3 := aM8 hb
        have hw : WrongAt (Y9 b) (get s i) := ⟨fun hd => by
            have hl : x6 (get s i) = false := by
              cases h : x6 (get s i) with
              | false => rfl
              | true => rw [aE8 h] at hd; cases hd
            rcases (by1 hx).2.1 hl hd with e | e
            · rw [e] at hc; exact ⟨hc, by rw [← h23]; exact hc⟩
            · rw [e] at hc; exact ⟨by rw [h23]; exact hc, hc⟩, fun e => by rw [k34 e] at hc; exact hc⟩
        refine .inl ⟨i + V9 (Y9 b) s i, (((canE (kd t) (by omega) k78).and hlong).and hlex).up fun n ⟨⟨ck, hlg⟩, t', bd, h, hR⟩ => ⟨a ++ [6], ?_⟩, ((by7 hs hb hr (by omega) hl' k1 k78 (fun _ => hw) out line 0).and hread).up fun n ⟨b4, t', bd, h, hR⟩ => ?_⟩
        · show q9 (S.step (S.tab n)) _ _ _ _ _ = _
          obtain ⟨r1, r2⟩ : bd = false ∧ t' = t := hR
          subst r2
          have := badI n t' bd (kd t') 0 rfl (by omega) h ck hlg (fun e => by rw [hc] at e; cases e) (fun _ => hw)
          rw [hc] at this
          exact this
        · obtain ⟨r1, r2⟩ : bd = -1 ∧ t' = t := hR
          subst r2
          show ∃ c t, p4 (S.step (S.tab n)) _ _ _ _ _ _ = _
          obtain ⟨c, t, hh⟩ := b4 (t'.1, t'.2.1, t'.2.2.1, (line : Int), t'.2.2.2.2) bd h7 (fun e => by rw [hc] at e; cases e)
          rw [startS n t' bd h h7]
          rw [hc] at hh
          have hh : u5 (S.tab n) (cs, ()) s top out (line : Int) (i : Int) (t'.1, t'.2.1, t'.2.2.1, (line : Int), t'.2.2.2.2) bd t'.1 = _ := hh
          exact ⟨c, t, by rw [hh]; rfl⟩
      | true =>
        have hbl := bs4 (s := s) (j := e) hel
        obtain ⟨ds, top', hdl, hR, hF⟩ := aX2 (k := kd t) (by omega) k78 cs (by omega) b top hb.ok hr
        have hk : aZ0 (av3 b (kd t)) (decide ((6 : Int) = kd t)) = Y9 b (kd t) := rfl
        rw [hk, hc] at hF
        obtain ⟨l, m, hol, hom, gl, gm, hnm⟩ := a58 ha hb hn (k := kd t) (by omega) k78 k6 (by rw [hcs _ (by omega) k78]; exact hc)
        have hst := aY9 (k := kd t) (by omega) k78 k6 a ha
        rw [hol] at hst
        have hcan := canE (kd t) (by omega) k78
        rw [hc] at hcan
        have ih := ih (blank s e) line (out ++ [lnd t line]) l m (cs ++ ds) top' (by omega) hbl.1 (by omega) (by simp; omega) gl gm hnm (hR m hom) (by simp; omega)
          (by rw [List.map_append]; exact aC4 _ _ a l (kd t) hf hol) (fun x ht => (List.mem_append.1 ht).elim (htp x) fun ht => .inl ⟨i, line, t, hl', hline, h10, hx, by simpa using ht⟩)
        have hbk := aa7 (s := s) hs2 (j := e) hel
        have stepI : ∀ n, Q2 (S.tab n) s (i : Int) = some ((t, false, ()), J9) → O5 (S.tab n) (a ++ [6]) (kd t) = some (true, U2) → Y6 (S.tab n) (a ++ [6]) (kd t) = some (l ++ [6], ac8) → K1 (S.tab n) s (e : Int) = some ((blank s e : Int), U3) → q9 (S.step (S.tab n)) s out (a ++ [6]) (line : Int) (i : Int) = q9 (S.tab n) s (out ++ [lnd t line]) (l ++ [6]) (line : Int) (blank s e : Int) := fun n hlx hcan hst hbk => by
          have hcan : O5 (S.tab n) (a ++ [6]) t.1 = _ := hcan
          have hst : Y6 (S.tab n) (a ++ [6]) t.1 = _ := hst
          have hk0 : ¬ t.1 = 0 := fun e => by have e : kd t = 0 := e; omega
          rw [startI n t false hlx]
          dsimp only
          rw [q8 (decide_eq_false hk0), hcan, Option.bind_some, q8 (by rfl), q8 rfl, hst, Option.bind_some, l7 (hfit _), he, hbk, Option.bind_some]
          unfold lnd
          rw [he]
        have hj12 : Evt fun n => u5 (S.tab n) (cs, ()) s top out (line : Int) (i : Int) (t.1, t.2.1, t.2.2.1, (line : Int), t.2.2.2.2) (-1) (kd t) = some (Sum.inr (Sum.inr (Sum.inl ((cs ++ ds, ()), s, top', out ++ [lnd t line], (line : Int), (blank s e : Int), ())))) :=
          (hF.and (bi7 hs (cs ++ ds) top i out (by omega) (line : Int) (t.1, t.2.1, t.2.2.1, (line : Int), t.2.2.2.2) (e := e) he hel (kd t) top')).up fun n ⟨hF, h16⟩ => aw8 k1 hF h16
        have stepS : ∀ n, D5 (S.tab n) s (i : Int) = some ((t, -1, ()), C1) → u5 (S.tab n) (cs, ()) s top out (line : Int) (i : Int) (t.1, t.2.1, t.2.2.1, (line : Int), t.2.2.2.2) (-1) (kd t) = some (Sum.inr (Sum.inr (Sum.inl ((cs ++ ds, ()), s, top', out ++ [lnd t line], (line : Int), (blank s e : Int), ())))) →
            p4 (S.step (S.tab n)) (cs, ()) s top out (line : Int) (i : Int) = p4 (S.tab n) (cs ++ ds, ()) s top' (out ++ [lnd t line]) (line : Int) (blank s e : Int) := fun n hrd h12 => by
          have h12 : u5 (S.tab n) (cs, ()) s top out (line : Int) (i : Int) (t.1, t.2.1, t.2.2.1, (line : Int), t.2.2.2.2) (-1) t.1 = _ := h12
          rw [startS n t (-1) hrd h7, h12]; rfl
        have hlexE : Evt fun n => Q2 (S.tab n) s (i : Int) = some ((t, false, ()), J9) := hlex.mono fun n ⟨t', bd, h, hR⟩ => by
          obtain ⟨r1, r2⟩ : bd = false ∧ t' = t := hR
          rw [r1, r2] at h; exact h
        have hreadE : Evt fun n => D5 (S.tab n) s (i : Int) = some ((t, -1, ()), C1) := hread.mono fun n ⟨t', bd, h, hR⟩ => by
          obtain ⟨r1, r2⟩ : bd = -1 ∧ t' = t := hR
          rw [r1, r2] at h; exact h
        rcases ih with ⟨p, e1, e2⟩ | ⟨out', a', b', cs', top'', line', g1, g2, g3, g4, g5, g6, g7, g8, g9, e1, e2⟩
        · refine .inl ⟨p, ((((e1.and hlexE).and hcan).and hst).and hbk).up fun n ⟨⟨⟨⟨⟨l', h⟩, hlx⟩, hc⟩, hst⟩, hk⟩ => ⟨l', ?_⟩, ((e2.and hreadE).and hj12).up fun n ⟨⟨⟨c, t, h⟩, hrd⟩, h12⟩ => ⟨c, t, ?_⟩⟩
          · show q9 (S.step (S.tab n)) _ _ _ _ _ = _
            rw [stepI n hlx hc hst hk, h]
          · show p4 (S.step (S.tab n)) _ _ _ _ _ _ = _
            rw [stepS n hrd h12, h]
        · refine .inr ⟨out', a', b', cs', top'', line', g1, g2, g3, g4, g5, g6, g7, g8, g9, ((((e1.and hlexE).and hcan).and hst).and hbk).up fun n ⟨⟨⟨⟨h, hlx⟩, hc⟩, hst⟩, hk⟩ => ?_, ((e2.and hreadE).and hj12).up fun n ⟨⟨h, hrd⟩, h12⟩ => ?_⟩
          · show q9 (S.step (S.tab n)) _ _ _ _ _ = _
            rw [stepI n hlx hc hst hk, h]
          · show p4 (S.step (S.tab n)) _ _ _ _ _ _ = _
            rw [stepS n hrd h12, h]
include hb8 in
theorem bH7 : (∃ p : Nat, (Evt fun n => ∃ l, ai0 (S.tab n) s = some (([], l, (p : Int), ()), am1)) ∧ Evt fun n => ∃ c t, X4 (S.tab n) ([], ()) s = some (([], t, (p : Int), ()), c, (), ())) ∨
  (∃ (out : List j7.den) (a b : List Int) (cs : Cls) (top : Int) (line : Nat), gdI a ∧ gdS b ∧ NI a = NS b ∧ Reads cs top (b ++ [6]) ∧ cs.length ≤ 1999900 ∧ out.length ≤ s.length ∧ line ≤ s.length + 1 ∧
   foldI [1000] (out.map kd) = some a ∧ (∀ t ∈ out, bP9 s t) ∧
   (Evt fun n => ai0 (S.tab n) s = some ((out, a ++ [6], (-1 : Int), ()), am1)) ∧
   Evt fun n => X4 (S.tab n) ([], ()) s = some ((out ++ [(6, (s.length : Int), (s.length : Int), (line : Int), 0, ([] : List Int), ())], top, (-1 : Int), ()), (cs, ()), (), ())) := by
 have hbl := bs4 (s := s) (j := 0) (by omega)
 have hr0 : Reads [(6, (-1 : Int), ()), (100, (0 : Int), ())] 1 ([100] ++ [6]) := ⟨1, 0, rfl, rfl, 0, -1, rfl, rfl, rfl⟩
 have hbegin : Evt fun n => Y0 (S.tab n) ([], ()) = some (1, ([(6, (-1 : Int), ()), (100, (0 : Int), ())], ()), ()) :=
  ((aY4 [] (by simp) (-1) 6).and (aY4 [(6, (-1 : Int), ())] (by simp) 0 100)).up fun n ⟨h1, h2⟩ => by
   show Y0 (S.step (S.tab n)) _ = _
   rw [aD4, h1, Option.bind_some]
   show (N6 (S.tab n) ([(6, (-1 : Int), ())], ()) 0 100).bind _ = _
   rw [h2]; rfl
 have hmach : Evt fun n => af8 (S.tab n) = some ([1000, 6], as8) := r8.up fun n _ => by
  show af8 (S.step (S.tab n)) = _
  rw [aM3]
 have hib := aa7 (s := s) (by omega) (j := 0) (by omega)
 have hsb := ah0 (s := s) (by omega) (j := 0) (by omega)
 have hw := bF5 hs hb8 (s.length + 1) (blank s 0) 1 [] [1000] [100] [(6, (-1 : Int), ()), (100, (0 : Int), ())] 1 (by omega) hbl.1 (by omega) (by simp)
  bQ8 bS5 (by kernel_rfl) hr0 (by simp) rfl (fun t ht => by cases ht)
 rcases hw with ⟨p, e1, e2⟩ | ⟨out', a', b', cs', top'', line', g1, g2, g3, g4, g5, g6, g7, g8, g9, e1, e2⟩
 ·refine .inl ⟨p, ((e1.and hmach).and hib).up fun n ⟨⟨⟨l, h⟩, hm⟩, hk⟩ => ⟨l, ?_⟩, ((e2.and hbegin).and hsb).up fun n ⟨⟨⟨c, t, h⟩, hm⟩, hk⟩ => ⟨c, t, ?_⟩⟩
  ·show ai0 (S.step (S.tab n)) _ = _
   have hk : K1 (S.tab n) s 0 = _ := hk
   have h : q9 (S.tab n) s [] [1000, 6] 1 (blank s 0 : Int) = _ := h
   rw [aF5, hm, Option.bind_some, hk, Option.bind_some]
   dsimp only
   rw [h]; rfl
  ·show X4 (S.step (S.tab n)) _ _ = _
   have hk : I9 (S.tab n) s 0 = _ := hk
   have h : p4 (S.tab n) ([(6, (-1 : Int), ()), (100, (0 : Int), ())], ()) s 1 [] 1 (blank s 0 : Int) = _ := h
   rw [at7, hm, Option.bind_some, hk, Option.bind_some]
   dsimp only
   rw [h]; rfl
 ·refine .inr ⟨out', a', b', cs', top'', line', g1, g2, g3, g4, g5, g6, g7, g8, g9, ((e1.and hmach).and hib).up fun n ⟨⟨h, hm⟩, hk⟩ => ?_, ((e2.and hbegin).and hsb).up fun n ⟨⟨h, hm⟩, hk⟩ => ?_⟩
  ·show ai0 (S.step (S.tab n)) _ = _
   have hk : K1 (S.tab n) s 0 = _ := hk
   have h : q9 (S.tab n) s [] [1000, 6] 1 (blank s 0 : Int) = _ := h
   rw [aF5, hm, Option.bind_some, hk, Option.bind_some]
   dsimp only
   rw [h]; rfl
  ·show X4 (S.step (S.tab n)) _ _ = _
   have hk : I9 (S.tab n) s 0 = _ := hk
   have h : p4 (S.tab n) ([(6, (-1 : Int), ()), (100, (0 : Int), ())], ()) s 1 [] 1 (blank s 0 : Int) = _ := h
   rw [at7, hm, Option.bind_some, hk, Option.bind_some]
   dsimp only
   rw [h, Option.bind_some]
   simp only [N0, Sum.elim_inr, Sum.elim_inl]
   rw [l7 (Z1 (by unfold lim; simp; omega))]
end Go.Abs.D
end

section
namespace Go.Abs.D
theorem bE2 {α : Type} (pre : List α) (x y : α) (r : List α) : (pre ++ x :: r).set pre.length y = pre ++ y :: r := by
 rw [List.set_append_right _ _ (Nat.le_refl _), Nat.sub_self]; rfl
end Go.Abs.D
end

section
namespace Go.Abs.D
theorem getD_at {α : Type} (pre : List α) (x : α) (r : List α) (d : α) : (pre ++ x :: r).getD pre.length d = x := by
 rw [List.getD_eq_getElem?_getD, List.getElem?_append_right (Nat.le_refl _), Nat.sub_self]; rfl
theorem bK8 {α : Type} (pre : List α) (x : α) (r : List α) : (decide ((0 : Int) ≤ (pre.length : Int)) && decide ((pre.length : Int) < ((pre ++ x :: r).length : Int))) = true := n8 (by simp)
def a26 : Int → List Int → List Int
 | _, [] => []
 | k, _ :: r => k :: a26 (k + 1) r
theorem bg0 : ∀ (l : List Int) (k : Int), (a26 k l).length = l.length
 | [], _ => rfl
 | _ :: r, k => by simp [a26, bg0 r (k + 1)]
theorem bw1 (l : List Int) (hl : l.length ≤ 2097152) : ∀ (r pre : List Int), l = pre ++ r → Evt fun n => L6 (S.tab n) l l (pre.length : Int) = some (Sum.inr (Sum.inl ()))
 | [], pre, e => r8.up fun n _ => by
  show L6 (S.step (S.tab n)) _ _ _ = _
  rw [ai1, q8 (by subst e; simp)]
 | m :: r, pre, e => (bw1 l hl r (pre ++ [m]) (by rw [e]; simp)).up fun n h => by
  show L6 (S.step (S.tab n)) _ _ _ = _
  have hlen : l.length = pre.length + (r.length + 1) := by rw [e]; simp
  have e2 : (pre ++ [m]).length = pre.length + 1 := by simp
  rw [e2] at h
  rw [ai1, l7 (by simp only [decide_eq_true_eq]; omega), l7 (n8 (by omega)), l7 (n8 (by omega)), q8 (by simp), I3 (by omega), h]
theorem bG5 (l : List Int) (hl : l.length ≤ 2097152) : Evt fun n => ac5 (S.tab n) l l = some (true, aa6) :=
 (bw1 l hl l [] rfl).up fun n h => by
  show ac5 (S.step (S.tab n)) _ _ = _
  have h : L6 (S.tab n) l l 0 = _ := h
  rw [aQ9, q8 (by simp), h]; rfl
theorem bj7 : ∀ (r pre : List Int) (k : Int), 0 < k → k + r.length < 1000000000000000 → (pre ++ r).length ≤ 2097152 →
  Evt fun n => H9 (S.tab n) (pre ++ r) k (pre.length : Int) = some (Sum.inl (pre ++ a26 k r, k + (r.length : Int), ()))
 | [], pre, k, _, _, _ => r8.up fun n _ => by
  show H9 (S.step (S.tab n)) _ _ _ = _
  rw [ad5, q8 (by simp)]
  simp [a26]
 | m :: r, pre, k, h0, h1, hl => by
  have hlen : (pre ++ m :: r).length = pre.length + (r.length + 1) := by simp
  simp only [List.length_cons] at h1
  have ih := bj7 r (pre ++ [k]) (k + 1) (by omega) (by omega) (by simpa using hl)
  refine ih.up fun n ih => ?_
  show H9 (S.step (S.tab n)) _ _ _ = _
  rw [ad5, l7 (by simp only [decide_eq_true_eq]; omega), l7 (bK8 pre m r), Int.toNat_natCast, bE2, I3 (by omega), wrap64 (k + 1) (by omega) (by omega)]
  have e1 : (pre ++ [k]) ++ r = pre ++ k :: r := by simp
  have e2 : (pre ++ [k]).length = pre.length + 1 := by simp
  rw [e1, e2] at ih
  rw [ih]
  simp [a26]
  omega
theorem by9 (l : List Int) (k : Int) (h0 : 0 < k) (h1 : k + l.length < 1000000000000000) (hl : l.length ≤ 2097152) : Evt fun n => ab3 (S.tab n) l k = some (k + (l.length : Int), a26 k l, (), ()) :=
 (bj7 l [] k h0 h1 (by simpa using hl)).up fun n h => by
  show ab3 (S.step (S.tab n)) _ _ = _
  have h : H9 (S.tab n) l k 0 = some (Sum.inl (a26 k l, k + (l.length : Int), ())) := h
  rw [aH8, h]; rfl
theorem bf7 : ∀ (r pre : List Int) (k : Int), 0 < k → k + r.length < 1000000000000000 → (pre ++ r).length ≤ 2097152 →
  Evt fun n => H8 (S.tab n) (pre ++ a26 k r) k (pre.length : Int) = some (Sum.inr (Sum.inl (k + (r.length : Int), ())))
 | [], pre, k, _, _, _ => r8.up fun n _ => by
  show H8 (S.step (S.tab n)) _ _ _ = _
  rw [ac0, q8 (by simp [a26])]
  simp
 | m :: r, pre, k, h0, h1, hl => by
  have hlen : (pre ++ m :: r).length = pre.length + (r.length + 1) := by simp
  have hlen2 : (pre ++ a26 k (m :: r)).length = pre.length + (r.length + 1) := by simp [a26, bg0]
  simp only [List.length_cons] at h1
  have ih := bf7 r (pre ++ [k]) (k + 1) (by omega) (by omega) (by simpa using hl)
  refine ih.up fun n ih => ?_
  show H8 (S.step (S.tab n)) _ _ _ = _
  rw [ac0, l7 (by simp only [decide_eq_true_eq]; omega)]
  unfold a26
  have hg : (pre ++ k :: a26 (k + 1) r).getD (pre.length : Int).toNat 0 = k := getD_at pre _ _ 0
  rw [l7 (bK8 pre _ _), hg, q8 (by simp), I3 (by omega), wrap64 (k + 1) (by omega) (by omega)]
  have e1 : (pre ++ [k]) ++ a26 (k + 1) r = pre ++ k :: a26 (k + 1) r := by simp
  have e2 : (pre ++ [k]).length = pre.length + 1 := by simp
  rw [e1, e2] at ih
  rw [ih]
  simp
  omega
theorem bx5 (l : List Int) (k : Int) (h0 : 0 < k) (h1 : k + l.length < 1000000000000000) (hl : l.length ≤ 2097152) : Evt fun n => V0 (S.tab n) (a26 k l) k = some (k + (l.length : Int), ac7) :=
 (bf7 l [] k h0 h1 (by simpa using hl)).up fun n h => by
  show V0 (S.step (S.tab n)) _ _ = _
  have h : H8 (S.tab n) (a26 k l) k 0 = some (Sum.inr (Sum.inl (k + (l.length : Int), ()))) := h
  rw [aH1, h]; rfl
theorem bE4 {s : List Int} (hb8 : ∀ c ∈ s, isByte c) : ∃ r : List Int, r.length ≤ 78 ∧ (Evt fun n => aj6 (S.tab n) s = some (r, al8)) ∧ Evt fun n => ac3 (S.tab n) s = some (r, ak1) := by
 by_cases hs : 65536 < s.length
 ·refine ⟨[], by simp, r8.up fun n _ => ?_, r8.up fun n _ => ?_⟩
  ·show aj6 (S.step (S.tab n)) _ = _
   rw [ap9, l7 (by simp only [decide_eq_true_eq]; omega)]
  ·show ac3 (S.step (S.tab n)) _ = _
   rw [ao3, l7 (by simp only [decide_eq_true_eq]; omega)]
 have hs : s.length ≤ 65536 := by omega
 have hd : decide ((65536 : Int) < (s.length : Int)) = false := by simp only [decide_eq_false_iff_not]; omega
 rcases bH7 hs hb8 with ⟨p, e1, e2⟩ | ⟨out, a, b, cs, top, line, ga, gb, hn, hr, hcl, h6, h7, h8, h9, e1, e2⟩
 ·refine ⟨[], by simp, e2.up fun n ⟨c, t, h⟩ => ?_, e1.up fun n ⟨l, h⟩ => ?_⟩
  ·show aj6 (S.step (S.tab n)) _ = _
   rw [ap9, q8 hd, h, Option.bind_some]
   dsimp only
   rw [l7 (decide_eq_true (show (0 : Int) ≤ (p : Int) by omega))]
  ·show ac3 (S.step (S.tab n)) _ = _
   rw [ao3, q8 hd, h, Option.bind_some]
   dsimp only
   rw [l7 (decide_eq_true (show (0 : Int) ≤ (p : Int) by omega))]
 ·refine ⟨pick (Y9 b) 78, a18 78, (e2.and (bD7 cs hcl b top gb hr)).up fun n ⟨h, hm⟩ => ?_, (e1.and (aY8 a ga 78 [] (Nat.le_refl _) (by simp))).up fun n ⟨h, hx⟩ => ?_⟩
  ·show aj6 (S.step (S.tab n)) _ = _
   rw [ap9, q8 hd, h, Option.bind_some]
   dsimp only
   rw [q8 (by rfl), hm, Option.bind_some]
  ·show ac3 (S.step (S.tab n)) _ = _
   have hx : H2 (S.tab n) (a ++ [6]) [] 1 = _ := hx
   rw [ao3, q8 hd, h, Option.bind_some]
   dsimp only
   rw [q8 (by rfl), hx, bl8 ga gb hn]; rfl
theorem bA6 (s : List Int) (hG : (∀ c ∈ s, isByte c) ∧ s.length ≤ maxLen) : Evt fun n => S7 (S.tab n) s = some (true, B0) := by
 by_cases hs : 1048576 < s.length
 ·refine r8.up fun n _ => ?_
  show S7 (S.step (S.tab n)) _ = _
  rw [ad0, l7 (by simp only [decide_eq_true_eq]; omega)]
 obtain ⟨r, hrl, e1, e2⟩ := bE4 hG.1
 refine ((e1.and e2).and ((bG5 r (by omega)).and ((by9 r 1 (by decide) (by omega) (by omega)).and (bx5 r 1 (by decide) (by omega) (by omega))))).up fun n ⟨⟨h1, h2⟩, hq, hk, hh⟩ => ?_
 show S7 (S.step (S.tab n)) _ = _
 rw [ad0, q8 (by simp only [decide_eq_false_iff_not]; omega), h1, Option.bind_some, h2, Option.bind_some]
 dsimp only
 rw [hq, Option.map_some, Option.bind_some, q8 (by rfl)]
 dsimp only
 rw [hk, Option.bind_some]
 dsimp only
 rw [hh, Option.map_some, Option.bind_some, q8 (by simp only [decide_eq_false_iff_not]; omega), q8 (by simp), Option.bind_some]
 dsimp only
 rw [hq, Option.map_some, Option.bind_some, q8 (by rfl)]
 try dsimp only
 rw [hh, Option.map_some, Option.bind_some, q8 (by simp only [decide_eq_false_iff_not]; omega), q8 (by simp)]
end Go.Abs.D
end

section
namespace Go.Proofs.YtgmponnjageaiaaDoor
open Go.ChangeShapes Go.WideShapes Go.ChangeAt Go.RowKit
theorem bJ2 {r : Abs.Rd} {τ : Abs.Ty} {x : τ.den} {u : Value} (h : Abs.Rc r τ x [u]) (h1 : τ.one = true) : Abs.oc u = true := Abs.s6.aX1 (g := ⟨r, fun _ => 0, fun _ _ => .nilIface, fun _ => none, fun _ => none, fun _ => []⟩) (c := .v τ x) ⟨h1, h⟩
set_option maxRecDepth 100000 in
theorem bH9 (W : World) (hL : laidMetH Tryd.prog Rows.fnExactNextRow.laid W) (v0 : Value) (x0 : List Int) (hR0 : Abs.Rc (Abs.snap W) (.str) x0 [v0]) (hG0 : Abs.Good (.str) x0) : Calls Tryd.prog 3 #[v0] W fun e w' => e = .returned (.bool true) ∧ Below W.heap.size W w' := by
 obtain ⟨N, h⟩ := Abs.D.bA6 x0 hG0
 have hok := (sys N).fn 3 (by kernel_rfl) (x0, ()) (true, ((), ())) (h N (Nat.le_refl N)) (Abs.snap W) W [v0] [] (bH4 hL) (fun b L hb => Abs.bu3 hb)
  ⟨_, _, [], [], rfl, rfl, ⟨bJ2 hR0 rfl, rfl, rfl, _, rfl, hR0⟩, ⟨rfl, rfl⟩⟩ List.nodup_nil (fun b hb => by simp at hb) (Abs.a36.none rfl)
 refine (Abs.aI0 Tryd.func3 rfl (by kernel_rfl) hok).mono ?_
 rintro e w' ⟨v, rfl, imm', n1, n2, A, ⟨_, h1, _, u, e2, h2⟩, h3⟩
 injection e2 with e2 _
 subst e2
 have h2 : [v] = [Value.bool true] := h2
 injection h2 with h2 _
 subst h2
 exact ⟨rfl, A.below⟩
set_option maxRecDepth 100000 in
theorem bt7 (os : Os) (started : os.Started) (H : Type) (enc : TypeId × Value → H) :
  ReturnsInHanded {} Tryd.checked os 3 .any (fun w args => (Rows.fnExactNextSpec.pre enc Tryd.prog Tryd.f3 Rows.fnExactNextRow.domain false w args ∧ laidMetH Tryd.prog Rows.fnExactNextRow.laid w) ∧ sizedMet enc Tryd.prog Tryd.f3 (OpenSpec.ofChange Rows.fnExactNextSpec) false w args)
   (Rows.fnExactNextSpec.post enc Tryd.prog Tryd.f3 false true false false) := by
 refine returnsInHanded_of_change_and (C := Tryd.checked) (X := fun w _ => laidMetH Tryd.prog Rows.fnExactNextRow.laid w) (fun _ _ _ hh h => h.of_heap hh) own started (by kernel_rfl) Tryd.func3
  (ChangeSpec.witness_shaped (enc := enc) (C := Tryd.checked) (os := os) (X := fun w _ => laidMetH Tryd.prog Rows.fnExactNextRow.laid w) false (World.laidAll Tryd.prog os Rows.fnExactNextRow.laid) #[.string ByteArray.empty] 8 (World.laidAll_os _ _ _)
   (World.shaped_of_ZipB (by kernel_rfl) (by kernel_rfl)) (by kernel_rfl) (by kernel_rfl) (by kernel_rfl)
   (by rw [MakeChecks.laidMetH_plain _ _ _ (by kernel_rfl)]; exact laidMet_laidAll _ (by kernel_rfl) (by kernel_rfl))) ?_
 intro W base args ds gs before hval0 hW _ _ hL _
 have hval : ∀ (j : Nat) t v, Tryd.f3.params[j]? = some t → args[j]? = some v → Value.okWide Tryd.prog W .any base t v := hval0
 have hW' := hW
 obtain ⟨p, q, hA0, hV, rfl, hfz, hnd⟩ := hW
 have hA : DataW.TrodAll enc Tryd.prog W 0 (fun _ => true) true Tryd.f3.params.toList args.toList ds p := hA0
 rw [Tryd.params3] at hA hval
 obtain ⟨v0, vs0, d0, ds0, p0, q0, hargs0, rfl, rfl, h0, r0⟩ := trodAll_cons hA
 obtain ⟨rfl, rfl, rfl⟩ := trodAll_nil r0
 obtain rfl : args = #[v0] := by cases args; simp_all
 obtain ⟨a0, rfl, rfl, rfl, y0⟩ := Go.ChangeMaps.open_string Tryd.underlying9 (hval 0 9 v0 rfl rfl) h0
 have hG0 : Abs.Good .str (Abs.bytesOf a0) := ⟨Abs.at4 a0, by rw [Abs.G1]; exact y0⟩
 have hV3 := aE2 hV
 match gs, hV3, hV, hW' with
 | [g1, g2, g3], _, hV, hW' =>
  clear hA0 hval0
  refine (bH9 W hL _ _ ⟨a0, rfl, rfl⟩ hG0).mono fun e W' ⟨he, bel⟩ => ?_
  subst he
  exact ⟨_, rfl, _, _, _, [], _, _, hW', trodAll_mk1 (shut_bool Tryd.underlying4 _), (trodAll_cons_mk (Go.ChangeMaps.shut_string Tryd.underlying9 y0) trodAll_mk0), Below.trodVars laidOut bel (by kernel_rfl) hV, bel.frame _, fun h => by cases h⟩
theorem bK9 : Rows.FnExactNextSaid :=
 OpenClaim.holds_of_wide 3 Tryd.f3 rfl rfl rfl rfl rfl rfl rfl ⟨rfl, rfl, rfl, rfl, rfl⟩ rfl rfl rfl rfl rfl (by kernel_rfl) Tryd.func3 (by kernel_rfl)
  (of_decide_eq_true (by kernel_rfl)) (by unfold Func.isWrapper; first | (rw [if_pos (by decide +kernel)]; kernel_rfl) | (rw [if_neg (by decide +kernel)]; exact ⟨rfl, rfl⟩))
  (fun os started H enc _ => bt7 os started H enc)
theorem fnExactNext_holds : Rows.FnExactNextCardSaid :=
 Claim7.holds_tied_plain_at .later [] [.data, .data, .data, .sentinel, .sentinel, .data, .data, .data] true (true, "9e879f0c3de3e4cac02990aa7f8f70ccf5743c94e9ed02ac5599f09b5bde563d") true
  bK9 (fun _ h => by cases h) (by kernel_rfl) (fun _ h => by cases h) fnExactNext_row_tie rfl ⟨rfl, rfl⟩ (by kernel_rfl) rfl
  (fun f fn hf hfn => by
   obtain rfl : f = 3 := Option.some.inj ((show Tryd.prog.funcNamed "loop.example/warp/laws.FnExactNext" = some 3 by kernel_rfl).symm.trans hf) |>.symm
   obtain rfl : fn = Tryd.f3 := (Option.some.inj (Tryd.func3.symm.trans hfn)).symm
   exact ⟨by kernel_rfl, fun j t ht => by
    rw [Tryd.params3] at ht
    have hm : t ∈ [9] := by simpa using Array.mem_of_getElem? ht
    have hall : ([9].all fun u => !Tryd.prog.wantsStandIn u) = true := by kernel_rfl
    exact (show Tryd.prog.wantsStandIn t = false by simpa using List.all_eq_true.1 hall t hm)⟩)
  (by kernel_rfl)
end Go.Proofs.YtgmponnjageaiaaDoor
#print axioms Go.Proofs.YtgmponnjageaiaaDoor.fnExactNext_holds
end
