/- What is here: blanks and the whole scan on both sides. What is here: the whole scan on both sides. What is here: what spec.Quote and impl.Quote compute: the same text. What is here: FnQuote, plain: a quoted text is scanned as itself. What is proved: FnQuote answers true at every slice of bytes; the package variables are as the program's text lays them. -/
import Derived.Test.YtmallmelcmejeaaDoorQ6
import Derived.Test.YtmallmelcmejeaaDoorCards
set_option linter.unusedVariables false
set_option linter.unusedSimpArgs false
set_option maxRecDepth 100000
section
namespace Go.Abs.D

def nq (s : List Int) (j : Nat) : Bool := decide (j < s.length) && !decide (get s j = 10)
def nlAt (s : List Int) (j : Nat) : Nat := stop (nq s) s.length j
def blk (s : List Int) : Nat → Nat → Nat
  | 0, j => j
  | k + 1, j =>
    bif decide (s.length ≤ j) then j else
    bif decide (get s j = 32) then blk s k (j + 1) else
    bif decide (get s j = 9) then blk s k (j + 1) else
    bif decide (get s j = 13) then blk s k (j + 1) else
    bif decide (get s j = 45) && decide (get s (j + 1) = 45) then blk s k (nlAt s j) else j
def blank (s : List Int) (j : Nat) : Nat := blk s s.length j

theorem nq_end {s : List Int} : ∀ j, s.length ≤ j → nq s j = false := fun j h => by unfold nq; rw [decide_eq_false (by omega)]; rfl
theorem nl_le {s : List Int} {j : Nat} (h : j ≤ s.length) : nlAt s j ≤ s.length := end_le nq_end _ _ h
theorem nl_gt {s : List Int} {j : Nat} (h : get s j = 45) : j < nlAt s j := by
  have hl := lt_of_get h (by decide)
  have hq : nq s j = true := by unfold nq; rw [decide_eq_true hl, h]; rfl
  have := le_stop (q := nq s) s.length (j + 1)
  have e := stop_step (q := nq s) (N := s.length) nq_end (k := s.length) (j := j) (by omega) hq
  unfold nlAt
  omega

theorem blk_le {s : List Int} : ∀ (k j : Nat), j ≤ s.length → blk s k j ≤ s.length ∧ j ≤ blk s k j
  | 0, j, h => ⟨h, Nat.le_refl _⟩
  | k + 1, j, h => by
    unfold blk
    by_cases hl : s.length ≤ j
    · rw [decide_eq_true hl]; exact ⟨h, Nat.le_refl _⟩
    have ih := blk_le (s := s) k (j + 1) (by omega)
    rw [decide_eq_false hl]
    simp only [cond_false]
    cases decide (get s j = 32) with
    | true => exact ⟨ih.1, by have := ih.2; simp only [cond_true]; omega⟩
    | false =>
    cases decide (get s j = 9) with
    | true => exact ⟨ih.1, by have := ih.2; simp only [cond_true, cond_false]; omega⟩
    | false =>
    cases decide (get s j = 13) with
    | true => exact ⟨ih.1, by have := ih.2; simp only [cond_true, cond_false]; omega⟩
    | false =>
    cases decide (get s j = 45) && decide (get s (j + 1) = 45) with
    | true =>
      have ih := blk_le (s := s) k (nlAt s j) (nl_le h)
      have := le_stop (q := nq s) s.length j
      refine ⟨ih.1, ?_⟩
      have := ih.2
      simp only [cond_true, cond_false]
      unfold nlAt at this ⊢
      omega
    | false => exact ⟨h, Nat.le_refl _⟩

variable {s : List Int} (hs : s.length ≤ 2097152)
include hs

theorem impl_l6_ok (j : Nat) : Evt fun n => impl_blank_l6 (S.tab n) s (j : Int) = some (Sum.inl (s, (nlAt s j : Int), ())) :=
  adv (F := fun T j => impl_blank_l6 T s (j : Int)) (out := fun j => Sum.inl (s, (j : Int), ())) base2 nq_end
    (fun T j h hq => by
      have hj := lt_of_q nq_end hq
      unfold nq at hq
      rw [Bool.and_eq_true] at hq
      show impl_blank_l6 (S.step T) s j = impl_blank_l6 T s ((j + 1 : Nat) : Int)
      rw [impl_blank_l6_eq, brkT (by simpa using hj), brkT (inb_nat hj), getD_nat, brkT hq.2, wrap1 (by omega)])
    (fun T j h hq => by
      show impl_blank_l6 (S.step T) s j = _
      rw [impl_blank_l6_eq]
      by_cases hj : j < s.length
      · unfold nq at hq
        rw [decide_eq_true hj, Bool.true_and] at hq
        rw [brkT (by simpa using hj), brkT (inb_nat hj), getD_nat, brkF hq]
      · rw [brkF (by simpa using hj)]) s.length j (by omega)

theorem spec_l7_ok (j : Nat) : Evt fun n => spec_l1blanks_l7 (S.tab n) s (j : Int) = some (Sum.inl (s, (nlAt s j : Int), ())) :=
  adv (F := fun T j => spec_l1blanks_l7 T s (j : Int)) (out := fun j => Sum.inl (s, (j : Int), ())) base2 nq_end
    (fun T j h hq => by
      have hj := lt_of_q nq_end hq
      unfold nq at hq
      rw [Bool.and_eq_true] at hq
      show spec_l1blanks_l7 (S.step T) s j = spec_l1blanks_l7 T s ((j + 1 : Nat) : Int)
      rw [spec_l1blanks_l7_eq, brkT (by simpa using hj), brkT (inb_nat hj), getD_nat, brkT hq.2, wrap1 (by omega)])
    (fun T j h hq => by
      show spec_l1blanks_l7 (S.step T) s j = _
      rw [spec_l1blanks_l7_eq]
      by_cases hj : j < s.length
      · unfold nq at hq
        rw [decide_eq_true hj, Bool.true_and] at hq
        rw [brkT (by simpa using hj), brkT (inb_nat hj), getD_nat, brkF hq]
      · rw [brkF (by simpa using hj)]) s.length j (by omega)

/-- What a loop over blanks tells. -/
def BR (e : Nat) (y : (Int × Unit) ⊕ (Int × Unit) ⊕ Empty) : Prop := y = .inl ((e : Int), ()) ∨ y = .inr (.inl ((e : Int), ()))

omit hs in
theorem pS_dash {j : Nat} (hj : j < s.length) : pS s j [45, 45] = (decide (get s j = 45) && decide (get s (j + 1) = 45)) := by
  unfold pS
  rw [show ([45, 45] : List Int).length = 2 from rfl]
  by_cases h : 2 ≤ s.length - j
  · rw [subN_two (s := s) (by omega), decide_eq_true h, Bool.true_and]
    simp
  · rw [decide_eq_false h, get_end (show s.length ≤ j + 1 by omega), show decide ((0 : Int) = 45) = false from rfl, Bool.and_false]; rfl

theorem impl_blank_l1_ok : ∀ (k j : Nat), s.length ≤ j + k → j ≤ s.length → Evt fun n => ∃ y, impl_blank_l1 (S.tab n) s (j : Int) = some y ∧ BR (blk s k j) y
  | 0, j, hk, hj => by
    refine base2.up fun n hb => ?_
    show ∃ y, impl_blank_l1 (S.step (S.tab n)) _ _ = _ ∧ _
    rw [impl_blank_l1_eq, brkF (by simp only [decide_eq_false_iff_not]; omega)]
    exact ⟨_, rfl, .inr rfl⟩
  | k + 1, j, hk, hj => by
    by_cases hl : s.length ≤ j
    · refine base2.up fun n hb => ?_
      show ∃ y, impl_blank_l1 (S.step (S.tab n)) _ _ = _ ∧ _
      rw [impl_blank_l1_eq, brkF (by simp only [decide_eq_false_iff_not]; omega)]
      refine ⟨_, rfl, .inr ?_⟩
      unfold blk; rw [decide_eq_true hl]; rfl
    have hl' : j < s.length := by omega
    have hin := inb_nat hl'
    have hlt : decide ((j : Int) < (s.length : Int)) = true := by simp only [decide_eq_true_eq]; omega
    have w1 : IntKind.i64.wrap ((j : Int) + 1) = ((j + 1 : Nat) : Int) := wrap1 (by omega)
    have ih := impl_blank_l1_ok k (j + 1) (by omega) (by omega)
    unfold blk
    rw [decide_eq_false hl]
    by_cases c1 : get s j = 32
    · refine ih.up fun n h => ?_
      show ∃ y, impl_blank_l1 (S.step (S.tab n)) _ _ = _ ∧ _
      rw [impl_blank_l1_eq, brkT hlt, brkT hin, getD_nat, brkT (decide_eq_true c1), w1, decide_eq_true c1]; exact h
    by_cases c2 : get s j = 9
    · refine ih.up fun n h => ?_
      show ∃ y, impl_blank_l1 (S.step (S.tab n)) _ _ = _ ∧ _
      rw [impl_blank_l1_eq, brkT hlt, brkT hin, getD_nat, brkF (decide_eq_false c1), brkT hin, brkT (decide_eq_true c2), w1, decide_eq_true c2, decide_eq_false c1]; exact h
    by_cases c3 : get s j = 13
    · refine ih.up fun n h => ?_
      show ∃ y, impl_blank_l1 (S.step (S.tab n)) _ _ = _ ∧ _
      rw [impl_blank_l1_eq, brkT hlt, brkT hin, getD_nat, brkF (decide_eq_false c1), brkT hin, brkF (decide_eq_false c2), brkT hin, brkT (decide_eq_true c3), w1, decide_eq_true c3, decide_eq_false c2, decide_eq_false c1]; exact h
    rw [decide_eq_false c1, decide_eq_false c2, decide_eq_false c3]
    have start : ∀ n, (∀ f : List Int, strings_HasPrefix (S.tab n) (sub s (j : Int) (s.length : Int)) f = some (pS s j f, o_strings_HasPrefix)) → impl_blank_l1 (S.step (S.tab n)) s (j : Int) = _ := fun n hp => by
      rw [impl_blank_l1_eq, brkT hlt, brkT hin, getD_nat, brkF (decide_eq_false c1), brkT hin, brkF (decide_eq_false c2), brkT hin, brkF (decide_eq_false c3), brkT (bounds_nat (by omega) (Nat.le_refl _)), hp, Option.bind_some, pS_dash (s := s) hl']
    cases hd : decide (get s j = 45) && decide (get s (j + 1) = 45) with
    | true =>
      have h45 : get s j = 45 := by
        rw [Bool.and_eq_true, decide_eq_true_eq] at hd; exact hd.1
      have hg := nl_gt h45
      have hle := nl_le (s := s) (j := j) hj
      have ih := impl_blank_l1_ok k (nlAt s j) (by omega) hle
      refine ((ih.and (impl_l6_ok hs j)).and (prefix_ok hs hl')).up fun n ⟨⟨h, h6⟩, hp⟩ => ?_
      show ∃ y, impl_blank_l1 (S.step (S.tab n)) _ _ = _ ∧ _
      rw [start n hp, hd, brkT (by rfl), h6]
      exact h
    | false =>
      refine (prefix_ok hs hl').up fun n hp => ?_
      show ∃ y, impl_blank_l1 (S.step (S.tab n)) _ _ = _ ∧ _
      rw [start n hp, hd, brkF (by rfl)]
      exact ⟨_, rfl, .inl rfl⟩

theorem spec_blanks_l1_ok : ∀ (k j : Nat), s.length ≤ j + k → j ≤ s.length → Evt fun n => ∃ y, spec_l1blanks_l1 (S.tab n) s (j : Int) = some y ∧ BR (blk s k j) y
  | 0, j, hk, hj => by
    refine base2.up fun n hb => ?_
    show ∃ y, spec_l1blanks_l1 (S.step (S.tab n)) _ _ = _ ∧ _
    rw [spec_l1blanks_l1_eq, brkF (by simp only [decide_eq_false_iff_not]; omega)]
    exact ⟨_, rfl, .inr rfl⟩
  | k + 1, j, hk, hj => by
    by_cases hl : s.length ≤ j
    · refine base2.up fun n hb => ?_
      show ∃ y, spec_l1blanks_l1 (S.step (S.tab n)) _ _ = _ ∧ _
      rw [spec_l1blanks_l1_eq, brkF (by simp only [decide_eq_false_iff_not]; omega)]
      refine ⟨_, rfl, .inr ?_⟩
      unfold blk; rw [decide_eq_true hl]; rfl
    have hl' : j < s.length := by omega
    have hin := inb_nat hl'
    have hlt : decide ((j : Int) < (s.length : Int)) = true := by simp only [decide_eq_true_eq]; omega
    have w1 : IntKind.i64.wrap ((j : Int) + 1) = ((j + 1 : Nat) : Int) := wrap1 (by omega)
    have ih := spec_blanks_l1_ok k (j + 1) (by omega) (by omega)
    unfold blk
    rw [decide_eq_false hl]
    by_cases c1 : get s j = 32
    · refine ih.up fun n h => ?_
      show ∃ y, spec_l1blanks_l1 (S.step (S.tab n)) _ _ = _ ∧ _
      rw [spec_l1blanks_l1_eq, brkT hlt, brkT hin, getD_nat, brkT (decide_eq_true c1), w1, decide_eq_true c1]; exact h
    by_cases c2 : get s j = 9
    · refine ih.up fun n h => ?_
      show ∃ y, spec_l1blanks_l1 (S.step (S.tab n)) _ _ = _ ∧ _
      rw [spec_l1blanks_l1_eq, brkT hlt, brkT hin, getD_nat, brkF (decide_eq_false c1), brkT (decide_eq_true c2), w1, decide_eq_true c2, decide_eq_false c1]; exact h
    by_cases c3 : get s j = 13
    · refine ih.up fun n h => ?_
      show ∃ y, spec_l1blanks_l1 (S.step (S.tab n)) _ _ = _ ∧ _
      rw [spec_l1blanks_l1_eq, brkT hlt, brkT hin, getD_nat, brkF (decide_eq_false c1), brkF (decide_eq_false c2), brkT (decide_eq_true c3), w1, decide_eq_true c3, decide_eq_false c2, decide_eq_false c1]; exact h
    rw [decide_eq_false c1, decide_eq_false c2, decide_eq_false c3]
    by_cases h45 : ¬ get s j = 45
    · rw [decide_eq_false h45]
      refine base2.up fun n hb => ?_
      show ∃ y, spec_l1blanks_l1 (S.step (S.tab n)) _ _ = _ ∧ _
      rw [spec_l1blanks_l1_eq, brkT hlt, brkT hin, getD_nat, brkF (decide_eq_false c1), brkF (decide_eq_false c2), brkF (decide_eq_false c3), brkT (by rw [decide_eq_false h45]; rfl)]
      exact ⟨_, rfl, .inl rfl⟩
    replace h45 := Decidable.not_not.1 h45
    by_cases h46 : ¬ get s (j + 1) = 45
    · rw [decide_eq_false h46, Bool.and_false]
      refine base2.up fun n hb => ?_
      show ∃ y, spec_l1blanks_l1 (S.step (S.tab n)) _ _ = _ ∧ _
      rw [spec_l1blanks_l1_eq, brkT hlt, brkT hin, getD_nat, brkF (decide_eq_false c1), brkF (decide_eq_false c2), brkF (decide_eq_false c3), brkF (by rw [decide_eq_true h45]; rfl), w1, hb.look, Option.bind_some, brkT (by rw [decide_eq_false h46]; rfl)]
      exact ⟨_, rfl, .inl rfl⟩
    replace h46 := Decidable.not_not.1 h46
    have hg := nl_gt h45
    have hle := nl_le (s := s) (j := j) hj
    have ih := spec_blanks_l1_ok k (nlAt s j) (by omega) hle
    refine ((ih.and (spec_l7_ok hs j)).and base2).up fun n ⟨⟨h, h6⟩, hb⟩ => ?_
    show ∃ y, spec_l1blanks_l1 (S.step (S.tab n)) _ _ = _ ∧ _
    rw [spec_l1blanks_l1_eq, brkT hlt, brkT hin, getD_nat, brkF (decide_eq_false c1), brkF (decide_eq_false c2), brkF (decide_eq_false c3), brkF (by rw [decide_eq_true h45]; rfl), w1, hb.look, Option.bind_some, brkF (by rw [decide_eq_true h46]; rfl), h6, decide_eq_true h45, decide_eq_true h46]
    exact h

theorem impl_blank_ok {j : Nat} (hj : j ≤ s.length) : Evt fun n => impl_blank (S.tab n) s (j : Int) = some ((blank s j : Int), o_impl_blank) :=
  (impl_blank_l1_ok hs s.length j (by omega) hj).up fun n ⟨y, h, hr⟩ => by
    show impl_blank (S.step (S.tab n)) _ _ = _
    rw [impl_blank_eq, h, Option.bind_some]
    rcases hr with rfl | rfl <;> rfl

theorem spec_blanks_ok {j : Nat} (hj : j ≤ s.length) : Evt fun n => spec_l1blanks (S.tab n) s (j : Int) = some ((blank s j : Int), o_spec_l1blanks) :=
  (spec_blanks_l1_ok hs s.length j (by omega) hj).up fun n ⟨y, h, hr⟩ => by
    show spec_l1blanks (S.step (S.tab n)) _ _ = _
    rw [spec_l1blanks_eq, h, Option.bind_some]
    rcases hr with rfl | rfl <;> rfl

end Go.Abs.D
end

section
namespace Go.Abs.D

/-- The token with its line. -/
def lined (t : tyTok.den) (line : Int) : tyTok.den := (t.1, t.2.1, t.2.2.1, line, t.2.2.2.2)
abbrev Sc : Type := Bool × Int × List tyTok.den × Unit

def sc (s : List Int) : Nat → Nat → Int → List tyTok.den → Sc
  | 0, _, _, o => (true, 0, o, ())
  | k + 1, i, line, o =>
    bif decide (s.length ≤ i) then (true, 0, o, ()) else
    bif decide (get s i = 10) then sc s k (blank s (i + 1)) (line + 1) (o ++ [(7, (i : Int), ((i + 1 : Nat) : Int), line, 0, ([] : List Int), ())]) else
    match lexAt s i with
    | .inl e => (false, (e : Int), [], ())
    | .inr t => sc s k (blank s t.2.2.1.toNat) line (o ++ [lined t line])

def scan (s : List Int) : Sc := bif decide (65536 < s.length) then (false, 65536, [], ()) else sc s (s.length + 1) (blank s 0) 1 []

/-! Where a token ends, and of what kind it is. -/


def Adv (s : List Int) (i : Nat) (t : tyTok.den) : Prop := (∃ e : Nat, t.2.2.1 = (e : Int) ∧ i < e ∧ e ≤ s.length) ∧ t.1 ≠ 7

theorem numTok_adv {s : List Int} {i j : Nat} (f : Bool) (h1 : i < j) (h2 : j ≤ s.length) : Adv s i (numTok s i j f) := by
  unfold numTok
  cases f || !decide (dv 0 (subN s i j) < 9223372036854775808) with
  | true => exact ⟨⟨j, rfl, h1, h2⟩, show (3 : Int) ≠ 7 by decide⟩
  | false => exact ⟨⟨j, rfl, h1, h2⟩, show (2 : Int) ≠ 7 by decide⟩

theorem expo_adv {s : List Int} {i j : Nat} (f : Bool) (h1 : i < j) (h2 : j ≤ s.length) {t : tyTok.den} (h : expo s i j f = .inr t) : Adv s i t := by
  unfold expo at h
  cases h5 : decide (get s j = 101) with
  | true =>
    rw [h5] at h
    cases hd : digitB (get s (expK s j)) with
    | true =>
      rw [hd] at h
      have hl := lt_of_digit hd
      have hk : j < expK s j := by unfold expK; cases decide (get s (j + 1) = 43) || decide (get s (j + 1) = 45) <;> simp
      have := le_dEnd s (expK s j)
      injection h with h
      subst h
      exact numTok_adv _ (by omega) (dEnd_le (by omega))
    | false => rw [hd] at h; cases h
  | false =>
    rw [h5] at h
    injection h with h
    subst h
    exact numTok_adv _ h1 h2

theorem frac_adv {s : List Int} {i j : Nat} (h1 : i < j) (h2 : j ≤ s.length) {t : tyTok.den} (h : frac s i j = .inr t) : Adv s i t := by
  unfold frac at h
  cases h5 : decide (get s j = 46) && digitB (get s (j + 1)) with
  | true =>
    rw [h5] at h
    rw [Bool.and_eq_true] at h5
    have hl := lt_of_digit h5.2
    have := le_dEnd s (j + 1)
    exact expo_adv _ (by omega) (dEnd_le (by omega)) h
  | false =>
    rw [h5] at h
    exact expo_adv _ h1 h2 h

theorem lexHex_adv {s : List Int} {i : Nat} (hi : i + 2 ≤ s.length) {t : tyTok.den} (h : lexHex s i = .inr t) : Adv s i t := by
  have h1 : hEnd s (i + 18) (i + 2) ≤ s.length := end_le hq_end _ _ hi
  have h2 : i + 2 ≤ hEnd s (i + 18) (i + 2) := le_stop _ _
  unfold lexHex at h
  by_cases he : hEnd s (i + 18) (i + 2) = i + 2
  · simp only [he, if_true] at h; cases h
  · simp only [he, if_false] at h
    cases hx : hexB (get s (hEnd s (i + 18) (i + 2))) with
    | true => simp only [hx, if_true] at h; cases h
    | false =>
      simp only [hx, Bool.false_eq_true, if_false] at h
      injection h with h
      subst h
      exact ⟨⟨_, rfl, by omega, h1⟩, show (2 : Int) ≠ 7 by decide⟩

theorem strR_adv {s : List Int} : ∀ (k j : Nat) (o : List Int) (e : Nat) (r : List Int), strR s k j o = .inr (e, r) → j < e ∧ e ≤ s.length
  | 0, j, o, e, r, h => by cases h
  | k + 1, j, o, e, r, h => by
    have ih1 := strR_adv (s := s) k (j + 1)
    have ih2 := strR_adv (s := s) k (j + 2)
    have ih4 := strR_adv (s := s) k (j + 4)
    unfold strR at h
    by_cases hl : s.length ≤ j
    · rw [decide_eq_true hl] at h; cases h
    rw [decide_eq_false hl] at h
    cases h1 : decide (get s j = 10) with
    | true => rw [h1] at h; cases h
    | false =>
    rw [h1] at h
    cases h1 : decide (get s j = 34) with
    | true => rw [h1] at h; injection h with h; injection h with h _; subst h; omega
    | false =>
    rw [h1] at h
    cases h1 : decide (get s j = 92) with
    | false => rw [h1] at h; have := ih1 _ _ _ h; omega
    | true =>
    rw [h1] at h
    cases h1 : decide (get s (j + 1) = 110) with
    | true => rw [h1] at h; have := ih2 _ _ _ h; omega
    | false =>
    rw [h1] at h
    cases h1 : decide (get s (j + 1) = 116) with
    | true => rw [h1] at h; have := ih2 _ _ _ h; omega
    | false =>
    rw [h1] at h
    cases h1 : decide (get s (j + 1) = 34) with
    | true => rw [h1] at h; have := ih2 _ _ _ h; omega
    | false =>
    rw [h1] at h
    cases h1 : decide (get s (j + 1) = 92) with
    | true => rw [h1] at h; have := ih2 _ _ _ h; omega
    | false =>
    rw [h1] at h
    cases h1 : decide (get s (j + 1) = 120) with
    | false => rw [h1] at h; cases h
    | true =>
    rw [h1] at h
    cases h1 : hexB (get s (j + 2)) with
    | false => rw [h1] at h; cases h
    | true =>
    rw [h1] at h
    cases h1 : hexB (get s (j + 3)) with
    | false => rw [h1] at h; cases h
    | true => rw [h1] at h; have := ih4 _ _ _ h; omega

theorem sgn7 (f : List Int) : sgn f ≠ 7 := by
  unfold sgn
  cases h1 : decide (stop (sq opsL f) 19 1 < 19) with
  | true => rw [cond_true]; omega
  | false =>
    cases h2 : decide (stop (sq Lx.signs f) 11 0 < 11) with
    | true => rw [cond_false, cond_true]; omega
    | false => rw [cond_false, cond_false]; omega

theorem lexAt_adv {s : List Int} (hs : s.length ≤ 2097152) {i : Nat} (hi : i < s.length) {t : tyTok.den} (h : lexAt s i = .inr t) : Adv s i t := by
  unfold lexAt at h
  cases hl : letterB (get s i) with
  | true =>
    rw [hl] at h
    injection h with h
    subst h
    have hle : wEnd s i ≤ s.length := end_le wq_end _ _ (by omega)
    have hgt : i < wEnd s i := by
      have hq : wq s i = true := by unfold wq; rw [hl]; rfl
      have e := stop_step (q := wq s) (N := s.length) wq_end (k := s.length) (j := i) (by omega) hq
      have := le_stop (q := wq s) s.length (i + 1)
      unfold wEnd; omega
    unfold tokW
    simp only
    split
    · exact ⟨⟨_, rfl, hgt, hle⟩, by show ((10 + kword _ : Nat) : Int) ≠ 7; omega⟩
    · exact ⟨⟨_, rfl, hgt, hle⟩, show (1 : Int) ≠ 7 by decide⟩
  | false =>
    rw [hl] at h
    cases hd : digitB (get s i) with
    | true =>
      rw [hd] at h
      have h : lexNum s i = .inr t := h
      unfold lexNum at h
      cases h0 : decide (get s i = 48) with
      | true =>
        cases hx : decide (get s (i + 1) = 120) with
        | true =>
          rw [h0, hx] at h
          have := lt_of_get (of_decide_eq_true hx) (by decide)
          exact lexHex_adv (by omega) h
        | false =>
          rw [h0, hx] at h
          exact frac_adv (j := i + 1) (by omega) (by omega) h
      | false =>
        rw [h0] at h
        have := le_dEnd s (i + 1)
        exact frac_adv (j := dEnd s (i + 1)) (by omega) (dEnd_le (by omega)) h
    | false =>
      rw [hd] at h
      cases h34 : decide (get s i = 34) with
      | true =>
        rw [h34] at h
        have h : strT i (strR s s.length (i + 1) []) = .inr t := h
        cases hr : strR s s.length (i + 1) [] with
        | inl e => rw [hr] at h; cases h
        | inr y =>
          rw [hr] at h
          obtain ⟨e, r⟩ := y
          have := strR_adv _ _ _ _ _ hr
          injection h with h
          subst h
          exact ⟨⟨e, rfl, by omega, by omega⟩, show (4 : Int) ≠ 7 by decide⟩
      | false =>
        rw [h34] at h
        have h : signT i (firstS (p3 s i)) = .inr t := h
        rw [← firstS_congr (pS_p3 (s := s) hi)] at h
        unfold signT firstS at h
        cases hk : decide (firstK (pS s i) < 30) with
        | false => rw [hk] at h; cases h
        | true =>
          rw [hk] at h
          simp only [cond_true] at h
          rw [decide_eq_false (sgn_pos _)] at h
          injection h with h
          subst h
          have hq : pq (pS s i) (firstK (pS s i)) = false := stop_end (N := 30) (fun j h => by unfold pq; rw [decide_eq_false (by omega)]; rfl) 30 0 (by omega)
          unfold pq at hq
          rw [hk, Bool.true_and, Bool.not_eq_false'] at hq
          have hq : (decide ((signsL.getD (firstK (pS s i)) []).length ≤ s.length - i) && decide (subN s i (i + (signsL.getD (firstK (pS s i)) []).length) = signsL.getD (firstK (pS s i)) [])) = true := hq
          rw [Bool.and_eq_true, decide_eq_true_eq] at hq
          have hpos : 0 < (signsL.getD (firstK (pS s i)) []).length := by
            have h : ∀ k : Fin 30, 0 < (signsL.getD k.1 []).length := by decide
            exact h ⟨_, of_decide_eq_true hk⟩
          exact ⟨⟨_, rfl, by omega, by omega⟩, by
            have := sgn7 (signsL.getD (firstK (pS s i)) [])
            show ((sgn _ : Nat) : Int) ≠ 7
            omega⟩

theorem blank_le {s : List Int} {j : Nat} (h : j ≤ s.length) : blank s j ≤ s.length := (blk_le _ _ h).1
theorem le_blank {s : List Int} {j : Nat} (h : j ≤ s.length) : j ≤ blank s j := (blk_le _ _ h).2

/-- What a loop over tokens tells. -/
def SL (r : Sc) (y : (Sc × Unit) ⊕ (Sc × Sc × Unit) ⊕ Empty) : Prop := y.elim (fun y => y.1 = r) fun y => y.elim (fun y => y.2.1 = r) Empty.elim

variable {s : List Int} (hs : s.length ≤ 65536) (hb8 : ∀ c ∈ s, isByte c)
include hs

theorem spec_scan_l6 (t2 : Sc) : ∀ (k i : Nat) (line : Nat) (o : List tyTok.den), s.length < i + k → i ≤ s.length → line ≤ i + 1 → o.length ≤ i →
    Evt fun n => ∃ y, spec_Scan_l6 (S.tab n) s t2 (true, 0, o, ()) (line : Int) (i : Int) = some y ∧ SL (sc s k i line o) y := by
  have hs2 : s.length ≤ 2097152 := by omega
  intro k
  induction k with
  | zero => intro i line o hk hi; omega
  | succ k ih =>
    intro i line o hk hi hline ho
    have hf : ∀ x : tyTok.den, fits (o.length + ([x] : List tyTok.den).length) = true := fun x => fits_of (by unfold lim; simp only [List.length_singleton]; omega)
    by_cases hl : s.length ≤ i
    · refine base2.up fun n hb => ?_
      show ∃ y, spec_Scan_l6 (S.step (S.tab n)) _ _ _ _ _ = _ ∧ _
      rw [spec_Scan_l6_eq, brkF (by simp only [decide_eq_false_iff_not]; omega)]
      refine ⟨_, rfl, ?_⟩
      unfold sc; rw [decide_eq_true hl]; rfl
    have hl' : i < s.length := by omega
    have hlt : decide ((i : Int) < (s.length : Int)) = true := by simp only [decide_eq_true_eq]; omega
    have hsc : sc s (k + 1) i line o = bif decide (get s i = 10) then sc s k (blank s (i + 1)) (line + 1) (o ++ [(7, (i : Int), ((i + 1 : Nat) : Int), (line : Int), 0, ([] : List Int), ())]) else match lexAt s i with
      | .inl e => (false, (e : Int), [], ())
      | .inr t => sc s k (blank s t.2.2.1.toNat) line (o ++ [lined t line]) := by
      conv => lhs; unfold sc
      rw [decide_eq_false hl]; rfl
    rw [hsc]
    by_cases h10 : get s i = 10
    · have w : IntKind.i64.wrap ((line : Int) + 1) = ((line + 1 : Nat) : Int) := wrap1 (by omega)
      have hbl := blank_le (s := s) (j := i + 1) (by omega)
      have hbg := le_blank (s := s) (j := i + 1) (by omega)
      have ih := ih (blank s (i + 1)) (line + 1) (o ++ [(7, (i : Int), ((i + 1 : Nat) : Int), (line : Int), 0, ([] : List Int), ())]) (by omega) hbl (by omega) (by simp; omega)
      refine ((ih.and (spec_read_line hs2 hl' h10)).and (spec_blanks_ok hs2 (j := i + 1) (by omega))).up fun n ⟨⟨h, hr⟩, hbk⟩ => ?_
      show ∃ y, spec_Scan_l6 (S.step (S.tab n)) _ _ _ _ _ = _ ∧ _
      rw [spec_Scan_l6_eq, brkT hlt, hr, Option.bind_some, brkF (show decide ((0 : Int) ≤ -1) = false from rfl), brkT (show decide ((7 : Int) = 7) = true from rfl), brkT (hf _), hbk, Option.bind_some, w, decide_eq_true h10]
      exact h
    rw [decide_eq_false h10]
    have hread := spec_read_ok hs2 hl' h10
    cases hx : lexAt s i with
    | inl e =>
      refine hread.up fun n ⟨t', b, h, hr⟩ => ?_
      show ∃ y, spec_Scan_l6 (S.step (S.tab n)) _ _ _ _ _ = _ ∧ _
      rw [hx] at hr
      have hr : b = (e : Int) := hr
      subst hr
      rw [spec_Scan_l6_eq, brkT hlt, h, Option.bind_some, brkT (by simp only [decide_eq_true_eq]; omega)]
      exact ⟨_, rfl, rfl⟩
    | inr t =>
      obtain ⟨⟨e, he, hie, hel⟩, h7⟩ := lexAt_adv hs2 hl' hx
      have hbl := blank_le (s := s) (j := e) hel
      have hbg := le_blank (s := s) (j := e) hel
      have ih := ih (blank s e) line (o ++ [lined t line]) (by omega) hbl (by omega) (by simp; omega)
      refine ((ih.and hread).and (spec_blanks_ok hs2 (j := e) hel)).up fun n ⟨⟨h, t', b, hr, hR⟩, hbk⟩ => ?_
      show ∃ y, spec_Scan_l6 (S.step (S.tab n)) _ _ _ _ _ = _ ∧ _
      rw [hx] at hR
      obtain ⟨hR1, hR2⟩ : b = -1 ∧ t' = t := hR
      subst hR1; subst hR2
      rw [spec_Scan_l6_eq, brkT hlt, hr, Option.bind_some, brkF (show decide ((0 : Int) ≤ -1) = false from rfl), brkF (decide_eq_false h7), brkT (hf _)]
      simp only [he]
      rw [hbk, Option.bind_some]
      have e' : lined t' (line : Int) = (t'.1, t'.2.1, (e : Int), (line : Int), t'.2.2.2.2) := by unfold lined; rw [he]
      rw [e'] at h
      simp only [cond_false, he, Int.toNat_natCast, e']
      exact h

theorem impl_scan_l6 (hb8 : ∀ c ∈ s, isByte c) (t2 : Sc) : ∀ (k i : Nat) (line : Nat) (o : List tyTok.den), s.length < i + k → i ≤ s.length → line ≤ i + 1 → o.length ≤ i →
    Evt fun n => ∃ y, impl_Scan_l6 (S.tab n) s t2 (true, 0, o, ()) (line : Int) (i : Int) = some y ∧ SL (sc s k i line o) y := by
  have hs2 : s.length ≤ 2097152 := by omega
  intro k
  induction k with
  | zero => intro i line o hk hi; omega
  | succ k ih =>
    intro i line o hk hi hline ho
    have hf : ∀ x : tyTok.den, fits (o.length + ([x] : List tyTok.den).length) = true := fun x => fits_of (by unfold lim; simp only [List.length_singleton]; omega)
    by_cases hl : s.length ≤ i
    · refine base2.up fun n hb => ?_
      show ∃ y, impl_Scan_l6 (S.step (S.tab n)) _ _ _ _ _ = _ ∧ _
      rw [impl_Scan_l6_eq, brkF (by simp only [decide_eq_false_iff_not]; omega)]
      refine ⟨_, rfl, ?_⟩
      unfold sc; rw [decide_eq_true hl]; rfl
    have hl' : i < s.length := by omega
    have hlt : decide ((i : Int) < (s.length : Int)) = true := by simp only [decide_eq_true_eq]; omega
    have hsc : sc s (k + 1) i line o = bif decide (get s i = 10) then sc s k (blank s (i + 1)) (line + 1) (o ++ [(7, (i : Int), ((i + 1 : Nat) : Int), (line : Int), 0, ([] : List Int), ())]) else match lexAt s i with
      | .inl e => (false, (e : Int), [], ())
      | .inr t => sc s k (blank s t.2.2.1.toNat) line (o ++ [lined t line]) := by
      conv => lhs; unfold sc
      rw [decide_eq_false hl]; rfl
    rw [hsc]
    by_cases h10 : get s i = 10
    · have w : IntKind.i64.wrap ((line : Int) + 1) = ((line + 1 : Nat) : Int) := wrap1 (by omega)
      have w1 : IntKind.i64.wrap ((i : Int) + 1) = ((i + 1 : Nat) : Int) := wrap1 (by omega)
      have hbl := blank_le (s := s) (j := i + 1) (by omega)
      have hbg := le_blank (s := s) (j := i + 1) (by omega)
      have ih := ih (blank s (i + 1)) (line + 1) (o ++ [(7, (i : Int), ((i + 1 : Nat) : Int), (line : Int), 0, ([] : List Int), ())]) (by omega) hbl (by omega) (by simp; omega)
      refine (ih.and (impl_blank_ok hs2 (j := i + 1) (by omega))).up fun n ⟨h, hbk⟩ => ?_
      show ∃ y, impl_Scan_l6 (S.step (S.tab n)) _ _ _ _ _ = _ ∧ _
      rw [impl_Scan_l6_eq, brkT hlt, brkT (inb_nat hl'), getD_nat, brkT (decide_eq_true h10), brkT (hf _), w1, hbk, Option.bind_some, w, decide_eq_true h10]
      exact h
    rw [decide_eq_false h10]
    have hread := impl_lex_ok hs2 hb8 hl'
    cases hx : lexAt s i with
    | inl e =>
      refine hread.up fun n ⟨t', b, h, hr⟩ => ?_
      show ∃ y, impl_Scan_l6 (S.step (S.tab n)) _ _ _ _ _ = _ ∧ _
      rw [hx] at hr
      obtain ⟨hr1, hr2⟩ : b = true ∧ t'.2.2.1 = (e : Int) := hr
      subst hr1
      rw [impl_Scan_l6_eq, brkT hlt, brkT (inb_nat hl'), getD_nat, brkF (decide_eq_false h10), h, Option.bind_some, brkT (by rfl)]
      refine ⟨_, rfl, ?_⟩
      show (false, t'.2.2.1, _, _) = _
      rw [hr2]; rfl
    | inr t =>
      obtain ⟨⟨e, he, hie, hel⟩, h7⟩ := lexAt_adv hs2 hl' hx
      have hbl := blank_le (s := s) (j := e) hel
      have hbg := le_blank (s := s) (j := e) hel
      have ih := ih (blank s e) line (o ++ [lined t line]) (by omega) hbl (by omega) (by simp; omega)
      refine ((ih.and hread).and (impl_blank_ok hs2 (j := e) hel)).up fun n ⟨⟨h, t', b, hr, hR⟩, hbk⟩ => ?_
      show ∃ y, impl_Scan_l6 (S.step (S.tab n)) _ _ _ _ _ = _ ∧ _
      rw [hx] at hR
      obtain ⟨hR1, hR2⟩ : b = false ∧ t' = t := hR
      subst hR1; subst hR2
      rw [impl_Scan_l6_eq, brkT hlt, brkT (inb_nat hl'), getD_nat, brkF (decide_eq_false h10), hr, Option.bind_some, brkF (by rfl), brkT (hf _)]
      simp only [he]
      rw [hbk, Option.bind_some]
      have e' : lined t' (line : Int) = (t'.1, t'.2.1, (e : Int), (line : Int), t'.2.2.2.2) := by unfold lined; rw [he]
      rw [e'] at h
      simp only [cond_false, he, Int.toNat_natCast, e']
      exact h

omit hs in
theorem spec_Scan_ok : Evt fun n => spec_Scan (S.tab n) s = some (scan s, o_spec_Scan) := by
  by_cases hs : s.length ≤ 65536
  · have hb := blank_le (s := s) (j := 0) (by omega)
    refine ((spec_scan_l6 hs (false, 0, [], ()) (s.length + 1) (blank s 0) 1 [] (by omega) hb (by omega) (by simp)).and (spec_blanks_ok (s := s) (by omega) (j := 0) (by omega))).up fun n ⟨⟨y, h, hr⟩, hbk⟩ => ?_
    show spec_Scan (S.step (S.tab n)) _ = _
    have hbk : spec_l1blanks (S.tab n) s 0 = _ := hbk
    rw [spec_Scan_eq, brkF (by simp only [decide_eq_false_iff_not]; omega), hbk, Option.bind_some]
    have h : spec_Scan_l6 (S.tab n) s (false, 0, [], ()) (true, 0, [], ()) 1 (blank s 0 : Int) = _ := h
    simp only
    rw [h, Option.bind_some]
    unfold scan
    rw [decide_eq_false (by omega)]
    rcases y with y | y | y
    · have hr : y.1 = _ := hr
      show some (y.1, _) = _
      rw [hr]; rfl
    · have hr : y.2.1 = _ := hr
      show some (y.2.1, _) = _
      rw [hr]; rfl
    · exact y.elim
  · refine base2.up fun n hb => ?_
    show spec_Scan (S.step (S.tab n)) _ = _
    unfold scan
    rw [spec_Scan_eq, brkT (by simp only [decide_eq_true_eq]; omega), decide_eq_true (by omega)]; rfl

omit hs in
theorem impl_Scan_ok (hb8 : ∀ c ∈ s, isByte c) : Evt fun n => impl_Scan (S.tab n) s = some (scan s, o_impl_Scan) := by
  by_cases hs : s.length ≤ 65536
  · have hb := blank_le (s := s) (j := 0) (by omega)
    refine ((impl_scan_l6 hs hb8 (false, 0, [], ()) (s.length + 1) (blank s 0) 1 [] (by omega) hb (by omega) (by simp)).and (impl_blank_ok (s := s) (by omega) (j := 0) (by omega))).up fun n ⟨⟨y, h, hr⟩, hbk⟩ => ?_
    show impl_Scan (S.step (S.tab n)) _ = _
    have hbk : impl_blank (S.tab n) s 0 = _ := hbk
    rw [impl_Scan_eq, brkF (by simp only [decide_eq_false_iff_not]; omega), hbk, Option.bind_some]
    have h : impl_Scan_l6 (S.tab n) s (false, 0, [], ()) (true, 0, [], ()) 1 (blank s 0 : Int) = _ := h
    simp only
    rw [h, Option.bind_some]
    unfold scan
    rw [decide_eq_false (by omega)]
    rcases y with y | y | y
    · have hr : y.1 = _ := hr
      show some (y.1, _) = _
      rw [hr]; rfl
    · have hr : y.2.1 = _ := hr
      show some (y.2.1, _) = _
      rw [hr]; rfl
    · exact y.elim
  · refine base2.up fun n hb => ?_
    show impl_Scan (S.step (S.tab n)) _ = _
    unfold scan
    rw [impl_Scan_eq, brkT (by simp only [decide_eq_true_eq]; omega), decide_eq_true (by omega)]; rfl

end Go.Abs.D
end

section
namespace Go.Abs.D
open Go.Proofs

def hexs : List Int := [48, 49, 50, 51, 52, 53, 54, 55, 56, 57, 97, 98, 99, 100, 101, 102]

def esc (c : Int) : List Int :=
  if c = 10 then [92, 110] else if c = 9 then [92, 116] else if c = 34 then [92, 34] else if c = 92 then [92, 92]
  else if c < 32 ∨ 126 < c then [92, 120, hexs.getD (c / 16).toNat 0, hexs.getD (c % 16).toNat 0] else [c]

theorem esc_len (c : Int) : (esc c).length ≤ 4 := by
  unfold esc
  repeat' split
  all_goals simp

theorem spec_round (T : S.Tab) (t0 t4 : List Int) (i c : Int) (h0 : 0 ≤ i) (hi : i < t0.length) (hl : t0.length ≤ 4000) (hc : t0.getD i.toNat 0 = c) (hb : isByte c) (hf : t4.length + 4 ≤ lim) :
    spec_l1quote_l4 (S.step T) t0 hexs t4 i = spec_l1quote_l4 T t0 hexs (t4 ++ esc c) (i + 1) := by
  rw [spec_l1quote_l4_eq]
  obtain ⟨hb0, hb1⟩ := hb
  have w : IntKind.i64.wrap (i + 1) = i + 1 := wrap64 _ (by omega) (by omega)
  have hh : (hexs.length : Int) = 16 := rfl
  simp only [hc, shr4 c ⟨hb0, hb1⟩, and15 c ⟨hb0, hb1⟩, w, hh, brk_eq, h0, hi, decide_true, Bool.and_true, cond_true, List.length_cons, List.length_nil]
  have f4 : fits (t4.length + (0 + 1 + 1 + 1 + 1)) = true := fits_of (by omega)
  have f2 : fits (t4.length + (0 + 1 + 1)) = true := fits_of (by omega)
  have f2' : fits (t4.length + 2) = true := fits_of (by omega)
  have f1 : fits (t4.length + (0 + 1)) = true := fits_of (by omega)
  have a1 : (decide (0 ≤ c / 16) && decide (c / 16 < 16)) = true := by
    simp only [Bool.and_eq_true, decide_eq_true_eq]; omega
  have a2 : (decide (0 ≤ c % 16) && decide (c % 16 < 16)) = true := by
    simp only [Bool.and_eq_true, decide_eq_true_eq]; omega
  unfold esc
  by_cases h1 : c = 10
  · simp [h1, f2']
  by_cases h2 : c = 9
  · simp [h2, f2']
  by_cases h3 : c = 34
  · simp [h3, f2]
  by_cases h4 : c = 92
  · simp [h4, f2]
  by_cases h5 : c < 32
  · simp only [h1, h2, h3, h4, h5, a1, a2, f4, decide_true, decide_false, cond_true, cond_false, if_true, if_false, true_or]
  by_cases h6 : 126 < c
  · simp only [h1, h2, h3, h4, h5, h6, a1, a2, f4, decide_true, decide_false, cond_true, cond_false, if_true, if_false, or_true]
  · simp only [h1, h2, h3, h4, h5, h6, f1, decide_false, cond_true, cond_false, if_false, or_self]

theorem sub1 (l : List Int) (x : Int) (h0 : 0 ≤ x) (h1 : x < l.length) : sub l x (x + 1) = [l.getD x.toNat 0] := by
  unfold sub
  have e : (x + 1).toNat = x.toNat + 1 := by omega
  have hl : x.toNat < l.length := by omega
  rw [e, List.getD_eq_getElem?_getD, List.getElem?_eq_getElem hl, Option.getD_some]
  apply List.ext_getElem?
  intro j
  rw [List.getElem?_drop, List.getElem?_take]
  cases j with
  | zero => rw [if_pos (by omega)]; simp [hl]
  | succ j => rw [if_neg (by omega)]; simp

theorem find_esc (c : Int) : Bld.idx [10, 9, 34, 92] c 0 = if c = 10 then 0 else if c = 9 then 1 else if c = 34 then 2 else if c = 92 then 3 else -1 := by
  simp only [Bld.idx]
  repeat' split
  all_goals simp_all [eq_comm]

theorem impl_round (T : S.Tab) (t0 t3 : List Int) (i c : Int) (h0 : 0 ≤ i) (hi : i < t0.length) (hl : t0.length ≤ 4000) (hc : t0.getD i.toNat 0 = c) (hb : isByte c) (hf : t3.length + 4 ≤ lim)
    (h17 : strings_IndexByte T [10, 9, 34, 92] c = some (Bld.idx [10, 9, 34, 92] c 0, (), (), ())) :
    impl_Quote_l6 (S.step T) t0 t3 i = impl_Quote_l6 T t0 (t3 ++ esc c) (i + 1) := by
  rw [impl_Quote_l6_eq]
  obtain ⟨hb0, hb1⟩ := hb
  have w : IntKind.i64.wrap (i + 1) = i + 1 := wrap64 _ (by omega) (by omega)
  have hd : ([48, 49, 50, 51, 52, 53, 54, 55, 56, 57, 97, 98, 99, 100, 101, 102] : List Int) = hexs := rfl
  have hh : (hexs.length : Int) = 16 := rfl
  have w1 : IntKind.u8.wrap (c / 16 + 1) = c / 16 + 1 := wrap8 _ (by omega) (by omega)
  have w2 : IntKind.u8.wrap (c % 16 + 1) = c % 16 + 1 := wrap8 _ (by omega) (by omega)
  have s1 : sub hexs (c / 16) (c / 16 + 1) = [hexs.getD (c / 16).toNat 0] := sub1 _ _ (by omega) (by omega)
  have s2 : sub hexs (c % 16) (c % 16 + 1) = [hexs.getD (c % 16).toNat 0] := sub1 _ _ (by omega) (by omega)
  have b1 : bounds 16 (c / 16) (c / 16 + 1) = true := by
    unfold bounds
    simp only [Bool.and_eq_true, decide_eq_true_eq]; omega
  have b2 : bounds 16 (c % 16) (c % 16 + 1) = true := by
    unfold bounds
    simp only [Bool.and_eq_true, decide_eq_true_eq]; omega
  have f3 : fits (2 + 1) = true := rfl
  have f4 : fits (([92, 120] ++ [hexs.getD (c / 16).toNat 0]).length + 1) = true := rfl
  have g1 : fits (t3.length + 1) = true := fits_of (by omega)
  have g1' : ∀ x, fits ((t3 ++ [x]).length + 1) = true := fun x => fits_of (by simp; omega)
  have g4 : ∀ x y : Int, fits (t3.length + ([92, 120] ++ [x] ++ [y]).length) = true := fun x y => fits_of (by simp; omega)
  simp only [hc, hd, shr4 c ⟨hb0, hb1⟩, and15 c ⟨hb0, hb1⟩, w, w1, w2, s1, s2, b1, b2, brk_eq, h0, hi, decide_true, Bool.and_true, cond_true, h17, find_esc, List.length_singleton, f3, f4, Bld.writeByteF, Bld.writeStringF, g1, g1', g4, Option.bind_some]
  unfold esc
  by_cases h1 : c = 10
  · simp [h1]
  by_cases h2 : c = 9
  · simp [h2]
  by_cases h3 : c = 34
  · simp [h3]
  by_cases h4 : c = 92
  · simp [h4]
  by_cases h5 : c < 32
  · simp [h1, h2, h3, h4, h5]
  by_cases h6 : 126 < c
  · simp [h1, h2, h3, h4, h5, h6]
  · simp [h1, h2, h3, h4, h5, h6]

def quoteM (s : List Int) : List Int := if 4000 < s.length then [] else [34] ++ s.flatMap esc ++ [34]

theorem spec_loop : ∀ (l pre t4 : List Int), (∀ c ∈ l, isByte c) → (pre ++ l).length ≤ 4000 → t4.length + 4 * l.length ≤ 30000 →
    Evt fun n => spec_l1quote_l4 (S.tab n) (pre ++ l) hexs t4 (pre.length : Int) = some (Sum.inl (t4 ++ l.flatMap esc, ()))
  | [], pre, t4, _, hl, _ => Evt.up (Evt.of (p := fun _ => True) fun _ => trivial) fun n _ => by
    show spec_l1quote_l4 (S.step (S.tab n)) _ _ _ _ = _
    rw [spec_l1quote_l4_eq, brkF (by simp)]
    simp
  | c :: l, pre, t4, hb, hl, hf => by
    have hlen : (pre ++ c :: l).length = pre.length + (l.length + 1) := by simp
    have e4 := esc_len c
    have ih := spec_loop l (pre ++ [c]) (t4 ++ esc c) (fun x hx => hb x (List.mem_cons_of_mem _ hx)) (by simp at hl ⊢; omega) (by simp at hf ⊢; omega)
    refine ih.up fun n h => ?_
    show spec_l1quote_l4 (S.step (S.tab n)) _ _ _ _ = _
    rw [spec_round (S.tab n) _ t4 (pre.length : Int) c (by omega) (by omega) hl (getD_cut pre c l 0) (hb c (List.mem_cons_self ..)) (by simp [lim] at hf ⊢; omega)]
    rw [List.append_assoc] at h
    simp only [List.length_append, List.length_singleton, List.singleton_append] at h
    push_cast at h
    rw [h, List.flatMap_cons, List.append_assoc]

theorem idx_ok (c : Int) (h : isByte c) : Evt fun n => strings_IndexByte (S.tab n) [10, 9, 34, 92] c = some (Bld.idx [10, 9, 34, 92] c 0, (), (), ()) :=
  Evt.up (Evt.up (Evt.of (p := fun _ => True) fun _ => trivial) (q := fun n => i_stringslite_IndexByte (S.tab n) [10, 9, 34, 92] c = some (Bld.idx [10, 9, 34, 92] c 0, (), (), ())) fun n _ => by
    show i_stringslite_IndexByte (S.step (S.tab n)) _ _ = _
    rw [i_stringslite_IndexByte_eq, Bld.indexByteF, byte_of h]
    rfl) fun n h => by
    show strings_IndexByte (S.step (S.tab n)) _ _ = _
    rw [strings_IndexByte_eq, h]
    rfl

theorem impl_loop : ∀ (l pre t3 : List Int), (∀ c ∈ l, isByte c) → (pre ++ l).length ≤ 4000 → t3.length + 4 * l.length ≤ 30000 →
    Evt fun n => impl_Quote_l6 (S.tab n) (pre ++ l) t3 (pre.length : Int) = some (Sum.inl (t3 ++ l.flatMap esc, ()))
  | [], pre, t3, _, hl, _ => Evt.up (Evt.of (p := fun _ => True) fun _ => trivial) fun n _ => by
    show impl_Quote_l6 (S.step (S.tab n)) _ _ _ = _
    rw [impl_Quote_l6_eq, brkF (by simp)]
    simp
  | c :: l, pre, t3, hb, hl, hf => by
    have hlen : (pre ++ c :: l).length = pre.length + (l.length + 1) := by simp
    have e4 := esc_len c
    have ih := impl_loop l (pre ++ [c]) (t3 ++ esc c) (fun x hx => hb x (List.mem_cons_of_mem _ hx)) (by simp at hl ⊢; omega) (by simp at hf ⊢; omega)
    refine (ih.and (idx_ok c (hb c (List.mem_cons_self ..)))).up fun n ⟨h, h17⟩ => ?_
    show impl_Quote_l6 (S.step (S.tab n)) _ _ _ = _
    rw [impl_round (S.tab n) _ t3 (pre.length : Int) c (by omega) (by omega) hl (getD_cut pre c l 0) (hb c (List.mem_cons_self ..)) (by simp [lim] at hf ⊢; omega) h17]
    rw [List.append_assoc] at h
    simp only [List.length_append, List.length_singleton, List.singleton_append] at h
    push_cast at h
    rw [h, List.flatMap_cons, List.append_assoc]

theorem esc_bytes (c : Int) (h : isByte c) : ∀ x ∈ esc c, isByte x := by
  have hx : ∀ n : Nat, isByte (hexs.getD n 0) := by
    intro n
    rw [List.getD_eq_getElem?_getD]
    cases e : hexs[n]? with
    | none => exact ⟨by decide, by decide⟩
    | some v =>
      have := List.mem_of_getElem? e
      have hall : ∀ v ∈ hexs, 0 ≤ v ∧ v < 256 := by decide
      exact hall v this
  intro x hx'
  unfold esc at hx'
  repeat' split at hx'
  all_goals simp only [List.mem_cons, List.not_mem_nil, or_false] at hx'
  all_goals rcases hx' with rfl | rfl | rfl | rfl
  all_goals first | exact hx _ | exact h | exact ⟨by omega, by omega⟩

theorem flat_len (l : List Int) : (l.flatMap esc).length ≤ 4 * l.length := by
  induction l with
  | nil => simp
  | cons c l ih =>
    have := esc_len c
    rw [List.flatMap_cons, List.length_append, List.length_cons]; omega

theorem spec_quote (s : List Int) (hb : ∀ c ∈ s, isByte c) : Evt fun n => spec_Quote (S.tab n) s = some (quoteM s, (), ()) := by
  by_cases hl : 4000 < s.length
  · exact Evt.up (Evt.of (p := fun _ => True) fun _ => trivial) fun n _ => by
      show spec_Quote (S.step (S.tab n)) _ = _
      rw [spec_Quote_eq, brkT (by simp; omega)]
      simp [quoteM, hl]
  · have h15 : Evt fun n => spec_l1quote (S.tab n) s = some (quoteM s, (), ()) := by
      refine (spec_loop s [] [34] hb (by simpa using hl) (by simp; omega)).up fun n h => ?_
      show spec_l1quote (S.step (S.tab n)) _ = _
      have h' : spec_l1quote_l4 (S.tab n) s [48, 49, 50, 51, 52, 53, 54, 55, 56, 57, 97, 98, 99, 100, 101, 102] [34] 0 = some (Sum.inl ([34] ++ s.flatMap esc, ())) := h
      have := flat_len s
      rw [spec_l1quote_eq, h']
      simp only [Option.bind_some, out1, Sum.elim_inl]
      rw [brkT (fits_of (by simp only [lim, List.length_append, List.length_singleton]; omega)), map_byte]
      · simp [quoteM, hl]
      · intro c hc
        simp only [List.mem_append, List.mem_cons, List.not_mem_nil, or_false, List.mem_flatMap] at hc
        rcases hc with (rfl | ⟨a, ha, hc⟩) | rfl
        · exact ⟨by decide, by decide⟩
        · exact esc_bytes a (hb a ha) c hc
        · exact ⟨by decide, by decide⟩
    refine h15.up fun n h => ?_
    show spec_Quote (S.step (S.tab n)) _ = _
    rw [spec_Quote_eq, brkF (by simp; omega), h]
    rfl

theorem impl_quote (s : List Int) (hb : ∀ c ∈ s, isByte c) : Evt fun n => impl_Quote (S.tab n) s = some (quoteM s, (), ()) := by
  by_cases hl : 4000 < s.length
  · exact Evt.up (Evt.of (p := fun _ => True) fun _ => trivial) fun n _ => by
      show impl_Quote (S.step (S.tab n)) _ = _
      rw [impl_Quote_eq, brkT (by simp; omega)]
      simp [quoteM, hl]
  · refine (impl_loop s [] [34] hb (by simpa using hl) (by simp; omega)).up fun n h => ?_
    show impl_Quote (S.step (S.tab n)) _ = _
    have h' : impl_Quote_l6 (S.tab n) s [34] 0 = some (Sum.inl ([34] ++ s.flatMap esc, ())) := h
    have := flat_len s
    rw [impl_Quote_eq, brkF (by simp; omega)]
    have w0 : Bld.writeByteF ([], 34, ()) = some (true, [34], (), ()) := rfl
    have w1 : Bld.writeByteF ([34] ++ s.flatMap esc, 34, ()) = some (true, [34] ++ s.flatMap esc ++ [34], (), ()) := by
      show (bif fits _ then _ else _) = _
      rw [fits_of (by simp only [lim, List.length_append, List.length_singleton]; omega)]; rfl
    have hby : ∀ c ∈ [34] ++ s.flatMap esc ++ [34], isByte c := by
      intro c hc
      simp only [List.mem_append, List.mem_cons, List.not_mem_nil, or_false, List.mem_flatMap] at hc
      rcases hc with (rfl | ⟨a, ha, hc⟩) | rfl
      · exact ⟨by decide, by decide⟩
      · exact esc_bytes a (hb a ha) c hc
      · exact ⟨by decide, by decide⟩
    have w2 : Bld.stringF ([34] ++ s.flatMap esc ++ [34], ()) = some ([34] ++ s.flatMap esc ++ [34], (), ()) := by
      show (bif fits _ then _ else _) = _
      rw [fits_of (by simp only [lim, List.length_append, List.length_singleton]; omega)]
      show some (List.map byte _, (), ()) = _
      rw [map_byte hby]
    simp only [w0, Option.bind_some, h', out1, Sum.elim_inl, w1, w2]
    simp [quoteM, hl]

end Go.Abs.D
end

section
namespace Go.Abs.D

theorem get1 (pre : List Int) (x : Int) (r : List Int) : get (pre ++ x :: r) pre.length = x := getD_cut pre x r 0
theorem get2 (pre : List Int) (x y : Int) (r : List Int) : get (pre ++ x :: y :: r) (pre.length + 1) = y := by
  have := get1 (pre ++ [x]) y r
  simpa using this
theorem get3 (pre : List Int) (x y z : Int) (r : List Int) : get (pre ++ x :: y :: z :: r) (pre.length + 2) = z := by
  have := get1 (pre ++ [x, y]) z r
  simpa using this
theorem get4 (pre : List Int) (x y z u : Int) (r : List Int) : get (pre ++ x :: y :: z :: u :: r) (pre.length + 3) = u := by
  have := get1 (pre ++ [x, y, z]) u r
  simpa using this

theorem hexs_ok : ∀ n : Nat, n < 16 → hexB (hexs.getD n 0) = true ∧ hexV (hexs.getD n 0) = (n : Int) := by
  have h : ∀ n : Fin 16, hexB (hexs.getD n.1 0) = true ∧ hexV (hexs.getD n.1 0) = (n.1 : Int) := by decide
  exact fun n hn => h ⟨n, hn⟩

theorem strR_step {s : List Int} {k j : Nat} {o : List Int} (h : j < s.length) : strR s (k + 1) j o =
    bif decide (get s j = 10) then .inl j else
    bif decide (get s j = 34) then .inr (j + 1, o) else
    bif !decide (get s j = 92) then strR s k (j + 1) (o ++ [get s j]) else
    bif decide (get s (j + 1) = 110) then strR s k (j + 2) (o ++ [10]) else
    bif decide (get s (j + 1) = 116) then strR s k (j + 2) (o ++ [9]) else
    bif decide (get s (j + 1) = 34) then strR s k (j + 2) (o ++ [34]) else
    bif decide (get s (j + 1) = 92) then strR s k (j + 2) (o ++ [92]) else
    bif !decide (get s (j + 1) = 120) then .inl (j + 1) else
    bif !hexB (get s (j + 2)) then .inl (j + 2) else
    bif !hexB (get s (j + 3)) then .inl (j + 3) else
    strR s k (j + 4) (o ++ [hexV (get s (j + 2)) * 16 + hexV (get s (j + 3))]) := by
  conv => lhs; unfold strR
  rw [decide_eq_false (by omega)]; rfl

theorem strR_quote : ∀ (l pre o : List Int) (k : Nat), (∀ c ∈ l, isByte c) → l.length < k → strR (pre ++ (l.flatMap esc ++ [34])) k pre.length o = .inr ((pre ++ (l.flatMap esc ++ [34])).length, o ++ l)
  | [], pre, o, k, _, hk => by
    obtain ⟨k, rfl⟩ : ∃ m, k = m + 1 := ⟨k - 1, by omega⟩
    rw [List.flatMap_nil, List.nil_append, strR_step (by simp), get1]
    simp
  | c :: l, pre, o, k, hb, hk => by
    obtain ⟨k, rfl⟩ : ∃ m, k = m + 1 := ⟨k - 1, by omega⟩
    have hk' : l.length < k := by simp at hk; omega
    have hl := fun x hx => hb x (List.mem_cons_of_mem _ hx)
    have ih := fun p o' => strR_quote l p o' k hl hk'
    obtain ⟨b0, b1⟩ := hb c (List.mem_cons_self ..)
    rw [List.flatMap_cons, List.append_assoc]
    generalize hR : l.flatMap esc ++ [34] = R at ih
    unfold esc
    by_cases h1 : c = 10
    · subst h1
      have := ih (pre ++ [92, 110]) (o ++ [10])
      rw [if_pos rfl]
      simp only [List.cons_append, List.nil_append]
      rw [strR_step (by simp), get1, get2]
      simpa using this
    by_cases h2 : c = 9
    · subst h2
      have := ih (pre ++ [92, 116]) (o ++ [9])
      rw [if_neg (by decide), if_pos rfl]
      simp only [List.cons_append, List.nil_append]
      rw [strR_step (by simp), get1, get2]
      simpa using this
    by_cases h3 : c = 34
    · subst h3
      have := ih (pre ++ [92, 34]) (o ++ [34])
      rw [if_neg (by decide), if_neg (by decide), if_pos rfl]
      simp only [List.cons_append, List.nil_append]
      rw [strR_step (by simp), get1, get2]
      simpa using this
    by_cases h4 : c = 92
    · subst h4
      have := ih (pre ++ [92, 92]) (o ++ [92])
      rw [if_neg (by decide), if_neg (by decide), if_neg (by decide), if_pos rfl]
      simp only [List.cons_append, List.nil_append]
      rw [strR_step (by simp), get1, get2]
      simpa using this
    rw [if_neg h1, if_neg h2, if_neg h3, if_neg h4]
    by_cases h5 : c < 32 ∨ 126 < c
    · rw [if_pos h5]
      obtain ⟨x1, v1⟩ := hexs_ok (c / 16).toNat (by omega)
      obtain ⟨x2, v2⟩ := hexs_ok (c % 16).toNat (by omega)
      have e : hexV (hexs.getD (c / 16).toNat 0) * 16 + hexV (hexs.getD (c % 16).toNat 0) = c := by rw [v1, v2]; omega
      have := ih (pre ++ [92, 120, hexs.getD (c / 16).toNat 0, hexs.getD (c % 16).toNat 0]) (o ++ [c])
      simp only [List.cons_append, List.nil_append]
      rw [strR_step (by simp), get1, get2, get3, get4, x1, x2, e]
      simpa using this
    · rw [if_neg h5]
      have := ih (pre ++ [c]) (o ++ [c])
      simp only [List.cons_append, List.nil_append]
      rw [strR_step (by simp), get1, decide_eq_false h1, decide_eq_false h3, decide_eq_false h4]
      simpa using this

theorem quoteM_eq {s : List Int} (hl : s.length ≤ 4000) : quoteM s = 34 :: (s.flatMap esc ++ [34]) := by
  unfold quoteM
  rw [if_neg (by omega)]; simp

theorem scan_quote (s : List Int) (hb : ∀ c ∈ s, isByte c) (hl : s.length ≤ 4000) : scan (quoteM s) = (true, 0, [(4, 0, ((quoteM s).length : Int), 1, 0, s, ())], ()) := by
  have hfl := flat_len s
  have hq := quoteM_eq hl
  have hlen : (quoteM s).length = (s.flatMap esc).length + 2 := by rw [hq]; simp
  have hlen1 : s.length ≤ (s.flatMap esc).length := by
    clear hfl hq hlen hl
    induction s with
    | nil => simp
    | cons c s ih =>
      have := ih fun x hx => hb x (List.mem_cons_of_mem _ hx)
      have h1 : 1 ≤ (esc c).length := by
        unfold esc
        repeat' split
        all_goals simp
      rw [List.flatMap_cons, List.length_append, List.length_cons]; omega
  have g0 : get (quoteM s) 0 = 34 := by rw [hq]; rfl
  have hbl0 : blank (quoteM s) 0 = 0 := by
    unfold blank
    obtain ⟨m, hm⟩ : ∃ m, (quoteM s).length = m + 1 := ⟨_, hlen⟩
    rw [hm]
    unfold blk
    rw [decide_eq_false (by omega), g0]; rfl
  have hblE : blank (quoteM s) (quoteM s).length = (quoteM s).length := by
    have h1 := blank_le (s := quoteM s) (Nat.le_refl _)
    have h2 := le_blank (s := quoteM s) (Nat.le_refl _)
    omega
  have hlex : lexAt (quoteM s) 0 = .inr (4, 0, ((quoteM s).length : Int), 0, 0, s, ()) := by
    have hst := strR_quote s [34] [] (quoteM s).length hb (by omega)
    have e : [34] ++ (s.flatMap esc ++ [34]) = quoteM s := by rw [hq]; rfl
    rw [e, List.nil_append] at hst
    unfold lexAt lexStr
    rw [g0]
    show strT 0 (strR (quoteM s) (quoteM s).length ([34] : List Int).length []) = _
    rw [hst]
    show Sum.inr (4, ((0 : Nat) : Int), _, 0, 0, s.map byte, ()) = _
    rw [map_byte hb]; rfl
  unfold scan
  rw [decide_eq_false (by omega), hbl0, cond_false]
  obtain ⟨m, hm⟩ : ∃ m, (quoteM s).length = m + 1 := ⟨_, hlen⟩
  unfold sc
  rw [decide_eq_false (by omega), g0, hlex]
  show sc (quoteM s) (quoteM s).length (blank (quoteM s) ((quoteM s).length : Int).toNat) 1 ([] ++ [lined (4, 0, ((quoteM s).length : Int), 0, 0, s, ()) 1]) = _
  rw [Int.toNat_natCast, hblE]
  conv => lhs; rw [hm]
  unfold sc
  rw [show m + 1 = (quoteM s).length from hm.symm, decide_eq_true (Nat.le_refl _)]
  rfl

/-! What is drawn. -/
abbrev Cu : Type := List Int × Int × Int × Int × Unit
def CurOk (code : List Int) (k : Nat) (c : Cu) : Prop := ∃ (a : Nat) (seed long : Int), c = (code, (a : Int), seed, long, ()) ∧ a ≤ k

variable {code : List Int} (hc : ∀ c ∈ code, isByte c)
include hc

theorem next_ok {k : Nat} {c : Cu} (h : CurOk code k c) (hk : k ≤ 1000000) : ∃ v c', 0 ≤ v ∧ v ≤ 255 ∧ CurOk code (k + 1) c' ∧ Evt fun n => spec_l1Cur_next (S.tab n) c = some (v, c', ()) := by
  obtain ⟨a, seed, long, rfl, ha⟩ := h
  have w : IntKind.i64.wrap ((a : Int) + 1) = ((a + 1 : Nat) : Int) := wrap1 (by omega)
  by_cases hl : a < code.length
  · obtain ⟨b0, b1⟩ := get_byte hc a
    refine ⟨get code a, (code, ((a + 1 : Nat) : Int), IntKind.u64.wrap ((IntKind.u64.wrap ((IntKind.u64.wrap (seed * (6364136223846793005 : Int))) + (IntKind.u64.wrap (get code a)))) + (1442695040888963407 : Int)), long, ()), b0, by omega, ⟨a + 1, _, _, rfl, by omega⟩, base2.up fun n _ => ?_⟩
    show spec_l1Cur_next (S.step (S.tab n)) _ = _
    rw [spec_l1Cur_next_eq, brkT (by simp only [decide_eq_true_eq]; omega), brkT (inb_nat hl)]
    simp only [w, getD_nat]
    rw [wrap64 _ (by omega) (by omega)]
  · have h255 : ∀ x : Int, 0 ≤ intBits .and .u64 x 255 ∧ intBits .and .u64 x 255 ≤ 255 := fun x => by
      have h2 : (BitVec.ofInt 64 x &&& BitVec.ofInt 64 255).toNat ≤ 255 := by
        rw [BitVec.toNat_and]
        exact Nat.le_trans Nat.and_le_right (by decide)
      have e : intBits .and .u64 x 255 = ((BitVec.ofInt 64 x &&& BitVec.ofInt 64 255).toNat : Int) := wrapU ((BitVec.ofInt 64 x &&& BitVec.ofInt 64 255).toNat : Int) (by omega) (by omega)
      rw [e]; omega
    refine ⟨_, _, (h255 ((IntKind.u64.wrap ((IntKind.u64.wrap (seed * (6364136223846793005 : Int))) + (1442695040888963407 : Int))).fdiv (2 ^ min ((40 : Int).toNat) IntKind.u64.bits))).1, (h255 _).2, ⟨a + 1, IntKind.u64.wrap ((IntKind.u64.wrap (seed * (6364136223846793005 : Int))) + (1442695040888963407 : Int)), long, rfl, by omega⟩, base2.up fun n _ => ?_⟩
    show spec_l1Cur_next (S.step (S.tab n)) _ = _
    rw [spec_l1Cur_next_eq, brkF (by simp only [decide_eq_false_iff_not]; omega)]
    simp only [w]
    rw [wrap64 _ (by have := h255 ((IntKind.u64.wrap ((IntKind.u64.wrap (seed * (6364136223846793005 : Int))) + (1442695040888963407 : Int))).fdiv (2 ^ min ((40 : Int).toNat) IntKind.u64.bits)); omega) (by have := h255 ((IntKind.u64.wrap ((IntKind.u64.wrap (seed * (6364136223846793005 : Int))) + (1442695040888963407 : Int))).fdiv (2 ^ min ((40 : Int).toNat) IntKind.u64.bits)); omega)]

theorem pick_ok {k : Nat} {c : Cu} (h : CurOk code k c) (hk : k ≤ 1000000) (m : Nat) (h1 : 2 ≤ m) (h2 : m ≤ 200) : ∃ (v : Int) (c' : Cu), 0 ≤ v ∧ v < m ∧ CurOk code (k + 1) c' ∧ Evt fun n => spec_l1Cur_pick (S.tab n) c (m : Int) = some (v, c', (), ()) := by
  obtain ⟨v, c', h0, h255, hC, hE⟩ := next_ok hc h hk
  refine ⟨v % m, c', Int.emod_nonneg _ (by omega), Int.emod_lt_of_pos _ (by omega), hC, hE.up fun n h => ?_⟩
  show spec_l1Cur_pick (S.step (S.tab n)) _ _ = _
  rw [spec_l1Cur_pick_eq, brkF (by simp only [decide_eq_false_iff_not]; omega), h, Option.bind_some, brkF (by simp only [decide_eq_false_iff_not]; omega), brkT (by simp only [decide_eq_true_eq]; omega)]
  rw [Int.tmod_eq_emod_of_nonneg h0]

theorem bytes_l2_ok : ∀ (m k : Nat) (c : Cu) (o : List Int), CurOk code k c → k + m ≤ 1000000 → o.length + m ≤ 1000 → (∀ x ∈ o, isByte x) →
    ∃ l c', (∀ x ∈ l, isByte x) ∧ l.length = o.length + m ∧ CurOk code (k + m) c' ∧ Evt fun n => spec_l1Cur_bytes_l2 (S.tab n) c (m : Int) o = some (Sum.inl (c', l, ()))
  | 0, k, c, o, h, _, _, hb => ⟨o, c, hb, rfl, h, base2.up fun n _ => by
    show spec_l1Cur_bytes_l2 (S.step (S.tab n)) _ _ _ = _
    rw [spec_l1Cur_bytes_l2_eq, brkF (by decide)]⟩
  | m + 1, k, c, o, h, hk, ho, hb => by
    obtain ⟨v, c', h0, h255, hC, hE⟩ := next_ok hc h (by omega)
    have w : IntKind.u8.wrap v = v := wrap8 _ h0 (by omega)
    obtain ⟨l, c2, hl, hlen, hC2, hE2⟩ := bytes_l2_ok m (k + 1) c' (o ++ [v]) hC (by omega) (by simp; omega) (fun x hx => by
      rcases List.mem_append.1 hx with hx | hx
      · exact hb x hx
      · have : x = v := by simpa using hx
        rw [this]; exact ⟨h0, by omega⟩)
    refine ⟨l, c2, hl, by rw [hlen]; simp; omega, by rw [show k + (m + 1) = k + 1 + m by omega]; exact hC2, (hE.and hE2).up fun n ⟨h, h2⟩ => ?_⟩
    show spec_l1Cur_bytes_l2 (S.step (S.tab n)) _ _ _ = _
    have w2 : IntKind.i64.wrap (((m + 1 : Nat) : Int) - 1) = (m : Int) := by rw [wrap64 _ (by omega) (by omega)]; omega
    rw [spec_l1Cur_bytes_l2_eq, brkT (by simp only [decide_eq_true_eq]; omega), h, Option.bind_some]
    simp only [w, w2]
    rw [brkT (fits_of (by unfold lim; simp only [List.length_singleton]; omega)), h2]

theorem bytes_ok {k : Nat} {c : Cu} (h : CurOk code k c) (m : Nat) (hm : m ≤ 1000) (hk : k + m ≤ 1000000) :
    ∃ l c', (∀ x ∈ l, isByte x) ∧ l.length = m ∧ CurOk code (k + m) c' ∧ Evt fun n => spec_l1Cur_bytes (S.tab n) c (m : Int) = some (l, c', (), ()) := by
  obtain ⟨l, c', hl, hlen, hC, hE⟩ := bytes_l2_ok hc m k c [] h hk (by simpa using hm) (by intro x hx; cases hx)
  refine ⟨l, c', hl, by simpa using hlen, hC, hE.up fun n h => ?_⟩
  show spec_l1Cur_bytes (S.step (S.tab n)) _ _ = _
  rw [spec_l1Cur_bytes_eq, h]
  simp only [Option.bind_some, out1, Sum.elim_inl]
  rw [map_byte hl]

omit hc in
theorem dbl_ok (c : Cu) : ∀ (k : Nat) (t : List Int), (∀ x ∈ t, isByte x) → t.length < 4000 → t.length * 2 ^ k = 5120 → ∃ r, (∀ x ∈ r, isByte x) ∧ r.length = 5120 ∧ Evt fun n => spec_l1Cur_str_l12 (S.tab n) c t = some (Sum.inl (c, r, ()))
  | 0, t, _, h1, h2 => by simp at h2; omega
  | k + 1, t, hb, h1, h2 => by
    have hb2 : ∀ x ∈ t ++ t, isByte x := fun x hx => by
      rcases List.mem_append.1 hx with hx | hx <;> exact hb x hx
    have step : ∀ r, (Evt fun n => spec_l1Cur_str_l12 (S.tab n) c (t ++ t) = some (Sum.inl (c, r, ()))) → Evt fun n => spec_l1Cur_str_l12 (S.tab n) c t = some (Sum.inl (c, r, ())) := fun r hE => hE.up fun n h => by
      show spec_l1Cur_str_l12 (S.step (S.tab n)) _ _ = _
      rw [spec_l1Cur_str_l12_eq, brkT (by simp only [decide_eq_true_eq]; omega), brkT (fits_of (by unfold lim; omega)), h]
    have e : t.length * 2 ^ (k + 1) = (t ++ t).length * 2 ^ k := by
      rw [List.length_append, Nat.pow_succ, ← Nat.two_mul, Nat.mul_comm (2 ^ k) 2, ← Nat.mul_assoc, Nat.mul_comm t.length 2]
    by_cases h3 : (t ++ t).length < 4000
    · obtain ⟨r, hr, h4, hE⟩ := dbl_ok c k (t ++ t) hb2 h3 (by omega)
      exact ⟨r, hr, h4, step r hE⟩
    · have h5 : (t ++ t).length = 5120 := by
        cases k with
        | zero => omega
        | succ k =>
          have hp : 1 ≤ 2 ^ k := Nat.one_le_two_pow
          have h2p : 2 ≤ 2 ^ (k + 1) := by rw [Nat.pow_succ]; omega
          have := Nat.mul_le_mul_left (t ++ t).length h2p
          omega
      refine ⟨t ++ t, hb2, h5, step _ (base2.up fun n _ => ?_)⟩
      show spec_l1Cur_str_l12 (S.step (S.tab n)) _ _ = _
      rw [spec_l1Cur_str_l12_eq, brkF (by simp only [decide_eq_false_iff_not]; omega)]

theorem str_ok {k : Nat} {c : Cu} (h : CurOk code k c) (hk : k ≤ 1000) : ∃ l c', (∀ x ∈ l, isByte x) ∧ l.length ≤ 4001 ∧ CurOk code (k + 10) c' ∧ Evt fun n => spec_l1Cur_str (S.tab n) c = some (l, c', ()) := by
  obtain ⟨v, c1, h0, h6, hC1, hE1⟩ := pick_ok hc h (by omega) 6 (by omega) (by omega)
  have up1 : ∀ {j : Nat} {d : Cu}, j ≤ k + 10 → CurOk code j d → CurOk code (k + 10) d := fun hj ⟨a, s, l, e, ha⟩ => ⟨a, s, l, e, by omega⟩
  by_cases e0 : v = 0
  · subst e0
    refine ⟨[], c1, (fun x hx => by cases hx), by simp, up1 (by omega) hC1, hE1.up fun n h => ?_⟩
    show spec_l1Cur_str (S.step (S.tab n)) _ = _
    have h : spec_l1Cur_pick (S.tab n) c 6 = _ := h
    rw [spec_l1Cur_str_eq, h, Option.bind_some, brkT (by rfl)]
  have st : ∀ n, spec_l1Cur_pick (S.tab n) c ((6 : Nat) : Int) = some (v, c1, (), ()) → spec_l1Cur_str (S.step (S.tab n)) c = _ := fun n h => by
    have h : spec_l1Cur_pick (S.tab n) c 6 = _ := h
    rw [spec_l1Cur_str_eq, h, Option.bind_some, brkF (decide_eq_false e0)]
  by_cases e1 : v = 1
  · subst e1
    obtain ⟨u, c2, u0, u6, hC2, hE2⟩ := pick_ok hc hC1 (by omega) 6 (by omega) (by omega)
    obtain ⟨m, rfl⟩ : ∃ m : Nat, u = m := ⟨u.toNat, by omega⟩
    obtain ⟨l, c3, hl, hlen, hC3, hE3⟩ := bytes_ok hc hC2 m (by omega) (by omega)
    refine ⟨l, c3, hl, by omega, up1 (by omega) hC3, ((hE1.and hE2).and hE3).up fun n ⟨⟨h, h2⟩, h3⟩ => ?_⟩
    show spec_l1Cur_str (S.step (S.tab n)) _ = _
    have h2 : spec_l1Cur_pick (S.tab n) c1 6 = _ := h2
    rw [st n h, brkT (by rfl), h2, Option.bind_some, h3]; rfl
  by_cases e2 : v = 2
  · subst e2
    have lit : ∀ x ∈ ([97, 34, 98, 92, 99, 10, 100, 9, 101] : List Int), 0 ≤ x ∧ x < 256 := by decide
    refine ⟨[97, 34, 98, 92, 99, 10, 100, 9, 101], c1, lit, by simp, up1 (by omega) hC1, hE1.up fun n h => ?_⟩
    show spec_l1Cur_str (S.step (S.tab n)) _ = _
    rw [st n h, brkF (by rfl), brkT (by rfl)]
  have txt : ∀ x ∈ ([116, 101, 120, 116] : List Int), isByte x := by
    have : ∀ x ∈ ([116, 101, 120, 116] : List Int), 0 ≤ x ∧ x < 256 := by decide
    exact this
  by_cases e3 : ¬ v = 3
  · refine ⟨[116, 101, 120, 116], c1, txt, by simp, up1 (by omega) hC1, hE1.up fun n h => ?_⟩
    show spec_l1Cur_str (S.step (S.tab n)) _ = _
    rw [st n h, brkF (decide_eq_false e1), brkF (decide_eq_false e2), brkF (decide_eq_false e3)]
  replace e3 := Decidable.not_not.1 e3
  subst e3
  obtain ⟨u, c2, u0, u20, hC2, hE2⟩ := pick_ok hc hC1 (by omega) 20 (by omega) (by omega)
  by_cases f0 : ¬ u = 0
  · refine ⟨[116, 101, 120, 116], c2, txt, by simp, up1 (by omega) hC2, (hE1.and hE2).up fun n ⟨h, h2⟩ => ?_⟩
    show spec_l1Cur_str (S.step (S.tab n)) _ = _
    have h2 : spec_l1Cur_pick (S.tab n) c1 20 = _ := h2
    rw [st n h, brkF (by rfl), brkF (by rfl), brkT (by rfl), h2, Option.bind_some, brkF (decide_eq_false f0)]
  replace f0 := Decidable.not_not.1 f0
  subst f0
  by_cases g : ¬ c2.2.2.2.1 < 3
  · refine ⟨[116, 101, 120, 116], c2, txt, by simp, up1 (by omega) hC2, (hE1.and hE2).up fun n ⟨h, h2⟩ => ?_⟩
    show spec_l1Cur_str (S.step (S.tab n)) _ = _
    have h2 : spec_l1Cur_pick (S.tab n) c1 20 = _ := h2
    rw [st n h, brkF (by rfl), brkF (by rfl), brkT (by rfl), h2, Option.bind_some, brkT (by rfl), brkF (decide_eq_false g)]
  replace g := Decidable.not_not.1 g
  obtain ⟨a, sd, lg, rfl, ha⟩ := hC2
  have hC3 : CurOk code (k + 2) (code, (a : Int), sd, IntKind.i64.wrap (lg + 1), ()) := ⟨a, sd, _, rfl, by omega⟩
  have lit : ∀ x ∈ ([48, 49, 50, 51, 52, 53, 54, 55, 56, 57] : List Int), 0 ≤ x ∧ x < 256 := by decide
  obtain ⟨r, hr, r1, hE3⟩ := dbl_ok (code, (a : Int), sd, IntKind.i64.wrap (lg + 1), ()) 9 [48, 49, 50, 51, 52, 53, 54, 55, 56, 57] lit (by decide) (by decide)
  obtain ⟨x, c4, x0, x3, hC4, hE4⟩ := pick_ok hc hC3 (by omega) 3 (by omega) (by omega)
  obtain ⟨m, rfl⟩ : ∃ m : Nat, x = m := ⟨x.toNat, by omega⟩
  refine ⟨subN r 0 (3999 + m), c4, fun y hy => ?_, by rw [subN_len (by omega)]; omega, up1 (by omega) hC4, (((hE1.and hE2).and hE3).and hE4).up fun n ⟨⟨⟨h, h2⟩, h3⟩, h4⟩ => ?_⟩
  · unfold subN at hy
    exact hr y (List.mem_of_mem_take (List.mem_of_mem_drop hy))
  · show spec_l1Cur_str (S.step (S.tab n)) _ = _
    have h2 : spec_l1Cur_pick (S.tab n) c1 20 = _ := h2
    have h4 : spec_l1Cur_pick (S.tab n) _ 3 = _ := h4
    have w : IntKind.i64.wrap (3999 + (m : Int)) = ((3999 + m : Nat) : Int) := by rw [wrap64 _ (by omega) (by omega)]; omega
    rw [st n h, brkF (by rfl), brkF (by rfl), brkT (by rfl), h2, Option.bind_some, brkT (by rfl), brkT (decide_eq_true g), h3]
    simp only [Option.bind_some, out1, Sum.elim_inl]
    rw [h4, Option.bind_some]
    simp only [w]
    rw [brkT (show bounds r.length (0 : Int) ((3999 + m : Nat) : Int) = true from bounds_nat (i := 0) (by omega) (by omega))]; rfl

theorem draw_ok : ∃ s, (∀ x ∈ s, isByte x) ∧ s.length ≤ 4001 ∧ Evt fun n => spec_DrawQuote (S.tab n) code = some (s, o_spec_DrawQuote) := by
  obtain ⟨v, c1, h0, h3, hC1, hE1⟩ := pick_ok hc (k := 0) (c := (code, 0, 0, 0, ())) ⟨0, 0, 0, rfl, by omega⟩ (by omega) 3 (by omega) (by omega)
  by_cases e0 : v = 0
  · subst e0
    obtain ⟨l, c2, hl, hlen, _, hE2⟩ := str_ok hc hC1 (by omega)
    refine ⟨l, hl, hlen, (hE1.and hE2).up fun n ⟨h, h2⟩ => ?_⟩
    show spec_DrawQuote (S.step (S.tab n)) _ = _
    have h : spec_l1Cur_pick (S.tab n) (code, 0, 0, 0, ()) 3 = _ := h
    rw [spec_DrawQuote_eq, h, Option.bind_some, brkT (by rfl), h2]; rfl
  · obtain ⟨u, c2, u0, u40, hC2, hE2⟩ := pick_ok hc hC1 (by omega) 40 (by omega) (by omega)
    obtain ⟨m, rfl⟩ : ∃ m : Nat, u = m := ⟨u.toNat, by omega⟩
    obtain ⟨l, c3, hl, hlen, _, hE3⟩ := bytes_ok hc hC2 m (by omega) (by omega)
    refine ⟨l, hl, by omega, ((hE1.and hE2).and hE3).up fun n ⟨⟨h, h2⟩, h3⟩ => ?_⟩
    show spec_DrawQuote (S.step (S.tab n)) _ = _
    have h : spec_l1Cur_pick (S.tab n) (code, 0, 0, 0, ()) 3 = _ := h
    have h2 : spec_l1Cur_pick (S.tab n) c1 40 = _ := h2
    rw [spec_DrawQuote_eq, h, Option.bind_some, brkF (decide_eq_false e0), h2, Option.bind_some, h3]; rfl

omit hc in
theorem plain_l8 (s q : List Int) (hq : ∀ c ∈ q, 32 ≤ c ∧ c ≤ 126) (hl : q.length ≤ 65536) : ∀ (k j : Nat), q.length = j + k → Evt fun n => laws_FnQuote_l8 (S.tab n) s q (j : Int) = some (Sum.inr (Sum.inl (s, q, ())))
  | 0, j, h => base2.up fun n _ => by
    show laws_FnQuote_l8 (S.step (S.tab n)) _ _ _ = _
    rw [laws_FnQuote_l8_eq, brkF (by simp only [decide_eq_false_iff_not]; omega)]
  | k + 1, j, h => by
    have hj : j < q.length := by omega
    have hg : 32 ≤ get q j ∧ get q j ≤ 126 := by
      unfold get
      rw [List.getD_eq_getElem?_getD, List.getElem?_eq_getElem hj]
      exact hq _ (List.getElem_mem hj)
    refine (plain_l8 s q hq hl k (j + 1) (by omega)).up fun n h => ?_
    show laws_FnQuote_l8 (S.step (S.tab n)) _ _ _ = _
    rw [laws_FnQuote_l8_eq, brkT (by simp only [decide_eq_true_eq]; omega), brkT (inb_nat hj), getD_nat, brkF (decide_eq_false (by omega)), brkT (inb_nat hj), brkF (decide_eq_false (by omega)), wrap1 (by omega), h]

omit hc in
theorem esc_plain (c : Int) (h : isByte c) : ∀ x ∈ esc c, 32 ≤ x ∧ x ≤ 126 := by
  have hx : ∀ n : Nat, n < 16 → 32 ≤ hexs.getD n 0 ∧ hexs.getD n 0 ≤ 126 := by
    have h : ∀ n : Fin 16, 32 ≤ hexs.getD n.1 0 ∧ hexs.getD n.1 0 ≤ 126 := by decide
    exact fun n hn => h ⟨n, hn⟩
  obtain ⟨b0, b1⟩ := h
  intro x hx'
  unfold esc at hx'
  repeat' split at hx'
  all_goals simp only [List.mem_cons, List.not_mem_nil, or_false] at hx'
  all_goals rcases hx' with rfl | rfl | rfl | rfl
  all_goals first | exact hx _ (by omega) | omega

theorem law_quote : Evt fun n => laws_FnQuote (S.tab n) code = some (true, o_laws_FnQuote) := by
  obtain ⟨s, hb, hlen, hE⟩ := draw_ok hc
  have hQ := impl_quote s hb
  by_cases hl : 4000 < s.length
  · refine (hE.and hQ).up fun n ⟨h, h2⟩ => ?_
    show laws_FnQuote (S.step (S.tab n)) _ = _
    rw [laws_FnQuote_eq]
    cases hd : decide ((1048576 : Int) < (code.length : Int)) with
    | true => rw [brkT rfl]
    | false =>
      rw [brkF rfl, h, Option.bind_some, h2, Option.bind_some, brkT (by simp only [decide_eq_true_eq]; omega)]
      have : quoteM s = [] := by unfold quoteM; rw [if_pos hl]
      rw [this]; rfl
  · have hfl := flat_len s
    have hq := quoteM_eq (s := s) (by omega)
    have hqb : ∀ c ∈ quoteM s, 32 ≤ c ∧ c ≤ 126 := by
      intro c hc'
      rw [hq] at hc'
      simp only [List.mem_append, List.mem_cons, List.not_mem_nil, or_false, List.mem_flatMap] at hc'
      rcases hc' with rfl | ⟨a, ha, hc'⟩ | rfl
      · omega
      · exact esc_plain a (hb a ha) c hc'
      · omega
    have hql : (quoteM s).length ≤ 65536 := by rw [hq, List.length_cons, List.length_append, List.length_singleton]; omega
    have hsc := scan_quote s hb (by omega)
    have h8 := plain_l8 s (quoteM s) hqb hql (quoteM s).length 0 (by omega)
    have hS := impl_Scan_ok (s := quoteM s) (fun c hc' => by have := hqb c hc'; exact ⟨by omega, by omega⟩)
    rw [hsc] at hS
    refine (((hE.and hQ).and h8).and hS).up fun n ⟨⟨⟨h, h2⟩, h3⟩, h4⟩ => ?_
    show laws_FnQuote (S.step (S.tab n)) _ = _
    rw [laws_FnQuote_eq]
    cases hd : decide ((1048576 : Int) < (code.length : Int)) with
    | true => rw [brkT rfl]
    | false =>
      have h3 : laws_FnQuote_l8 (S.tab n) s (quoteM s) 0 = _ := h3
      rw [brkF rfl, h, Option.bind_some, h2, Option.bind_some, brkF (by simp only [decide_eq_false_iff_not]; omega)]
      simp only
      rw [h3]
      simp only [Option.bind_some, out2, Sum.elim_inr, Sum.elim_inl]
      rw [h4, Option.bind_some, brkT (by rfl), brkT (by rfl), brkT (by rfl), brkT (by rfl), brkT (by rfl)]
      have hat : at_ (τ := tyTok) [(4, 0, ((quoteM s).length : Int), 1, 0, s, ())] (0 : Int) = (4, 0, ((quoteM s).length : Int), 1, 0, s, ()) := rfl
      simp only [hat]
      rw [brkT (by simp), brkT (by rfl)]
      simp

end Go.Abs.D
end

section
namespace Go.Proofs.YtmallmelcmejeaaDoor
open Go.ChangeShapes Go.WideShapes Go.ChangeAt Go.RowKit
open Go.ChangeMaps (open_string shut_string)

set_option maxRecDepth 100000 in
theorem walk_quote (v : Value) (x : List Int) (W : World) (hL : laidMetH Tryd.prog Rows.fnQuoteRow.laid W) (ho : Abs.oc v = true) (hR : Abs.Rc (Abs.snap W) (.sl (.int .u8)) x [v]) (hG : Abs.Good (.sl (.int .u8)) x) : Calls Tryd.prog 3 #[v] W fun e w' => e = .returned (.bool true) ∧ Below W.heap.size W w' := by
  have hb : ∀ c ∈ x, Abs.isByte c := fun c hc => by
    obtain ⟨h0, h1⟩ : IntKind.u8.min ≤ c ∧ c ≤ IntKind.u8.max := hG.1 c hc
    have e0 : IntKind.u8.min = 0 := by decide
    have e1 : IntKind.u8.max = 255 := by decide
    exact ⟨by omega, by omega⟩
  obtain ⟨N, h⟩ := Abs.D.law_quote hb
  have hok := (sys N).fn 3 (by kernel_rfl) (x, ()) (true, (), ()) (h N (Nat.le_refl N)) (Abs.snap W) W [v] [] (of_laid hL) (fun b L hb => Abs.snap_heap hb)
    ⟨_, _, [], [], rfl, rfl, ⟨ho, rfl, rfl, _, rfl, hR⟩, rfl, rfl⟩ List.nodup_nil (fun b hb => by simp at hb)
  refine (Abs.calls_of_invokes Tryd.func3 rfl (by kernel_rfl) hok).mono ?_
  rintro e w' ⟨v, rfl, imm', n1, n2, A, ⟨_, h1, _, u, e2, h2⟩, h3⟩
  injection e2 with e2 _
  subst e2
  have h2 : [v] = [Value.bool true] := h2
  injection h2 with h2 _
  subst h2
  exact ⟨rfl, A.below⟩

set_option maxRecDepth 100000 in
theorem lifted_quote (os : Os) (started : os.Started) (H : Type) (enc : TypeId × Value → H) :
    ReturnsInHanded {} Tryd.checked os 3 .any (fun w args => (Rows.fnQuoteSpec.pre enc Tryd.prog Tryd.f3 Rows.fnQuoteRow.domain false w args ∧ laidMetH Tryd.prog Rows.fnQuoteRow.laid w) ∧ sizedMet enc Tryd.prog Tryd.f3 (OpenSpec.ofChange Rows.fnQuoteSpec) false w args)
      (Rows.fnQuoteSpec.post enc Tryd.prog Tryd.f3 false true false false) := by
  refine returnsInHanded_of_change_and (C := Tryd.checked) (X := fun w _ => laidMetH Tryd.prog Rows.fnQuoteRow.laid w) (fun _ _ _ hh h => h.of_heap hh) own started (by kernel_rfl) Tryd.func3
    (ChangeSpec.witness_shaped (enc := enc) (C := Tryd.checked) (os := os) (X := fun w _ => laidMetH Tryd.prog Rows.fnQuoteRow.laid w) false (World.laidAll Tryd.prog os Rows.fnQuoteRow.laid) #[.slice none 0 0] 8 (World.laidAll_os _ _ _)
      (World.shaped_of_ZipB (by kernel_rfl) (by kernel_rfl)) (by kernel_rfl) (by kernel_rfl) (by kernel_rfl)
      (by rw [MakeChecks.laidMetH_plain _ _ _ (by kernel_rfl)]; exact laidMet_laidAll _ (by kernel_rfl) (by kernel_rfl))) ?_
  intro W base args ds gs before hval0 hW _ _ hL _
  have hval : ∀ (j : Nat) t v, Tryd.f3.params[j]? = some t → args[j]? = some v → Value.okWide Tryd.prog W .any base t v := hval0
  have hW' := hW
  obtain ⟨p, q, hA0, hV, rfl, hfz, hnd⟩ := hW
  have hA : DataW.TrodAll enc Tryd.prog W 0 (fun _ => true) true Tryd.f3.params.toList args.toList ds p := hA0
  rw [Tryd.params3] at hA hval
  obtain ⟨v0, d0, hargs, rfl, h0⟩ := trodAll_one hA
  obtain rfl : args = #[v0] := by cases args; simp_all
  obtain ⟨a, len, cap, rfl⟩ := okWide_slice Tryd.underlying22 (hval 0 22 v0 rfl rfl)
  have h0k := h0
  obtain ⟨fuel, hf⟩ := h0
  obtain ⟨hR, hG⟩ := Abs.trod_in 3 fuel 22 (.sl (.int .u8)) _ _ (by kernel_rfl) hf
  have hlt : ∀ x ∈ p, x.block < W.heap.size := fun x hx => by simpa using hW'.lt x (List.mem_append_left _ hx)
  have hV3 := trodVars_len hV
  match gs, hV3, hV, hW' with
  | [g1, g2, g3], _, hV, hW' =>
    clear hA0 hval0
    refine (walk_quote (.slice a len cap) _ W hL rfl hR hG).mono fun e W' ⟨he, bel⟩ => ?_
    subst he
    exact ⟨_, rfl, _, _, _, [], _, _, hW', trodAll_mk1 (shut_bool Tryd.underlying4 _), trodAll_mk1 (Below.trod laidOut (by kernel_rfl) (of_decide_eq_true (by kernel_rfl)) h0k bel hlt), Below.trodVars laidOut bel (by kernel_rfl) hV, bel.frame _, fun h => by cases h⟩

theorem row_quote : Rows.FnQuoteSaid :=
  OpenClaim.holds_of_wide 3 Tryd.f3 rfl rfl rfl rfl rfl rfl rfl ⟨rfl, rfl, rfl, rfl, rfl⟩ rfl rfl rfl rfl rfl (by kernel_rfl) Tryd.func3 (by kernel_rfl)
    (of_decide_eq_true (by kernel_rfl)) (by unfold Func.isWrapper; first | (rw [if_pos (by decide +kernel)]; kernel_rfl) | (rw [if_neg (by decide +kernel)]; exact ⟨rfl, rfl⟩))
    (fun os started H enc _ => lifted_quote os started H enc)

theorem fnQuote_holds : Rows.FnQuoteCardSaid :=
  Claim7.holds_tied_plain_at .later [] [.data, .data, .data, .sentinel, .sentinel, .data, .data, .data] true (true, "607b33115784da865fe423d7123f84b6afc051212ae28e40bf49604fa8e2e808") true
    row_quote (fun _ h => by cases h) (by kernel_rfl) (fun _ h => by cases h) fnQuote_row_tie rfl ⟨rfl, rfl⟩ (by kernel_rfl) rfl
    (fun f fn hf hfn => by
      obtain rfl : f = 3 := Option.some.inj ((show Tryd.prog.funcNamed "loop.example/warp/laws.FnQuote" = some 3 by kernel_rfl).symm.trans hf) |>.symm
      obtain rfl : fn = Tryd.f3 := (Option.some.inj (Tryd.func3.symm.trans hfn)).symm
      exact ⟨by kernel_rfl, fun j t ht => by
        rw [Tryd.params3] at ht
        have hm : t ∈ [22] := by simpa using Array.mem_of_getElem? ht
        have hall : ([22].all fun u => !Tryd.prog.wantsStandIn u) = true := by kernel_rfl
        exact (show Tryd.prog.wantsStandIn t = false by simpa using List.all_eq_true.1 hall t hm)⟩)
    (by kernel_rfl)

end Go.Proofs.YtmallmelcmejeaaDoor
#print axioms Go.Proofs.YtmallmelcmejeaaDoor.fnQuote_holds
end
