/- What is here: signs, plain. What is here: signs on both sides; a token read by both scanners. What is here: the whole scan on both sides. What is here: names and floats: what may stand as one. What is here: what spec.Quote and impl.Quote compute: the same text. What is here: the reference's Quote. What is here: numbers as texts, decimal. What is here: numbers as texts: sixteen digits of base 16. What is here: what a token is written as, on both sides. What is proved: FnExactTokenText answers true at every input; the package variables are as the program's text lays them. -/
import Derived.Test.YtmallmelcmejeaaDoorK4
import Derived.Test.YtmallmelcmejeaaDoorCards
set_option linter.unusedVariables false
set_option linter.unusedSimpArgs false
set_option maxRecDepth 100000
section
namespace Go.Abs.D
def l7 : List (List Int) := [[46, 46, 46], [46, 46], [46], [60, 60], [60, 61], [60], [62, 62], [62, 61], [62], [61, 61], [61], [126, 61], [126], [47, 47], [47], [40], [41], [123], [125], [91], [93], [44], [59], [35], [43], [45], [42], [37], [38], [124]]
def opsL : List (List Int) := [[], [43], [45], [42], [47], [47, 47], [37], [38], [124], [126], [60, 60], [62, 62], [46, 46], [61, 61], [126, 61], [60], [60, 61], [62], [62, 61]]
def fx (k : Nat) : List Int :=
 bif decide (10 ≤ k) && decide (k ≤ 31) then Lx.words.getD (k - 10) [] else
 bif decide (40 ≤ k) && decide (k ≤ 50) then Lx.T0.getD (k - 40) [] else
 bif decide (61 ≤ k) && decide (k ≤ 78) then Lx.ai1.getD (k - 61) [] else
 bif decide (k = 5) then [59] else []
def okF (f : List Int) : Bool := !decide (f = []) && !G3 (f.getD 0 0)
def runK (p : List Int → Bool) : Nat → Nat × Nat → Nat × Nat
 | 0, st => st
 | k + 1, st => runK p k (bif okF (fx (k + 1)) && p (fx (k + 1)) && decide (st.2 < (fx (k + 1)).length) then (k + 1, (fx (k + 1)).length) else st)
def sq (l : List (List Int)) (f : List Int) (k : Nat) : Bool := decide (k < l.length) && !decide (l.getD k [] = f)
def sgn (f : List Int) : Nat :=
 bif decide (stop (sq opsL f) 19 1 < 19) then 60 + stop (sq opsL f) 19 1 else
 bif decide (stop (sq Lx.T0 f) 11 0 < 11) then 40 + stop (sq Lx.T0 f) 11 0 else 5
def pq (p : List Int → Bool) (k : Nat) : Bool := decide (k < 30) && !p (l7.getD k [])
def ad5 (p : List Int → Bool) : Nat := stop (pq p) 30 0
def T7 (p : List Int → Bool) : Nat × Nat := bif decide (ad5 p < 30) then (sgn (l7.getD (ad5 p) []), (l7.getD (ad5 p) []).length) else (0, 0)
def be5 (a b c : Int) : List Int → Bool
 | [x] => decide (a = x)
 | [x, y] => decide (a = x) && decide (b = y)
 | [x, y, z] => decide (a = x) && decide (b = y) && decide (c = z)
 | _ => false
def rep (l : List Int) (a : Int) : Int := bif l.contains a then a else 0
def lA : List Int := [46, 60, 62, 61, 126, 47, 40, 41, 123, 125, 91, 93, 44, 59, 35, 43, 45, 42, 37, 38, 124]
def lB : List Int := [46, 60, 61, 62, 47]
def lC : List Int := [46]
theorem aU1 (l : List Int) (a : Int) : rep l a ∈ 0 :: l := by
 unfold rep
 cases h : l.contains a with
 | true => exact List.mem_cons_of_mem _ (by simpa using h)
 | false => exact List.mem_cons_self ..
theorem a44 (l : List Int) (a x : Int) (hx : l.contains x = true) (h0 : x ≠ 0) : decide (rep l a = x) = decide (a = x) := by
 unfold rep
 cases h : l.contains a with
 | true => rfl
 | false =>
  have : a ≠ x := fun e => by rw [e, hx] at h; cases h
  rw [decide_eq_false this, cond_false, decide_eq_false (fun e => h0 e.symm)]
theorem ao8 {p q : List Int → Bool} : ∀ (k : Nat) (st : Nat × Nat), (∀ j, j ≤ k → okF (fx j) = true → p (fx j) = q (fx j)) → runK p k st = runK q k st
 | 0, st, _ => rfl
 | k + 1, st, h => by
  unfold runK
  have : (okF (fx (k + 1)) && p (fx (k + 1))) = (okF (fx (k + 1)) && q (fx (k + 1))) := by
   cases ho : okF (fx (k + 1)) with
   | true => rw [h (k + 1) (Nat.le_refl _) ho]
   | false => rfl
  rw [this]
  exact ao8 k _ fun j hj => h j (by omega)
theorem a17 {p q : Nat → Bool} (h : ∀ j, p j = q j) (k j : Nat) : stop p k j = stop q k j := by
 have : p = q := funext h
 rw [this]
theorem as3 {p q : List Int → Bool} (h : ∀ f ∈ l7, p f = q f) : T7 p = T7 q := by
 have e : ∀ j, pq p j = pq q j := fun j => by
  unfold pq
  by_cases hj : j < 30
  ·rw [h]
   rw [List.getD_eq_getElem?_getD, List.getElem?_eq_getElem (show j < l7.length from hj)]
   exact List.getElem_mem _
  ·rw [decide_eq_false hj]; rfl
 have : ad5 p = ad5 q := a17 e 30 0
 unfold T7
 rw [this]
theorem bl7 : ∀ j, j ≤ 78 → okF (fx j) = true → fx j ∈ l7 := by
 have h : ∀ j : Fin 79, okF (fx j) = true → fx j ∈ l7 := by decide +kernel
 exact fun j hj => h ⟨j, by omega⟩
theorem aZ2 (a b c : Int) : ∀ f ∈ l7, be5 a b c f = be5 (rep lA a) (rep lB b) (rep lC c) f := by
 intro f hf
 simp only [l7, List.mem_cons, List.not_mem_nil, or_false] at hf
 rcases hf with rfl | rfl | rfl | rfl | rfl | rfl | rfl | rfl | rfl | rfl | rfl | rfl | rfl | rfl | rfl | rfl | rfl | rfl | rfl | rfl | rfl | rfl | rfl | rfl | rfl | rfl | rfl | rfl | rfl | rfl <;>
  simp only [be5] <;> (first | rw [a44 lA a _ (by rfl) (by decide)] | skip) <;> (first | rw [a44 lB b _ (by rfl) (by decide)] | skip) <;> (first | rw [a44 lC c _ (by rfl) (by decide)] | skip)
theorem a41 (a b c : Int) : runK (be5 a b c) 78 (0, 0) = T7 (be5 a b c) := by
 have h : ∀ x ∈ (0 :: lA), ∀ y ∈ (0 :: lB), ∀ z ∈ (0 :: lC), runK (be5 x y z) 78 (0, 0) = T7 (be5 x y z) := by decide +kernel
 rw [ao8 (q := be5 (rep lA a) (rep lB b) (rep lC c)) 78 (0, 0) fun j hj ho => aZ2 a b c _ (bl7 j hj ho), as3 (aZ2 a b c)]
 exact h _ (aU1 ..) _ (aU1 ..) _ (aU1 ..)
end Go.Abs.D
end

section
namespace Go.Abs.D
def pS (s : List Int) (i : Nat) (f : List Int) : Bool := decide (f.length ≤ s.length - i) && decide (K0 s i (i + f.length) = f)
def p3 (s : List Int) (i : Nat) : List Int → Bool := be5 (get s i) (get s (i + 1)) (get s (i + 2))
theorem bm5 : Evt fun n => ∀ v lo hi, ao9 (S.tab n) v lo hi = some (decide (lo ≤ v) && decide (v ≤ hi), az8) := n9.up fun n _ v lo hi => by
 show ao9 (S.step (S.tab n)) _ _ _ = _
 rw [a06]
 cases h : decide (lo ≤ v) with
 | true => rw [j7 rfl]; rfl
 | false => rw [l9 rfl]; rfl
theorem aZ5 : Evt fun n => ∀ k : Nat, k ≤ 78 → N4 (S.tab n) (k : Int) = some (fx k, I1) := bm5.up fun n h k hk => by
 show N4 (S.step (S.tab n)) _ = _
 rw [an8, h, Option.bind_some]
 unfold fx
 by_cases h1 : 10 ≤ k ∧ k ≤ 31
 ·have e : IntKind.i64.wrap ((k : Int) - 10) = ((k - 10 : Nat) : Int) := by rw [wrap64 _ (by omega) (by omega)]; omega
  rw [j7 (by simp only [Bool.and_eq_true, decide_eq_true_eq]; omega), e, j7 (j8 (show k - 10 < Lx.words.length by show k - 10 < 22; omega)), decide_eq_true h1.1, decide_eq_true h1.2]; rfl
 rw [l9 (by simp only [Bool.and_eq_false_iff, decide_eq_false_iff_not]; omega), h, Option.bind_some]
 rw [show (decide (10 ≤ k) && decide (k ≤ 31)) = false by simp only [Bool.and_eq_false_iff, decide_eq_false_iff_not]; omega]
 by_cases h2 : 40 ≤ k ∧ k ≤ 50
 ·have e : IntKind.i64.wrap ((k : Int) - 40) = ((k - 40 : Nat) : Int) := by rw [wrap64 _ (by omega) (by omega)]; omega
  rw [j7 (by simp only [Bool.and_eq_true, decide_eq_true_eq]; omega), e, j7 (j8 (show k - 40 < Lx.T0.length by show k - 40 < 11; omega)), decide_eq_true h2.1, decide_eq_true h2.2]; rfl
 rw [l9 (by simp only [Bool.and_eq_false_iff, decide_eq_false_iff_not]; omega), h, Option.bind_some]
 rw [show (decide (40 ≤ k) && decide (k ≤ 50)) = false by simp only [Bool.and_eq_false_iff, decide_eq_false_iff_not]; omega]
 by_cases h3 : 61 ≤ k ∧ k ≤ 78
 ·have e : IntKind.i64.wrap ((k : Int) - 60) = ((k - 60 : Nat) : Int) := by rw [wrap64 _ (by omega) (by omega)]; omega
  have e' : IntKind.i64.wrap (((k - 60 : Nat) : Int) - 1) = ((k - 61 : Nat) : Int) := by rw [wrap64 _ (by omega) (by omega)]; omega
  rw [j7 (by simp only [Bool.and_eq_true, decide_eq_true_eq]; omega), e, e', j7 (j8 (show k - 61 < Lx.ai1.length by show k - 61 < 18; omega)), decide_eq_true h3.1, decide_eq_true h3.2]; rfl
 rw [l9 (by simp only [Bool.and_eq_false_iff, decide_eq_false_iff_not]; omega)]
 rw [show (decide (61 ≤ k) && decide (k ≤ 78)) = false by simp only [Bool.and_eq_false_iff, decide_eq_false_iff_not]; omega]
 by_cases h5 : k = 5
 ·subst h5; rw [j7 (by rfl)]; rfl
 ·rw [l9 (by simp only [decide_eq_false_iff_not]; omega), decide_eq_false h5]; rfl
theorem bq1 (f : List Int) : ∀ j : Nat, 1 ≤ j → j ≤ 19 → Evt fun n => z7 (S.tab n) f opsL (j : Int) = some (bif decide (stop (sq opsL f) 19 j < 19) then Sum.inl (((60 + stop (sq opsL f) 19 j : Nat) : Int), ()) else Sum.inr (Sum.inl (f, ()))) := fun j h1 hj =>
 adv (F := fun T (j : Nat) => z7 T f opsL (j : Int)) (out := fun j => bif decide (j < 19) then Sum.inl (((60 + j : Nat) : Int), ()) else Sum.inr (Sum.inl (f, ()))) (N := 19) n9 (fun j h => by simp [sq, opsL]; omega)
  (fun T j _ hq => by
   simp only [sq, Bool.and_eq_true, decide_eq_true_eq, Bool.not_eq_true', decide_eq_false_iff_not] at hq
   have h19 : j < 19 := hq.1
   show z7 (S.step T) f opsL j = z7 T f opsL ((j + 1 : Nat) : Int)
   rw [Y4, j7 (by simp only [decide_eq_true_eq]; omega), j7 (j8 hq.1), l9 (decide_eq_false (show ¬ List.getD _ (j : Int).toNat [] = f from hq.2)), H9 (by omega)])
  (fun T j _ hq => by
   simp only [sq, Bool.and_eq_false_iff, decide_eq_false_iff_not, Bool.not_eq_false', decide_eq_true_eq] at hq
   show z7 (S.step T) f opsL j = _
   rw [Y4]
   by_cases hj : j < opsL.length
   ·have h19 : j < 19 := hj
    have he : opsL.getD (j : Int).toNat [] = f := by
     rcases hq with hq | hq
     ·exact absurd hj hq
     ·exact hq
    rw [j7 (by simp only [decide_eq_true_eq]; omega), j7 (j8 hj), j7 (decide_eq_true he), wrap64 _ (by omega) (by omega), decide_eq_true h19]
    simp only [cond_true]
    congr 2
   ·have h19 : ¬ j < 19 := hj
    rw [l9 (by simp only [decide_eq_false_iff_not]; omega), decide_eq_false h19]; rfl) 19 j (by omega)
theorem bo9 (f : List Int) : Evt fun n => B8 (S.tab n) f Lx.T0 11 0 = some (bif decide (stop (sq Lx.T0 f) 11 0 < 11) then Sum.inl (((40 + stop (sq Lx.T0 f) 11 0 : Nat) : Int), ()) else Sum.inr (Sum.inl ())) :=
 adv (F := fun T (j : Nat) => B8 T f Lx.T0 11 (j : Int)) (out := fun j => bif decide (j < 11) then Sum.inl (((40 + j : Nat) : Int), ()) else Sum.inr (Sum.inl ())) (N := 11) n9 (fun j h => by simp [sq, Lx.T0]; omega)
  (fun T j _ hq => by
   simp only [sq, Bool.and_eq_true, decide_eq_true_eq, Bool.not_eq_true', decide_eq_false_iff_not] at hq
   have h11 : j < 11 := hq.1
   show B8 (S.step T) f Lx.T0 11 j = B8 T f Lx.T0 11 ((j + 1 : Nat) : Int)
   rw [Y5, j7 (by simp only [decide_eq_true_eq]; omega), j7 (j8 hq.1), l9 (decide_eq_false (show ¬ List.getD _ (j : Int).toNat [] = f from hq.2)), H9 (by omega)])
  (fun T j _ hq => by
   simp only [sq, Bool.and_eq_false_iff, decide_eq_false_iff_not, Bool.not_eq_false', decide_eq_true_eq] at hq
   show B8 (S.step T) f Lx.T0 11 j = _
   rw [Y5]
   by_cases hj : j < Lx.T0.length
   ·have h11 : j < 11 := hj
    have he : Lx.T0.getD (j : Int).toNat [] = f := by
     rcases hq with hq | hq
     ·exact absurd hj hq
     ·exact hq
    rw [j7 (by simp only [decide_eq_true_eq]; omega), j7 (j8 hj), j7 (decide_eq_true he), wrap64 _ (by omega) (by omega), decide_eq_true h11]
    simp only [cond_true]
    congr 2
   ·have h11 : ¬ j < 11 := hj
    rw [l9 (by simp only [decide_eq_false_iff_not]; omega), decide_eq_false h11]; rfl) 11 0 (by omega)
theorem sign_one (f : List Int) : Evt fun n => F0 (S.tab n) f = some ((sgn f : Int), E6) := by
 refine ((bq1 f 1 (by omega) (by omega)).and (bo9 f)).up fun n ⟨h3, h9⟩ => ?_
 show F0 (S.step (S.tab n)) _ = _
 rw [aA3]
 have h3 : z7 (S.tab n) f opsL 1 = _ := h3
 show (z7 (S.tab n) f opsL 1).bind _ = _
 rw [h3, Option.bind_some]
 unfold sgn
 cases decide (stop (sq opsL f) 19 1 < 19) with
 | true => rfl
 | false =>
  show (B8 (S.tab n) f Lx.T0 11 0).bind _ = _
  rw [h9, Option.bind_some]
  cases decide (stop (sq Lx.T0 f) 11 0 < 11) with
  | true => rfl
  | false => rfl
theorem aR5 {α : Type} {P : α → Nat → Prop} : ∀ (l : List α), (∀ a, Evt fun n => P a n) → Evt fun n => ∀ a ∈ l, P a n
 | [], _ => Evt.of fun _ a h => by cases h
 | x :: l, h => ((h x).and (aR5 l h)).mono fun n ⟨h1, h2⟩ a ha => by
  rcases List.mem_cons.1 ha with rfl | ha
  ·exact h1
  ·exact h2 a ha
theorem ba8 (f : List Int) : sgn f ≠ 0 := by
 unfold sgn
 cases h1 : decide (stop (sq opsL f) 19 1 < 19) with
 | true => rw [cond_true]; omega
 | false =>
  cases h2 : decide (stop (sq Lx.T0 f) 11 0 < 11) with
  | true => rw [cond_false, cond_true]; omega
  | false => rw [cond_false, cond_false]; omega
theorem aY0 : Evt fun n => I3 (S.tab n) = some (l7, ah7) := n9.up fun n _ => by
 show I3 (S.step (S.tab n)) = _
 rw [aw4]; rfl
variable {s : List Int} (hs : s.length ≤ 2097152)
include hs
omit hs in
theorem sub_one {i : Nat} (h : i + 1 ≤ s.length) : K0 s i (i + 1) = [get s i] := by rw [M5 (by omega) (by omega), S3]; rfl
omit hs in
theorem a47 {i : Nat} (h : i + 3 ≤ s.length) : K0 s i (i + 3) = [get s i, get s (i + 1), get s (i + 2)] := by
 rw [show i + 3 = i + 2 + 1 from rfl, M5 (by omega) (by omega), aK2 (s := s) (by omega)]; rfl
omit hs in
theorem bo0 {i : Nat} (hi : i < s.length) : ∀ f ∈ l7, pS s i f = p3 s i f := by
 have h1 : ∀ x : Int, x ≠ 0 → pS s i [x] = decide (get s i = x) := fun x h0 => by
  unfold pS
  rw [show ([x] : List Int).length = 1 from rfl, sub_one (s := s) (by omega), decide_eq_true (by omega), Bool.true_and]
  simp
 have h2 : ∀ x y : Int, x ≠ 0 → y ≠ 0 → pS s i [x, y] = (decide (get s i = x) && decide (get s (i + 1) = y)) := fun x y h0 h0' => by
  unfold pS
  rw [show ([x, y] : List Int).length = 2 from rfl]
  by_cases h : 2 ≤ s.length - i
  ·rw [aK2 (s := s) (by omega), decide_eq_true h, Bool.true_and]
   simp
  ·rw [decide_eq_false h, H2 (show s.length ≤ i + 1 by omega), show decide ((0 : Int) = y) = false from decide_eq_false (fun e => h0' e.symm), Bool.and_false]; rfl
 have h3 : ∀ x y z : Int, x ≠ 0 → y ≠ 0 → z ≠ 0 → pS s i [x, y, z] = (decide (get s i = x) && decide (get s (i + 1) = y) && decide (get s (i + 2) = z)) := fun x y z h0 h0' h0'' => by
  unfold pS
  rw [show ([x, y, z] : List Int).length = 3 from rfl]
  by_cases h : 3 ≤ s.length - i
  ·rw [a47 (s := s) (by omega), decide_eq_true h, Bool.true_and]
   simp [Bool.and_assoc]
  ·rw [decide_eq_false h, H2 (show s.length ≤ i + 2 by omega), show decide ((0 : Int) = z) = false from decide_eq_false (fun e => h0'' e.symm), Bool.and_false]; rfl
 intro f hf
 simp only [l7, List.mem_cons, List.not_mem_nil, or_false] at hf
 unfold p3
 rcases hf with rfl | rfl | rfl | rfl | rfl | rfl | rfl | rfl | rfl | rfl | rfl | rfl | rfl | rfl | rfl | rfl | rfl | rfl | rfl | rfl | rfl | rfl | rfl | rfl | rfl | rfl | rfl | rfl | rfl | rfl <;>
  first
  | exact h1 _ (by decide)
  | exact h2 _ _ (by decide) (by decide)
  | exact h3 _ _ _ (by decide) (by decide) (by decide)
def bp6 (i : Nat) (st : Nat × Nat) : j2.den := ((st.1 : Int), (i : Int), ((bif decide (st.1 = 0) then 0 else i + st.2 : Nat) : Int), 0, 0, ([] : List Int), ())
def aT7 (i : Nat) (st : Nat × Nat) : Nat ⊕ j2.den := bif decide (st.1 = 0) then .inl i else .inr ((st.1 : Int), (i : Int), ((i + st.2 : Nat) : Int), 0, 0, ([] : List Int), ())
omit hs in
theorem a99 (hs : s.length ≤ 2097152) {i : Nat} (hi : i < s.length) : Evt fun n => ∀ f : List Int, I9 (S.tab n) (sub s (i : Int) (s.length : Int)) f = some (pS s i f, S8) := by
 have e : sub s (i : Int) (s.length : Int) = s.drop i := by
  rw [ae2]; unfold K0; rw [List.take_length]
 have h1 : Evt fun n => ∀ f : List Int, D2 (S.tab n) (s.drop i) f = some (pS s i f, E8) := n9.up fun n _ f => by
  show D2 (S.step (S.tab n)) _ _ = _
  rw [U7]
  unfold pS
  by_cases h : f.length ≤ s.length - i
  ·have e2 : sub (s.drop i) (0 : Int) (f.length : Int) = K0 s i (i + f.length) := by
    show ((s.drop i).take f.length).drop 0 = _
    unfold K0
    rw [List.drop_zero, List.take_drop]
   rw [j7 (by simp only [decide_eq_true_eq, List.length_drop]; omega), j7 (show bounds (s.drop i).length (0 : Int) (f.length : Int) = true from F6 (i := 0) (by omega) (by rw [List.length_drop]; omega)), e2, decide_eq_true h, Bool.true_and]
  ·rw [l9 (by simp only [decide_eq_false_iff_not, List.length_drop]; omega), decide_eq_false h]; rfl
 rw [e]
 exact h1.up fun n h f => by
  show I9 (S.step (S.tab n)) _ _ = _
  rw [ag7, h]; rfl
theorem bf8 {i : Nat} (hi : i < s.length) : ∀ (k : Nat) (st : Nat × Nat), k ≤ 78 → Evt fun n => C3 (S.tab n) s (i : Int) (bp6 i st) (st.2 : Int) (k : Int) = some (Sum.inl ((i : Int), bp6 i (runK (pS s i) k st), ()))
 | 0, st, _ => n9.up fun n _ => by
  show C3 (S.step (S.tab n)) _ _ _ _ _ = _
  rw [ad2, l9 (by decide)]; rfl
 | k + 1, st, hk => by
  have ih := fun st => bf8 hi k st (by omega)
  refine ((((ih st).and (ih (k + 1, (fx (k + 1)).length))).and aZ5).and ((a99 hs hi).and n9)).up fun n ⟨⟨⟨ih1, ih2⟩, hf⟩, hp, hb⟩ => ?_
  show C3 (S.step (S.tab n)) _ _ _ _ _ = _
  have w : IntKind.i64.wrap (((k + 1 : Nat) : Int) - 1) = (k : Int) := by rw [wrap64 _ (by omega) (by omega)]; omega
  rw [ad2, j7 (by simp only [decide_eq_true_eq]; omega), hf (k + 1) (by omega), Option.bind_some, w]
  unfold runK
  unfold okF
  by_cases hne : fx (k + 1) = []
  ·rw [l9 (by rw [decide_eq_true hne]; rfl), decide_eq_true hne]
   exact ih1
  rw [j7 (by rw [decide_eq_false hne]; rfl), decide_eq_false hne]
  have hlen : 0 < (fx (k + 1)).length := List.length_pos_iff.2 hne
  rw [j7 (by simp only [decide_eq_true_eq]; omega), hb.iletter, Option.bind_some]
  cases hlt : G3 ((fx (k + 1)).getD 0 0) with
  | true =>
   rw [l9 (by rfl)]
   exact ih1
  | false =>
   rw [j7 (by rfl), j7 (F6 (by omega) (Nat.le_refl _)), hp, Option.bind_some]
   cases hpp : pS s i (fx (k + 1)) with
   | false =>
    rw [l9 (by rfl)]
    exact ih1
   | true =>
    rw [j7 (by rfl)]
    have hle : (fx (k + 1)).length ≤ s.length - i := by
     unfold pS at hpp
     simp only [Bool.and_eq_true, decide_eq_true_eq] at hpp
     exact hpp.1
    by_cases hb2 : st.2 < (fx (k + 1)).length
    ·have w2 : IntKind.i64.wrap ((i : Int) + ((fx (k + 1)).length : Int)) = ((i + (fx (k + 1)).length : Nat) : Int) := by rw [wrap64 _ (by omega) (by omega)]; omega
     simp only [w2]
     rw [j7 (by simp only [decide_eq_true_eq]; omega), decide_eq_true hb2]
     exact ih2
    ·rw [l9 (by simp only [decide_eq_false_iff_not]; omega), decide_eq_false hb2]
     exact ih1
theorem bl4 {i : Nat} (hi : i < s.length) (t4 : j2.den) : Evt fun n => w7 (S.tab n) s (i : Int) t4 (0, (i : Int), 0, 0, 0, ([] : List Int), ()) l7 30 0 =
  some (bif decide (ad5 (pS s i) < 30) then Sum.inl (((sgn (l7.getD (ad5 (pS s i)) []) : Int), (i : Int), ((i + (l7.getD (ad5 (pS s i)) []).length : Nat) : Int), 0, 0, ([] : List Int), ()), -1, ()) else Sum.inr (Sum.inl ((i : Int), t4, (0, (i : Int), 0, 0, 0, ([] : List Int), ()), ()))) := by
 have hp : Evt fun n => ∀ f ∈ l7, F0 (S.tab n) f = some ((sgn f : Int), E6) := aR5 l7 sign_one
 have hlen : ∀ k, k < 30 → (l7.getD k []).length ≤ 3 := by
  have h : ∀ k : Fin 30, (l7.getD k.1 []).length ≤ 3 := by decide
  exact fun k hk => h ⟨k, hk⟩
 refine adv (F := fun T (j : Nat) => w7 T s (i : Int) t4 (0, (i : Int), 0, 0, 0, ([] : List Int), ()) l7 30 (j : Int)) (q := pq (pS s i)) (N := 30) (p := fun T => ∀ f ∈ l7, F0 T f = some ((sgn f : Int), E6))
  (out := fun k => bif decide (k < 30) then Sum.inl (((sgn (l7.getD k []) : Int), (i : Int), ((i + (l7.getD k []).length : Nat) : Int), 0, 0, ([] : List Int), ()), -1, ()) else Sum.inr (Sum.inl ((i : Int), t4, (0, (i : Int), 0, 0, 0, ([] : List Int), ()), ())))
  hp (fun j h => by unfold pq; rw [decide_eq_false (by omega)]; rfl) ?_ ?_ 30 0 (by omega)
 ·intro T j _ hq
  unfold pq pS at hq
  simp only [Bool.and_eq_true, decide_eq_true_eq, Bool.not_eq_true', Bool.and_eq_false_iff, decide_eq_false_iff_not] at hq
  have h30 := hq.1
  have hl3 := hlen j h30
  have hj : j < l7.length := h30
  show w7 (S.step T) s i t4 _ l7 30 j = w7 T s i t4 _ l7 30 ((j + 1 : Nat) : Int)
  rw [W4, j7 (by simp only [decide_eq_true_eq]; omega), j7 (j8 hj), H9 (by omega), wrap64 ((s.length : Int) - (i : Int)) (by omega) (by omega)]
  show brk (decide (((l7.getD j []).length : Int) ≤ _)) _ _ = _
  by_cases hle : (l7.getD j []).length ≤ s.length - i
  ·have w : IntKind.i64.wrap ((i : Int) + ((l7.getD j []).length : Int)) = ((i + (l7.getD j []).length : Nat) : Int) := by rw [wrap64 _ (by omega) (by omega)]; omega
   have hne : ¬ K0 s i (i + (l7.getD j []).length) = l7.getD j [] := by
    rcases hq.2 with h | h
    ·exact absurd hle h
    ·exact h
   rw [j7 (by simp only [decide_eq_true_eq]; omega)]
   show brk (bounds s.length i (IntKind.i64.wrap ((i : Int) + ((l7.getD j []).length : Int)))) (brk (decide (sub s i (IntKind.i64.wrap ((i : Int) + ((l7.getD j []).length : Int))) = l7.getD j [])) _ _) _ = _
   rw [w, j7 (F6 (by omega) (by omega)), ae2, l9 (decide_eq_false hne)]
  ·rw [l9 (by simp only [decide_eq_false_iff_not]; omega)]
 ·intro T j hsg hq
  show w7 (S.step T) s i t4 _ l7 30 j = _
  rw [W4]
  by_cases h30 : j < 30
  ·have hl3 := hlen j h30
   have hj : j < l7.length := h30
   unfold pq at hq
   rw [decide_eq_true h30, Bool.true_and, Bool.not_eq_false'] at hq
   unfold pS at hq
   simp only [Bool.and_eq_true, decide_eq_true_eq] at hq
   have hm : l7.getD j [] ∈ l7 := by
    rw [List.getD_eq_getElem?_getD, List.getElem?_eq_getElem hj]
    exact List.getElem_mem _
   have w : IntKind.i64.wrap ((i : Int) + ((l7.getD j []).length : Int)) = ((i + (l7.getD j []).length : Nat) : Int) := by rw [wrap64 _ (by omega) (by omega)]; omega
   rw [j7 (by simp only [decide_eq_true_eq]; omega), j7 (j8 hj), wrap64 ((s.length : Int) - (i : Int)) (by omega) (by omega)]
   show brk (decide (((l7.getD j []).length : Int) ≤ _)) (brk (bounds s.length i (IntKind.i64.wrap ((i : Int) + ((l7.getD j []).length : Int)))) (brk (decide (sub s i (IntKind.i64.wrap ((i : Int) + ((l7.getD j []).length : Int))) = l7.getD j [])) ((F0 T (l7.getD j [])).bind fun d68 => some (Sum.inl ((d68.1, _, IntKind.i64.wrap ((i : Int) + ((l7.getD j []).length : Int)), _), _, ()))) _) _) _ = _
   rw [j7 (by simp only [decide_eq_true_eq]; omega), w, j7 (F6 (by omega) (by omega)), ae2, j7 (decide_eq_true hq.2), hsg _ hm, Option.bind_some, decide_eq_true h30]; rfl
  ·rw [l9 (by simp only [decide_eq_false_iff_not]; omega), decide_eq_false h30]; rfl
def aj7 (s : List Int) (i : Nat) : Nat ⊕ j2.den :=
 bif G3 (get s i) then .inr (bl1 s i) else bif n8 (get s i) then P8 s i else bif decide (get s i = 34) then bg2 s i else aT7 i (T7 (p3 s i))
theorem aR7 (hb8 : ∀ c ∈ s, isByte c) {i : Nat} (hi : i < s.length) : Evt fun n => ∃ t' b, H5 (S.tab n) s (i : Int) = some ((t', b, ()), I8) ∧ IR (aj7 s i) t' b := by
 unfold aj7
 cases hl : G3 (get s i) with
 | true =>
  exact (aI4 hs hi hl).mono fun n h => ⟨_, _, h, rfl, rfl⟩
 | false =>
  have start : ∀ n, Base2 (S.tab n) → H5 (S.step (S.tab n)) s (i : Int) = _ := fun n hb => by
   rw [ay9, j7 (j8 hi), j9, hb.iletter, hl, Option.bind_some, l9 (by rfl), hb.idigit, Option.bind_some]
  cases hd : n8 (get s i) with
  | true =>
   refine ((aA9 hs hi hd).and n9).up fun n ⟨⟨t', b, h, hr⟩, hb⟩ => ⟨t', b, ?_, hr⟩
   show H5 (S.step (S.tab n)) _ _ = _
   rw [start n hb, hd, j7 (by rfl), h]; rfl
  | false =>
   by_cases c34 : get s i = 34
   ·have w1 : IntKind.i64.wrap ((i : Int) + 1) = ((i + 1 : Nat) : Int) := H9 (by omega)
    rw [decide_eq_true c34]
    refine ((aH8 hs hb8 i s.length (i + 1) [] (by omega) (by omega) (by simp)).and n9).up fun n ⟨⟨t', b, h, hr⟩, hb⟩ => ⟨t', b, ?_, hr⟩
    show H5 (S.step (S.tab n)) _ _ = _
    rw [start n hb, hd, l9 (by rfl), j7 (decide_eq_true c34), w1, h]; rfl
   ·rw [decide_eq_false c34]
    show Evt fun n => ∃ t' b, _ ∧ IR (aT7 i (T7 (p3 s i))) t' b
    have hlaw : runK (pS s i) 78 (0, 0) = T7 (p3 s i) := by
     rw [ao8 (q := p3 s i) 78 (0, 0) fun j hj ho => bo0 (s := s) hi _ (bl7 j hj ho)]
     exact a41 _ _ _
    refine ((bf8 hs hi 78 (0, 0) (Nat.le_refl _)).and n9).up fun n ⟨h, hb⟩ => ?_
    show ∃ t' b, H5 (S.step (S.tab n)) _ _ = _ ∧ _
    have h : C3 (S.tab n) s (i : Int) (0, (i : Int), 0, 0, 0, ([] : List Int), ()) 0 78 = _ := h
    rw [start n hb, hd, l9 (by rfl), l9 (decide_eq_false c34), h, hlaw, Option.bind_some]
    generalize T7 (p3 s i) = st
    obtain ⟨a, b⟩ := st
    unfold aT7 bp6
    simp only [B9, Sum.elim_inl]
    by_cases h0 : a = 0
    ·have d : decide ((a : Int) = 0) = true := decide_eq_true (by omega)
     rw [j7 d, decide_eq_true h0]
     exact ⟨_, _, rfl, rfl, rfl⟩
    ·have d : decide ((a : Int) = 0) = false := decide_eq_false (by omega)
     rw [l9 d, decide_eq_false h0]
     exact ⟨_, _, rfl, rfl, rfl⟩
theorem ar5 {i : Nat} (hi : i < s.length) (h10 : get s i ≠ 10) : Evt fun n => ∃ t' b, E0 (S.tab n) s (i : Int) = some ((t', b, ()), H0) ∧ SR (aj7 s i) t' b := by
 unfold aj7
 have start : ∀ n, Base2 (S.tab n) → E0 (S.step (S.tab n)) s (i : Int) = _ := fun n hb => by
  rw [aA5, j7 (j8 hi), j9, l9 (decide_eq_false h10), hb.sletter, Option.bind_some]
 cases hl : G3 (get s i) with
 | true =>
  refine ((aB1 hs hi _ rfl).and n9).up fun n ⟨h, hb⟩ => ?_
  show ∃ t' b, E0 (S.step (S.tab n)) _ _ = _ ∧ _
  rw [start n hb, hl, j7 (by rfl), h]
  exact ⟨_, _, rfl, rfl, rfl⟩
 | false =>
  cases hd : n8 (get s i) with
  | true =>
   refine ((as7 hs hi hd).and n9).up fun n ⟨⟨t', b, h, hr⟩, hb⟩ => ⟨t', b, ?_, hr⟩
   show E0 (S.step (S.tab n)) _ _ = _
   rw [start n hb, hl, l9 (by rfl), hb.sdigit, Option.bind_some, hd, j7 (by rfl), h]; rfl
  | false =>
   by_cases c34 : get s i = 34
   ·rw [decide_eq_true c34]
    refine ((as9 hs hi).and n9).up fun n ⟨⟨t', b, h, hr⟩, hb⟩ => ⟨t', b, ?_, hr⟩
    show E0 (S.step (S.tab n)) _ _ = _
    rw [start n hb, hl, l9 (by rfl), hb.sdigit, Option.bind_some, hd, l9 (by rfl), j7 (decide_eq_true c34), h]; rfl
   ·rw [decide_eq_false c34]
    show Evt fun n => ∃ t' b, _ ∧ SR (aT7 i (T7 (p3 s i))) t' b
    have hlaw : T7 (pS s i) = T7 (p3 s i) := as3 (bo0 (s := s) hi)
    refine ((bl4 hs hi (0, 0, 0, 0, 0, ([] : List Int), ())).and (aY0.and n9)).up fun n ⟨h, hsi, hb⟩ => ?_
    show ∃ t' b, E0 (S.step (S.tab n)) _ _ = _ ∧ _
    rw [start n hb, hl, l9 (by rfl), hb.sdigit, Option.bind_some, hd, l9 (by rfl), l9 (decide_eq_false c34), hsi, Option.bind_some]
    show ∃ t' b, (w7 (S.tab n) s (i : Int) _ _ l7 30 0).bind _ = _ ∧ _
    rw [h, Option.bind_some, ← hlaw]
    unfold aT7 T7
    cases decide (ad5 (pS s i) < 30) with
    | true =>
     simp only [cond_true]
     rw [decide_eq_false (ba8 _)]
     exact ⟨_, _, rfl, rfl, rfl⟩
    | false => exact ⟨_, _, rfl, rfl⟩
end Go.Abs.D
end

section
namespace Go.Abs.D
end Go.Abs.D
end

section
namespace Go.Abs.D
def ax7 (k : Int) (s : List Int) : Bool :=
 decide (0 < s.length) && decide (s.length ≤ 40) && (match aj7 s 0 with | .inl _ => false | .inr t => decide (t.1 = k) && decide (t.2.2.1 = (s.length : Int)))
theorem av1 (s : List Int) (i j : Nat) (f : Bool) : (R7 s i j f).1 = 2 ∨ (R7 s i j f).1 = 3 := by
 unfold R7
 cases f || !decide (dv 0 (K0 s i j) < 9223372036854775808) with
 | true => exact .inr rfl
 | false => exact .inl rfl
theorem aO8 {s : List Int} {i j : Nat} {f : Bool} {t : j2.den} (h : aU3 s i j f = .inr t) : t.1 = 2 ∨ t.1 = 3 := by
 unfold aU3 at h
 cases h5 : decide (get s j = 101) with
 | true =>
  rw [h5] at h
  cases hd : n8 (get s (ak1 s j)) with
  | true => rw [hd] at h; injection h with h; subst h; exact av1 ..
  | false => rw [hd] at h; cases h
 | false => rw [h5] at h; injection h with h; subst h; exact av1 ..
theorem be2 {s : List Int} {i : Nat} {t : j2.den} (h : P8 s i = .inr t) : t.1 = 2 ∨ t.1 = 3 := by
 unfold P8 at h
 have fr : ∀ j, aS5 s i j = .inr t → t.1 = 2 ∨ t.1 = 3 := fun j h => by
  unfold aS5 at h
  cases h5 : decide (get s j = 46) && n8 (get s (j + 1)) with
  | true => rw [h5] at h; exact aO8 h
  | false => rw [h5] at h; exact aO8 h
 cases h0 : decide (get s i = 48) && decide (get s (i + 1) = 120) with
 | false => rw [h0] at h; exact fr _ h
 | true =>
  rw [h0] at h
  have h : M7 s i = .inr t := h
  unfold M7 at h
  by_cases he : ag8 s (i + 18) (i + 2) = i + 2
  ·simp only [he, if_true] at h; cases h
  ·simp only [he, if_false] at h
   cases hx : J1 (get s (ag8 s (i + 18) (i + 2))) with
   | true => simp only [hx, if_true] at h; cases h
   | false => simp only [hx, Bool.false_eq_true, if_false] at h; injection h with h; subst h; exact .inl rfl
def kd (t : j2.den) : Int := t.1
theorem br5 (f : List Int) : 5 ≤ sgn f := by
 unfold sgn
 cases h1 : decide (stop (sq opsL f) 19 1 < 19) with
 | true => rw [cond_true]; omega
 | false =>
  cases h2 : decide (stop (sq Lx.T0 f) 11 0 < 11) with
  | true => rw [cond_false, cond_true]; omega
  | false => rw [cond_false, cond_false]; omega
theorem aI3 {s : List Int} {i : Nat} {t : j2.den} (h : aj7 s i = .inr t) :
  (G3 (get s i) = true → kd t = 1 ∨ 10 ≤ kd t) ∧ (G3 (get s i) = false → n8 (get s i) = true → kd t = 2 ∨ kd t = 3) ∧ (G3 (get s i) = false → n8 (get s i) = false → 4 ≤ kd t) := by
 unfold aj7 at h
 refine ⟨fun hl => ?_, fun hl hd => ?_, fun hl hd => ?_⟩
 ·rw [hl] at h
  injection h with h
  subst h
  unfold bl1
  simp only
  split
  ·right; show (10 : Int) ≤ ((10 + _ : Nat) : Int); omega
  ·exact .inl rfl
 ·rw [hl, hd] at h
  exact be2 h
 ·rw [hl, hd] at h
  cases h34 : decide (get s i = 34) with
  | true =>
   rw [h34] at h
   have h : bn5 i (M3 s s.length (i + 1) []) = .inr t := h
   cases hr : M3 s s.length (i + 1) [] with
   | inl e => rw [hr] at h; cases h
   | inr y =>
    rw [hr] at h
    obtain ⟨e, r⟩ := y
    injection h with h
    subst h
    exact Int.le_refl 4
  | false =>
   rw [h34] at h
   have h : aT7 i (T7 (p3 s i)) = .inr t := h
   unfold aT7 T7 at h
   cases hk : decide (ad5 (p3 s i) < 30) with
   | false => rw [hk] at h; cases h
   | true =>
    rw [hk] at h
    simp only [cond_true] at h
    rw [decide_eq_false (ba8 _)] at h
    injection h with h
    subst h
    have := br5 (l7.getD (ad5 (p3 s i)) [])
    show (4 : Int) ≤ ((sgn _ : Nat) : Int)
    omega
def one (k : Int) (s : List Int) : Bool := match aj7 s 0 with | .inl _ => false | .inr t => decide (t.1 = k) && decide (t.2.2.1 = (s.length : Int))
variable {s : List Int} (hb8 : ∀ c ∈ s, isByte c)
include hb8
theorem bb0 (k : Int) (hk : k = 1 ∨ k = 3) (hlen : s.length ≤ 40) : Evt fun n => Y9 (S.tab n) s k = some (ax7 k s, s9) := by
 by_cases h0 : s = []
 ·subst h0
  exact n9.up fun n _ => by
   show Y9 (S.step (S.tab n)) _ _ = _
   rw [aq2, j7 (by simp)]; rfl
 have hpos : 0 < s.length := List.length_pos_iff.2 h0
 have hlt : decide ((0 : Int) < (s.length : Int)) = true := by simp only [decide_eq_true_eq]; omega
 have hok : ax7 k s = one k s := by
  unfold ax7 one
  rw [decide_eq_true hpos, decide_eq_true hlen]; rfl
 rw [hok]
 have fin : ∀ n, (∃ t' b, H5 (S.tab n) s ((0 : Nat) : Int) = some ((t', b, ()), I8) ∧ IR (aj7 s 0) t' b) →
   ((H5 (S.tab n) s (0 : Int)).bind fun d28 => brk (!d28.1.2.1) (brk (decide (d28.1.1.1 = k)) (some (decide (d28.1.1.2.2.1 = (s.length : Int)), s9)) (some (false, s9))) (some (false, s9))) = some (one k s, s9) := fun n ⟨t', b, h, hr⟩ => by
  have h : H5 (S.tab n) s (0 : Int) = _ := h
  rw [h, Option.bind_some]
  unfold one
  cases hx : aj7 s 0 with
  | inl e =>
   rw [hx] at hr
   obtain ⟨rfl, _⟩ : b = true ∧ _ := hr
   rw [l9 (by rfl)]
  | inr t =>
   rw [hx] at hr
   obtain ⟨rfl, rfl⟩ : b = false ∧ t' = t := hr
   rw [j7 (by rfl)]
   simp only
   cases decide (t'.1 = k) with
   | true => rw [j7 rfl]; rfl
   | false => rw [l9 rfl]; rfl
 refine ((aR7 (s := s) (by omega) hb8 (i := 0) hpos).and n9).up fun n ⟨h, hb⟩ => ?_
 show Y9 (S.step (S.tab n)) _ _ = _
 have g0 : s.getD 0 0 = get s 0 := rfl
 rw [aq2, l9 (by simpa using h0), j7 hlt, g0]
 by_cases c34 : get s 0 = 34
 ·rw [l9 (by rw [decide_eq_true c34]; rfl)]
  exact fin n h
 rw [j7 (by rw [decide_eq_false c34]; rfl), j7 hlt, hb.iletter, Option.bind_some]
 cases hl : G3 (get s 0) with
 | true => rw [l9 (by rfl)]; exact fin n h
 | false =>
  rw [j7 (by rfl), j7 hlt, hb.idigit, Option.bind_some]
  cases hd : n8 (get s 0) with
  | true => rw [l9 (by rfl)]; exact fin n h
  | false =>
   rw [j7 (by rfl)]
   unfold one
   cases hx : aj7 s 0 with
   | inl e => rfl
   | inr t =>
    have := (aI3 hx).2.2 hl hd
    simp only
    have hne : kd t ≠ k := by rcases hk with rfl | rfl <;> omega
    rw [decide_eq_false (show ¬ (t.1 = k) from hne)]; rfl
theorem aS4 : Evt fun n => M4 (S.tab n) s = some (ax7 1 s, T1) := by
 by_cases h : s.length ≤ 40
 ·refine (bb0 hb8 1 (.inl rfl) h).up fun n h1 => ?_
  show M4 (S.step (S.tab n)) _ = _
  rw [ac1, j7 (by simp only [decide_eq_true_eq]; omega), h1]; rfl
 ·refine n9.up fun n _ => ?_
  show M4 (S.step (S.tab n)) _ = _
  unfold ax7
  rw [ac1, l9 (by simp only [decide_eq_false_iff_not]; omega), decide_eq_false h, Bool.and_false]; rfl
theorem aM8 : Evt fun n => K1 (S.tab n) s = some (ax7 3 s, Q2) := by
 by_cases h : s.length ≤ 40
 ·refine (bb0 hb8 3 (.inr rfl) h).up fun n h1 => ?_
  show K1 (S.step (S.tab n)) _ = _
  rw [Z8, j7 (by simp only [decide_eq_true_eq]; omega), h1]; rfl
 ·refine n9.up fun n _ => ?_
  show K1 (S.step (S.tab n)) _ = _
  unfold ax7
  rw [Z8, l9 (by simp only [decide_eq_false_iff_not]; omega), decide_eq_false h, Bool.and_false]; rfl
omit hb8 in
theorem a45 : Evt fun n => E3 (S.tab n) s = some (ax7 1 s, D9) := by
 by_cases h0 : s.length = 0
 ·refine n9.up fun n _ => ?_
  show E3 (S.step (S.tab n)) _ = _
  unfold ax7
  rw [Q0, j7 (by simp only [decide_eq_true_eq]; omega), decide_eq_false (show ¬ 0 < s.length by omega)]; rfl
 by_cases h : ¬ s.length ≤ 40
 ·refine n9.up fun n _ => ?_
  show E3 (S.step (S.tab n)) _ = _
  unfold ax7
  rw [Q0, l9 (by simp only [decide_eq_false_iff_not]; omega), j7 (by simp only [decide_eq_true_eq]; omega), decide_eq_false h, Bool.and_false]; rfl
 replace h := Decidable.not_not.1 h
 have hpos : 0 < s.length := by omega
 have hlt : decide ((0 : Int) < (s.length : Int)) = true := by simp only [decide_eq_true_eq]; omega
 have g0 : s.getD 0 0 = get s 0 := rfl
 have hok : ax7 1 s = one 1 s := by
  unfold ax7 one
  rw [decide_eq_true hpos, decide_eq_true h]; rfl
 rw [hok]
 have start : ∀ n, Base2 (S.tab n) → E3 (S.step (S.tab n)) s = _ := fun n hb => by
  rw [Q0, l9 (by simp only [decide_eq_false_iff_not]; omega), l9 (by simp only [decide_eq_false_iff_not]; omega), j7 hlt, g0, hb.sletter, Option.bind_some]
 cases hl : G3 (get s 0) with
 | false =>
  refine n9.up fun n hb => ?_
  show E3 (S.step (S.tab n)) _ = _
  rw [start n hb, hl, j7 (by rfl)]
  unfold one
  cases hx : aj7 s 0 with
  | inl e => rfl
  | inr t =>
   have hk := aI3 hx
   have : kd t ≠ 1 := by
    cases hd : n8 (get s 0) with
    | true => rcases hk.2.1 hl hd with h | h <;> omega
    | false => have := hk.2.2 hl hd; omega
   simp only
   rw [decide_eq_false (show ¬ (t.1 = 1) from this)]; rfl
 | true =>
  have h10 : get s 0 ≠ 10 := fun e => by rw [e] at hl; cases hl
  refine ((ar5 (s := s) (by omega) hpos h10).and n9).up fun n ⟨⟨t', b, h1, hr⟩, hb⟩ => ?_
  show E3 (S.step (S.tab n)) _ = _
  have h1 : E0 (S.tab n) s (0 : Int) = _ := h1
  rw [start n hb, hl, l9 (by rfl), h1, Option.bind_some]
  unfold one
  cases hx : aj7 s 0 with
  | inl e =>
   rw [hx] at hr
   have hr : b = (e : Int) := hr
   subst hr
   rw [l9 (by simp only [decide_eq_false_iff_not]; omega)]
  | inr t =>
   rw [hx] at hr
   obtain ⟨rfl, rfl⟩ : b = -1 ∧ t' = t := hr
   rw [j7 (show decide ((-1 : Int) < 0) = true from rfl)]
   simp only
   cases decide (t'.1 = 1) with
   | true => rw [j7 rfl]; rfl
   | false => rw [l9 rfl]; rfl
omit hb8 in
theorem be9 : Evt fun n => G2 (S.tab n) s = some (ax7 3 s, E9) := by
 by_cases h0 : s.length = 0
 ·refine n9.up fun n _ => ?_
  show G2 (S.step (S.tab n)) _ = _
  unfold ax7
  rw [U0, j7 (by simp only [decide_eq_true_eq]; omega), decide_eq_false (show ¬ 0 < s.length by omega)]; rfl
 by_cases h : ¬ s.length ≤ 40
 ·refine n9.up fun n _ => ?_
  show G2 (S.step (S.tab n)) _ = _
  unfold ax7
  rw [U0, l9 (by simp only [decide_eq_false_iff_not]; omega), j7 (by simp only [decide_eq_true_eq]; omega), decide_eq_false h, Bool.and_false]; rfl
 replace h := Decidable.not_not.1 h
 have hpos : 0 < s.length := by omega
 have hlt : decide ((0 : Int) < (s.length : Int)) = true := by simp only [decide_eq_true_eq]; omega
 have g0 : s.getD 0 0 = get s 0 := rfl
 have hok : ax7 3 s = one 3 s := by
  unfold ax7 one
  rw [decide_eq_true hpos, decide_eq_true h]; rfl
 rw [hok]
 have start : ∀ n, Base2 (S.tab n) → G2 (S.step (S.tab n)) s = _ := fun n hb => by
  rw [U0, l9 (by simp only [decide_eq_false_iff_not]; omega), l9 (by simp only [decide_eq_false_iff_not]; omega), j7 hlt, g0, hb.sdigit, Option.bind_some]
 cases hd : n8 (get s 0) with
 | false =>
  refine n9.up fun n hb => ?_
  show G2 (S.step (S.tab n)) _ = _
  rw [start n hb, hd, j7 (by rfl)]
  unfold one
  cases hx : aj7 s 0 with
  | inl e => rfl
  | inr t =>
   have hk := aI3 hx
   have : kd t ≠ 3 := by
    cases hl : G3 (get s 0) with
    | true => rcases hk.1 hl with h | h <;> omega
    | false => have := hk.2.2 hl hd; omega
   simp only
   rw [decide_eq_false (show ¬ (t.1 = 3) from this)]; rfl
 | true =>
  have h10 : get s 0 ≠ 10 := fun e => by rw [e] at hd; cases hd
  refine ((ar5 (s := s) (by omega) hpos h10).and n9).up fun n ⟨⟨t', b, h1, hr⟩, hb⟩ => ?_
  show G2 (S.step (S.tab n)) _ = _
  have h1 : E0 (S.tab n) s (0 : Int) = _ := h1
  rw [start n hb, hd, l9 (by rfl), h1, Option.bind_some]
  unfold one
  cases hx : aj7 s 0 with
  | inl e =>
   rw [hx] at hr
   have hr : b = (e : Int) := hr
   subst hr
   rw [l9 (by simp only [decide_eq_false_iff_not]; omega)]
  | inr t =>
   rw [hx] at hr
   obtain ⟨rfl, rfl⟩ : b = -1 ∧ t' = t := hr
   rw [j7 (show decide ((-1 : Int) < 0) = true from rfl)]
   simp only
   cases decide (t'.1 = 3) with
   | true => rw [j7 rfl]; rfl
   | false => rw [l9 rfl]; rfl
end Go.Abs.D
end

section
namespace Go.Abs.D
open Go.Proofs
def aQ4 : List Int := [48, 49, 50, 51, 52, 53, 54, 55, 56, 57, 97, 98, 99, 100, 101, 102]
def esc (c : Int) : List Int :=
 if c = 10 then [92, 110] else if c = 9 then [92, 116] else if c = 34 then [92, 34] else if c = 92 then [92, 92]
 else if c < 32 ∨ 126 < c then [92, 120, aQ4.getD (c / 16).toNat 0, aQ4.getD (c % 16).toNat 0] else [c]
theorem aU7 (c : Int) : (esc c).length ≤ 4 := by
 unfold esc
 repeat' split
 all_goals simp
theorem a18 (T : S.Tab) (t0 t4 : List Int) (i c : Int) (h0 : 0 ≤ i) (hi : i < t0.length) (hl : t0.length ≤ 4000) (hc : t0.getD i.toNat 0 = c) (hb : isByte c) (hf : t4.length + 4 ≤ lim) :
  o8 (S.step T) t0 aQ4 t4 i = o8 T t0 aQ4 (t4 ++ esc c) (i + 1) := by
 rw [V9]
 obtain ⟨hb0, hb1⟩ := hb
 have w : IntKind.i64.wrap (i + 1) = i + 1 := wrap64 _ (by omega) (by omega)
 have hh : (aQ4.length : Int) = 16 := rfl
 simp only [hc, br2 c ⟨hb0, hb1⟩, be4 c ⟨hb0, hb1⟩, w, hh, D0, h0, hi, decide_true, Bool.and_true, cond_true, List.length_cons, List.length_nil]
 have f4 : fits (t4.length + (0 + 1 + 1 + 1 + 1)) = true := F5 (by omega)
 have f2 : fits (t4.length + (0 + 1 + 1)) = true := F5 (by omega)
 have f2' : fits (t4.length + 2) = true := F5 (by omega)
 have f1 : fits (t4.length + (0 + 1)) = true := F5 (by omega)
 have a1 : (decide (0 ≤ c / 16) && decide (c / 16 < 16)) = true := by
  simp only [Bool.and_eq_true, decide_eq_true_eq]; omega
 have a2 : (decide (0 ≤ c % 16) && decide (c % 16 < 16)) = true := by
  simp only [Bool.and_eq_true, decide_eq_true_eq]; omega
 unfold esc
 by_cases h1 : c = 10
 ·simp [h1, f2']
 by_cases h2 : c = 9
 ·simp [h2, f2']
 by_cases h3 : c = 34
 ·simp [h3, f2]
 by_cases h4 : c = 92
 ·simp [h4, f2]
 by_cases h5 : c < 32
 ·simp only [h1, h2, h3, h4, h5, a1, a2, f4, decide_true, decide_false, cond_true, cond_false, if_true, if_false, true_or]
 by_cases h6 : 126 < c
 ·simp only [h1, h2, h3, h4, h5, h6, a1, a2, f4, decide_true, decide_false, cond_true, cond_false, if_true, if_false, or_true]
 ·simp only [h1, h2, h3, h4, h5, h6, f1, decide_false, cond_true, cond_false, if_false, or_self]
theorem br1 (l : List Int) (x : Int) (h0 : 0 ≤ x) (h1 : x < l.length) : sub l x (x + 1) = [l.getD x.toNat 0] := by
 unfold sub
 have e : (x + 1).toNat = x.toNat + 1 := by omega
 have hl : x.toNat < l.length := by omega
 rw [e, List.getD_eq_getElem?_getD, List.getElem?_eq_getElem hl, Option.getD_some]
 apply List.ext_getElem?
 intro j
 rw [List.getElem?_drop, List.getElem?_take]
 cases j with
 | zero => rw [if_pos (by omega)]; simp [hl]
 | succ j => rw [if_neg (by omega)]; simp
theorem bc3 (c : Int) : Bld.idx [10, 9, 34, 92] c 0 = if c = 10 then 0 else if c = 9 then 1 else if c = 34 then 2 else if c = 92 then 3 else -1 := by
 simp only [Bld.idx]
 repeat' split
 all_goals simp_all [eq_comm]
theorem a25 (T : S.Tab) (t0 t3 : List Int) (i c : Int) (h0 : 0 ≤ i) (hi : i < t0.length) (hl : t0.length ≤ 4000) (hc : t0.getD i.toNat 0 = c) (hb : isByte c) (hf : t3.length + 4 ≤ lim)
  (h17 : s6 T [10, 9, 34, 92] c = some (Bld.idx [10, 9, 34, 92] c 0, (), (), ())) :
  x6 (S.step T) t0 t3 i = x6 T t0 (t3 ++ esc c) (i + 1) := by
 rw [ac4]
 obtain ⟨hb0, hb1⟩ := hb
 have w : IntKind.i64.wrap (i + 1) = i + 1 := wrap64 _ (by omega) (by omega)
 have hd : ([48, 49, 50, 51, 52, 53, 54, 55, 56, 57, 97, 98, 99, 100, 101, 102] : List Int) = aQ4 := rfl
 have hh : (aQ4.length : Int) = 16 := rfl
 have w1 : IntKind.u8.wrap (c / 16 + 1) = c / 16 + 1 := at3 _ (by omega) (by omega)
 have w2 : IntKind.u8.wrap (c % 16 + 1) = c % 16 + 1 := at3 _ (by omega) (by omega)
 have s1 : sub aQ4 (c / 16) (c / 16 + 1) = [aQ4.getD (c / 16).toNat 0] := br1 _ _ (by omega) (by omega)
 have s2 : sub aQ4 (c % 16) (c % 16 + 1) = [aQ4.getD (c % 16).toNat 0] := br1 _ _ (by omega) (by omega)
 have b1 : bounds 16 (c / 16) (c / 16 + 1) = true := by
  unfold bounds
  simp only [Bool.and_eq_true, decide_eq_true_eq]; omega
 have b2 : bounds 16 (c % 16) (c % 16 + 1) = true := by
  unfold bounds
  simp only [Bool.and_eq_true, decide_eq_true_eq]; omega
 have f3 : fits (2 + 1) = true := rfl
 have f4 : fits (([92, 120] ++ [aQ4.getD (c / 16).toNat 0]).length + 1) = true := rfl
 have g1 : fits (t3.length + 1) = true := F5 (by omega)
 have g1' : ∀ x, fits ((t3 ++ [x]).length + 1) = true := fun x => F5 (by simp; omega)
 have g4 : ∀ x y : Int, fits (t3.length + ([92, 120] ++ [x] ++ [y]).length) = true := fun x y => F5 (by simp; omega)
 simp only [hc, hd, br2 c ⟨hb0, hb1⟩, be4 c ⟨hb0, hb1⟩, w, w1, w2, s1, s2, b1, b2, D0, h0, hi, decide_true, Bool.and_true, cond_true, h17, bc3, List.length_singleton, f3, f4, Bld.H4, Bld.P4, g1, g1', g4, Option.bind_some]
 unfold esc
 by_cases h1 : c = 10
 ·simp [h1]
 by_cases h2 : c = 9
 ·simp [h2]
 by_cases h3 : c = 34
 ·simp [h3]
 by_cases h4 : c = 92
 ·simp [h4]
 by_cases h5 : c < 32
 ·simp [h1, h2, h3, h4, h5]
 by_cases h6 : 126 < c
 ·simp [h1, h2, h3, h4, h5, h6]
 ·simp [h1, h2, h3, h4, h5, h6]
def ar2 (s : List Int) : List Int := if 4000 < s.length then [] else [34] ++ s.flatMap esc ++ [34]
theorem aM0 : ∀ (l pre t4 : List Int), (∀ c ∈ l, isByte c) → (pre ++ l).length ≤ 4000 → t4.length + 4 * l.length ≤ 30000 →
  Evt fun n => o8 (S.tab n) (pre ++ l) aQ4 t4 (pre.length : Int) = some (Sum.inl (t4 ++ l.flatMap esc, ()))
 | [], pre, t4, _, hl, _ => Evt.up (Evt.of (p := fun _ => True) fun _ => trivial) fun n _ => by
  show o8 (S.step (S.tab n)) _ _ _ _ = _
  rw [V9, l9 (by simp)]
  simp
 | c :: l, pre, t4, hb, hl, hf => by
  have hlen : (pre ++ c :: l).length = pre.length + (l.length + 1) := by simp
  have e4 := aU7 c
  have ih := aM0 l (pre ++ [c]) (t4 ++ esc c) (fun x hx => hb x (List.mem_cons_of_mem _ hx)) (by simp at hl ⊢; omega) (by simp at hf ⊢; omega)
  refine ih.up fun n h => ?_
  show o8 (S.step (S.tab n)) _ _ _ _ = _
  rw [a18 (S.tab n) _ t4 (pre.length : Int) c (by omega) (by omega) hl (aF7 pre c l 0) (hb c (List.mem_cons_self ..)) (by simp [lim] at hf ⊢; omega)]
  rw [List.append_assoc] at h
  simp only [List.length_append, List.length_singleton, List.singleton_append] at h
  push_cast at h
  rw [h, List.flatMap_cons, List.append_assoc]
theorem bm4 (c : Int) (h : isByte c) : Evt fun n => s6 (S.tab n) [10, 9, 34, 92] c = some (Bld.idx [10, 9, 34, 92] c 0, (), (), ()) :=
 Evt.up (Evt.up (Evt.of (p := fun _ => True) fun _ => trivial) (q := fun n => s4 (S.tab n) [10, 9, 34, 92] c = some (Bld.idx [10, 9, 34, 92] c 0, (), (), ())) fun n _ => by
  show s4 (S.step (S.tab n)) _ _ = _
  rw [J0, Bld.Y1, aT0 h]
  rfl) fun n h => by
  show s6 (S.step (S.tab n)) _ _ = _
  rw [Q7, h]
  rfl
theorem aN0 : ∀ (l pre t3 : List Int), (∀ c ∈ l, isByte c) → (pre ++ l).length ≤ 4000 → t3.length + 4 * l.length ≤ 30000 →
  Evt fun n => x6 (S.tab n) (pre ++ l) t3 (pre.length : Int) = some (Sum.inl (t3 ++ l.flatMap esc, ()))
 | [], pre, t3, _, hl, _ => Evt.up (Evt.of (p := fun _ => True) fun _ => trivial) fun n _ => by
  show x6 (S.step (S.tab n)) _ _ _ = _
  rw [ac4, l9 (by simp)]
  simp
 | c :: l, pre, t3, hb, hl, hf => by
  have hlen : (pre ++ c :: l).length = pre.length + (l.length + 1) := by simp
  have e4 := aU7 c
  have ih := aN0 l (pre ++ [c]) (t3 ++ esc c) (fun x hx => hb x (List.mem_cons_of_mem _ hx)) (by simp at hl ⊢; omega) (by simp at hf ⊢; omega)
  refine (ih.and (bm4 c (hb c (List.mem_cons_self ..)))).up fun n ⟨h, h17⟩ => ?_
  show x6 (S.step (S.tab n)) _ _ _ = _
  rw [a25 (S.tab n) _ t3 (pre.length : Int) c (by omega) (by omega) hl (aF7 pre c l 0) (hb c (List.mem_cons_self ..)) (by simp [lim] at hf ⊢; omega) h17]
  rw [List.append_assoc] at h
  simp only [List.length_append, List.length_singleton, List.singleton_append] at h
  push_cast at h
  rw [h, List.flatMap_cons, List.append_assoc]
theorem aN1 (c : Int) (h : isByte c) : ∀ x ∈ esc c, isByte x := by
 have hx : ∀ n : Nat, isByte (aQ4.getD n 0) := by
  intro n
  rw [List.getD_eq_getElem?_getD]
  cases e : aQ4[n]? with
  | none => exact ⟨by decide, by decide⟩
  | some v =>
   have := List.mem_of_getElem? e
   have hall : ∀ v ∈ aQ4, 0 ≤ v ∧ v < 256 := by decide
   exact hall v this
 intro x hx'
 unfold esc at hx'
 repeat' split at hx'
 all_goals simp only [List.mem_cons, List.not_mem_nil, or_false] at hx'
 all_goals rcases hx' with rfl | rfl | rfl | rfl
 all_goals first | exact hx _ | exact h | exact ⟨by omega, by omega⟩
theorem aY5 (l : List Int) : (l.flatMap esc).length ≤ 4 * l.length := by
 induction l with
 | nil => simp
 | cons c l ih =>
  have := aU7 c
  rw [List.flatMap_cons, List.length_append, List.length_cons]; omega
theorem a05 (s : List Int) (hb : ∀ c ∈ s, isByte c) (hl : ¬ 4000 < s.length) : Evt fun n => W7 (S.tab n) s = some (ar2 s, (), ()) := by
 refine (aM0 s [] [34] hb (by simpa using hl) (by simp; omega)).up fun n h => ?_
 show W7 (S.step (S.tab n)) _ = _
 have h' : o8 (S.tab n) s [48, 49, 50, 51, 52, 53, 54, 55, 56, 57, 97, 98, 99, 100, 101, 102] [34] 0 = some (Sum.inl ([34] ++ s.flatMap esc, ())) := h
 have := aY5 s
 rw [aw3, h']
 simp only [Option.bind_some, B9, Sum.elim_inl]
 rw [j7 (F5 (by simp only [lim, List.length_append, List.length_singleton]; omega)), au2]
 ·simp [ar2, hl]
 ·intro c hc
  simp only [List.mem_append, List.mem_cons, List.not_mem_nil, or_false, List.mem_flatMap] at hc
  rcases hc with (rfl | ⟨a, ha, hc⟩) | rfl
  ·exact ⟨by decide, by decide⟩
  ·exact aN1 a (hb a ha) c hc
  ·exact ⟨by decide, by decide⟩
theorem a10 (s : List Int) (hb : ∀ c ∈ s, isByte c) : Evt fun n => Z3 (S.tab n) s = some (ar2 s, (), ()) := by
 by_cases hl : 4000 < s.length
 ·exact Evt.up (Evt.of (p := fun _ => True) fun _ => trivial) fun n _ => by
   show Z3 (S.step (S.tab n)) _ = _
   rw [an5, j7 (by simp; omega)]
   simp [ar2, hl]
 ·refine (aN0 s [] [34] hb (by simpa using hl) (by simp; omega)).up fun n h => ?_
  show Z3 (S.step (S.tab n)) _ = _
  have h' : x6 (S.tab n) s [34] 0 = some (Sum.inl ([34] ++ s.flatMap esc, ())) := h
  have := aY5 s
  rw [an5, l9 (by simp; omega)]
  have w0 : Bld.H4 ([], 34, ()) = some (true, [34], (), ()) := rfl
  have w1 : Bld.H4 ([34] ++ s.flatMap esc, 34, ()) = some (true, [34] ++ s.flatMap esc ++ [34], (), ()) := by
   show (bif fits _ then _ else _) = _
   rw [F5 (by simp only [lim, List.length_append, List.length_singleton]; omega)]; rfl
  have hby : ∀ c ∈ [34] ++ s.flatMap esc ++ [34], isByte c := by
   intro c hc
   simp only [List.mem_append, List.mem_cons, List.not_mem_nil, or_false, List.mem_flatMap] at hc
   rcases hc with (rfl | ⟨a, ha, hc⟩) | rfl
   ·exact ⟨by decide, by decide⟩
   ·exact aN1 a (hb a ha) c hc
   ·exact ⟨by decide, by decide⟩
  have w2 : Bld.aG4 ([34] ++ s.flatMap esc ++ [34], ()) = some ([34] ++ s.flatMap esc ++ [34], (), ()) := by
   show (bif fits _ then _ else _) = _
   rw [F5 (by simp only [lim, List.length_append, List.length_singleton]; omega)]
   show some (List.map byte _, (), ()) = _
   rw [au2 hby]
  simp only [w0, Option.bind_some, h', B9, Sum.elim_inl, w1, w2]
  simp [ar2, hl]
end Go.Abs.D
end

section
namespace Go.Abs.D
theorem a04 (s : List Int) (hb : ∀ c ∈ s, isByte c) : Evt fun n => Z7 (S.tab n) s = some (ar2 s, (), ()) := by
 by_cases hl : 4000 < s.length
 ·exact Evt.up (Evt.of (p := fun _ => True) fun _ => trivial) fun n _ => by
   show Z7 (S.step (S.tab n)) _ = _
   rw [al5, j7 (by simp; omega)]
   simp [ar2, hl]
 ·refine (a05 s hb hl).up fun n h => ?_
  show Z7 (S.step (S.tab n)) _ = _
  rw [al5, l9 (by simp; omega), h]
  rfl
end Go.Abs.D
end

section
namespace Go.Abs.D
def dec (n : Int) : List Int := Lx.ints (Lib.itoa n)
def rdg : Nat → Nat → List Int
 | 0, _ => []
 | k + 1, m => bif Nat.beq m 0 then [] else (48 + ((m % 10 : Nat) : Int)) :: rdg k (m / 10)
theorem a89 : ∀ (k m : Nat), (rdg k m).length ≤ k
 | 0, m => Nat.le_refl _
 | k + 1, m => by
  unfold rdg
  cases Nat.beq m 0
  ·have := a89 k (m / 10); simp only [cond_false, List.length_cons]; omega
  ·simp
theorem aG9 : ∀ (k m : Nat), ∀ c ∈ rdg k m, isByte c
 | 0, m, c, h => by simp [rdg] at h
 | k + 1, m, c, h => by
  unfold rdg at h
  cases hm : Nat.beq m 0
  ·rw [hm] at h
   simp only [cond_false, List.mem_cons] at h
   rcases h with rfl | h
   ·exact ⟨by omega, by omega⟩
   ·exact aG9 k (m / 10) c h
  ·rw [hm] at h; simp at h
theorem aZ3 (m : Nat) (h : m < 10) : (((UInt8.ofNat (48 + m)).toNat : Nat) : Int) = 48 + (m : Int) := by
 rw [UInt8.toNat_ofNat']
 omega
theorem a34 : ∀ (k m : Nat), 0 < m → m < 10 ^ k → (rdg k m).reverse = Lx.ints (Lib.decDigits m)
 | 0, m, h0, h1 => by simp at h1; omega
 | k + 1, m, h0, h1 => by
  unfold rdg
  have hb : Nat.beq m 0 = false := by
   cases h : Nat.beq m 0
   ·rfl
   ·have := Nat.eq_of_beq_eq_true h; omega
  rw [hb]
  simp only [cond_false, List.reverse_cons]
  have hp : 10 ^ (k + 1) = 10 ^ k * 10 := Nat.pow_succ ..
  by_cases hm : m < 10
  ·have e0 : m / 10 = 0 := by omega
   have e1 : rdg k (m / 10) = [] := by rw [e0]; cases k <;> rfl
   rw [e1, Lib.decDigits, dif_pos hm]
   have e2 : m % 10 = m := by omega
   rw [e2]
   unfold Lx.ints
   simp only [List.reverse_nil, List.nil_append, List.map_cons, List.map_nil, aZ3 m hm]
  ·have e3 : Lib.decDigits m = Lib.decDigits (m / 10) ++ [UInt8.ofNat (48 + m % 10)] := by rw [Lib.decDigits, dif_neg hm]
   rw [a34 k (m / 10) (by omega) (by omega), e3]
   unfold Lx.ints
   rw [List.map_append, List.map_cons, List.map_nil, aZ3 _ (Nat.mod_lt _ (by decide))]
theorem tm (n : Int) : n.tmod 10 = if n < 0 then -((n.natAbs % 10 : Nat) : Int) else ((n.natAbs % 10 : Nat) : Int) := by
 by_cases h : n < 0
 ·rw [if_pos h]
  obtain ⟨m, rfl⟩ : ∃ m : Int, n = -m := ⟨-n, by omega⟩
  rw [Int.neg_tmod, Int.tmod_eq_emod_of_nonneg (by omega)]
  omega
 ·rw [if_neg h, Int.tmod_eq_emod_of_nonneg (by omega)]
  omega
theorem td (n : Int) : n.tdiv 10 = if n < 0 then -((n.natAbs / 10 : Nat) : Int) else ((n.natAbs / 10 : Nat) : Int) := by
 by_cases h : n < 0
 ·rw [if_pos h]
  obtain ⟨m, rfl⟩ : ∃ m : Int, n = -m := ⟨-n, by omega⟩
  rw [Int.neg_tdiv, Int.tdiv_eq_ediv_of_nonneg (by omega)]
  omega
 ·rw [if_neg h, Int.tdiv_eq_ediv_of_nonneg (by omega)]
  omega
theorem ae1 : ∀ (k : Nat) (n : Int) (neg : Bool) (o : List Int), n.natAbs < 10 ^ k → -9223372036854775808 ≤ n → n ≤ 9223372036854775807 → o.length + k ≤ 100 →
  Evt fun N => x9 (S.tab N) n neg o = some (Sum.inl (neg, o ++ rdg k n.natAbs, ()))
 | 0, n, neg, o, h0, _, _, _ => n9.up fun N _ => by
  show x9 (S.step (S.tab N)) _ _ _ = _
  have : n = 0 := by simp at h0; omega
  subst this
  rw [J6, l9 (by rfl)]
  simp [rdg]
 | k + 1, n, neg, o, h0, h1, h2, ho => by
  have hp : 10 ^ (k + 1) = 10 ^ k * 10 := Nat.pow_succ ..
  by_cases hn : n = 0
  ·subst hn
   refine n9.up fun N _ => ?_
   show x9 (S.step (S.tab N)) _ _ _ = _
   rw [J6, l9 (by rfl)]
   simp [rdg]
  ·have hb : Nat.beq n.natAbs 0 = false := by
    cases h : Nat.beq n.natAbs 0
    ·rfl
    ·have := Nat.eq_of_beq_eq_true h; omega
   have hq : (n.tdiv 10).natAbs = n.natAbs / 10 := by rw [td]; split <;> omega
   have hr1 : -9223372036854775808 ≤ n.tdiv 10 := by rw [td]; split <;> omega
   have hr2 : n.tdiv 10 ≤ 9223372036854775807 := by rw [td]; split <;> omega
   have ih := ae1 k (n.tdiv 10) neg (o ++ [48 + ((n.natAbs % 10 : Nat) : Int)]) (by omega) hr1 hr2 (by simp; omega)
   have hf : fits (o.length + 1) = true := F5 (by unfold lim; omega)
   have w3 : IntKind.i64.wrap (n.tdiv 10) = n.tdiv 10 := wrap64 _ hr1 (by omega)
   have hlt : n.natAbs % 10 < 10 := Nat.mod_lt _ (by decide)
   refine ih.up fun N ih => ?_
   show x9 (S.step (S.tab N)) _ _ _ = _
   rw [J6, j7 (by rw [decide_eq_false hn]; rfl), w3]
   have fin : o ++ [48 + ((n.natAbs % 10 : Nat) : Int)] ++ rdg k (n.tdiv 10).natAbs = o ++ rdg (k + 1) n.natAbs := by
    rw [hq]
    conv => rhs; unfold rdg
    rw [hb]; simp
   rw [fin] at ih
   by_cases hneg : n.tmod 10 < 0
   ·have e1 : 0 - n.tmod 10 = ((n.natAbs % 10 : Nat) : Int) := by rw [tm] at hneg ⊢; split at hneg <;> simp_all <;> omega
    have w1 : IntKind.i64.wrap (0 - n.tmod 10) = ((n.natAbs % 10 : Nat) : Int) := by rw [e1, wrap64 _ (by omega) (by omega)]
    rw [j7 (decide_eq_true hneg), w1, wrap64 (48 + ((n.natAbs % 10 : Nat) : Int)) (by omega) (by omega), at3 _ (by omega) (by omega), j7 (by simpa using hf)]
    exact ih
   ·have e1 : n.tmod 10 = ((n.natAbs % 10 : Nat) : Int) := by rw [tm] at hneg ⊢; split at hneg <;> simp_all <;> omega
    rw [l9 (decide_eq_false hneg), e1, wrap64 (48 + ((n.natAbs % 10 : Nat) : Int)) (by omega) (by omega), at3 _ (by omega) (by omega), j7 (by simpa using hf)]
    exact ih
theorem ac2 (ds : List Int) (hd : ∀ c ∈ ds, isByte c) (hl : ds.length ≤ 100) : ∀ (k : Nat) (o : List Int), k ≤ ds.length → o.length + k ≤ 200 →
  Evt fun N => C6 (S.tab N) ds o ((k : Int) - 1) = some (Sum.inl (o ++ (ds.take k).reverse, ()))
 | 0, o, _, _ => n9.up fun N _ => by
  show C6 (S.step (S.tab N)) _ _ _ = _
  rw [P3, l9 (by simp)]
  simp
 | k + 1, o, hk, ho => by
  have hlt : k < ds.length := by omega
  have ih := ac2 ds hd hl k (o ++ [ds[k]]) (by omega) (by simp; omega)
  refine ih.up fun N ih => ?_
  show C6 (S.step (S.tab N)) _ _ _ = _
  have e : ((k + 1 : Nat) : Int) - 1 = (k : Int) := by omega
  have hg : ds.getD (k : Int).toNat 0 = ds[k] := by
   rw [Int.toNat_natCast, List.getD_eq_getElem?_getD, List.getElem?_eq_getElem hlt]; rfl
  have hm : ([ds[k]] : List Int).map byte = [ds[k]] := au2 fun c hc => by
   have : c = ds[k] := by simpa using hc
   subst this; exact hd _ (List.getElem_mem hlt)
  rw [e, P3, j7 (by simp only [decide_eq_true_eq]; omega), j7 (j8 hlt), hg, hm, j7 (F5 (by unfold lim; simp only [List.length_singleton]; omega)), wrap64 _ (by omega) (by omega), ih]
  rw [List.take_succ_eq_append_getElem hlt, List.reverse_append, List.reverse_singleton, List.append_assoc]
theorem ac5 (ds : List Int) (hd : ∀ c ∈ ds, isByte c) (hl : ds.length ≤ 100) (o : List Int) (ho : o.length ≤ 1) : Evt fun N => E2 (S.tab N) ds o = some (Sum.inl (o ++ ds.reverse, ())) :=
 (ac2 ds hd hl ds.length o (Nat.le_refl _) (by omega)).up fun N h => by
  show E2 (S.step (S.tab N)) _ _ = _
  rw [ae0, wrap64 _ (by omega) (by omega), h, Option.bind_some]
  simp [B9]
theorem bg4 (n : Int) (h1 : -9223372036854775808 ≤ n) (h2 : n ≤ 9223372036854775807) : n.natAbs < 10 ^ 19 := by
 have : (10 : Nat) ^ 19 = 10000000000000000000 := by decide
 omega
theorem aL9 (n : Int) (h1 : -9223372036854775808 ≤ n) (h2 : n ≤ 9223372036854775807) : Evt fun N => K3 (S.tab N) n = some (dec n, K5) := by
 by_cases hn : n = 0
 ·subst hn
  refine n9.up fun N _ => ?_
  show K3 (S.step (S.tab N)) _ = _
  rw [Z4, j7 (by rfl)]
  have : dec 0 = [48] := by
   unfold dec Lib.itoa
   rw [if_neg (by decide), Lib.decDigits, dif_pos (by decide)]; rfl
  rw [this]
 ·have a := ae1 19 n (decide (n < 0)) [] (bg4 n h1 h2) h1 h2 (by simp)
  have hl := a89 19 n.natAbs
  have b1 := ac5 (rdg 19 n.natAbs) (aG9 _ _) (by omega) [45] (by simp)
  have b2 := ac5 (rdg 19 n.natAbs) (aG9 _ _) (by omega) [] (by simp)
  have hd := a34 19 n.natAbs (by omega) (bg4 n h1 h2)
  refine ((a.and b1).and b2).up fun N ⟨⟨a, b1⟩, b2⟩ => ?_
  show K3 (S.step (S.tab N)) _ = _
  rw [Z4, l9 (decide_eq_false hn), a, Option.bind_some]
  simp only [B9, Sum.elim_inl, List.nil_append]
  by_cases hneg : n < 0
  ·rw [j7 (decide_eq_true hneg), b1, Option.bind_some]
   simp only [Sum.elim_inl]
   rw [hd]
   unfold dec Lib.itoa
   rw [if_pos hneg]; rfl
  ·rw [l9 (decide_eq_false hneg), b2, Option.bind_some]
   simp only [Sum.elim_inl]
   rw [hd]
   unfold dec Lib.itoa
   rw [if_neg hneg]
   have : n.natAbs = n.toNat := by omega
   rw [this]; rfl
theorem aH7 (n : Int) (h1 : -9223372036854775808 ≤ n) (h2 : n ≤ 9223372036854775807) : Lx.N6 (n, 10, ()) = some (dec n, (), (), ()) := by
 unfold Lx.N6
 simp only [decide_true, decide_eq_true h1, decide_eq_true h2, Bool.and_self, cond_true]; rfl
end Go.Abs.D
end

section
namespace Go.Abs.D
theorem bm9 (x : Int) (h0 : 0 ≤ x) (h1 : x < 18446744073709551616) : intBits .and .u64 x 15 = x % 16 := by
 obtain ⟨m, rfl⟩ : ∃ m : Nat, x = (m : Int) := ⟨x.toNat, by omega⟩
 have e1 : (BitVec.ofInt IntKind.u64.bits (m : Int) &&& BitVec.ofInt IntKind.u64.bits 15).toNat = m % 16 := by
  have hb : IntKind.u64.bits = 64 := rfl
  rw [BitVec.toNat_and]
  have ea : (BitVec.ofInt IntKind.u64.bits (m : Int)).toNat = m := by
   rw [BitVec.toNat_ofInt, hb]
   omega
  have eb : (BitVec.ofInt IntKind.u64.bits 15).toNat = 15 := by decide
  rw [ea, eb]
  exact Nat.and_two_pow_sub_one_eq_mod m 4
 show IntKind.u64.wrap _ = _
 rw [e1]
 have : IntKind.u64.wrap ((m % 16 : Nat) : Int) = ((m % 16 : Nat) : Int) % 18446744073709551616 := rfl
 rw [this]
 omega
def T2 : List Int := [48, 49, 50, 51, 52, 53, 54, 55, 56, 57, 97, 98, 99, 100, 101, 102]
def hx : Nat → Nat → List Int
 | 0, _ => []
 | k + 1, m => T2.getD (m / 16 ^ k % 16) 0 :: hx k m
theorem au6 : ∀ n : Nat, n < 16 → Lx.hexDigit n = T2.getD n 0 := by
 have h : ∀ n : Fin 16, Lx.hexDigit n.1 = T2.getD n.1 0 := by decide
 exact fun n hn => h ⟨n, hn⟩
theorem aR8 : ∀ n : Nat, n < 16 → isByte (T2.getD n 0) := by
 have h : ∀ n : Fin 16, 0 ≤ T2.getD n.1 0 ∧ T2.getD n.1 0 < 256 := by decide
 exact fun n hn => h ⟨n, hn⟩
theorem ba9 : ∀ (k m : Nat), hx (k + 1) m = hx k (m / 16) ++ [T2.getD (m % 16) 0]
 | 0, m => by simp [hx]
 | k + 1, m => by
  have ih := ba9 k m
  show T2.getD (m / 16 ^ (k + 1) % 16) 0 :: hx (k + 1) m = (T2.getD (m / 16 / 16 ^ k % 16) 0 :: hx k (m / 16)) ++ _
  rw [ih, Nat.div_div_eq_div_mul, Nat.pow_succ, Nat.mul_comm 16]; rfl
theorem aD3 : ∀ (k m : Nat) (acc : List Int), (k = 0 ∨ 16 ^ k ≤ m) → m < 16 ^ (k + 1) → Lx.ae4 (k + 1) m acc = hx (k + 1) m ++ acc
 | 0, m, acc, _, h => by
  have h : m < 16 := by simpa using h
  unfold Lx.ae4
  have : Nat.blt m 16 = true := Nat.ble_eq_true_of_le h
  simp only [this, cond_true, hx]
  rw [au6 _ (Nat.mod_lt _ (by decide))]
  simp
 | k + 1, m, acc, h0, h => by
  have hp : 16 ^ (k + 1 + 1) = 16 ^ (k + 1) * 16 := Nat.pow_succ ..
  have hp2 : 16 ^ (k + 1) = 16 ^ k * 16 := Nat.pow_succ ..
  have h0 : 16 ^ (k + 1) ≤ m := by rcases h0 with h | h; cases h; exact h
  have hpos : 0 < 16 ^ k := Nat.pow_pos (by decide)
  have hbig : ¬ m < 16 := by omega
  unfold Lx.ae4
  have : Nat.blt m 16 = false := by
   cases hb : Nat.blt m 16
   ·rfl
   ·exact absurd (Nat.le_of_ble_eq_true hb) hbig
  simp only [this, cond_false]
  rw [aD3 k (m / 16) _ (.inr (by omega)) (by omega), ba9 (k + 1) m, au6 _ (Nat.mod_lt _ (by decide))]
  simp
theorem aw5 (n : Int) (h1 : -9223372036854775808 ≤ n) (h2 : n ≤ 9223372036854775807) : ∀ (k : Nat) (o : List Int), k ≤ 16 → o.length + k ≤ 100 →
  Evt fun N => G9 (S.tab N) n T2 o (4 * (k : Int) - 4) = some (Sum.inl (o ++ hx k (IntKind.u64.wrap n).toNat, ()))
 | 0, o, _, _ => n9.up fun N _ => by
  show G9 (S.step (S.tab N)) _ _ _ _ = _
  rw [ac6, l9 (by simp)]
  simp [hx]
 | k + 1, o, hk, ho => by
  have hu : IntKind.u64.wrap n = n % 18446744073709551616 := rfl
  have hu0 : 0 ≤ IntKind.u64.wrap n := by rw [hu]; omega
  have hu1 : IntKind.u64.wrap n < 18446744073709551616 := by rw [hu]; omega
  have ih := aw5 n h1 h2 k (o ++ [T2.getD ((IntKind.u64.wrap n).toNat / 16 ^ k % 16) 0]) (by omega) (by simp; omega)
  generalize hU : IntKind.u64.wrap n = u at hu0 hu1 ih ⊢
  obtain ⟨m, rfl⟩ : ∃ m : Nat, u = (m : Int) := ⟨u.toNat, by omega⟩
  have w1 : IntKind.u64.wrap (4 * ((k + 1 : Nat) : Int) - 4) = ((4 * k : Nat) : Int) := by
   have e : IntKind.u64.wrap (4 * ((k + 1 : Nat) : Int) - 4) = (4 * ((k + 1 : Nat) : Int) - 4) % 18446744073709551616 := rfl
   rw [e]; omega
  have hmin : min ((4 * k : Nat) : Int).toNat IntKind.u64.bits = 4 * k := by
   have : IntKind.u64.bits = 64 := rfl
   rw [this, Int.toNat_natCast]; omega
  have hpow : (2 : Int) ^ (4 * k) = ((16 ^ k : Nat) : Int) := by
   rw [Int.pow_mul]
   push_cast
   rfl
  have hdiv : (m : Int).fdiv (2 ^ min ((4 * k : Nat) : Int).toNat IntKind.u64.bits) = ((m / 16 ^ k : Nat) : Int) := by
   rw [hmin, hpow, Int.fdiv_eq_ediv_of_nonneg _ (Int.natCast_nonneg _)]
   rfl
  have hle : m / 16 ^ k ≤ m := Nat.div_le_self _ _
  have handq : ∀ q : Nat, q ≤ m → intBits .and .u64 (q : Int) 15 = ((q % 16 : Nat) : Int) := fun q hq => by rw [bm9 _ (by omega) (by omega)]; rfl
  have hand : intBits .and .u64 ((m / 16 ^ k : Nat) : Int) 15 = ((m / 16 ^ k % 16 : Nat) : Int) := handq _ hle
  have hlt : m / 16 ^ k % 16 < 16 := Nat.mod_lt _ (by decide)
  have hmap : ([T2.getD (m / 16 ^ k % 16) 0] : List Int).map byte = [T2.getD (m / 16 ^ k % 16) 0] := au2 fun c hc => by
   have : c = T2.getD (m / 16 ^ k % 16) 0 := by simpa using hc
   subst this; exact aR8 _ hlt
  have e4 : IntKind.i64.wrap (4 * ((k + 1 : Nat) : Int) - 4 - 4) = 4 * (k : Int) - 4 := by rw [wrap64 _ (by omega) (by omega)]; omega
  refine ih.up fun N ih => ?_
  show G9 (S.step (S.tab N)) _ _ _ _ = _
  rw [ac6, hU, w1, hdiv, hand, j7 (by simp only [decide_eq_true_eq]; omega), j7 (by simp only [decide_eq_true_eq]; omega), Int.toNat_natCast, hmap,
   j7 (by show (decide (0 ≤ ((m / 16 ^ k % 16 : Nat) : Int)) && decide (((m / 16 ^ k % 16 : Nat) : Int) < 16)) = true; simp only [Bool.and_eq_true, decide_eq_true_eq]; omega),
   j7 (F5 (by unfold lim; simp only [List.length_singleton]; omega)), e4]
  have hn : (m : Int).toNat = m := Int.toNat_natCast m
  rw [hn] at ih ⊢
  rw [ih]
  simp [hx]
def bl2 (n : Int) : List Int := bif decide (0 ≤ n) then dec n else [48, 120] ++ hx 16 (IntKind.u64.wrap n).toNat
theorem bc6 (n : Int) (h1 : -9223372036854775808 ≤ n) (h2 : n ≤ 9223372036854775807) : Evt fun N => af4 (S.tab N) n = some (bl2 n, af1) :=
 ((aL9 n h1 h2).and (aw5 n h1 h2 16 [48, 120] (by decide) (by decide))).up fun N ⟨a, b⟩ => by
  show af4 (S.step (S.tab N)) _ = _
  unfold bl2
  rw [aG8]
  by_cases h : 0 ≤ n
  ·rw [j7 (decide_eq_true h), a, decide_eq_true h]; rfl
  ·rw [l9 (decide_eq_false h), decide_eq_false h]
   show (G9 (S.tab N) n T2 [48, 120] (4 * ((16 : Nat) : Int) - 4)).bind _ = _
   rw [b]; rfl
end Go.Abs.D
end

section
namespace Go.Abs.D
def fxI (t : Int) : List Int := bif decide (0 ≤ t) && decide (t ≤ 78) then fx t.toNat else []
theorem bb7 (t : Int) : Evt fun n => N4 (S.tab n) t = some (fxI t, I1) := by
 by_cases h : 0 ≤ t ∧ t ≤ 78
 ·refine aZ5.mono fun n hf => ?_
  have := hf t.toNat (by omega)
  rw [Int.toNat_of_nonneg h.1] at this
  unfold fxI
  rw [decide_eq_true h.1, decide_eq_true h.2]
  exact this
 ·refine bm5.up fun n hi => ?_
  show N4 (S.step (S.tab n)) _ = _
  have e : (decide (0 ≤ t) && decide (t ≤ 78)) = false := by simp only [Bool.and_eq_false_iff, decide_eq_false_iff_not]; omega
  unfold fxI
  rw [e, an8, hi, Option.bind_some, l9 (by simp only [Bool.and_eq_false_iff, decide_eq_false_iff_not]; omega), hi, Option.bind_some, l9 (by simp only [Bool.and_eq_false_iff, decide_eq_false_iff_not]; omega),
   hi, Option.bind_some, l9 (by simp only [Bool.and_eq_false_iff, decide_eq_false_iff_not]; omega), l9 (by simp only [decide_eq_false_iff_not]; omega)]; rfl
def tq (t : Int) (k : Nat) : Bool := decide (k < 30) && !decide (((sgn (l7.getD k []) : Nat) : Int) = t)
def bo3 (t : Int) : List Int := bif decide (stop (tq t) 30 0 < 30) then l7.getD (stop (tq t) 30 0) [] else []
theorem a16 (t : Int) : Evt fun n => u6 (S.tab n) t l7 30 0 = some (bif decide (stop (tq t) 30 0 < 30) then Sum.inl (l7.getD (stop (tq t) 30 0) [], ()) else Sum.inr (Sum.inl ())) := by
 have hp : Evt fun n => ∀ f ∈ l7, F0 (S.tab n) f = some ((sgn f : Int), E6) := aR5 l7 sign_one
 refine adv (F := fun T (j : Nat) => u6 T t l7 30 (j : Int)) (q := tq t) (N := 30) (p := fun T => ∀ f ∈ l7, F0 T f = some ((sgn f : Int), E6))
  (out := fun k => bif decide (k < 30) then Sum.inl (l7.getD k [], ()) else Sum.inr (Sum.inl ())) hp (fun j h => by unfold tq; rw [decide_eq_false (by omega)]; rfl) ?_ ?_ 30 0 (by omega)
 ·intro T j hs hq
  unfold tq at hq
  simp only [Bool.and_eq_true, decide_eq_true_eq, Bool.not_eq_true', decide_eq_false_iff_not] at hq
  have hj : j < l7.length := hq.1
  have hm : l7.getD j [] ∈ l7 := by
   rw [List.getD_eq_getElem?_getD, List.getElem?_eq_getElem hj]
   exact List.getElem_mem hj
  show u6 (S.step T) t l7 30 j = u6 T t l7 30 ((j + 1 : Nat) : Int)
  have h30 := hq.1
  rw [X9, j7 (by simp only [decide_eq_true_eq]; omega), j7 (j8 hj), Int.toNat_natCast, hs _ hm, Option.bind_some, l9 (decide_eq_false hq.2), H9 (by omega)]
 ·intro T j hs hq
  show u6 (S.step T) t l7 30 j = _
  rw [X9]
  by_cases h30 : j < 30
  ·have hj : j < l7.length := h30
   have hm : l7.getD j [] ∈ l7 := by
    rw [List.getD_eq_getElem?_getD, List.getElem?_eq_getElem hj]
    exact List.getElem_mem hj
   unfold tq at hq
   rw [decide_eq_true h30, Bool.true_and, Bool.not_eq_false', decide_eq_true_eq] at hq
   rw [j7 (by simp only [decide_eq_true_eq]; omega), j7 (j8 hj), Int.toNat_natCast, hs _ hm, Option.bind_some, j7 (decide_eq_true hq), decide_eq_true h30]; rfl
  ·rw [l9 (by simp only [decide_eq_false_iff_not]; omega), decide_eq_false h30]; rfl
theorem bq6 : ∀ k : Nat, k < 30 → 5 ≤ sgn (l7.getD k []) ∧ sgn (l7.getD k []) ≤ 78 := by
 have h : ∀ k : Fin 30, 5 ≤ sgn (l7.getD k.1 []) ∧ sgn (l7.getD k.1 []) ≤ 78 := by decide +kernel
 exact fun k hk => h ⟨k, hk⟩
theorem bc8 (t : Int) (h5 : t ≠ 5) (hw : ¬ (10 ≤ t ∧ t ≤ 31)) : bo3 t = fxI t := by
 by_cases h : 0 ≤ t ∧ t ≤ 78
 ·have key : ∀ k : Fin 79, k.1 ≠ 5 → ¬ (10 ≤ k.1 ∧ k.1 ≤ 31) → bo3 (k.1 : Int) = fxI (k.1 : Int) := by decide +kernel
  have := key ⟨t.toNat, by omega⟩ (by show t.toNat ≠ 5; omega) (by show ¬ (10 ≤ t.toNat ∧ t.toNat ≤ 31); omega)
  have e : ((t.toNat : Nat) : Int) = t := Int.toNat_of_nonneg h.1
  simpa only [e] using this
 ·have hall : ∀ k, k < 30 → tq t k = true := fun k hk => by
   have := bq6 k hk
   unfold tq
   rw [decide_eq_true hk, Bool.true_and, decide_eq_false (by omega)]; rfl
  have hst : ¬ stop (tq t) 30 0 < 30 := fun hlt => by
   have := aH4 (q := tq t) (N := 30) (fun j hj => by unfold tq; rw [decide_eq_false (by omega)]; rfl) 30 0 (by omega)
   rw [hall _ hlt] at this; cases this
  unfold bo3 fxI
  rw [decide_eq_false hst, show (decide (0 ≤ t) && decide (t ≤ 78)) = false by simp only [Bool.and_eq_false_iff, decide_eq_false_iff_not]; omega]; rfl
theorem bn2 : Evt fun n => Base1 (S.tab n) := Evt.up (Evt.of (p := fun _ => True) fun _ => trivial) fun n _ => ag2 _
theorem bb5 (t : Int) (h1 : -9223372036854775808 ≤ t) (h2 : t ≤ 9223372036854775807) : Evt fun n => T9 (S.tab n) t = some (fxI t, A1) := by
 by_cases h5 : t = 5
 ·subst h5
  refine n9.up fun n _ => ?_
  show T9 (S.step (S.tab n)) _ = _
  rw [ah5, j7 (by rfl)]; rfl
 refine ((a16 t).and (aY0.and bn2)).up fun n ⟨h7, hsg, hb⟩ => ?_
 show T9 (S.step (S.tab n)) _ = _
 rw [ah5, l9 (decide_eq_false h5), hb.words, Option.bind_some]
 by_cases hw : 10 ≤ t ∧ t ≤ 31
 ·have e : IntKind.i64.wrap (t - 10) = ((t.toNat - 10 : Nat) : Int) := by rw [wrap64 _ (by omega) (by omega)]; omega
  have wl : IntKind.i64.wrap (10 + ((Lx.words.length : Nat) : Int)) = 32 := rfl
  rw [j7 (decide_eq_true hw.1)]
  show brk (decide (t < IntKind.i64.wrap (10 + ((Lx.words.length : Nat) : Int)))) (brk (decide (0 ≤ IntKind.i64.wrap (t - 10)) && decide (IntKind.i64.wrap (t - 10) < ((Lx.words.length : Nat) : Int))) (some (Lx.words.getD (IntKind.i64.wrap (t - 10)).toNat [], A1)) none) _ = _
  rw [wl, j7 (decide_eq_true (by omega)), e, j7 (j8 (show t.toNat - 10 < Lx.words.length by show t.toNat - 10 < 22; omega)), Int.toNat_natCast]
  unfold fxI fx
  rw [decide_eq_true (show 0 ≤ t by omega), decide_eq_true (show t ≤ 78 by omega), decide_eq_true (show 10 ≤ t.toNat by omega), decide_eq_true (show t.toNat ≤ 31 by omega)]; rfl
 ·have fin : (I3 (S.tab n)).bind (fun d23 => (u6 (S.tab n) t d23.1 (d23.1.length : Int) (0 : Int)).bind (aa5 (fun y7 => some (y7.1, A1)) (fun y7 => some (([] : List Int), A1)))) = some (fxI t, A1) := by
   rw [hsg, Option.bind_some]
   show (u6 (S.tab n) t l7 30 0).bind _ = _
   rw [h7, Option.bind_some, ← bc8 t h5 hw]
   unfold bo3
   cases decide (stop (tq t) 30 0 < 30) <;> rfl
  by_cases h10 : 10 ≤ t
  ·rw [j7 (decide_eq_true h10)]
   have wl : IntKind.i64.wrap (10 + ((Lx.words.length : Nat) : Int)) = 32 := rfl
   show brk (decide (t < IntKind.i64.wrap (10 + ((Lx.words.length : Nat) : Int)))) _ _ = _
   rw [wl, l9 (decide_eq_false (by omega))]
   exact fin
  ·rw [l9 (decide_eq_false h10)]
   exact fin
def bg3 (x : j2.den) : List Int :=
 bif decide (x.1 = 1) then (bif ax7 1 x.2.2.2.2.2.1 then x.2.2.2.2.2.1 else ([] : List Int)) else
 bif decide (x.1 = 3) then (bif ax7 3 x.2.2.2.2.2.1 then x.2.2.2.2.2.1 else ([] : List Int)) else
 bif decide (x.1 = 2) then bl2 x.2.2.2.2.1 else
 bif decide (x.1 = 4) then ar2 x.2.2.2.2.2.1 else
 bif decide (x.1 = 7) then [10] else fxI x.1
structure TokIn (x : j2.den) : Prop where
 kind : -9223372036854775808 ≤ x.1 ∧ x.1 ≤ 9223372036854775807
 num : -9223372036854775808 ≤ x.2.2.2.2.1 ∧ x.2.2.2.2.1 ≤ 9223372036854775807
 text : ∀ c ∈ (x.2.2.2.2.2.1 : List Int), isByte c
theorem bd1 {x : j2.den} (h : TokIn x) : Evt fun n => O3 (S.tab n) x = some (bg3 x, w9) := by
 refine ((((a45 (s := x.2.2.2.2.2.1)).and (be9 (s := x.2.2.2.2.2.1))).and ((bc6 _ h.num.1 h.num.2).and (a04 _ h.text))).and (bb5 _ h.kind.1 h.kind.2)).up fun n ⟨⟨⟨a, b⟩, c, d⟩, e⟩ => ?_
 show O3 (S.step (S.tab n)) _ = _
 rw [ao5, a, b, c, d, e]
 simp only [Option.bind_some, D0, bg3]
 by_cases h1 : x.1 = 1
 ·rw [decide_eq_true h1]
  cases ax7 1 x.2.2.2.2.2.1 <;> rfl
 rw [decide_eq_false h1]
 by_cases h3 : x.1 = 3
 ·rw [decide_eq_false (show ¬ x.1 = 2 by rw [h3]; decide), decide_eq_true h3]
  cases ax7 3 x.2.2.2.2.2.1 <;> rfl
 rw [decide_eq_false h3]
 cases decide (x.1 = 2) <;> cases decide (x.1 = 4) <;> cases decide (x.1 = 7) <;> rfl
theorem bo6 (n : Int) (h1 : -9223372036854775808 ≤ n) (h2 : n < 0) : Lx.L5 ([], IntKind.u64.wrap n, 16, false, false, ()) = some (([], hx 16 (IntKind.u64.wrap n).toNat, ()), (), (), (), (), (), ()) := by
 have hu : IntKind.u64.wrap n = n % 18446744073709551616 := rfl
 have a : (9223372036854775808 : Int) ≤ IntKind.u64.wrap n := by rw [hu]; omega
 have b : IntKind.u64.wrap n ≤ 18446744073709551615 := by rw [hu]; omega
 have e15 : (16 : Nat) ^ 15 = 1152921504606846976 := by decide
 have e16 : (16 : Nat) ^ 16 = 18446744073709551616 := by decide
 unfold Lx.L5
 simp only [decide_true, decide_eq_true a, decide_eq_true b, Bool.and_self, Bool.not_false, List.isEmpty_nil, cond_true]
 rw [aD3 15 _ [] (.inr (by omega)) (by omega), List.append_nil]
theorem bq3 (n : Int) (h1 : -9223372036854775808 ≤ n) (h2 : n < 0) : Evt fun N => H6 (S.tab N) (IntKind.u64.wrap n) 16 = some (hx 16 (IntKind.u64.wrap n).toNat, S0) := by
 have hi : Evt fun N => F2 (S.tab N) (IntKind.u64.wrap n) 16 = some (hx 16 (IntKind.u64.wrap n).toNat, N2) := n9.up fun N _ => by
  show F2 (S.step (S.tab N)) _ _ = _
  rw [aa7, l9 (by rfl), bo6 n h1 h2]; rfl
 exact hi.up fun N h => by
  show H6 (S.step (S.tab N)) _ _ = _
  rw [ad1, h]; rfl
theorem bg7 : ∀ (k m : Nat), (hx k m).length = k
 | 0, _ => rfl
 | k + 1, m => by simp [hx, bg7 k m]
theorem bd8 {x : j2.den} (h : TokIn x) (hl : List.length (α := Int) x.2.2.2.2.2.1 ≤ 2097152) : Evt fun n => D6 (S.tab n) x = some (bg3 x, r9) := by
 have hq := a10 x.2.2.2.2.2.1 h.text
 have hg := aS4 (s := x.2.2.2.2.2.1) h.text
 have hf := aM8 (s := x.2.2.2.2.2.1) h.text
 have hfx := bb7 x.1
 by_cases h1 : x.1 = 1
 ·refine hg.up fun n hg => ?_
  show D6 (S.step (S.tab n)) _ = _
  rw [F7, j7 (decide_eq_true h1), hg, Option.bind_some]
  unfold bg3
  rw [decide_eq_true h1]
  cases ax7 1 x.2.2.2.2.2.1
  ·rw [l9 (by rfl)]; rfl
  ·rw [j7 (by rfl)]; rfl
 by_cases h3 : x.1 = 3
 ·refine hf.up fun n hf => ?_
  show D6 (S.step (S.tab n)) _ = _
  rw [F7, l9 (decide_eq_false h1), j7 (decide_eq_true h3), hf, Option.bind_some]
  unfold bg3
  rw [decide_eq_false h1, decide_eq_true h3]
  cases ax7 3 x.2.2.2.2.2.1
  ·rw [l9 (by rfl)]; rfl
  ·rw [j7 (by rfl)]; rfl
 by_cases h2 : x.1 = 2
 ·by_cases hn : 0 ≤ x.2.2.2.2.1
  ·refine n9.up fun n _ => ?_
   show D6 (S.step (S.tab n)) _ = _
   rw [F7, l9 (decide_eq_false h1), l9 (decide_eq_false h3), j7 (decide_eq_true h2), j7 (decide_eq_true hn), aH7 _ h.num.1 h.num.2, Option.bind_some]
   unfold bg3 bl2
   rw [decide_eq_false h1, decide_eq_false h3, decide_eq_true h2, decide_eq_true hn]; rfl
  ·refine (bq3 x.2.2.2.2.1 h.num.1 (Int.not_le.1 hn)).up fun n hu => ?_
   show D6 (S.step (S.tab n)) _ = _
   rw [F7, l9 (decide_eq_false h1), l9 (decide_eq_false h3), j7 (decide_eq_true h2), l9 (decide_eq_false hn), hu, Option.bind_some]
   dsimp only
   rw [j7 (F5 (by rw [bg7]; decide))]
   unfold bg3 bl2
   rw [decide_eq_false h1, decide_eq_false h3, decide_eq_true h2, decide_eq_false hn]; rfl
 refine (hq.and hfx).up fun n ⟨hq, hfx⟩ => ?_
 show D6 (S.step (S.tab n)) _ = _
 rw [F7, l9 (decide_eq_false h1), l9 (decide_eq_false h3), l9 (decide_eq_false h2), hq, hfx]
 simp only [Option.bind_some]
 unfold bg3
 rw [decide_eq_false h1, decide_eq_false h3, decide_eq_false h2]
 by_cases h4 : x.1 = 4
 ·rw [j7 (decide_eq_true h4), decide_eq_true h4]; rfl
 rw [l9 (decide_eq_false h4), decide_eq_false h4]
 by_cases h7 : x.1 = 7
 ·rw [j7 (decide_eq_true h7), decide_eq_true h7]; rfl
 ·rw [l9 (decide_eq_false h7), decide_eq_false h7]; rfl
theorem bh7 (x : j2.den) (h : TokIn x) (hm : List.length (α := Int) x.2.2.2.2.2.1 ≤ maxLen) : Evt fun n => E5 (S.tab n) x = some (true, D3) := by
 have hm' := hm
 unfold maxLen at hm'
 have w : IntKind.i64.wrap (1048576 - (List.length (α := Int) x.2.2.2.2.2.1 : Int)) = 1048576 - (List.length (α := Int) x.2.2.2.2.2.1 : Int) := wrap64 _ (by omega) (by omega)
 by_cases hd : 1048576 - (List.length (α := Int) x.2.2.2.2.2.1 : Int) < 0
 ·have hsz : Evt fun n => L7 (S.tab n) x 1048576 = some (-1, O6) := n9.up fun n _ => by
   show L7 (S.step (S.tab n)) _ _ = _
   rw [ad7, w, j7 (decide_eq_true hd)]
  refine hsz.up fun n h => ?_
  show E5 (S.step (S.tab n)) _ = _
  rw [M1, h, Option.bind_some, j7 (by rfl)]
 ·have hl : List.length (α := Int) x.2.2.2.2.2.1 ≤ 2097152 := by omega
  have hsz : Evt fun n => L7 (S.tab n) x 1048576 = some (1048576 - (List.length (α := Int) x.2.2.2.2.2.1 : Int), O6) := n9.up fun n _ => by
   show L7 (S.step (S.tab n)) _ _ = _
   rw [ad7, w, l9 (decide_eq_false hd)]
  have hto : Evt fun n => P7 (S.tab n) x = some (x, ah8) := n9.up fun n _ => by
   show P7 (S.step (S.tab n)) _ = _
   rw [ax3]
  refine ((hsz.and hto).and ((bd1 h).and (bd8 h hl))).up fun n ⟨⟨h1, ht⟩, hs, hi⟩ => ?_
  show E5 (S.step (S.tab n)) _ = _
  rw [M1, h1, Option.bind_some, l9 (decide_eq_false hd), ht, Option.bind_some]
  dsimp only
  rw [hs, Option.bind_some, Option.bind_some]
  dsimp only
  rw [hi, Option.bind_some, l9 (by simp)]
end Go.Abs.D
end

section
namespace Go.Abs.D
theorem tokIn_of {x : j2.den} (h : Good j2 x) : TokIn x := by
 obtain ⟨h1, h2, h3, h4, h5, h6, _⟩ := h
 exact ⟨h1, h5, h6.1⟩
theorem pass_tok {imm : Rd} {w : World} {x : j2.den} {cs : List Value} (h : Rc imm j2 x cs) : Pass imm w (.pr (.pub (.int .i64)) (.pr (.pub (.int .i64)) (.pr (.pub (.int .i64)) (.pr (.pub (.int .i64)) (.pr (.pub (.int .i64)) (.pr (.pub .str) .un)))))) x (0, 0) cs [] := by
 obtain ⟨a1, b1, rfl, h1, a2, b2, rfl, h2, a3, b3, rfl, h3, a4, b4, rfl, h4, a5, b5, rfl, h5, a6, b6, rfl, ⟨s, rfl, h6⟩, h7⟩ := h
 have h1 : _ = _ := h1
 have h2 : _ = _ := h2
 have h3 : _ = _ := h3
 have h4 : _ = _ := h4
 have h5 : _ = _ := h5
 have h7 : _ = _ := h7
 subst h1; subst h2; subst h3; subst h4; subst h5; subst h7
 exact ⟨_, _, [], [], rfl, rfl, ⟨rfl, rfl, _, rfl, rfl⟩, _, _, [], [], rfl, rfl, ⟨rfl, rfl, _, rfl, rfl⟩, _, _, [], [], rfl, rfl, ⟨rfl, rfl, _, rfl, rfl⟩, _, _, [], [], rfl, rfl, ⟨rfl, rfl, _, rfl, rfl⟩, _, _, [], [], rfl, rfl, ⟨rfl, rfl, _, rfl, rfl⟩, _, _, [], [], rfl, rfl, ⟨rfl, rfl, _, rfl, s, rfl, h6⟩, rfl, rfl⟩
end Go.Abs.D
namespace Go.Proofs.YtmallmelcmejeaaDoor
open Go.ChangeShapes Go.WideShapes Go.ChangeAt Go.RowKit
set_option maxRecDepth 100000 in
theorem walk_it (W : World) (hL : laidMetH Tryd.prog Rows.fnExactTokenTextRow.laid W) (c0 : Array Value) (x0 : Abs.D.j2.den) (hR0 : Abs.Rc (Abs.snap W) Abs.D.j2 x0 c0.toList) (hG0 : Abs.Good Abs.D.j2 x0) : Calls Tryd.prog 5 #[.agg c0] W fun e w' => e = .returned (.bool true) ∧ Below W.heap.size W w' := by
 obtain ⟨N, h⟩ := Abs.D.bh7 x0 (Abs.D.tokIn_of hG0) hG0.2.2.2.2.2.1.2
 have hok := (sys N).fn 5 (by kernel_rfl) (x0, ()) (true, (((), (), (), (), (), (), ()), ())) (h N (Nat.le_refl N)) (Abs.snap W) W [.agg c0] [] (bk7 hL) (fun b L hb => Abs.a94 hb)
  ⟨_, _, [], [], rfl, rfl, ⟨c0.toList, rfl, Abs.D.pass_tok hR0⟩, ⟨rfl, rfl⟩⟩ List.nodup_nil (fun b hb => by simp at hb) (Abs.aO5.none rfl)
 refine (Abs.at2 Tryd.func5 rfl (by kernel_rfl) hok).mono ?_
 rintro e w' ⟨v, rfl, imm', n1, n2, A, ⟨_, h1, _, u, e2, h2⟩, h3⟩
 injection e2 with e2 _
 subst e2
 have h2 : [v] = [Value.bool true] := h2
 injection h2 with h2 _
 subst h2
 exact ⟨rfl, A.below⟩
set_option maxRecDepth 100000 in
theorem lifted_it (os : Os) (started : os.Started) (H : Type) (enc : TypeId × Value → H) :
  ReturnsInHanded {} Tryd.checked os 5 .any (fun w args => (Rows.fnExactTokenTextSpec.pre enc Tryd.prog Tryd.f5 Rows.fnExactTokenTextRow.domain false w args ∧ laidMetH Tryd.prog Rows.fnExactTokenTextRow.laid w) ∧ sizedMet enc Tryd.prog Tryd.f5 (OpenSpec.ofChange Rows.fnExactTokenTextSpec) false w args)
   (Rows.fnExactTokenTextSpec.post enc Tryd.prog Tryd.f5 false true false false) := by
 refine returnsInHanded_of_change_and (C := Tryd.checked) (X := fun w _ => laidMetH Tryd.prog Rows.fnExactTokenTextRow.laid w) (fun _ _ _ hh h => h.of_heap hh) own started (by kernel_rfl) Tryd.func5
  (ChangeSpec.witness_shaped (enc := enc) (C := Tryd.checked) (os := os) (X := fun w _ => laidMetH Tryd.prog Rows.fnExactTokenTextRow.laid w) false (World.laidAll Tryd.prog os Rows.fnExactTokenTextRow.laid) #[.agg #[.int .i64 0, .int .i64 0, .int .i64 0, .int .i64 0, .int .i64 0, .string ByteArray.empty]] 8 (World.laidAll_os _ _ _)
   (World.shaped_of_ZipB (by kernel_rfl) (by kernel_rfl)) (by kernel_rfl) (by kernel_rfl) (by kernel_rfl)
   (by rw [MakeChecks.laidMetH_plain _ _ _ (by kernel_rfl)]; exact laidMet_laidAll _ (by kernel_rfl) (by kernel_rfl))) ?_
 intro W base args ds gs before hval0 hW _ _ hL _
 have hval : ∀ (j : Nat) t v, Tryd.f5.params[j]? = some t → args[j]? = some v → Value.okWide Tryd.prog W .any base t v := hval0
 have hW' := hW
 obtain ⟨p, q, hA0, hV, rfl, hfz, hnd⟩ := hW
 have hA : DataW.TrodAll enc Tryd.prog W 0 (fun _ => true) true Tryd.f5.params.toList args.toList ds p := hA0
 rw [Tryd.params5] at hA hval
 obtain ⟨v0, vs0, d0, ds0, p0, q0, hargs0, rfl, rfl, h0, r0⟩ := trodAll_cons hA
 obtain ⟨rfl, rfl, rfl⟩ := trodAll_nil r0
 obtain rfl : args = #[v0] := by cases args; simp_all
 have h0k := h0
 obtain ⟨fuel0, hf0⟩ := h0
 obtain ⟨cs0, rfl⟩ := aV3 Tryd.underlying35 (hval 0 35 v0 rfl rfl)
 obtain ⟨hR0, hG0⟩ := Abs.aG7 5 fuel0 35 (Abs.D.j2) _ _ (by kernel_rfl) hf0
 have hlt0 : ∀ x ∈ p0, x.block < W.heap.size := fun x hx => by simpa using hW'.lt x (List.mem_append_left _ (List.mem_append_left _ hx))
 have hV3 := ar8 hV
 match gs, hV3, hV, hW' with
 | [g1, g2, g3], _, hV, hW' =>
  clear hA0 hval0
  refine (walk_it W hL cs0 _ hR0 hG0).mono fun e W' ⟨he, bel⟩ => ?_
  subst he
  exact ⟨_, rfl, _, _, _, [], _, _, hW', trodAll_mk1 (shut_bool Tryd.underlying4 _), (trodAll_cons_mk (Below.trod laidOut (by kernel_rfl) (of_decide_eq_true (by kernel_rfl)) h0k bel hlt0) trodAll_mk0), Below.trodVars laidOut bel (by kernel_rfl) hV, bel.frame _, fun h => by cases h⟩
theorem row_it : Rows.FnExactTokenTextSaid :=
 OpenClaim.holds_of_wide 5 Tryd.f5 rfl rfl rfl rfl rfl rfl rfl ⟨rfl, rfl, rfl, rfl, rfl⟩ rfl rfl rfl rfl rfl (by kernel_rfl) Tryd.func5 (by kernel_rfl)
  (of_decide_eq_true (by kernel_rfl)) (by unfold Func.isWrapper; first | (rw [if_pos (by decide +kernel)]; kernel_rfl) | (rw [if_neg (by decide +kernel)]; exact ⟨rfl, rfl⟩))
  (fun os started H enc _ => lifted_it os started H enc)
theorem fnExactTokenText_holds : Rows.FnExactTokenTextCardSaid :=
 Claim7.holds_tied_plain_at .later [] [.data, .data, .data, .sentinel, .sentinel, .data, .data, .data] true (true, "607b33115784da865fe423d7123f84b6afc051212ae28e40bf49604fa8e2e808") true
  row_it (fun _ h => by cases h) (by kernel_rfl) (fun _ h => by cases h) fnExactTokenText_row_tie rfl ⟨rfl, rfl⟩ (by kernel_rfl) rfl
  (fun f fn hf hfn => by
   obtain rfl : f = 5 := Option.some.inj ((show Tryd.prog.funcNamed "loop.example/warp/laws.FnExactTokenText" = some 5 by kernel_rfl).symm.trans hf) |>.symm
   obtain rfl : fn = Tryd.f5 := (Option.some.inj (Tryd.func5.symm.trans hfn)).symm
   exact ⟨by kernel_rfl, fun j t ht => by
    rw [Tryd.params5] at ht
    have hm : t ∈ [35] := by simpa using Array.mem_of_getElem? ht
    have hall : ([35].all fun u => !Tryd.prog.wantsStandIn u) = true := by kernel_rfl
    exact (show Tryd.prog.wantsStandIn t = false by simpa using List.all_eq_true.1 hall t hm)⟩)
  (by kernel_rfl)
end Go.Proofs.YtmallmelcmejeaaDoor
#print axioms Go.Proofs.YtmallmelcmejeaaDoor.fnExactTokenText_holds
end
