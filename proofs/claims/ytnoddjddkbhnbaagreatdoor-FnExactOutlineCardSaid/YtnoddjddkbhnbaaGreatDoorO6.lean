/- What is here: TreeOk on both sides: the same. What is here: nothing of its own; what the next texts lean on. What is here: small laws on rows. What is here: the text of a mark. What is here: nothing of its own; what the next texts lean on. What is here: trees: sizes, copies, equality. What is here: what is known of the texts and names of a node that is as the tables say. What is here: what a sound tree is. What is here: marks written over a tree, and found again. What is here: Outline on both sides, and FnExactOutline, plain. What is here: rows of entries: equality, marks; FnExactOutline, plain. What is proved: FnExactOutline answers true at every input; the package variables are as the program's text lays them. -/
import Derived.Test.YtnoddjddkbhnbaaGreatDoorO5
import Derived.Test.YtnoddjddkbhnbaaGreatDoorCards
set_option linter.unusedVariables false
set_option linter.unusedSimpArgs false
set_option maxRecDepth 100000
section
namespace Go.Abs.D
theorem bn9 {st kids : List Int} (hs : ∀ j, 0 ≤ get st j ∧ get st j ≤ 3000) : ∀ (m : Nat) (a b : Int), 0 ≤ a → a ≤ 3000 → aa2 st kids m a = some b → 0 ≤ b ∧ b ≤ 3000
 | 0, a, b, h0, h1, h => by injection h with h; subst h; exact ⟨h0, h1⟩
 | m + 1, a, b, h0, h1, h => by
  unfold aa2 at h
  cases hc : decide (get kids m = a - 1) with
  | true =>
   rw [hc] at h
   exact bn9 hs m _ b (hs _).1 (hs _).2 h
  | false => rw [hc] at h; cases h
theorem bw5 {sz kids : List Int} (hs : ∀ j : Nat, 0 ≤ get sz j ∧ get sz j ≤ (j : Int) + 1) : ∀ (m : Nat) (a : Int), 0 ≤ a → (∀ j, j < m → 0 ≤ get kids j) → 0 ≤ (aO1 sz kids m a).1 ∧ (aO1 sz kids m a).1 ≤ a
 | 0, a, h0, _ => ⟨h0, Int.le_refl _⟩
 | m + 1, a, h0, hk => by
  unfold aO1
  by_cases hc : get kids m = a - 1
  ·have hsk := hs (get kids m).toNat
   have k0 := hk m (by omega)
   have e4 : ((get kids m).toNat : Int) = get kids m := Int.toNat_of_nonneg k0
   rw [decide_eq_true hc]
   cases hz : decide (get sz (get kids m).toNat = 0) with
   | true => exact ⟨h0, Int.le_refl _⟩
   | false =>
    have := bw5 hs m (a - get sz (get kids m).toNat) (by omega) fun j hj => hk j (by omega)
    simp only [Bool.true_and, Bool.not_false, cond_true]
    exact ⟨this.1, by omega⟩
  ·rw [decide_eq_false hc]; exact ⟨h0, Int.le_refl _⟩
section
variable {ns : List b8.den} (hN : ∀ x ∈ ns, NodeOk x) (hn : ns.length ≤ 3000) (hb : ¬ a99 ns < ns.length)
include hN hn hb
omit hN hn in
theorem be8 (i : Nat) (hi : i < ns.length) : ∀ j, j < (r9 ns i).length → 0 ≤ get (r9 ns i) j ∧ get (r9 ns i) j < (i : Int) := by
 intro j hj
 rw [ap7 hi] at hj ⊢
 have := aI9 hb i hi _ (List.getElem_mem hj)
 have e : get (j3 ns[i]) j = (j3 ns[i])[j] := aw7 hj
 rw [e]; exact this
theorem bC3 (f : Fa) : ∀ (r : Nat) (st : List Int), r ≤ ns.length → st.length = ns.length → (∀ j, 0 ≤ get st j ∧ get st j ≤ 3000) →
    Evt fun n => u5 (S.tab n) (ns, ()) f (ns.length : Int) st ns (ns.length : Int) ((ns.length - r : Nat) : Int) = some (match imS ns r st with | .inl j => Sum.inl ((3, (j : Int), ()), ()) | .inr _ => Sum.inr (Sum.inl ((ns, ()), f, (ns.length : Int), ())))
  | 0, st, hr, hl, hs => q9.up fun n _ => by
    show u5 (S.step (S.tab n)) _ _ _ _ _ _ _ = _
    rw [aj9, n8 (by simp)]; rfl
  | r + 1, st, hr, hl, hs => by
    have hi : ns.length - (r + 1) < ns.length := by omega
    generalize hii : ns.length - (r + 1) = i at hi
    have hx := hN _ (List.getElem_mem hi)
    have hke := ap7 hi
    have h16 := bu6 (ns, ()) f (ns.length : Int) st (i : Int) ns[i] ns (ns.length : Int) (i : Int) (fun k h => by have := aI9 hb i hi k h; omega) hs hx.nk (j3 ns[i]).length (i : Int) (Nat.le_refl _) (by omega) (by omega)
    have hat : at_ (τ := b8) ns (i : Int) = ns[i] := ad6 ns i hi
    have wk : IntKind.i64.wrap (((j3 ns[i]).length : Int) - 1) = ((j3 ns[i]).length : Int) - 1 := wrap64 _ (by omega) (by have := hx.nk; omega)
    have start : ∀ n, u5 (S.step (S.tab n)) (ns, ()) f (ns.length : Int) st ns (ns.length : Int) (i : Int) = (G6 (S.tab n) (ns, ()) f (ns.length : Int) st (i : Int) ns[i] (i : Int) (((j3 ns[i]).length : Int) - 1) ns (ns.length : Int) (i : Int)).bind (K8 (fun y16 => some (Sum.inl y16)) (fun y16 => brk (decide ((0 : Int) ≤ y16.2.2.2.2.1) && decide (y16.2.2.2.2.1 < (y16.2.2.2.1.length : Int))) (
   brk (decide (y16.2.2.2.2.1 = IntKind.i64.wrap (y16.2.2.1 - (1 : Int)))) (
    brk (!decide (y16.2.2.2.2.2.1 = (0 : Int))) (
     some (Sum.inl (((3 : Int), y16.2.2.2.2.1, ()), ()))) (
     u5 (S.tab n) y16.1 y16.2.1 y16.2.2.1 (y16.2.2.2.1.set y16.2.2.2.2.1.toNat y16.2.2.2.2.2.1) y16.2.2.2.2.2.2.1 y16.2.2.2.2.2.2.2.1 (IntKind.i64.wrap (y16.2.2.2.2.2.2.2.2.1 + (1 : Int))))) (
    u5 (S.tab n) y16.1 y16.2.1 y16.2.2.1 (y16.2.2.2.1.set y16.2.2.2.2.1.toNat y16.2.2.2.2.2.1) y16.2.2.2.2.2.2.1 y16.2.2.2.2.2.2.2.1 (IntKind.i64.wrap (y16.2.2.2.2.2.2.2.2.1 + (1 : Int))))) none)) := fun n => by
      rw [aj9, j6 (by simp only [decide_eq_true_eq]; omega), j6 (j7 hi), hat]
      show (G6 (S.tab n) (ns, ()) f (ns.length : Int) st (i : Int) ns[i] (i : Int) (IntKind.i64.wrap (((j3 ns[i]).length : Int) - 1)) ns (ns.length : Int) (i : Int)).bind _ = _
      rw [wk]
    have him : imS ns (r + 1) st = match aa2 st (r9 ns i) (r9 ns i).length (i : Int) with
      | none => .inl i
      | some a => bif decide (r = 0) && !decide (a = 0) then .inl i else imS ns r (st.set i a) := by
      show (match aa2 st (r9 ns (ns.length - (r + 1))) (r9 ns (ns.length - (r + 1))).length ((ns.length - (r + 1) : Nat) : Int) with | none => _ | some a => _) = _
      rw [hii]
    rw [him, hke]
    cases hc : aa2 st (j3 ns[i]) (j3 ns[i]).length (i : Int) with
    | none =>
      rw [hc] at h16
      refine h16.up fun n h => ?_
      show u5 (S.step (S.tab n)) _ _ _ _ _ _ _ = _
      rw [start, h]; rfl
    | some a =>
      rw [hc] at h16
      obtain ⟨a0, a1⟩ := bn9 hs _ _ _ (by omega) (by omega) hc
      have ih := bC3 f r (st.set i a) (by omega) (by rw [List.length_set]; exact hl) (fun j => by
        rw [ah3 _ _ _ _ (by omega)]
        split
        · exact ⟨a0, a1⟩
        · exact hs j)
      have ei : ns.length - r = i + 1 := by omega
      rw [ei] at ih
      refine (h16.and ih).up fun n ⟨h, ih⟩ => ?_
      show u5 (S.step (S.tab n)) _ _ _ _ _ _ _ = _
      have w1 : IntKind.i64.wrap ((ns.length : Int) - 1) = (ns.length : Int) - 1 := wrap64 _ (by omega) (by omega)
      have hin : (decide ((0 : Int) ≤ (i : Int)) && decide ((i : Int) < (st.length : Int))) = true := j7 (by omega)
      rw [start, h]
      simp only [Option.bind_some, K8, Sum.elim_inr, Sum.elim_inl, Int.toNat_natCast]
      rw [j6 hin, w1, B0 (by omega)]
      by_cases hr0 : r = 0
      · rw [j6 (decide_eq_true (by omega)), decide_eq_true hr0]
        by_cases ha : a = 0
        · rw [n8 (by rw [decide_eq_true ha]; rfl), decide_eq_true ha]
          exact ih
        · rw [j6 (by rw [decide_eq_false ha]; rfl), decide_eq_false ha]; rfl
      · rw [n8 (decide_eq_false (by omega)), decide_eq_false hr0, Bool.false_and, cond_false]
        exact ih
theorem bv8 : ∀ (r : Nat) (sz : List Int), r ≤ ns.length → sz.length = ns.length → (∀ j : Nat, 0 ≤ get sz j ∧ get sz j ≤ (j : Int) + 1) →
  Evt fun n => A0 (S.tab n) sz ns (ns.length : Int) ((ns.length - r : Nat) : Int) = some (Sum.inl (szS ns r sz, ()))
 | 0, sz, hr, hl, hs => q9.up fun n _ => by
  show A0 (S.step (S.tab n)) _ _ _ _ = _
  rw [aj6, n8 (by simp)]; rfl
 | r + 1, sz, hr, hl, hs => by
  have hi : ns.length - (r + 1) < ns.length := by omega
  generalize hii : ns.length - (r + 1) = i at hi
  have hx := hN _ (List.getElem_mem hi)
  have hke := ap7 hi
  have hk2 := be8 hb i hi
  rw [hke] at hk2
  have hb3 : ∀ j, 0 ≤ get sz j ∧ get sz j ≤ 3000 := fun j => by
   have := hs j
   rcases Nat.lt_or_ge j sz.length with h | h
   ·omega
   ·rw [O0 h]; omega
  have hnk : (j3 ns[i]).length ≤ 200 := by
   have hq : okQ ns i = true := aq7 ns.length 0 i (Nat.zero_le _) (by unfold a99 at hb; omega)
   unfold okQ bp8 at hq
   rw [decide_eq_true hi, Bool.true_and, List.getElem?_eq_getElem hi] at hq
   have hq : okN ns i ns[i] = true := hq
   rcases Nat.lt_or_ge 200 (j3 ns[i]).length with h | h
   ·unfold okN at hq
    rw [decide_eq_true h] at hq
    revert hq
    cases decide (Prod.fst ns[i].2 < 0) <;> cases decide (Prod.fst (Prod.snd ns[i].2) < Prod.fst ns[i].2) <;> cases decide (Prod.fst (Prod.snd (Prod.snd ns[i].2)) < 0) <;> intro h <;> cases h
   ·exact h
  have h8 := bJ2 sz (i : Int) ns[i] ns (ns.length : Int) (i : Int) (fun k h => by have := aI9 hb i hi k h; omega) hb3 hnk (j3 ns[i]).length (i : Int) (Nat.le_refl _) (by omega) (by omega)
  have hat : at_ (τ := b8) ns (i : Int) = ns[i] := ad6 ns i hi
  have wk : IntKind.i64.wrap (((j3 ns[i]).length : Int) - 1) = ((j3 ns[i]).length : Int) - 1 := wrap64 _ (by omega) (by omega)
  obtain ⟨y0, y1⟩ := bw5 (kids := j3 ns[i]) hs (j3 ns[i]).length (i : Int) (by omega) (fun j hj => (hk2 j hj).1)
  have hsz : szS ns (r + 1) sz = szS ns r (bif (aO1 sz (j3 ns[i]) (j3 ns[i]).length (i : Int)).2 then sz.set i ((i : Int) - (aO1 sz (j3 ns[i]) (j3 ns[i]).length (i : Int)).1 + 1) else sz) := by
   show szS ns r (bif (aO1 sz (r9 ns (ns.length - (r + 1))) (r9 ns (ns.length - (r + 1))).length ((ns.length - (r + 1) : Nat) : Int)).2 then sz.set (ns.length - (r + 1)) (((ns.length - (r + 1) : Nat) : Int) - (aO1 sz (r9 ns (ns.length - (r + 1))) (r9 ns (ns.length - (r + 1))).length ((ns.length - (r + 1) : Nat) : Int)).1 + 1) else sz) = _
   rw [hii, hke]
  rw [hsz]
  generalize hy : aO1 sz (j3 ns[i]) (j3 ns[i]).length (i : Int) = y at h8 y0 y1
  obtain ⟨b, ok⟩ := y
  simp only at y0 y1 h8
  have ei : ns.length - r = i + 1 := by omega
  have start : ∀ n, D3 (S.tab n) sz (i : Int) ns[i] (i : Int) true (((j3 ns[i]).length : Int) - 1) ns (ns.length : Int) (i : Int) = some (Sum.inl (sz, (i : Int), b, ok, ns, (ns.length : Int), (i : Int), ())) → A0 (S.step (S.tab n)) sz ns (ns.length : Int) (i : Int) = brk ok (brk (decide ((0 : Int) ≤ (i : Int)) && decide ((i : Int) < (sz.length : Int))) (A0 (S.tab n) (sz.set i (IntKind.i64.wrap ((IntKind.i64.wrap ((i : Int) - b)) + (1 : Int)))) ns (ns.length : Int) (IntKind.i64.wrap ((i : Int) + (1 : Int)))) none) (A0 (S.tab n) sz ns (ns.length : Int) (IntKind.i64.wrap ((i : Int) + (1 : Int)))) := fun n h => by
   rw [aj6, j6 (by simp only [decide_eq_true_eq]; omega), j6 (j7 hi), hat]
   show (D3 (S.tab n) sz (i : Int) ns[i] (i : Int) true (IntKind.i64.wrap (((j3 ns[i]).length : Int) - 1)) ns (ns.length : Int) (i : Int)).bind _ = _
   rw [wk, h]; rfl
  cases ok with
  | true =>
   have ih := bv8 r (sz.set i ((i : Int) - b + 1)) (by omega) (by rw [List.length_set]; exact hl) (fun j => by
    rw [ah3 _ _ _ _ (by omega)]
    split
    ·rename_i e; subst e; omega
    ·exact hs j)
   rw [ei] at ih
   refine (h8.and ih).up fun n ⟨h, ih⟩ => ?_
   show A0 (S.step (S.tab n)) _ _ _ _ = _
   have hin : (decide ((0 : Int) ≤ (i : Int)) && decide ((i : Int) < (sz.length : Int))) = true := j7 (by omega)
   rw [start n h, e9, j6 hin, wrap64 ((i : Int) - b) (by omega) (by omega), wrap64 ((i : Int) - b + 1) (by omega) (by omega), B0 (by omega)]
   exact ih
  | false =>
   have ih := bv8 r sz (by omega) hl hs
   rw [ei] at ih
   refine (h8.and ih).up fun n ⟨h, ih⟩ => ?_
   show A0 (S.step (S.tab n)) _ _ _ _ = _
   rw [start n h, b9, B0 (by omega)]
   exact ih
end
theorem a27 (n j : Nat) : get (List.replicate n (0 : Int)) j = 0 := by
 unfold get
 rw [List.getD_eq_getElem?_getD, List.getElem?_replicate]
 split <;> rfl
theorem bO2 (t : Tr) (f : Fa) (sz : List Int) (hl : sz.length ≤ 3000) : Evt fun n => B5 (S.tab n) t f sz sz (sz.length : Int) 0 = some (bif decide (stop (zq sz) sz.length 0 < sz.length) then Sum.inl ((3, (stop (zq sz) sz.length 0 : Int), ()), ()) else Sum.inr (Sum.inl (t, f, sz, ()))) :=
 adv (F := fun T (j : Nat) => B5 T t f sz sz (sz.length : Int) (j : Int)) (q := zq sz) (N := sz.length) (out := fun j => bif decide (j < sz.length) then Sum.inl ((3, (j : Int), ()), ()) else Sum.inr (Sum.inl (t, f, sz, ()))) (p := Base2) q9 ba5
  (fun T j h hq => by
   unfold zq at hq
   rw [Bool.and_eq_true, decide_eq_true_eq, Bool.not_eq_true', decide_eq_false_iff_not] at hq
   show B5 (S.step T) _ _ _ _ _ _ = B5 T t f sz sz (sz.length : Int) ((j + 1 : Nat) : Int)
   rw [aj4, j6 (by simp only [decide_eq_true_eq]; omega), j6 (j7 hq.1), q8, n8 (decide_eq_false hq.2), B0 (by omega)])
  (fun T j h hq => by
   show B5 (S.step T) _ _ _ _ _ _ = _
   rw [aj4]
   by_cases hj : j < sz.length
   ·unfold zq at hq
    rw [decide_eq_true hj, Bool.true_and, Bool.not_eq_false'] at hq
    rw [j6 (by simp only [decide_eq_true_eq]; omega), j6 (j7 hj), q8, j6 hq, decide_eq_true hj]; rfl
   ·rw [n8 (by simp only [decide_eq_false_iff_not]; omega), decide_eq_false hj]; rfl) sz.length 0 (by omega)
def aw9 (ns : List b8.den) : Fa :=
 bif decide (ns.length = 0) then (1, 0, ()) else
 bif decide (3000 < ns.length) then (1, 0, ()) else
 bif !decide (S4 ns ((ns.length - 1 : Nat) : Int) = 1) then (1, 0, ()) else
 bif decide (a99 ns < ns.length) then (2, (a99 ns : Int), ()) else
 match imS ns ns.length (List.replicate ns.length 0) with
 | .inl j => (3, (j : Int), ())
 | .inr _ => bif decide (stop (aw5 (aV2 ns ns.length (List.replicate ns.length 0))) ns.length 0 < ns.length) then (4, (stop (aw5 (aV2 ns ns.length (List.replicate ns.length 0))) ns.length 0 : Int), ()) else (0, 0, ())
section
variable {ns : List b8.den} (hN : ∀ x ∈ ns, NodeOk x)
include hN
theorem aY2 : Evt fun n => J5 (S.tab n) (ns, ()) = some (aw9 ns, N0) := by
 unfold aw9
 by_cases c0 : ns.length = 0
 ·refine q9.up fun n _ => ?_
  show J5 (S.step (S.tab n)) _ = _
  have d : decide ((((ns, ()) : Tr).1.length : Int) = 0) = true := decide_eq_true (by show (ns.length : Int) = 0; omega)
  rw [an2, j6 d, decide_eq_true c0]; rfl
 have d0 : decide ((((ns, ()) : Tr).1.length : Int) = 0) = false := decide_eq_false (by show ¬ (ns.length : Int) = 0; omega)
 rw [decide_eq_false c0]
 by_cases c1 : 3000 < ns.length
 ·refine q9.up fun n _ => ?_
  show J5 (S.step (S.tab n)) _ = _
  have d : decide ((3000 : Int) < (((ns, ()) : Tr).1.length : Int)) = true := decide_eq_true (by show (3000 : Int) < (ns.length : Int); omega)
  rw [an2, n8 d0, j6 d, decide_eq_true c1]; rfl
 have hn : ns.length ≤ 3000 := by omega
 have d1 : decide ((3000 : Int) < (((ns, ()) : Tr).1.length : Int)) = false := decide_eq_false (by show ¬ (3000 : Int) < (ns.length : Int); omega)
 rw [decide_eq_false c1]
 have wn : IntKind.i64.wrap ((((ns, ()) : Tr).1.length : Int) - 1) = ((ns.length - 1 : Nat) : Int) := by
  show IntKind.i64.wrap ((ns.length : Int) - 1) = _
  rw [wrap64 _ (by omega) (by omega)]; omega
 have hin : (decide ((0 : Int) ≤ ((ns.length - 1 : Nat) : Int)) && decide (((ns.length - 1 : Nat) : Int) < (((ns, ()) : Tr).1.length : Int))) = true := j7 (show ns.length - 1 < ns.length by omega)
 have start : ∀ n, J5 (S.step (S.tab n)) (ns, ()) = _ := fun n => by
  rw [an2, n8 d0, n8 d1, wn, j6 hin]
 by_cases c2 : ¬ S4 ns ((ns.length - 1 : Nat) : Int) = 1
 ·refine q9.up fun n _ => ?_
  show J5 (S.step (S.tab n)) _ = _
  rw [start, j6 (by
   show (!decide (S4 ns ((ns.length - 1 : Nat) : Int) = 1)) = true
   rw [decide_eq_false c2]; rfl), decide_eq_false c2]; rfl
 replace c2 := Decidable.not_not.1 c2
 rw [decide_eq_true c2]
 have step2 : ∀ n, J5 (S.step (S.tab n)) (ns, ()) = _ := fun n => by
  rw [start, n8 (by
   show (!decide (S4 ns ((ns.length - 1 : Nat) : Int) = 1)) = false
   rw [decide_eq_true c2]; rfl)]
 have h5 := bR6 hN hn (ns.length : Int) (0, 0, ())
 by_cases c3 : a99 ns < ns.length
 ·refine h5.up fun n h => ?_
  show J5 (S.step (S.tab n)) _ = _
  rw [decide_eq_true c3] at h
  rw [step2, decide_eq_true c3]
  show (F2 (S.tab n) (ns, ()) (0, 0, ()) (ns.length : Int) (ns.length : Int) 0).bind _ = _
  rw [h]; rfl
 rw [decide_eq_false c3] at h5 ⊢
 have h12 := bC3 hN hn c3 (0, 0, ()) ns.length (List.replicate ns.length 0) (Nat.le_refl _) (by simp) (fun j => by rw [a27]; omega)
 rw [Nat.sub_self] at h12
 have hlim : (decide ((0 : Int) ≤ (ns.length : Int)) && decide ((ns.length : Int) ≤ (ns.length : Int)) && decide ((ns.length : Int) ≤ (lim : Int))) = true := by
  rw [decide_eq_true (show (0 : Int) ≤ (ns.length : Int) by omega), decide_eq_true (show (ns.length : Int) ≤ (ns.length : Int) by omega), decide_eq_true (show (ns.length : Int) ≤ (lim : Int) by unfold lim; omega)]; rfl
 have step3 : ∀ n, F2 (S.tab n) (ns, ()) (0, 0, ()) (((ns, ()) : Tr).1.length : Int) (((ns, ()) : Tr).1.length : Int) 0 = some (Sum.inr (Sum.inl ((ns, ()), (0, 0, ()), (ns.length : Int), ()))) → J5 (S.step (S.tab n)) (ns, ()) = _ := fun n h => by
  rw [step2, h, Option.bind_some]
 simp only [cond_false, Bool.not_true]
 cases hc : imS ns ns.length (List.replicate ns.length 0) with
 | inl j =>
  rw [hc] at h12
  refine (h5.and h12).up fun n ⟨h, h'⟩ => ?_
  show J5 (S.step (S.tab n)) _ = _
  rw [step3 n h]
  show brk (decide ((0 : Int) ≤ (ns.length : Int)) && decide ((ns.length : Int) ≤ (ns.length : Int)) && decide ((ns.length : Int) ≤ (lim : Int))) ((u5 (S.tab n) (ns, ()) (0, 0, ()) (ns.length : Int) (List.replicate ns.length 0) ns (ns.length : Int) 0).bind _) _ = _
  have h' : u5 (S.tab n) (ns, ()) (0, 0, ()) (ns.length : Int) (List.replicate ns.length 0) ns (ns.length : Int) 0 = _ := h'
  rw [j6 hlim, h']; rfl
 | inr u =>
  rw [hc] at h12
  have h27 := bC1 hN hn c3 (0, 0, ()) ns.length (List.replicate ns.length 0) (Nat.le_refl _) (by simp)
  have hdl : (aV2 ns ns.length (List.replicate ns.length 0)).length = ns.length := by rw [a41]; simp
  have h35 := bM8 (0, 0, ()) (aV2 ns ns.length (List.replicate ns.length 0)) (by omega)
  rw [hdl] at h35
  refine ((h5.and h12).and (h27.and h35)).up fun n ⟨⟨h, h'⟩, h27, h35⟩ => ?_
  show J5 (S.step (S.tab n)) _ = _
  rw [step3 n h]
  show brk (decide ((0 : Int) ≤ (ns.length : Int)) && decide ((ns.length : Int) ≤ (ns.length : Int)) && decide ((ns.length : Int) ≤ (lim : Int))) ((u5 (S.tab n) (ns, ()) (0, 0, ()) (ns.length : Int) (List.replicate ns.length 0) ns (ns.length : Int) 0).bind _) _ = _
  have h' : u5 (S.tab n) (ns, ()) (0, 0, ()) (ns.length : Int) (List.replicate ns.length 0) ns (ns.length : Int) 0 = _ := h'
  rw [j6 hlim, h', Option.bind_some]
  show brk (decide ((0 : Int) ≤ (ns.length : Int)) && decide ((ns.length : Int) ≤ (ns.length : Int)) && decide ((ns.length : Int) ≤ (lim : Int))) ((L8 (S.tab n) (ns, ()) (0, 0, ()) (List.replicate ns.length 0) (IntKind.i64.wrap ((ns.length : Int) - 1))).bind _) _ = _
  rw [j6 hlim, wrap64 _ (by omega) (by omega), h27, Option.bind_some]
  show (F6 (S.tab n) (0, 0, ()) (aV2 ns ns.length (List.replicate ns.length 0)) ((aV2 ns ns.length (List.replicate ns.length 0)).length : Int) 0).bind _ = _
  rw [hdl, h35, Option.bind_some]
  cases decide (stop (aw5 (aV2 ns ns.length (List.replicate ns.length 0))) ns.length 0 < ns.length) <;> rfl
theorem aY5 : Evt fun n => H9 (S.tab n) (ns, ()) = some (aw9 ns, G2) := by
 unfold aw9
 by_cases c0 : ns.length = 0
 ·refine q9.up fun n _ => ?_
  show H9 (S.step (S.tab n)) _ = _
  have d : decide ((((ns, ()) : Tr).1.length : Int) = 0) = true := decide_eq_true (by show (ns.length : Int) = 0; omega)
  rw [am6, j6 d, decide_eq_true c0]; rfl
 have d0 : decide ((((ns, ()) : Tr).1.length : Int) = 0) = false := decide_eq_false (by show ¬ (ns.length : Int) = 0; omega)
 rw [decide_eq_false c0]
 by_cases c1 : 3000 < ns.length
 ·refine q9.up fun n _ => ?_
  show H9 (S.step (S.tab n)) _ = _
  have d : decide ((3000 : Int) < (((ns, ()) : Tr).1.length : Int)) = true := decide_eq_true (by show (3000 : Int) < (ns.length : Int); omega)
  rw [am6, n8 d0, j6 d, decide_eq_true c1]; rfl
 have hn : ns.length ≤ 3000 := by omega
 have d1 : decide ((3000 : Int) < (((ns, ()) : Tr).1.length : Int)) = false := decide_eq_false (by show ¬ (3000 : Int) < (ns.length : Int); omega)
 rw [decide_eq_false c1]
 have wn : IntKind.i64.wrap ((((ns, ()) : Tr).1.length : Int) - 1) = ((ns.length - 1 : Nat) : Int) := by
  show IntKind.i64.wrap ((ns.length : Int) - 1) = _
  rw [wrap64 _ (by omega) (by omega)]; omega
 have hin : (decide ((0 : Int) ≤ ((ns.length - 1 : Nat) : Int)) && decide (((ns.length - 1 : Nat) : Int) < (((ns, ()) : Tr).1.length : Int))) = true := j7 (show ns.length - 1 < ns.length by omega)
 have start : ∀ n, H9 (S.step (S.tab n)) (ns, ()) = _ := fun n => by
  rw [am6, n8 d0, n8 d1, wn, j6 hin]
 by_cases c2 : ¬ S4 ns ((ns.length - 1 : Nat) : Int) = 1
 ·refine q9.up fun n _ => ?_
  show H9 (S.step (S.tab n)) _ = _
  rw [start, j6 (by
   show (!decide (S4 ns ((ns.length - 1 : Nat) : Int) = 1)) = true
   rw [decide_eq_false c2]; rfl), decide_eq_false c2]; rfl
 replace c2 := Decidable.not_not.1 c2
 rw [decide_eq_true c2]
 have step2 : ∀ n, H9 (S.step (S.tab n)) (ns, ()) = _ := fun n => by
  rw [start, n8 (by
   show (!decide (S4 ns ((ns.length - 1 : Nat) : Int) = 1)) = false
   rw [decide_eq_true c2]; rfl)]
 have h4 := bT6 hN hn (0, 0, ())
 by_cases c3 : a99 ns < ns.length
 ·refine h4.up fun n h => ?_
  show H9 (S.step (S.tab n)) _ = _
  rw [decide_eq_true c3] at h
  rw [step2, decide_eq_true c3]
  show (F0 (S.tab n) (ns, ()) (0, 0, ()) (ns.length : Int) 0).bind _ = _
  rw [h]; rfl
 rw [decide_eq_false c3] at h4 ⊢
 have h3 := bv8 hN hn c3 ns.length (List.replicate ns.length 0) (Nat.le_refl _) (by simp) (fun j => by rw [a27]; omega)
 rw [Nat.sub_self] at h3
 have hlim : (decide ((0 : Int) ≤ (ns.length : Int)) && decide ((ns.length : Int) ≤ (ns.length : Int)) && decide ((ns.length : Int) ≤ (lim : Int))) = true := by
  rw [decide_eq_true (show (0 : Int) ≤ (ns.length : Int) by omega), decide_eq_true (show (ns.length : Int) ≤ (ns.length : Int) by omega), decide_eq_true (show (ns.length : Int) ≤ (lim : Int) by unfold lim; omega)]; rfl
 have hsizes : Evt fun n => S9 (S.tab n) (ns, ()) = some (szS ns ns.length (List.replicate ns.length 0), az5) := h3.up fun n h => by
  show S9 (S.step (S.tab n)) _ = _
  rw [aR9, j6 hlim]
  show (A0 (S.tab n) (List.replicate ns.length 0) ns (ns.length : Int) 0).bind _ = _
  have h : A0 (S.tab n) (List.replicate ns.length 0) ns (ns.length : Int) 0 = _ := h
  rw [h]; rfl
 have hzl : (szS ns ns.length (List.replicate ns.length 0)).length = ns.length := by rw [bk8]; simp
 have h11 := bO2 (ns, ()) (0, 0, ()) (szS ns ns.length (List.replicate ns.length 0)) (by omega)
 have hal : imS ns ns.length (List.replicate ns.length 0) = bK4 (szS ns ns.length (List.replicate ns.length 0)) := by
  obtain ⟨r, hr⟩ : ∃ r, ns.length = r + 1 := ⟨ns.length - 1, by omega⟩
  have := bR1 ns (be8 c3) r (List.replicate ns.length 0) (List.replicate ns.length 0) (by omega) ⟨by simp, by simp, fun j hj => by omega, fun j _ => ⟨a27 .., a27 ..⟩⟩
  rw [← hr] at this
  exact this
 rw [hal]
 simp only [cond_false, Bool.not_true]
 generalize hsz : szS ns ns.length (List.replicate ns.length 0) = sz at hsizes hzl h11
 have step3 : ∀ n, F0 (S.tab n) (ns, ()) (0, 0, ()) (((ns, ()) : Tr).1.length : Int) 0 = some (Sum.inr (Sum.inl ((ns, ()), (0, 0, ()), ()))) → H9 (S.step (S.tab n)) (ns, ()) = _ := fun n h => by
  rw [step2, h, Option.bind_some]
 unfold bK4
 cases hz : decide (stop (zq sz) sz.length 0 < sz.length) with
 | true =>
  rw [hz] at h11
  refine ((h4.and hsizes).and h11).up fun n ⟨⟨h, h'⟩, h11⟩ => ?_
  show H9 (S.step (S.tab n)) _ = _
  rw [step3 n h]
  show (S9 (S.tab n) (ns, ())).bind _ = _
  rw [h', Option.bind_some]
  show (B5 (S.tab n) (ns, ()) (0, 0, ()) sz sz (sz.length : Int) 0).bind _ = _
  rw [h11]; rfl
 | false =>
  rw [hz] at h11
  have wz : IntKind.i64.wrap ((sz.length : Int) - 1) = ((sz.length - 1 : Nat) : Int) := by rw [wrap64 _ (by omega) (by omega)]; omega
  have hinz : (decide ((0 : Int) ≤ ((sz.length - 1 : Nat) : Int)) && decide (((sz.length - 1 : Nat) : Int) < (sz.length : Int))) = true := j7 (show sz.length - 1 < sz.length by omega)
  cases hlast : decide (get sz (sz.length - 1) = (sz.length : Int)) with
  | false =>
   refine ((h4.and hsizes).and h11).up fun n ⟨⟨h, h'⟩, h11⟩ => ?_
   show H9 (S.step (S.tab n)) _ = _
   rw [step3 n h]
   show (S9 (S.tab n) (ns, ())).bind _ = _
   rw [h', Option.bind_some]
   show (B5 (S.tab n) (ns, ()) (0, 0, ()) sz sz (sz.length : Int) 0).bind _ = _
   rw [h11, Option.bind_some]
   show brk (decide ((0 : Int) ≤ IntKind.i64.wrap ((sz.length : Int) - 1)) && decide (IntKind.i64.wrap ((sz.length : Int) - 1) < (sz.length : Int))) (brk (!decide (sz.getD (IntKind.i64.wrap ((sz.length : Int) - 1)).toNat 0 = (sz.length : Int))) (some ((3, IntKind.i64.wrap ((sz.length : Int) - 1), ()), G2)) _) _ = _
   rw [wz, j6 hinz, q8, hlast, j6 (by rfl)]; rfl
  | true =>
   have h20 := bB5 hN hn c3 (0, 0, ()) ns.length (List.replicate ns.length 0) (Nat.le_refl _) (by simp)
   have hdl : (aV2 ns ns.length (List.replicate ns.length 0)).length = ns.length := by rw [a41]; simp
   have h28 := bL6 (0, 0, ()) (aV2 ns ns.length (List.replicate ns.length 0)) (by omega)
   rw [hdl] at h28
   refine (((h4.and hsizes).and h11).and (h20.and h28)).up fun n ⟨⟨⟨h, h'⟩, h11⟩, h20, h28⟩ => ?_
   show H9 (S.step (S.tab n)) _ = _
   rw [step3 n h]
   show (S9 (S.tab n) (ns, ())).bind _ = _
   rw [h', Option.bind_some]
   show (B5 (S.tab n) (ns, ()) (0, 0, ()) sz sz (sz.length : Int) 0).bind _ = _
   rw [h11, Option.bind_some]
   show brk (decide ((0 : Int) ≤ IntKind.i64.wrap ((sz.length : Int) - 1)) && decide (IntKind.i64.wrap ((sz.length : Int) - 1) < (sz.length : Int))) (brk (!decide (sz.getD (IntKind.i64.wrap ((sz.length : Int) - 1)).toNat 0 = (sz.length : Int))) (some ((3, IntKind.i64.wrap ((sz.length : Int) - 1), ()), G2)) _) _ = _
   rw [wz, j6 hinz, q8, hlast, n8 (by rfl)]
   show brk (decide ((0 : Int) ≤ (ns.length : Int)) && decide ((ns.length : Int) ≤ (ns.length : Int)) && decide ((ns.length : Int) ≤ (lim : Int))) ((M0 (S.tab n) (ns, ()) (0, 0, ()) (List.replicate ns.length 0) (IntKind.i64.wrap ((ns.length : Int) - 1))).bind _) _ = _
   rw [j6 hlim, wrap64 _ (by omega) (by omega), h20, Option.bind_some]
   show (G1 (S.tab n) (0, 0, ()) (aV2 ns ns.length (List.replicate ns.length 0)) ((aV2 ns ns.length (List.replicate ns.length 0)).length : Int) 0).bind _ = _
   rw [hdl, h28, Option.bind_some]
   cases decide (stop (aw5 (aV2 ns ns.length (List.replicate ns.length 0))) ns.length 0 < ns.length) <;> rfl
end
end Go.Abs.D
end

section

end

section
namespace Go.Abs.D
theorem aI8 {α : Type} (pre : List α) (x y : α) (r : List α) : (pre ++ x :: r).set pre.length y = pre ++ y :: r := by
 rw [List.set_append_right _ _ (Nat.le_refl _), Nat.sub_self]; rfl
theorem w6 {k : Int} (h0 : 0 < k) (h1 : k < 1000000000000) : IntKind.i64.wrap (k + 1) = k + 1 ∧ IntKind.i64.wrap (k + 1 + 1) = k + 2 ∧ IntKind.i64.wrap (k + 2 + 1) = k + 3 ∧ IntKind.i64.wrap (k + 3 + 1) = k + 4 ∧ IntKind.i64.wrap (k + 4 + 1) = k + 5 ∧ IntKind.i64.wrap (k + 5 + 1) = k + 6 := by
 refine ⟨?_, ?_, ?_, ?_, ?_, ?_⟩ <;> rw [wrap64 _ (by omega) (by omega)] <;> omega
end Go.Abs.D
end

section
namespace Go.Abs.D
def dgs : Nat → Int → List Int → List Int
 | 0, _, o => o
 | k + 1, v, o => bif decide (0 < v) then dgs k (v / 10) ((48 + v % 10) :: o) else o
theorem az8 : ∀ (k : Nat) (v : Int) (o : List Int), 0 ≤ v → v < 10 ^ k → k ≤ 18 → o.length + k ≤ 100 → Evt fun n => J6 (S.tab n) v o = some (Sum.inl (dgs k v o, ()))
 | 0, v, o, h0, h1, _, _ => q9.up fun n _ => by
  show J6 (S.step (S.tab n)) _ _ = _
  rw [X3, n8 (by simp only [decide_eq_false_iff_not]; simp at h1; omega)]; rfl
 | k + 1, v, o, h0, h1, hk, ho => by
  by_cases hv : 0 < v
  ·have hp : (10 : Int) ^ (k + 1) = 10 ^ k * 10 := Int.pow_succ ..
   have hk' : (10 : Int) ^ (k + 1) ≤ 10 ^ 18 := by
    have : ∀ j : Fin 19, (10 : Int) ^ j.1 ≤ 10 ^ 18 := by decide
    exact this ⟨k + 1, by omega⟩
   have em : v.tmod 10 = v % 10 := Int.tmod_eq_emod_of_nonneg h0
   have ed : v.tdiv 10 = v / 10 := Int.tdiv_eq_ediv_of_nonneg h0
   have w1 : IntKind.i64.wrap (48 + v % 10) = 48 + v % 10 := wrap64 _ (by omega) (by omega)
   have w2 : IntKind.u8.wrap (48 + v % 10) = 48 + v % 10 := a32 _ (by omega) (by omega)
   have w3 : IntKind.i64.wrap (v / 10) = v / 10 := wrap64 _ (by omega) (by omega)
   have wb : ([48 + v % 10] : List Int).map byte = [48 + v % 10] := bH6 fun c hc => by
    have : c = 48 + v % 10 := by simpa using hc
    subst this; exact ⟨by omega, by omega⟩
   refine (az8 k (v / 10) ((48 + v % 10) :: o) (by omega) (by omega) (by omega) (by simp; omega)).up fun n h => ?_
   show J6 (S.step (S.tab n)) _ _ = _
   rw [X3, j6 (decide_eq_true hv), em, ed, w1, w2, w3, wb, j6 (ad5 (by unfold lim; simp only [List.length_singleton]; omega))]
   unfold dgs
   rw [decide_eq_true hv]
   exact h
  ·refine q9.up fun n _ => ?_
   show J6 (S.step (S.tab n)) _ _ = _
   unfold dgs
   rw [X3, n8 (decide_eq_false hv), decide_eq_false hv]; rfl
def a81 (v : Int) : List Int := 109 :: dgs 18 v []
theorem bA0 : ∀ (k : Nat) (v : Int) (o : List Int), (dgs k v o).length ≤ o.length + k
 | 0, _, _ => Nat.le_refl _
 | k + 1, v, o => by
  unfold dgs
  cases decide (0 < v) with
  | true => have := bA0 k (v / 10) ((48 + v % 10) :: o); simp at this ⊢; omega
  | false => simp
theorem as9 (v : Int) (h0 : 0 < v) (h1 : v < 1000000000000000000) : Evt fun n => N1 (S.tab n) v = some (a81 v, Z9) := (az8 18 v [] (by omega) h1 (by omega) (by simp)).up fun n h => by
 show N1 (S.step (S.tab n)) _ = _
 have := bA0 18 v []
 rw [aM8, n8 (decide_eq_false (by omega)), h]
 simp only [Option.bind_some, C7, Sum.elim_inl]
 rw [j6 (ad5 (by unfold lim; simp at this; omega))]; rfl
end Go.Abs.D
end

section

end

section
namespace Go.Abs.D
def szL : List (List Int) → Int → Int
 | [], l => l
 | m :: r, l => bif decide (l - (m.length : Int) < 0) then -1 else szL r (l - (m.length : Int))
def bf4 (names : List (List Int)) (l : Int) : Int := bif decide (l - (names.length : Int) < 0) then -1 else szL names (l - (names.length : Int))
def bD9 (kids : List Int) (l : Int) : Int := bif decide (l - (kids.length : Int) < 0) then -1 else l - (kids.length : Int)
def bs3 (x : b8.den) (l : Int) : Int :=
 bif decide (l - (List.length (α := Int) x.2.2.2.2.2.2.1 : Int) < 0) then -1 else
 bif decide (bf4 (j9 x) (l - (List.length (α := Int) x.2.2.2.2.2.2.1 : Int)) < 0) then -1 else
 bif decide (bD9 (j3 x) (bf4 (j9 x) (l - (List.length (α := Int) x.2.2.2.2.2.2.1 : Int))) < 0) then -1 else bD9 (j3 x) (bf4 (j9 x) (l - (List.length (α := Int) x.2.2.2.2.2.2.1 : Int)))
def bK5 : List b8.den → Int → Int
 | [], l => l
 | x :: r, l => bif decide (bs3 x l < 0) then -1 else bK5 r (bs3 x l)
def bI8 (ns : List b8.den) (l : Int) : Int := bif decide (l - (ns.length : Int) < 0) then -1 else bK5 ns (l - (ns.length : Int))
theorem bz0 {l : Int} {n : Nat} (h0 : 0 ≤ l) (h1 : l ≤ 1048576) (hn : n ≤ maxLen) : IntKind.i64.wrap (l - (n : Int)) = l - (n : Int) := by
 unfold maxLen at hn
 exact wrap64 _ (by omega) (by omega)
theorem bJ6 : ∀ (r : List (List Int)) (l : Int), szL r l ≤ l ∨ szL r l = -1
 | [], l => .inl (Int.le_refl _)
 | m :: r, l => by
  unfold szL
  by_cases h : l - (m.length : Int) < 0
  ·rw [decide_eq_true h]; exact .inr rfl
  ·rw [decide_eq_false h]
   rcases bJ6 r (l - (m.length : Int)) with h | h
   ·left; simp only [cond_false]; omega
   ·right; exact h
theorem aP2 : ∀ (r pre : List (List Int)) (l : Int), 0 ≤ l → l ≤ 1048576 → (∀ m ∈ r, m.length ≤ maxLen) → (pre ++ r).length ≤ 2097152 →
  Evt fun n => ∃ y, C5 (S.tab n) (pre ++ r) l (pre.length : Int) = some y ∧ (y = .inl (szL r l, ()) ∨ y = .inr (.inl (szL r l, ())))
 | [], pre, l, _, _, _, _ => q9.up fun n _ => by
  show ∃ y, C5 (S.step (S.tab n)) _ _ _ = _ ∧ _
  rw [ae9, n8 (by simp)]
  exact ⟨_, rfl, .inr rfl⟩
 | m :: r, pre, l, h0, h1, hm, hl => by
  have hlen : (pre ++ m :: r).length = pre.length + (r.length + 1) := by simp
  have hg : (pre ++ m :: r).getD (pre.length : Int).toNat [] = m := al5 pre m r []
  have w := bz0 h0 h1 (hm m (List.mem_cons_self ..))
  have start : ∀ n, C5 (S.step (S.tab n)) (pre ++ m :: r) l (pre.length : Int) = _ := fun n => by
   rw [ae9, j6 (by simp only [decide_eq_true_eq]; omega), j6 (j7 (by omega)), hg, w, B0 (by omega)]
  unfold szL
  by_cases h : l - (m.length : Int) < 0
  ·refine q9.up fun n _ => ?_
   show ∃ y, C5 (S.step (S.tab n)) _ _ _ = _ ∧ _
   rw [start, j6 (decide_eq_true h), decide_eq_true h]
   exact ⟨_, rfl, .inl rfl⟩
  ·have ih := aP2 r (pre ++ [m]) (l - (m.length : Int)) (by omega) (by omega) (fun x hx => hm x (List.mem_cons_of_mem _ hx)) (by simpa using hl)
   refine ih.up fun n ih => ?_
   show ∃ y, C5 (S.step (S.tab n)) _ _ _ = _ ∧ _
   rw [start, n8 (decide_eq_false h), decide_eq_false h]
   have e1 : (pre ++ [m]) ++ r = pre ++ m :: r := by simp
   have e2 : (pre ++ [m]).length = pre.length + 1 := by simp
   rw [e1, e2] at ih
   exact ih
theorem bF0 (names : List (List Int)) (l : Int) (h0 : 0 ≤ l) (h1 : l ≤ 1048576) (hm : ∀ m ∈ names, m.length ≤ maxLen) (hn : names.length ≤ maxLen) : Evt fun n => N9 (S.tab n) names l = some (bf4 names l, W3) := by
 have w := bz0 h0 h1 hn
 unfold bf4
 by_cases h : l - (names.length : Int) < 0
 ·refine q9.up fun n _ => ?_
  show N9 (S.step (S.tab n)) _ _ = _
  rw [ap1, w, j6 (decide_eq_true h), decide_eq_true h]; rfl
 ·refine (aP2 names [] (l - (names.length : Int)) (by omega) (by omega) hm (by simp only [List.nil_append]; omega)).up fun n ⟨y, h', hy⟩ => ?_
  show N9 (S.step (S.tab n)) _ _ = _
  have h' : C5 (S.tab n) names (l - (names.length : Int)) 0 = some y := h'
  rw [ap1, w, n8 (decide_eq_false h), decide_eq_false h, h', Option.bind_some]
  rcases hy with rfl | rfl <;> rfl
theorem bG7 (kids : List Int) (l : Int) (h0 : 0 ≤ l) (h1 : l ≤ 1048576) (hn : kids.length ≤ maxLen) : Evt fun n => ai1 (S.tab n) kids l = some (bD9 kids l, as4) := q9.up fun n _ => by
 show ai1 (S.step (S.tab n)) _ _ = _
 unfold bD9
 rw [aW0, bz0 h0 h1 hn]
 by_cases h : l - (kids.length : Int) < 0
 ·rw [j6 (decide_eq_true h), decide_eq_true h]; rfl
 ·rw [n8 (decide_eq_false h), decide_eq_false h]; rfl
structure Read (x : b8.den) : Prop where
 text : (∀ c ∈ x.2.2.2.2.2.2.1, isByte c) ∧ List.length (α := Int) x.2.2.2.2.2.2.1 ≤ maxLen
 names : (∀ m ∈ j9 x, (∀ c ∈ m, isByte c) ∧ m.length ≤ maxLen) ∧ (j9 x).length ≤ maxLen
 kids : (j3 x).length ≤ maxLen
theorem bB9 {names : List (List Int)} {l : Int} (h : 0 ≤ bf4 names l) : bf4 names l ≤ l ∧ (names.length : Int) ≤ l := by
 unfold bf4 at h ⊢
 by_cases hd : l - (names.length : Int) < 0
 ·rw [decide_eq_true hd] at h; exact absurd (show (0 : Int) ≤ -1 from h) (by decide)
 ·rw [decide_eq_false hd] at h ⊢
  simp only [cond_false] at h ⊢
  rcases bJ6 names (l - (names.length : Int)) with h' | h'
  ·omega
  ·rw [h'] at h; exact absurd (show (0 : Int) ≤ -1 from h) (by decide)
theorem bO6 {kids : List Int} {l : Int} (h : 0 ≤ bD9 kids l) : bD9 kids l ≤ l ∧ (kids.length : Int) ≤ l := by
 unfold bD9 at h ⊢
 by_cases hd : l - (kids.length : Int) < 0
 ·rw [decide_eq_true hd] at h; exact absurd (show (0 : Int) ≤ -1 from h) (by decide)
 ·rw [decide_eq_false hd] at h ⊢
  simp only [cond_false] at h ⊢
  omega
theorem bt9 {x : b8.den} {l : Int} (h : 0 ≤ bs3 x l) : bs3 x l ≤ l ∧ ((j9 x).length : Int) ≤ l ∧ ((j3 x).length : Int) ≤ l ∧ (List.length (α := Int) x.2.2.2.2.2.2.1 : Int) ≤ l := by
 unfold bs3 at h ⊢
 by_cases h1 : l - (List.length (α := Int) x.2.2.2.2.2.2.1 : Int) < 0
 ·rw [decide_eq_true h1] at h; exact absurd (show (0 : Int) ≤ -1 from h) (by decide)
 rw [decide_eq_false h1] at h ⊢
 by_cases h2 : bf4 (j9 x) (l - (List.length (α := Int) x.2.2.2.2.2.2.1 : Int)) < 0
 ·rw [decide_eq_true h2] at h; exact absurd (show (0 : Int) ≤ -1 from h) (by decide)
 rw [decide_eq_false h2] at h ⊢
 by_cases h3 : bD9 (j3 x) (bf4 (j9 x) (l - (List.length (α := Int) x.2.2.2.2.2.2.1 : Int))) < 0
 ·rw [decide_eq_true h3] at h; exact absurd (show (0 : Int) ≤ -1 from h) (by decide)
 rw [decide_eq_false h3] at h ⊢
 simp only [cond_false] at h ⊢
 have a := bB9 (show 0 ≤ bf4 (j9 x) (l - (List.length (α := Int) x.2.2.2.2.2.2.1 : Int)) by omega)
 have b := bO6 (show 0 ≤ bD9 (j3 x) (bf4 (j9 x) (l - (List.length (α := Int) x.2.2.2.2.2.2.1 : Int))) by omega)
 omega
theorem bC0 {x : b8.den} (hx : Read x) (l : Int) (h0 : 0 ≤ l) (h1 : l ≤ 1048576) : Evt fun n => X0 (S.tab n) x l = some (bs3 x l, U3) := by
 have w := bz0 h0 h1 hx.text.2
 unfold bs3
 by_cases c1 : l - (List.length (α := Int) x.2.2.2.2.2.2.1 : Int) < 0
 ·refine q9.up fun n _ => ?_
  show X0 (S.step (S.tab n)) _ _ = _
  rw [an3, w, j6 (decide_eq_true c1), decide_eq_true c1]; rfl
 have hs := bF0 (j9 x) (l - (List.length (α := Int) x.2.2.2.2.2.2.1 : Int)) (by omega) (by omega) (fun m hm => (hx.names.1 m hm).2) hx.names.2
 rw [decide_eq_false c1]
 by_cases c2 : bf4 (j9 x) (l - (List.length (α := Int) x.2.2.2.2.2.2.1 : Int)) < 0
 ·refine hs.up fun n hs => ?_
  show X0 (S.step (S.tab n)) _ _ = _
  rw [an3, w, n8 (decide_eq_false c1)]
  show (N9 (S.tab n) (j9 x) _).bind _ = _
  rw [hs, Option.bind_some, j6 (decide_eq_true c2), decide_eq_true c2]; rfl
 have a := bB9 (show 0 ≤ bf4 (j9 x) (l - (List.length (α := Int) x.2.2.2.2.2.2.1 : Int)) by omega)
 have hi := bG7 (j3 x) (bf4 (j9 x) (l - (List.length (α := Int) x.2.2.2.2.2.2.1 : Int))) (by omega) (by omega) hx.kids
 rw [decide_eq_false c2]
 refine (hs.and hi).up fun n ⟨hs, hi⟩ => ?_
 show X0 (S.step (S.tab n)) _ _ = _
 rw [an3, w, n8 (decide_eq_false c1)]
 show (N9 (S.tab n) (j9 x) _).bind _ = _
 rw [hs, Option.bind_some, n8 (decide_eq_false c2)]
 show (ai1 (S.tab n) (j3 x) _).bind _ = _
 rw [hi, Option.bind_some]
 by_cases c3 : bD9 (j3 x) (bf4 (j9 x) (l - (List.length (α := Int) x.2.2.2.2.2.2.1 : Int))) < 0
 ·rw [j6 (decide_eq_true c3), decide_eq_true c3]; rfl
 ·rw [n8 (decide_eq_false c3), decide_eq_false c3]; rfl
theorem a05 : ∀ (r pre : List b8.den) (l : Int), 0 ≤ l → l ≤ 1048576 → (∀ x ∈ r, Read x) → (pre ++ r).length ≤ 2097152 →
  Evt fun n => ∃ y, G3 (S.tab n) (pre ++ r) l (pre.length : Int) = some y ∧ (y = .inl (bK5 r l, ()) ∨ y = .inr (.inl (bK5 r l, ())))
 | [], pre, l, _, _, _, _ => q9.up fun n _ => by
  show ∃ y, G3 (S.step (S.tab n)) _ _ _ = _ ∧ _
  rw [al8, n8 (by simp)]
  exact ⟨_, rfl, .inr rfl⟩
 | x :: r, pre, l, h0, h1, hm, hl => by
  have hlen : (pre ++ x :: r).length = pre.length + (r.length + 1) := by simp
  have hg : at_ (τ := b8) (pre ++ x :: r) (pre.length : Int) = x := by rw [ad6 _ _ (by omega)]; simp
  have hz := bC0 (hm x (List.mem_cons_self ..)) l h0 h1
  have start : ∀ n, X0 (S.tab n) x l = some (bs3 x l, U3) → G3 (S.step (S.tab n)) (pre ++ x :: r) l (pre.length : Int) = _ := fun n hz => by
   rw [al8, j6 (by simp only [decide_eq_true_eq]; omega), j6 (j7 (by omega)), hg, hz, Option.bind_some, B0 (by omega)]
  unfold bK5
  by_cases h : bs3 x l < 0
  ·refine hz.up fun n hz => ?_
   show ∃ y, G3 (S.step (S.tab n)) _ _ _ = _ ∧ _
   rw [start n hz, j6 (decide_eq_true h), decide_eq_true h]
   exact ⟨_, rfl, .inl rfl⟩
  ·have hle := bt9 (show 0 ≤ bs3 x l by omega)
   have ih := a05 r (pre ++ [x]) (bs3 x l) (by omega) (by omega) (fun y hy => hm y (List.mem_cons_of_mem _ hy)) (by simpa using hl)
   refine (hz.and ih).up fun n ⟨hz, ih⟩ => ?_
   show ∃ y, G3 (S.step (S.tab n)) _ _ _ = _ ∧ _
   rw [start n hz, n8 (decide_eq_false h), decide_eq_false h]
   have e1 : (pre ++ [x]) ++ r = pre ++ x :: r := by simp
   have e2 : (pre ++ [x]).length = pre.length + 1 := by simp
   rw [e1, e2] at ih
   exact ih
theorem bm7 : ∀ (r : List b8.den) (l : Int), 0 ≤ bK5 r l → l ≤ 1048576 → ∀ x ∈ r, ((j9 x).length : Int) ≤ 1048576 ∧ ((j3 x).length : Int) ≤ 1048576 ∧ (List.length (α := Int) x.2.2.2.2.2.2.1 : Int) ≤ 1048576
 | [], l, _, _, x, hx => by cases hx
 | y :: r, l, h, h1, x, hx => by
  unfold bK5 at h
  by_cases hd : bs3 y l < 0
  ·rw [decide_eq_true hd] at h; exact absurd (show (0 : Int) ≤ -1 from h) (by decide)
  rw [decide_eq_false hd] at h
  have hle := bt9 (show 0 ≤ bs3 y l by omega)
  rcases List.mem_cons.1 hx with rfl | hx
  ·omega
  ·exact bm7 r _ h (by omega) x hx
theorem bA3 (ns : List b8.den) (hN : ∀ x ∈ ns, Read x) (hn : ns.length ≤ maxLen) : Evt fun n => ar0 (S.tab n) (ns, ()) 1048576 = some (bif decide (bI8 ns 1048576 < 0) then -1 else bI8 ns 1048576, at2) := by
 have w := bz0 (l := 1048576) (by decide) (by decide) hn
 have hS : Evt fun n => Y3 (S.tab n) ns 1048576 = some (bI8 ns 1048576, ab6) := by
  unfold bI8
  by_cases h : 1048576 - (ns.length : Int) < 0
  ·refine q9.up fun n _ => ?_
   show Y3 (S.step (S.tab n)) _ _ = _
   rw [aw2, w, j6 (decide_eq_true h), decide_eq_true h]; rfl
  ·refine (a05 ns [] (1048576 - (ns.length : Int)) (by omega) (by omega) hN (by simp only [List.nil_append]; omega)).up fun n ⟨y, h', hy⟩ => ?_
   show Y3 (S.step (S.tab n)) _ _ = _
   have h' : G3 (S.tab n) ns (1048576 - (ns.length : Int)) 0 = some y := h'
   rw [aw2, w, n8 (decide_eq_false h), decide_eq_false h, h', Option.bind_some]
   rcases hy with rfl | rfl <;> rfl
 refine hS.up fun n h => ?_
 show ar0 (S.step (S.tab n)) _ _ = _
 rw [aX5]
 show (Y3 (S.tab n) ns 1048576).bind _ = _
 rw [h, Option.bind_some]
 by_cases hd : bI8 ns 1048576 < 0
 ·rw [j6 (decide_eq_true hd), decide_eq_true hd]; rfl
 ·rw [n8 (decide_eq_false hd), decide_eq_false hd]; rfl
theorem aQ4 : ∀ (r pre : List (List Int)), (pre ++ r).length ≤ 2097152 → Evt fun n => H5 (S.tab n) (pre ++ r) (pre ++ List.replicate r.length []) (pre.length : Int) = some (Sum.inl (pre ++ r, ()))
 | [], pre, hl => q9.up fun n _ => by
  show H5 (S.step (S.tab n)) _ _ _ = _
  rw [ae1, n8 (by simp)]
  simp
 | m :: r, pre, hl => by
  have hlen : (pre ++ m :: r).length = pre.length + (r.length + 1) := by simp
  have ih := aQ4 r (pre ++ [m]) (by simpa using hl)
  refine ih.up fun n h => ?_
  show H5 (S.step (S.tab n)) _ _ _ = _
  have hg : (pre ++ m :: r).getD (pre.length : Int).toNat [] = m := al5 pre m r []
  have e1 : (pre ++ [m]) ++ r = pre ++ m :: r := by simp
  have e2 : (pre ++ [m]).length = pre.length + 1 := by simp
  have e3 : (pre ++ [m]) ++ List.replicate r.length [] = pre ++ m :: List.replicate r.length [] := by simp
  rw [e1, e2, e3] at h
  rw [ae1, j6 (by simp only [decide_eq_true_eq]; omega), j6 (j7 (by omega)), List.length_cons, List.replicate_succ, j6 (j7 (by simp)), hg, Int.toNat_natCast, aI8, B0 (by omega)]
  exact h
theorem bL7 {k : Nat} (h : k ≤ 2097152) : (decide ((0 : Int) ≤ (k : Int)) && decide ((k : Int) ≤ (k : Int)) && decide ((k : Int) ≤ (lim : Int))) = true := by
 rw [decide_eq_true (show (0 : Int) ≤ (k : Int) by omega), decide_eq_true (show (k : Int) ≤ (k : Int) by omega), decide_eq_true (show (k : Int) ≤ (lim : Int) by unfold lim; omega)]; rfl
theorem bE5 (l : List (List Int)) (hl : l.length ≤ 2097152) : Evt fun n => V5 (S.tab n) l = some (l, au0) := (aQ4 l [] (by simpa using hl)).up fun n h => by
 show V5 (S.step (S.tab n)) _ = _
 have h : H5 (S.tab n) l (List.replicate l.length []) 0 = some (Sum.inl (l, ())) := h
 rw [aI5, j6 (bL7 hl), Int.toNat_natCast, h]; rfl
theorem aU4 : ∀ (r pre : List Int), (pre ++ r).length ≤ 2097152 → Evt fun n => N7 (S.tab n) (pre ++ r) (pre ++ List.replicate r.length 0) (pre.length : Int) = some (Sum.inl (pre ++ r, ()))
 | [], pre, hl => q9.up fun n _ => by
  show N7 (S.step (S.tab n)) _ _ _ = _
  rw [aq0, n8 (by simp)]
  simp
 | m :: r, pre, hl => by
  have hlen : (pre ++ m :: r).length = pre.length + (r.length + 1) := by simp
  have ih := aU4 r (pre ++ [m]) (by simpa using hl)
  refine ih.up fun n h => ?_
  show N7 (S.step (S.tab n)) _ _ _ = _
  have hg : (pre ++ m :: r).getD (pre.length : Int).toNat 0 = m := al5 pre m r 0
  have e1 : (pre ++ [m]) ++ r = pre ++ m :: r := by simp
  have e2 : (pre ++ [m]).length = pre.length + 1 := by simp
  have e3 : (pre ++ [m]) ++ List.replicate r.length 0 = pre ++ m :: List.replicate r.length 0 := by simp
  rw [e1, e2, e3] at h
  rw [aq0, j6 (by simp only [decide_eq_true_eq]; omega), j6 (j7 (by omega)), List.length_cons, List.replicate_succ, j6 (j7 (by simp)), hg, Int.toNat_natCast, aI8, B0 (by omega)]
  exact h
theorem bH8 (l : List Int) (hl : l.length ≤ 2097152) : Evt fun n => ah1 (S.tab n) l = some (l, aH3) := (aU4 l [] (by simpa using hl)).up fun n h => by
 show ah1 (S.step (S.tab n)) _ = _
 have h : N7 (S.tab n) l (List.replicate l.length 0) 0 = some (Sum.inl (l, ())) := h
 rw [aX7, j6 (bL7 hl), Int.toNat_natCast, h]; rfl
theorem bv9 {x : b8.den} (hx : NodeOk x) : Evt fun n => at7 (S.tab n) x = some (x, aE9) := ((bE5 (j9 x) hx.nn).and (bH8 (j3 x) hx.nk)).up fun n ⟨h1, h2⟩ => by
 show at7 (S.step (S.tab n)) _ = _
 rw [aW8]
 show (V5 (S.tab n) (j9 x)).bind _ = _
 rw [h1, Option.bind_some]
 show (ah1 (S.tab n) (j3 x)).bind _ = _
 rw [h2]; rfl
theorem aD4 (d : b8.den) : ∀ (r pre : List b8.den), (∀ x ∈ r, NodeOk x) → (pre ++ r).length ≤ 2097152 → Evt fun n => L5 (S.tab n) (pre ++ r) (pre ++ List.replicate r.length d) (pre.length : Int) = some (Sum.inl (pre ++ r, ()))
 | [], pre, _, hl => q9.up fun n _ => by
  show L5 (S.step (S.tab n)) _ _ _ = _
  rw [al7, n8 (by simp)]
  simp
 | x :: r, pre, hN, hl => by
  have hlen : (pre ++ x :: r).length = pre.length + (r.length + 1) := by simp
  have ih := aD4 d r (pre ++ [x]) (fun y hy => hN y (List.mem_cons_of_mem _ hy)) (by simpa using hl)
  refine (ih.and (bv9 (hN x (List.mem_cons_self ..)))).up fun n ⟨h, hx⟩ => ?_
  show L5 (S.step (S.tab n)) _ _ _ = _
  have hg : at_ (τ := b8) (pre ++ x :: r) (pre.length : Int) = x := by rw [ad6 _ _ (by omega)]; simp
  have e1 : (pre ++ [x]) ++ r = pre ++ x :: r := by simp
  have e2 : (pre ++ [x]).length = pre.length + 1 := by simp
  have e3 : (pre ++ [x]) ++ List.replicate r.length d = pre ++ x :: List.replicate r.length d := by simp
  rw [e1, e2, e3] at h
  rw [al7, j6 (by simp only [decide_eq_true_eq]; omega), j6 (j7 (by omega)), hg, hx, Option.bind_some, List.length_cons, List.replicate_succ, j6 (j7 (by simp)), Int.toNat_natCast, aI8, B0 (by omega)]
  exact h
theorem bv1 (ns : List b8.den) (hN : ∀ x ∈ ns, NodeOk x) (hl : ns.length ≤ 2097152) : Evt fun n => W6 (S.tab n) (ns, ()) = some ((ns, ()), aG6) := by
 have h1 : Evt fun n => ac4 (S.tab n) ns = some (ns, aA0) := (aD4 _ ns [] hN (by simpa using hl)).up fun n h => by
  show ac4 (S.step (S.tab n)) _ = _
  rw [aS5, j6 (bL7 hl), Int.toNat_natCast]
  have h : L5 (S.tab n) ns (List.replicate ns.length ((0 : Int), (0 : Int), (0 : Int), (0 : Int), (0 : Int), (0 : Int), ([] : List Int), [], [], ())) 0 = some (Sum.inl (ns, ())) := h
  rw [h]; rfl
 exact h1.up fun n h => by
  show W6 (S.step (S.tab n)) _ = _
  rw [aX8]
  show (ac4 (S.tab n) ns).bind _ = _
  rw [h]; rfl
theorem bt3 (l : List (List Int)) (hl : l.length ≤ 2097152) : Evt fun n => V9 (S.tab n) l l = some (true, W0) := by
 have := bn4 (F := fun T j => E8 T l l (j : Int)) (P := fun _ => true) (l := l) (yes := Sum.inr (Sum.inl ())) (no := Sum.inl (false, ())) (q := Base2) q9
  (fun T j h hT => by
   show E8 (S.step T) _ _ _ = bif true then E8 T l l ((j + 1 : Nat) : Int) else _
   rw [ae2, j6 (by simp only [decide_eq_true_eq]; omega), j6 (j7 h), j6 (j7 h), n8 (by simp), B0 (by omega)]; rfl)
  (fun T hT => by
   show E8 (S.step T) _ _ _ = _
   rw [ae2, n8 (by simp)]) l.length 0 (by omega)
 refine this.up fun n h => ?_
 show V9 (S.step (S.tab n)) _ _ = _
 have e : (l.drop 0).all (fun _ => true) = true := by simp
 rw [e] at h
 have h : E8 (S.tab n) l l 0 = _ := h
 rw [aI2, n8 (by simp), h]; rfl
theorem bt0 (l : List Int) (hl : l.length ≤ 2097152) : Evt fun n => ag8 (S.tab n) l l = some (true, af8) := by
 have := bn4 (F := fun T j => K5 T l l (j : Int)) (P := fun _ => true) (l := l) (yes := Sum.inr (Sum.inl ())) (no := Sum.inl (false, ())) (q := Base2) q9
  (fun T j h hT => by
   show K5 (S.step T) _ _ _ = bif true then K5 T l l ((j + 1 : Nat) : Int) else _
   rw [ap0, j6 (by simp only [decide_eq_true_eq]; omega), j6 (j7 h), j6 (j7 h), n8 (by simp), B0 (by omega)]; rfl)
  (fun T hT => by
   show K5 (S.step T) _ _ _ = _
   rw [ap0, n8 (by simp)]) l.length 0 (by omega)
 refine this.up fun n h => ?_
 show ag8 (S.step (S.tab n)) _ _ = _
 have e : (l.drop 0).all (fun _ => true) = true := by simp
 rw [e] at h
 have h : K5 (S.tab n) l l 0 = _ := h
 rw [aW7, n8 (by simp), h]; rfl
theorem bg0 {x : b8.den} (hx : NodeOk x) : Evt fun n => aa9 (S.tab n) x x = some (true, C2) := ((bt3 (j9 x) hx.nn).and (bt0 (j3 x) hx.nk)).up fun n ⟨h1, h2⟩ => by
 show aa9 (S.step (S.tab n)) _ _ = _
 have d : ∀ (x : Int), (!decide (x = x)) = false := fun x => by simp
 have d' : ∀ (x : List Int), (!decide (x = x)) = false := fun x => by simp
 have h1 : V9 (S.tab n) x.2.2.2.2.2.2.2.1 x.2.2.2.2.2.2.2.1 = _ := h1
 have h2 : ag8 (S.tab n) x.2.2.2.2.2.2.2.2.1 x.2.2.2.2.2.2.2.2.1 = _ := h2
 rw [aW3, n8 (d _), n8 (d _), n8 (d _), n8 (d _), n8 (d _), n8 (d _), n8 (d' _), h1, Option.bind_some, n8 (by rfl), h2, Option.bind_some, n8 (by rfl)]
theorem bj9 (ns : List b8.den) (hN : ∀ x ∈ ns, NodeOk x) (hl : ns.length ≤ 2097152) : Evt fun n => at4 (S.tab n) (ns, ()) (ns, ()) = some (true, as0) := by
 have hall : ∀ (l : List b8.den), (∀ x ∈ l, NodeOk x) → Evt fun n => ∀ x ∈ l, aa9 (S.tab n) x x = some (true, C2) := by
  intro l
  induction l with
  | nil => intro _; exact Evt.of fun _ j h => by cases h
  | cons a l ih =>
   intro h
   refine ((bg0 (h a (List.mem_cons_self ..))).and (ih fun j hj => h j (List.mem_cons_of_mem _ hj))).mono fun n ⟨h1, h2⟩ j hj => ?_
   rcases List.mem_cons.1 hj with rfl | hj
   ·exact h1
   ·exact h2 j hj
 have := bn4 (F := fun T j => I5 T ns ns (j : Int)) (P := fun _ => true) (l := ns) (yes := Sum.inr (Sum.inl ())) (no := Sum.inl (false, ())) (q := fun T => ∀ x ∈ ns, aa9 T x x = some (true, C2)) (hall ns hN)
  (fun T j h hT => by
   show I5 (S.step T) _ _ _ = bif true then I5 T ns ns ((j + 1 : Nat) : Int) else _
   rw [ak1, j6 (by simp only [decide_eq_true_eq]; omega), j6 (j7 h), j6 (j7 h), ad6 _ _ h, hT _ (List.getElem_mem h), Option.bind_some, n8 (by rfl), B0 (by omega)]; rfl)
  (fun T hT => by
   show I5 (S.step T) _ _ _ = _
   rw [ak1, n8 (by simp)]) ns.length 0 (by omega)
 have h2 : Evt fun n => ac6 (S.tab n) ns ns = some (true, ab3) := this.up fun n h => by
  show ac6 (S.step (S.tab n)) _ _ = _
  have e : (ns.drop 0).all (fun _ => true) = true := by simp
  rw [e] at h
  have h : I5 (S.tab n) ns ns 0 = _ := h
  rw [aQ0, n8 (by simp), h]; rfl
 exact h2.up fun n h => by
  show at4 (S.step (S.tab n)) _ _ = _
  rw [aV7]
  show (ac6 (S.tab n) ns ns).bind _ = _
  rw [h, Option.bind_some, n8 (by rfl)]
theorem guard (ns : List b8.den) (hN : ∀ x ∈ ns, Read x) (h : ¬ bI8 ns 1048576 < 0) : (∀ x ∈ ns, NodeOk x) ∧ ns.length ≤ 2097152 := by
 unfold bI8 at h
 by_cases hd : 1048576 - (ns.length : Int) < 0
 ·rw [decide_eq_true hd] at h; exact absurd (show (-1 : Int) < 0 by decide) h
 rw [decide_eq_false hd] at h
 have h : ¬ bK5 ns (1048576 - (ns.length : Int)) < 0 := h
 refine ⟨fun x hx => ?_, by omega⟩
 obtain ⟨h1, h2, h3⟩ := bm7 ns (1048576 - (ns.length : Int)) (by omega) (by omega) x hx
 have hr := hN x hx
 exact ⟨hr.text.1, fun m hm => (hr.names.1 m hm).1, by omega, by omega⟩
end Go.Abs.D
end

section
namespace Go.Abs.D
variable {ks : List Int} {names : List (List Int)} {op num : Int} {text : List Int} {kind : Int} {t : Tr} {x : b8.den}
end Go.Abs.D
end

section
namespace Go.Abs.D
theorem aH0 {ns : List b8.den} (h : (aw9 ns).1 = 0) : aw9 ns = (0, 0, ()) ∧ 0 < ns.length ∧ ns.length ≤ 3000 ∧ ∀ (j : Nat) (hj : j < ns.length), ∀ k ∈ j3 ns[j], 0 ≤ k ∧ k < (j : Int) := by
 unfold aw9 at h ⊢
 by_cases c0 : ns.length = 0
 ·rw [decide_eq_true c0] at h; exact absurd (show (1 : Int) = 0 from h) (by decide)
 rw [decide_eq_false c0] at h ⊢
 by_cases c1 : 3000 < ns.length
 ·rw [decide_eq_true c1] at h; exact absurd (show (1 : Int) = 0 from h) (by decide)
 rw [decide_eq_false c1] at h ⊢
 by_cases c2 : S4 ns ((ns.length - 1 : Nat) : Int) = 1
 ·rw [decide_eq_true c2] at h ⊢
  by_cases c3 : a99 ns < ns.length
  ·rw [decide_eq_true c3] at h; exact absurd (show (2 : Int) = 0 from h) (by decide)
  rw [decide_eq_false c3] at h ⊢
  refine ⟨?_, by omega, by omega, fun j hj => aI9 c3 j hj⟩
  simp only [Bool.not_true, cond_false] at h ⊢
  cases hi : imS ns ns.length (List.replicate ns.length 0) with
  | inl j => rw [hi] at h; exact absurd (show (3 : Int) = 0 from h) (by decide)
  | inr _ =>
   rw [hi] at h
   simp only at h ⊢
   cases hd : decide (stop (aw5 (aV2 ns ns.length (List.replicate ns.length 0))) ns.length 0 < ns.length) with
   | true => rw [hd] at h; exact absurd (show (4 : Int) = 0 from h) (by decide)
   | false => rfl
 ·rw [decide_eq_false c2] at h; exact absurd (show (1 : Int) = 0 from h) (by decide)
theorem a97 {ns : List b8.den} (hN : ∀ x ∈ ns, NodeOk x) : Evt fun n => ax2 (S.tab n) (ns, ()) = some (decide ((aw9 ns).1 = 0), aL8) := (aY2 hN).up fun n h => by
 show ax2 (S.step (S.tab n)) _ = _
 rw [a25, h, Option.bind_some]
 by_cases c : (aw9 ns).1 = 0
 ·have := (aH0 c).1
  rw [this]; rfl
 ·simp only [decide_eq_false c, Bool.false_and]
theorem bb5 {ns : List b8.den} (h : (aw9 ns).1 = 0) (j : Nat) (hj : j < ns.length) : okN ns j ns[j] = true := by
 have hb : ¬ a99 ns < ns.length := by
  unfold aw9 at h
  by_cases c0 : ns.length = 0
  ·omega
  rw [decide_eq_false c0] at h
  by_cases c1 : 3000 < ns.length
  ·rw [decide_eq_true c1] at h; exact absurd (show (1 : Int) = 0 from h) (by decide)
  rw [decide_eq_false c1] at h
  by_cases c2 : S4 ns ((ns.length - 1 : Nat) : Int) = 1
  ·rw [decide_eq_true c2] at h
   by_cases c3 : a99 ns < ns.length
   ·rw [decide_eq_true c3] at h; exact absurd (show (2 : Int) = 0 from h) (by decide)
   exact c3
  ·rw [decide_eq_false c2] at h; exact absurd (show (1 : Int) = 0 from h) (by decide)
 have hq : okQ ns j = true := aq7 ns.length 0 j (Nat.zero_le _) (by unfold a99 at hb; omega)
 unfold okQ bp8 at hq
 rw [decide_eq_true hj, Bool.true_and, List.getElem?_eq_getElem hj] at hq
 exact hq
end Go.Abs.D
end

section
namespace Go.Abs.D
theorem bm5 {τ : Ty} (pre : List τ.den) (x : τ.den) (r : List τ.den) : at_ (pre ++ x :: r) (pre.length : Int) = x := by
 unfold at_
 rw [Int.toNat_natCast]
 exact al5 pre x r _
theorem bz6 {τ : Ty} (pre : List τ.den) (x : τ.den) (r : List τ.den) (f : τ.den → τ.den) : B3 (pre ++ x :: r) (pre.length : Int) f = pre ++ f x :: r := by
 unfold B3
 rw [bm5, Int.toNat_natCast]
 exact aI8 pre x (f x) r
theorem upn (pre : List b8.den) (x : b8.den) (r : List b8.den) (f : b8.den → b8.den) : B3 (τ := b8) (pre ++ x :: r) (pre.length : Int) f = pre ++ f x :: r := bz6 (τ := b8) pre x r f
theorem atn (pre : List b8.den) (x : b8.den) (r : List b8.den) : at_ (τ := b8) (pre ++ x :: r) (pre.length : Int) = x := bm5 (τ := b8) pre x r
theorem ae0 {α : Type} (pre : List α) (x : α) (r : List α) : (decide ((0 : Int) ≤ (pre.length : Int)) && decide ((pre.length : Int) < ((pre ++ x :: r).length : Int))) = true := j7 (by simp)
def mkS : Int → List (List Int) → List (List Int)
 | _, [] => []
 | k, _ :: r => a81 k :: mkS (k + 1) r
def mkI : Int → List Int → List Int
 | _, [] => []
 | k, _ :: r => k :: mkI (k + 1) r
theorem bq4 : ∀ (r pre : List (List Int)) (k : Int), 0 < k → k + r.length < 1000000000000000 → (pre ++ r).length ≤ 2097152 →
  Evt fun n => E2 (S.tab n) (pre ++ r) k (pre.length : Int) = some (Sum.inl (pre ++ mkS k r, k + (r.length : Int), ()))
 | [], pre, k, _, _, _ => q9.up fun n _ => by
  show E2 (S.step (S.tab n)) _ _ _ = _
  rw [aa4, n8 (by simp)]
  simp [mkS]
 | m :: r, pre, k, h0, h1, hl => by
  have hlen : (pre ++ m :: r).length = pre.length + (r.length + 1) := by simp
  simp only [List.length_cons] at h1
  have ih := bq4 r (pre ++ [a81 k]) (k + 1) (by omega) (by omega) (by simpa using hl)
  refine (ih.and (as9 k h0 (by omega))).up fun n ⟨ih, hm⟩ => ?_
  show E2 (S.step (S.tab n)) _ _ _ = _
  rw [aa4, j6 (by simp only [decide_eq_true_eq]; omega), hm, Option.bind_some, j6 (ae0 pre m r), Int.toNat_natCast, aI8, B0 (by omega), wrap64 (k + 1) (by omega) (by omega)]
  have e1 : (pre ++ [a81 k]) ++ r = pre ++ a81 k :: r := by simp
  have e2 : (pre ++ [a81 k]).length = pre.length + 1 := by simp
  rw [e1, e2] at ih
  rw [ih]
  simp [mkS]
  omega
theorem bE6 (l : List (List Int)) (k : Int) (h0 : 0 < k) (h1 : k + l.length < 1000000000000000) (hl : l.length ≤ 2097152) : Evt fun n => M7 (S.tab n) l k = some (k + (l.length : Int), mkS k l, (), ()) :=
 (bq4 l [] k h0 h1 (by simpa using hl)).up fun n h => by
  show M7 (S.step (S.tab n)) _ _ = _
  have h : E2 (S.tab n) l k 0 = some (Sum.inl (mkS k l, k + (l.length : Int), ())) := h
  rw [aC7, h]; rfl
theorem bo6 : ∀ (r pre : List Int) (k : Int), 0 < k → k + r.length < 1000000000000000 → (pre ++ r).length ≤ 2097152 →
  Evt fun n => J3 (S.tab n) (pre ++ r) k (pre.length : Int) = some (Sum.inl (pre ++ mkI k r, k + (r.length : Int), ()))
 | [], pre, k, _, _, _ => q9.up fun n _ => by
  show J3 (S.step (S.tab n)) _ _ _ = _
  rw [ah4, n8 (by simp)]
  simp [mkI]
 | m :: r, pre, k, h0, h1, hl => by
  have hlen : (pre ++ m :: r).length = pre.length + (r.length + 1) := by simp
  simp only [List.length_cons] at h1
  have ih := bo6 r (pre ++ [k]) (k + 1) (by omega) (by omega) (by simpa using hl)
  refine ih.up fun n ih => ?_
  show J3 (S.step (S.tab n)) _ _ _ = _
  rw [ah4, j6 (by simp only [decide_eq_true_eq]; omega), j6 (ae0 pre m r), Int.toNat_natCast, aI8, B0 (by omega), wrap64 (k + 1) (by omega) (by omega)]
  have e1 : (pre ++ [k]) ++ r = pre ++ k :: r := by simp
  have e2 : (pre ++ [k]).length = pre.length + 1 := by simp
  rw [e1, e2] at ih
  rw [ih]
  simp [mkI]
  omega
theorem bF9 (l : List Int) (k : Int) (h0 : 0 < k) (h1 : k + l.length < 1000000000000000) (hl : l.length ≤ 2097152) : Evt fun n => T7 (S.tab n) l k = some (k + (l.length : Int), mkI k l, (), ()) :=
 (bo6 l [] k h0 h1 (by simpa using hl)).up fun n h => by
  show T7 (S.step (S.tab n)) _ _ = _
  have h : J3 (S.tab n) l k 0 = some (Sum.inl (mkI k l, k + (l.length : Int), ())) := h
  rw [aN1, h]; rfl
def nd (k : Int) (x : b8.den) : b8.den := (k, k + 1, k + 2, k + 3, k + 4, k + 5, a81 (k + 6), mkS (k + 7) (j9 x), mkI (k + 7 + ((j9 x).length : Int)) (j3 x), ())
def nx (k : Int) (x : b8.den) : Int := k + 7 + ((j9 x).length : Int) + ((j3 x).length : Int)
def mkN : Int → List b8.den → List b8.den
 | _, [] => []
 | k, x :: r => nd k x :: mkN (nx k x) r
def kN : Int → List b8.den → Int
 | k, [] => k
 | k, x :: r => kN (nx k x) r
theorem bO9 : ∀ (l : List b8.den) (k : Int), k ≤ kN k l
 | [], k => Int.le_refl _
 | x :: r, k => by
  have := bO9 r (nx k x)
  unfold kN
  unfold nx at this ⊢
  omega
theorem bT0 : ∀ (l : List b8.den) (k : Int), (∀ x ∈ l, NodeOk x) → kN k l ≤ k + (l.length : Int) * 4194311
 | [], k, _ => by unfold kN; simp
 | x :: r, k, h => by
  have ih := bT0 r (nx k x) (fun y hy => h y (List.mem_cons_of_mem _ hy))
  have hx := h x (List.mem_cons_self ..)
  have a := hx.nn
  have b := hx.nk
  unfold kN
  have e : nx k x ≤ k + 4194311 := by unfold nx; omega
  simp only [List.length_cons]
  omega
theorem w7 {k : Int} (h0 : 0 < k) (h1 : k < 1000000000000000) : IntKind.i64.wrap (k + 1) = k + 1 ∧ IntKind.i64.wrap (k + 1 + 1) = k + 2 ∧ IntKind.i64.wrap (k + 2 + 1) = k + 3 ∧ IntKind.i64.wrap (k + 3 + 1) = k + 4 ∧ IntKind.i64.wrap (k + 4 + 1) = k + 5 ∧ IntKind.i64.wrap (k + 5 + 1) = k + 6 ∧ IntKind.i64.wrap (k + 6 + 1) = k + 7 := by
 refine ⟨?_, ?_, ?_, ?_, ?_, ?_, ?_⟩ <;> rw [wrap64 _ (by omega) (by omega)] <;> omega
theorem br6 {T : S.Tab} (pre : List b8.den) (x : b8.den) (r : List b8.den) (k : Int) (h0 : 0 < k) (hk : nx k x < 1000000000000000) (hl : (pre ++ x :: r).length ≤ 2097152)
  (hm : N1 T (k + 6) = some (a81 (k + 6), Z9)) (hs : M7 T (j9 x) (k + 7) = some (k + 7 + ((j9 x).length : Int), mkS (k + 7) (j9 x), (), ()))
  (hi : T7 T (j3 x) (k + 7 + ((j9 x).length : Int)) = some (k + 7 + ((j9 x).length : Int) + ((j3 x).length : Int), mkI (k + 7 + ((j9 x).length : Int)) (j3 x), (), ())) :
  E7 (S.step T) (pre ++ x :: r) k (pre.length : Int) = E7 T (pre ++ nd k x :: r) (nx k x) ((pre.length + 1 : Nat) : Int) := by
 have hlen : (pre ++ x :: r).length = pre.length + (r.length + 1) := by simp
 have hk' := hk
 unfold nx at hk'
 obtain ⟨w1, w2, w3, w4, w5, w6, w7⟩ := w7 h0 (show k < 1000000000000000 by omega)
 rw [ad8, j6 (by simp only [decide_eq_true_eq]; omega)]
 simp only [w1, w2, w3, w4, w5, w6, w7]
 obtain ⟨x1, x2, x3, x4, x5, x6, x7, x8, x9, _⟩ := x
 have hs : M7 T x8 (k + 7) = some (k + 7 + (x8.length : Int), mkS (k + 7) x8, (), ()) := hs
 have hi : T7 T x9 (k + 7 + (x8.length : Int)) = some (k + 7 + (x8.length : Int) + (x9.length : Int), mkI (k + 7 + (x8.length : Int)) x9, (), ()) := hi
 rw [upn]; dsimp only
 rw [upn]; dsimp only
 rw [upn]; dsimp only
 rw [upn]; dsimp only
 rw [upn]; dsimp only
 rw [upn]; dsimp only
 rw [j6 (ae0 pre _ _), j6 (ae0 pre _ _), j6 (ae0 pre _ _), j6 (ae0 pre _ _), j6 (ae0 pre _ _), j6 (ae0 pre _ _), hm, Option.bind_some, upn]
 dsimp only
 rw [j6 (ae0 pre _ _), j6 (ae0 pre _ _), atn]
 dsimp only
 rw [hs, Option.bind_some, upn]
 dsimp only
 rw [j6 (ae0 pre _ _), atn]
 dsimp only
 rw [hi, Option.bind_some, upn, B0 (by omega)]
 rfl
theorem bl7 : ∀ (r pre : List b8.den) (k : Int), 0 < k → kN k r < 1000000000000000 → (∀ x ∈ r, NodeOk x) → (pre ++ r).length ≤ 2097152 →
  Evt fun n => E7 (S.tab n) (pre ++ r) k (pre.length : Int) = some (Sum.inl (pre ++ mkN k r, kN k r, ()))
 | [], pre, k, _, _, _, _ => q9.up fun n _ => by
  show E7 (S.step (S.tab n)) _ _ _ = _
  rw [ad8, n8 (by simp)]
  simp [mkN, kN]
 | x :: r, pre, k, h0, h1, hN, hl => by
  have hx := hN x (List.mem_cons_self ..)
  have hk : nx k x < 1000000000000000 := by
   have := bO9 r (nx k x)
   unfold kN at h1
   omega
  have hk' := hk
  unfold nx at hk'
  have ih := bl7 r (pre ++ [nd k x]) (nx k x) (by unfold nx; omega) h1 (fun y hy => hN y (List.mem_cons_of_mem _ hy)) (by simpa using hl)
  have e1 : (pre ++ [nd k x]) ++ r = pre ++ nd k x :: r := by simp
  have e2 : (pre ++ [nd k x]).length = pre.length + 1 := by simp
  have e3 : (pre ++ [nd k x]) ++ mkN (nx k x) r = pre ++ mkN k (x :: r) := by simp [mkN]
  rw [e1, e2, e3] at ih
  have hs := bE6 (j9 x) (k + 7) (by omega) (by omega) hx.nn
  have hi := bF9 (j3 x) (k + 7 + ((j9 x).length : Int)) (by omega) (by omega) hx.nk
  exact (ih.and ((as9 (k + 6) (by omega) (by omega)).and (hs.and hi))).up fun n ⟨ih, hm, hs, hi⟩ => (br6 pre x r k h0 hk hl hm hs hi).trans ih
theorem bi8 (l : List b8.den) (hN : ∀ x ∈ l, NodeOk x) (hl : l.length ≤ 2097152) : Evt fun n => af3 (S.tab n) (l, ()) 1 = some (kN 1 l, (mkN 1 l, ()), (), ()) := by
 have hk : kN 1 l < 1000000000000000 := by
  have := bT0 l 1 hN
  have : (l.length : Int) * 4194311 ≤ 2097152 * 4194311 := Int.mul_le_mul_of_nonneg_right (by omega) (by decide)
  omega
 have h1 : Evt fun n => V8 (S.tab n) l 1 = some (kN 1 l, mkN 1 l, (), ()) := (bl7 l [] 1 (by decide) hk hN (by simpa using hl)).up fun n h => by
  show V8 (S.step (S.tab n)) _ _ = _
  have h : E7 (S.tab n) l 1 0 = some (Sum.inl (mkN 1 l, kN 1 l, ())) := h
  rw [aJ9, h]; rfl
 exact h1.up fun n h => by
  show af3 (S.step (S.tab n)) _ _ = _
  rw [aN2]
  show (V8 (S.tab n) l 1).bind _ = _
  rw [h]; rfl
end Go.Abs.D
end

section
namespace Go.Abs.D
abbrev aL3 : Type := List u7.den
theorem bv0 {l : List Int} {j : Nat} (h : j < l.length) : get l j = l[j] := aw7 h
theorem aT9 {st st' kids : List Int} {i : Nat} (hs : ∀ j, j < i → get st' j = get st j) : ∀ (m : Nat) (a : Int), (∀ j, j < m → 0 ≤ get kids j ∧ get kids j < (i : Int)) → aa2 st' kids m a = aa2 st kids m a
 | 0, _, _ => rfl
 | m + 1, a, hk => by
  unfold aa2
  rw [hs _ (by have := hk m (by omega); omega), aT9 hs m _ fun j hj => hk j (by omega)]
theorem bD2 (ns : List b8.den) (hk : ∀ i, i < ns.length → ∀ j, j < (r9 ns i).length → 0 ≤ get (r9 ns i) j ∧ get (r9 ns i) j < (i : Int)) : ∀ (r : Nat) (st : List Int), r ≤ ns.length → st.length = ns.length → imS ns r st = .inr () →
  ∃ st', (∀ j, j < ns.length - r → get st' j = get st j) ∧ ∀ i, ns.length - r ≤ i → i < ns.length → aa2 st' (r9 ns i) (r9 ns i).length (i : Int) = some (get st' i)
 | 0, st, _, _, _ => ⟨st, fun _ _ => rfl, fun i h1 h2 => by omega⟩
 | r + 1, st, hr, hl, h => by
  unfold imS at h
  split at h
  ·cases h
  ·rename_i a ha
   have hlt : ns.length - (r + 1) < ns.length := by omega
   cases hb : decide (r = 0) && !decide (a = 0) with
   | true => rw [hb] at h; cases h
   | false =>
    rw [hb] at h
    have h : imS ns r (st.set (ns.length - (r + 1)) a) = .inr () := h
    obtain ⟨st', h1, h2⟩ := bD2 ns hk r _ (by omega) (by simpa using hl) h
    have hlow : ∀ j, j < ns.length - (r + 1) → get st' j = get st j := fun j hj => by
     rw [h1 j (by omega), ah3 _ _ _ _ (by omega), if_neg (by omega)]
    refine ⟨st', hlow, fun i hi1 hi2 => ?_⟩
    by_cases hi : i = ns.length - (r + 1)
    ·subst hi
     rw [aT9 hlow _ _ (hk _ hlt), ha, h1 _ (by omega), ah3 _ _ _ _ (by omega), if_pos rfl]
    ·exact h2 i (by omega) hi2
theorem bG2 {ns : List b8.den} (h : (aw9 ns).1 = 0) : ∃ st : List Int, ∀ i, i < ns.length → aa2 st (r9 ns i) (r9 ns i).length (i : Int) = some (get st i) := by
 obtain ⟨_, h0, h3, hk⟩ := aH0 h
 have hk' : ∀ i, i < ns.length → ∀ j, j < (r9 ns i).length → 0 ≤ get (r9 ns i) j ∧ get (r9 ns i) j < (i : Int) := fun i hi j hj => by
  rw [ap7 hi] at hj ⊢
  rw [bv0 hj]
  exact hk i hi _ (List.getElem_mem hj)
 unfold aw9 at h
 by_cases c0 : ns.length = 0
 ·omega
 rw [decide_eq_false c0] at h
 rw [decide_eq_false (show ¬ 3000 < ns.length by omega)] at h
 by_cases c2 : S4 ns ((ns.length - 1 : Nat) : Int) = 1
 ·rw [decide_eq_true c2] at h
  by_cases c3 : a99 ns < ns.length
  ·rw [decide_eq_true c3] at h; exact absurd (show (2 : Int) = 0 from h) (by decide)
  rw [decide_eq_false c3] at h
  simp only [Bool.not_true, cond_false] at h
  cases hi : imS ns ns.length (List.replicate ns.length 0) with
  | inl j => rw [hi] at h; exact absurd (show (3 : Int) = 0 from h) (by decide)
  | inr _ =>
   obtain ⟨st', _, h2⟩ := bD2 ns hk' ns.length _ (Nat.le_refl _) (by simp) hi
   exact ⟨st', fun i hi => h2 i (by omega) hi⟩
 ·rw [decide_eq_false c2] at h; exact absurd (show (1 : Int) = 0 from h) (by decide)
def bD8 (x : b8.den) : Bool := decide (x.1 = 36)
def inner (x : b8.den) : List Int := bif decide (x.1 = 4) then (j9 x).getD 0 [] else []
def ent (x : b8.den) (nm : List Int) (d i : Int) : u7.den := (nm, x.2.2.2.1, d, i, ())
def dp (x : b8.den) (d : Int) : Int := bif bD8 x then d + 1 else d
def bh3 (ns : List b8.den) (i : Int) : List Int := j3 (at_ (τ := b8) ns i)
def a98 (ns : List b8.den) : Nat → Int → List Int → Int → aL3
 | 0, _, _, _ => []
 | m + 1, i, nm, d => (bif bD8 (at_ (τ := b8) ns i) then [ent (at_ (τ := b8) ns i) nm d i] else []) ++ (bh3 ns i).flatMap fun k => a98 ns m k (inner (at_ (τ := b8) ns i)) (dp (at_ (τ := b8) ns i) d)
theorem aI1 {st kids : List Int} {L : Int → Nat} (hL : ∀ j, j < kids.length → 0 ≤ get kids j ∧ (L (get kids j) : Int) + get st (get kids j).toNat ≤ get kids j + 1) : ∀ (m : Nat) (a b : Int), m ≤ kids.length → aa2 st kids m a = some b → (((kids.take m).map L).sum : Int) + b ≤ a
 | 0, a, b, _, h => by
  injection h with h
  subst h
  simp
 | m + 1, a, b, hm, h => by
  have hml : m < kids.length := by omega
  unfold aa2 at h
  by_cases hc : get kids m = a - 1
  ·rw [decide_eq_true hc] at h
   obtain ⟨h0, h1⟩ := hL m hml
   have ih := aI1 hL m _ b (by omega) h
   rw [List.take_succ_eq_append_getElem hml, List.map_append, List.sum_append, List.map_cons, List.map_nil, List.sum_cons, List.sum_nil]
   rw [bv0 hml] at h1 hc ih
   push_cast
   omega
  ·rw [decide_eq_false hc] at h; cases h
section
variable {ns : List b8.den} (hk : ∀ (j : Nat) (hj : j < ns.length), ∀ k ∈ j3 ns[j], 0 ≤ k ∧ k < (j : Int)) {st : List Int} (hst : ∀ i, i < ns.length → aa2 st (r9 ns i) (r9 ns i).length (i : Int) = some (get st i))
include hk in
theorem bC8 (i : Nat) (hi : i < ns.length) (j : Nat) (hj : j < (r9 ns i).length) : ∃ k : Nat, get (r9 ns i) j = (k : Int) ∧ k < i := by
 rw [ap7 hi] at hj ⊢
 rw [bv0 hj]
 have := hk i hi _ (List.getElem_mem hj)
 exact ⟨((j3 ns[i])[j]).toNat, by omega, by omega⟩
include hk hst in
theorem bT2 : ∀ (n i : Nat), i < n → i < ns.length → 0 ≤ get st i
 | 0, i, h, _ => absurd h (by omega)
 | n + 1, i, h, hi => by
  have key : ∀ (m : Nat) (a b : Int), m ≤ (r9 ns i).length → 0 ≤ a → aa2 st (r9 ns i) m a = some b → 0 ≤ b := by
   intro m
   induction m with
   | zero => intro a b _ h0 h; injection h with h; subst h; exact h0
   | succ m ih =>
    intro a b hm h0 h
    unfold aa2 at h
    by_cases hc : get (r9 ns i) m = a - 1
    ·rw [decide_eq_true hc] at h
     obtain ⟨k, hkk, hlt⟩ := bC8 hk i hi m (by omega)
     rw [hkk] at h
     exact ih _ b (by omega) (bT2 n k (by omega) (by omega)) h
    ·rw [decide_eq_false hc] at h; cases h
  exact key _ _ _ (Nat.le_refl _) (by omega) (hst i hi)
include hk hst in
theorem bR4 : ∀ (n i : Nat), i < n → i < ns.length → get st i ≤ (i : Int)
 | 0, i, h, _ => absurd h (by omega)
 | n + 1, i, h, hi => by
  have := aI1 (st := st) (kids := r9 ns i) (L := fun _ => 0) (fun j hj => by
   obtain ⟨k, hkk, hlt⟩ := bC8 hk i hi j hj
   rw [hkk]
   have := bR4 n k (by omega) (by omega)
   simp only [Int.toNat_natCast]
   omega) (r9 ns i).length i (get st i) (Nat.le_refl _) (hst i hi)
  have h0 : (((r9 ns i).take (r9 ns i).length).map fun _ => 0).sum = 0 := by
   generalize (r9 ns i).take (r9 ns i).length = l
   induction l with
   | nil => rfl
   | cons a l ih => simpa using ih
  rw [h0] at this
  omega
include hk hst in
theorem bz7 : ∀ (m i : Nat) (nm : List Int) (d : Int), i < ns.length → ((a98 ns m (i : Int) nm d).length : Int) + get st i ≤ (i : Int) + 1
 | 0, i, nm, d, hi => by
  have := bR4 hk hst (i + 1) i (by omega) hi
  unfold a98
  simp only [List.length_nil]
  omega
 | m + 1, i, nm, d, hi => by
  have ex : bh3 ns (i : Int) = r9 ns i := by unfold bh3; rw [ad6 _ _ hi, ap7 hi]
  have := aI1 (st := st) (kids := r9 ns i) (L := fun k => (a98 ns m k (inner (at_ (τ := b8) ns (i : Int))) (dp (at_ (τ := b8) ns (i : Int)) d)).length) (fun j hj => by
   obtain ⟨k, hkk, hlt⟩ := bC8 hk i hi j hj
   rw [hkk]
   have := bz7 m k (inner (at_ (τ := b8) ns (i : Int))) (dp (at_ (τ := b8) ns (i : Int)) d) (by omega)
   simp only [Int.toNat_natCast]
   omega) (r9 ns i).length i (get st i) (Nat.le_refl _) (hst i hi)
  rw [List.take_length] at this
  unfold a98
  rw [ex, List.length_append, List.length_flatMap]
  have hh : (bif bD8 (at_ (τ := b8) ns (i : Int)) then [ent (at_ (τ := b8) ns (i : Int)) nm d (i : Int)] else ([] : aL3)).length ≤ 1 := by cases bD8 (at_ (τ := b8) ns (i : Int)) <;> simp
  push_cast
  omega
end
theorem bq3 {ns : List b8.den} {i : Nat} {x : b8.den} (h : okN ns i x = true) (h4 : x.1 = 4) : 0 < (j9 x).length := by
 unfold okN at h
 by_cases c1 : x.2.1 < 0
 ·rw [decide_eq_true c1] at h; cases h
 by_cases c2 : x.2.2.1 < x.2.1
 ·rw [decide_eq_false c1, decide_eq_true c2] at h; cases h
 by_cases c3 : x.2.2.2.1 < 0
 ·rw [decide_eq_false c1, decide_eq_false c2, decide_eq_true c3] at h; cases h
 by_cases c4 : 200 < (j3 x).length
 ·rw [decide_eq_false c1, decide_eq_false c2, decide_eq_false c3, decide_eq_true c4] at h; cases h
 rw [decide_eq_false c1, decide_eq_false c2, decide_eq_false c3, decide_eq_false c4] at h
 simp only [cond_false] at h
 cases ha : (j3 x).all (inR i) with
 | false => rw [ha] at h; cases h
 | true =>
  rw [ha, cond_true, h4, show E9 4 = true from rfl, cond_true] at h
  have h : (PL true false false false ((j9 x).length : Int) x.2.2.2.2.1 x.2.2.2.2.2.1 x.2.2.2.2.2.2.1 && (NM (j9 x) 1 1 && (decide (((j5 ns x).length : Int) = 1) && decide ((j5 ns x).getD 0 0 = 36)))) = true := h
  simp only [Bool.and_eq_true] at h
  have := h.2.1
  unfold NM at this
  simp only [Bool.and_eq_true, decide_eq_true_eq] at this
  omega
section
variable {ns : List b8.den} (hk : ∀ (j : Nat) (hj : j < ns.length), ∀ k ∈ j3 ns[j], 0 ≤ k ∧ k < (j : Int)) (hf : ∀ (j : Nat) (hj : j < ns.length), ns[j].1 = 4 → 0 < (j9 ns[j]).length)
 (hn : ∀ (j : Nat) (hj : j < ns.length), (j3 ns[j]).length ≤ 2097152)
theorem bc6 (g : Int → aL3) (d : Int) (nm : List Int) : ∀ (r pre : List Int) (acc : aL3), (∀ k ∈ r, ∀ acc : aL3, acc.length + (g k).length ≤ 100000 → Evt fun n => N4 (S.tab n) k d nm (ns, ()) acc () = some ((), (), (), (), (ns, ()), acc ++ g k, (), ())) →
  (pre ++ r).length ≤ 2097152 → acc.length + (r.flatMap g).length ≤ 100000 →
  Evt fun n => A9 (S.tab n) d (ns, ()) acc () nm (pre ++ r) ((pre ++ r).length : Int) (pre.length : Int) = some (Sum.inl ((ns, ()), acc ++ r.flatMap g, ()))
 | [], pre, acc, _, hl, _ => q9.up fun n _ => by
  show A9 (S.step (S.tab n)) _ _ _ _ _ _ _ _ = _
  rw [ae7, n8 (by simp)]
  simp
 | k :: r, pre, acc, H, hl, ho => by
  have hlen : (pre ++ k :: r).length = pre.length + (r.length + 1) := by simp
  rw [List.flatMap_cons, List.length_append] at ho
  have h1 := H k (List.mem_cons_self ..) acc (by omega)
  have ih := bc6 g d nm r (pre ++ [k]) (acc ++ g k) (fun k' hk' => H k' (List.mem_cons_of_mem _ hk')) (by simpa using hl) (by rw [List.length_append]; omega)
  have e1 : (pre ++ [k]) ++ r = pre ++ k :: r := by simp
  have e2 : (pre ++ [k]).length = pre.length + 1 := by simp
  rw [e1, e2] at ih
  have hg : (pre ++ k :: r).getD (pre.length : Int).toNat 0 = k := al5 pre k r 0
  refine (ih.and h1).up fun n ⟨ih, h1⟩ => ?_
  show A9 (S.step (S.tab n)) _ _ _ _ _ _ _ _ = _
  rw [ae7, j6 (by simp only [decide_eq_true_eq]; omega), j6 (j7 (by omega)), hg, h1, Option.bind_some]
  dsimp only
  rw [B0 (by omega), ih]
  simp
include hk hf hn in
theorem bD5 : ∀ (m i : Nat) (d : Int) (nm : List Int) (acc : aL3), i < m → i < ns.length → 0 ≤ d → d + m ≤ 10000 → acc.length + (a98 ns m (i : Int) nm d).length ≤ 100000 →
  Evt fun n => N4 (S.tab n) (i : Int) d nm (ns, ()) acc () = some ((), (), (), (), (ns, ()), acc ++ a98 ns m (i : Int) nm d, (), ())
 | 0, i, _, _, _, h, _, _, _, _ => absurd h (by omega)
 | m + 1, i, d, nm, acc, h, hi, hd, hdm, ho => by
  have ea : at_ (τ := b8) ns (i : Int) = ns[i] := ad6 _ _ hi
  have hks := hk i hi
  have ek : bh3 ns (i : Int) = j3 ns[i] := by unfold bh3; rw [ea]
  generalize hx : ns[i] = x at ea hks ek
  have hfx : x.1 = 4 → 0 < (j9 x).length := by rw [← hx]; exact hf i hi
  have hnx : (j3 x).length ≤ 2097152 := by rw [← hx]; exact hn i hi
  unfold a98 at ho ⊢
  rw [ek, ea, List.length_append] at ho
  rw [ek, ea]
  have hdp : 0 ≤ dp x d ∧ dp x d + m ≤ 10000 := by unfold dp; cases bD8 x <;> simp <;> omega
  have loop : ∀ acc' : aL3, acc'.length + ((j3 x).flatMap fun k => a98 ns m k (inner x) (dp x d)).length ≤ 100000 →
    Evt fun n => K9 (S.tab n) (dp x d) (ns, ()) acc' () x = some (Sum.inl ((ns, ()), acc' ++ (j3 x).flatMap (fun k => a98 ns m k (inner x) (dp x d)), ())) := fun acc' ha => by
   have l8 := bc6 (ns := ns) (fun k => a98 ns m k (inner x) (dp x d)) (dp x d) (inner x) (j3 x) [] acc' (fun k hkk a hal => by
    obtain ⟨k0, k1⟩ := hks k hkk
    obtain ⟨j, rfl⟩ : ∃ j : Nat, k = (j : Int) := ⟨k.toNat, by omega⟩
    exact bD5 m j (dp x d) (inner x) a (by omega) (by omega) hdp.1 hdp.2 hal) (by simpa using hnx) ha
   refine l8.up fun n l8 => ?_
   have l8 : A9 (S.tab n) (dp x d) (ns, ()) acc' () (inner x) (j3 x) ((j3 x).length : Int) 0 = _ := l8
   show K9 (S.step (S.tab n)) _ _ _ _ _ = _
   rw [ay5]
   by_cases c : x.1 = 4
   ·have hnm := hfx c
    rw [j6 (decide_eq_true c), j6 (by show decide ((0 : Int) < ((j9 x).length : Int)) = true; simp only [decide_eq_true_eq]; omega)]
    have ei : inner x = (j9 x).getD 0 [] := by unfold inner; rw [decide_eq_true c]; rfl
    show (A9 (S.tab n) (dp x d) (ns, ()) acc' () ((j9 x).getD 0 []) (j3 x) ((j3 x).length : Int) 0).bind _ = _
    rw [← ei, l8]; rfl
   ·rw [n8 (decide_eq_false c)]
    have ei : inner x = [] := by unfold inner; rw [decide_eq_false c]; rfl
    show (A9 (S.tab n) (dp x d) (ns, ()) acc' () [] (j3 x) ((j3 x).length : Int) 0).bind _ = _
    rw [ei] at l8 ⊢
    rw [l8]; rfl
  by_cases c : x.1 = 36
  ·have ef : bD8 x = true := decide_eq_true c
   have ed : dp x d = d + 1 := by unfold dp; rw [ef]; rfl
   rw [ef, cond_true] at ho ⊢
   have hl1 : ([ent x nm d (i : Int)] : aL3).length = 1 := rfl
   rw [hl1] at ho
   refine (loop (acc ++ [ent x nm d (i : Int)]) (by rw [List.length_append, hl1]; omega)).up fun n hj => ?_
   show N4 (S.step (S.tab n)) _ _ _ _ _ _ = _
   rw [an5, j6 (j7 hi)]
   dsimp only
   rw [ea, j6 (decide_eq_true c), j6 (ad5 (by unfold lim; simp; omega)), wrap64 (d + 1) (by omega) (by omega)]
   rw [ed] at hj
   show (K9 (S.tab n) (d + 1) (ns, ()) (acc ++ [ent x nm d (i : Int)]) () x).bind _ = _
   rw [hj, Option.bind_some, List.append_assoc, ed]; rfl
  ·have ef : bD8 x = false := decide_eq_false c
   have ed : dp x d = d := by unfold dp; rw [ef]; rfl
   rw [ef, cond_false] at ho ⊢
   refine (loop acc (by simpa using ho)).up fun n hj => ?_
   show N4 (S.step (S.tab n)) _ _ _ _ _ _ = _
   rw [an5, j6 (j7 hi)]
   dsimp only
   rw [ea, n8 (decide_eq_false c)]
   rw [ed] at hj
   rw [hj, Option.bind_some, List.nil_append, ed]; rfl
theorem bu0 (x : b8.den) (d : Int) (a : List Int) (b c : Int) : ∀ (r pre acc : aL3), (pre ++ r).length ≤ 2097152 → acc.length + r.length ≤ 1000000 →
  Evt fun n => D0 (S.tab n) (ns, ()) x acc d a b c (pre ++ r) ((pre ++ r).length : Int) (pre.length : Int) = some (Sum.inl ((ns, ()), x, acc ++ r, d, a, b, c, ()))
 | [], pre, acc, hl, _ => q9.up fun n _ => by
  show D0 (S.step (S.tab n)) _ _ _ _ _ _ _ _ _ _ = _
  rw [ac5, n8 (by simp)]
  simp
 | k :: r, pre, acc, hl, ho => by
  have hlen : (pre ++ k :: r).length = pre.length + (r.length + 1) := by simp
  rw [List.length_cons] at ho
  have ih := bu0 x d a b c r (pre ++ [k]) (acc ++ [k]) (by simpa using hl) (by simp; omega)
  have e1 : (pre ++ [k]) ++ r = pre ++ k :: r := by simp
  have e2 : (pre ++ [k]).length = pre.length + 1 := by simp
  rw [e1, e2] at ih
  have hg : at_ (τ := u7) (pre ++ k :: r) (pre.length : Int) = k := bm5 (τ := u7) pre k r
  refine ih.up fun n ih => ?_
  show D0 (S.step (S.tab n)) _ _ _ _ _ _ _ _ _ _ = _
  rw [ac5, j6 (by simp only [decide_eq_true_eq]; omega), j6 (j7 (by omega)), hg, j6 (ad5 (by unfold lim; simp; omega)), B0 (by omega), ih]
  simp
theorem bw3 (x : b8.den) (hx4 : x.1 = 4 → 0 < (j9 x).length) (g : Int → aL3) (d : Int) : ∀ (r pre : List Int) (acc : aL3), (∀ k ∈ r, (g k).length ≤ 100000 → Evt fun n => N8 (S.tab n) (ns, ()) k (inner x) d = some (g k, W2)) →
  (pre ++ r).length ≤ 2097152 → acc.length + (r.flatMap g).length ≤ 100000 →
  Evt fun n => B9 (S.tab n) (ns, ()) x acc d (pre ++ r) ((pre ++ r).length : Int) (pre.length : Int) = some (Sum.inl (acc ++ r.flatMap g, ()))
 | [], pre, acc, _, hl, _ => q9.up fun n _ => by
  show B9 (S.step (S.tab n)) _ _ _ _ _ _ _ = _
  rw [ae8, n8 (by simp)]
  simp
 | k :: r, pre, acc, H, hl, ho => by
  have hlen : (pre ++ k :: r).length = pre.length + (r.length + 1) := by simp
  rw [List.flatMap_cons, List.length_append] at ho
  have h1 := H k (List.mem_cons_self ..) (by omega)
  have h14 := bu0 (ns := ns) x d (pre ++ k :: r) ((pre ++ k :: r).length : Int) (pre.length : Int) (g k) [] acc (by rw [List.nil_append]; omega) (by omega)
  have ih := bw3 x hx4 g d r (pre ++ [k]) (acc ++ g k) (fun k' hk' => H k' (List.mem_cons_of_mem _ hk')) (by simpa using hl) (by rw [List.length_append]; omega)
  have e1 : (pre ++ [k]) ++ r = pre ++ k :: r := by simp
  have e2 : (pre ++ [k]).length = pre.length + 1 := by simp
  rw [e1, e2] at ih
  have hg : (pre ++ k :: r).getD (pre.length : Int).toNat 0 = k := al5 pre k r 0
  have j13 : Evt fun n => J2 (S.tab n) (ns, ()) x acc d k (inner x) (pre ++ k :: r) ((pre ++ k :: r).length : Int) (pre.length : Int) = some (Sum.inl ((ns, ()), x, acc ++ g k, d, pre ++ k :: r, ((pre ++ k :: r).length : Int), (pre.length : Int), ())) := (h1.and h14).up fun n ⟨h1, h14⟩ => by
   show J2 (S.step (S.tab n)) _ _ _ _ _ _ _ _ _ = _
   rw [av6, h1, Option.bind_some]
   have h14 : D0 (S.tab n) (ns, ()) x acc d (pre ++ k :: r) ((pre ++ k :: r).length : Int) (pre.length : Int) (g k) ((g k).length : Int) 0 = _ := h14
   show (D0 (S.tab n) (ns, ()) x acc d (pre ++ k :: r) ((pre ++ k :: r).length : Int) (pre.length : Int) (g k) ((g k).length : Int) 0).bind _ = _
   rw [h14]; rfl
  refine (ih.and j13).up fun n ⟨ih, j13⟩ => ?_
  show B9 (S.step (S.tab n)) _ _ _ _ _ _ _ = _
  rw [ae8, j6 (by simp only [decide_eq_true_eq]; omega), j6 (j7 (by omega)), hg]
  by_cases c : x.1 = 4
  ·have hnm := hx4 c
   have ei : inner x = (j9 x).getD 0 [] := by unfold inner; rw [decide_eq_true c]; rfl
   rw [j6 (decide_eq_true c), j6 (by show decide ((0 : Int) < ((j9 x).length : Int)) = true; simp only [decide_eq_true_eq]; omega)]
   show (J2 (S.tab n) (ns, ()) x acc d k ((j9 x).getD 0 []) (pre ++ k :: r) ((pre ++ k :: r).length : Int) (pre.length : Int)).bind _ = _
   rw [← ei, j13, Option.bind_some]
   simp only [C7, Sum.elim_inl]
   rw [B0 (by omega), ih]
   simp
  ·have ei : inner x = [] := by unfold inner; rw [decide_eq_false c]; rfl
   rw [n8 (decide_eq_false c)]
   rw [ei] at j13
   rw [j13, Option.bind_some]
   simp only [C7, Sum.elim_inl]
   rw [B0 (by omega), ih]
   simp
include hk hf hn in
theorem bS7 : ∀ (m i : Nat) (d : Int) (nm : List Int), i < m → i < ns.length → 0 ≤ d → d + m ≤ 10000 → (a98 ns m (i : Int) nm d).length ≤ 100000 →
  Evt fun n => N8 (S.tab n) (ns, ()) (i : Int) nm d = some (a98 ns m (i : Int) nm d, W2)
 | 0, i, _, _, h, _, _, _, _ => absurd h (by omega)
 | m + 1, i, d, nm, h, hi, hd, hdm, ho => by
  have ea : at_ (τ := b8) ns (i : Int) = ns[i] := ad6 _ _ hi
  have hks := hk i hi
  have ek : bh3 ns (i : Int) = j3 ns[i] := by unfold bh3; rw [ea]
  generalize hx : ns[i] = x at ea hks ek
  have hfx : x.1 = 4 → 0 < (j9 x).length := by rw [← hx]; exact hf i hi
  have hnx : (j3 x).length ≤ 2097152 := by rw [← hx]; exact hn i hi
  unfold a98 at ho ⊢
  rw [ek, ea, List.length_append] at ho
  rw [ek, ea]
  have hdp : 0 ≤ dp x d ∧ dp x d + m ≤ 10000 := by unfold dp; cases bD8 x <;> simp <;> omega
  have loop : ∀ acc' : aL3, acc'.length + ((j3 x).flatMap fun k => a98 ns m k (inner x) (dp x d)).length ≤ 100000 →
    Evt fun n => L4 (S.tab n) (ns, ()) x acc' (dp x d) = some (Sum.inl (acc' ++ (j3 x).flatMap (fun k => a98 ns m k (inner x) (dp x d)), ())) := fun acc' ha => by
   have l8 := bw3 (ns := ns) x hfx (fun k => a98 ns m k (inner x) (dp x d)) (dp x d) (j3 x) [] acc' (fun k hkk hal => by
    obtain ⟨k0, k1⟩ := hks k hkk
    obtain ⟨j, rfl⟩ : ∃ j : Nat, k = (j : Int) := ⟨k.toNat, by omega⟩
    exact bS7 m j (dp x d) (inner x) (by omega) (by omega) hdp.1 hdp.2 hal) (by simpa using hnx) ha
   refine l8.up fun n l8 => ?_
   have l8 : B9 (S.tab n) (ns, ()) x acc' (dp x d) (j3 x) ((j3 x).length : Int) 0 = _ := l8
   show L4 (S.step (S.tab n)) _ _ _ _ = _
   rw [ay7]
   show (B9 (S.tab n) (ns, ()) x acc' (dp x d) (j3 x) ((j3 x).length : Int) 0).bind _ = _
   rw [l8]; rfl
  by_cases c : x.1 = 36
  ·have ef : bD8 x = true := decide_eq_true c
   have ed : dp x d = d + 1 := by unfold dp; rw [ef]; rfl
   rw [ef, cond_true] at ho ⊢
   have hl1 : ([ent x nm d (i : Int)] : aL3).length = 1 := rfl
   rw [hl1] at ho
   refine (loop [ent x nm d (i : Int)] (by rw [hl1]; omega)).up fun n hj => ?_
   show N8 (S.step (S.tab n)) _ _ _ _ = _
   rw [ao5, j6 (j7 hi)]
   dsimp only
   rw [ea, j6 (decide_eq_true c), j6 (ad5 (by unfold lim; simp)), wrap64 (d + 1) (by omega) (by omega)]
   rw [ed] at hj
   show (L4 (S.tab n) (ns, ()) x [ent x nm d (i : Int)] (d + 1)).bind _ = _
   rw [hj, Option.bind_some, ed]; rfl
  ·have ef : bD8 x = false := decide_eq_false c
   have ed : dp x d = d := by unfold dp; rw [ef]; rfl
   rw [ef, cond_false] at ho ⊢
   refine (loop [] (by simpa using ho)).up fun n hj => ?_
   show N8 (S.step (S.tab n)) _ _ _ _ = _
   rw [ao5, j6 (j7 hi)]
   dsimp only
   rw [ea, n8 (decide_eq_false c)]
   rw [ed] at hj
   rw [hj, Option.bind_some, ed]; rfl
end
def bG5 (ns : List b8.den) : aL3 := bif decide ((aw9 ns).1 = 0) then a98 ns ns.length ((ns.length - 1 : Nat) : Int) [] 0 else []
theorem a78 {ns : List b8.den} : (bG5 ns).length ≤ 3001 := by
 unfold bG5
 by_cases c : (aw9 ns).1 = 0
 ·obtain ⟨_, h0, h3, hk⟩ := aH0 c
  obtain ⟨st, hst⟩ := bG2 c
  rw [decide_eq_true c, cond_true]
  have := bz7 hk hst ns.length (ns.length - 1) [] 0 (by omega)
  have hz := bT2 hk hst ns.length (ns.length - 1) (by omega) (by omega)
  omega
 ·rw [decide_eq_false c]; simp
end Go.Abs.D
end

section
namespace Go.Abs.D
theorem bs7 (l : aL3) (hl : l.length ≤ 2097152) : Evt fun n => T6 (S.tab n) l l = some (true, Z5) := by
 have he : Evt fun n => ∀ e : u7.den, ac2 (S.tab n) e e = some (true, N6) := q9.up fun n _ e => by
  show ac2 (S.step (S.tab n)) _ _ = _
  rw [aT3, n8 (by simp), n8 (by simp), n8 (by simp), n8 (by simp)]
 have := bn4 (F := fun T j => H0 T l l (j : Int)) (P := fun _ => true) (l := l) (yes := Sum.inr (Sum.inl ())) (no := Sum.inl (false, ())) (q := fun T => ∀ e : u7.den, ac2 T e e = some (true, N6)) he
  (fun T j h hT => by
   show H0 (S.step T) _ _ _ = bif true then H0 T l l ((j + 1 : Nat) : Int) else _
   rw [ah5, j6 (by simp only [decide_eq_true_eq]; omega), j6 (j7 h), j6 (j7 h), hT, Option.bind_some, n8 (by simp), B0 (by omega)]; rfl)
  (fun T hT => by
   show H0 (S.step T) _ _ _ = _
   rw [ah5, n8 (by simp)]) l.length 0 (by omega)
 refine this.up fun n h => ?_
 show T6 (S.step (S.tab n)) _ _ = _
 have e : (l.drop 0).all (fun _ => true) = true := by simp
 rw [e] at h
 have h : H0 (S.tab n) l l 0 = _ := h
 rw [aN3, n8 (by simp), h]; rfl
def me (k : Int) : u7.den := (a81 k, k + 1, k + 2, k + 3, ())
def mkE : Int → aL3 → aL3
 | _, [] => []
 | k, _ :: r => me k :: mkE (k + 4) r
theorem bz9 : ∀ (l : aL3) (k : Int), (mkE k l).length = l.length
 | [], _ => rfl
 | _ :: r, k => by simp [mkE, bz9 r (k + 4)]
theorem w4 {k : Int} (h0 : 0 < k) (h1 : k < 1000000000000000) : IntKind.i64.wrap (k + 1) = k + 1 ∧ IntKind.i64.wrap (k + 1 + 1) = k + 2 ∧ IntKind.i64.wrap (k + 2 + 1) = k + 3 ∧ IntKind.i64.wrap (k + 3 + 1) = k + 4 := by
 refine ⟨?_, ?_, ?_, ?_⟩ <;> rw [wrap64 _ (by omega) (by omega)] <;> omega
theorem upe (pre : aL3) (x : u7.den) (r : aL3) (f : u7.den → u7.den) : B3 (τ := u7) (pre ++ x :: r) (pre.length : Int) f = pre ++ f x :: r := bz6 (τ := u7) pre x r f
theorem ate (pre : aL3) (x : u7.den) (r : aL3) : at_ (τ := u7) (pre ++ x :: r) (pre.length : Int) = x := bm5 (τ := u7) pre x r
theorem bn7 : ∀ (r pre : aL3) (k : Int), 0 < k → k + 4 * (r.length : Int) < 1000000000000000 → (pre ++ r).length ≤ 2097152 →
  Evt fun n => D1 (S.tab n) (pre ++ r) k (pre.length : Int) = some (Sum.inl (pre ++ mkE k r, k + 4 * (r.length : Int), ()))
 | [], pre, k, _, _, _ => q9.up fun n _ => by
  show D1 (S.step (S.tab n)) _ _ _ = _
  rw [ac7, n8 (by simp)]
  simp [mkE]
 | x :: r, pre, k, h0, h1, hl => by
  have hlen : (pre ++ x :: r).length = pre.length + (r.length + 1) := by simp
  simp only [List.length_cons] at h1
  have ih := bn7 r (pre ++ [me k]) (k + 4) (by omega) (by omega) (by simpa using hl)
  have e1 : (pre ++ [me k]) ++ r = pre ++ me k :: r := by simp
  have e2 : (pre ++ [me k]).length = pre.length + 1 := by simp
  have e3 : (pre ++ [me k]) ++ mkE (k + 4) r = pre ++ mkE k (x :: r) := by simp [mkE]
  rw [e1, e2, e3] at ih
  obtain ⟨w1, w2, w3, w4⟩ := w4 h0 (show k < 1000000000000000 by omega)
  refine (ih.and (as9 k h0 (by omega))).up fun n ⟨ih, hm⟩ => ?_
  show D1 (S.step (S.tab n)) _ _ _ = _
  rw [ac7, j6 (by simp only [decide_eq_true_eq]; omega), hm, Option.bind_some]
  simp only [w1, w2, w3, w4]
  obtain ⟨x1, x2, x3, x4, _⟩ := x
  rw [upe]; dsimp only
  rw [upe]; dsimp only
  rw [upe]; dsimp only
  rw [j6 (ae0 pre _ _), j6 (ae0 pre _ _), j6 (ae0 pre _ _), j6 (ae0 pre _ _), upe, B0 (by omega)]
  have ih' := ih
  show D1 (S.tab n) (pre ++ me k :: r) (k + 4) ((pre.length + 1 : Nat) : Int) = _
  rw [ih']
  simp only [List.length_cons]
  have : k + 4 + 4 * (r.length : Int) = k + 4 * ((r.length + 1 : Nat) : Int) := by omega
  rw [this]
theorem bE4 (l : aL3) (k : Int) (h0 : 0 < k) (h1 : k + 4 * (l.length : Int) < 1000000000000000) (hl : l.length ≤ 2097152) : Evt fun n => Z3 (S.tab n) l k = some (k + 4 * (l.length : Int), mkE k l, (), ()) :=
 (bn7 l [] k h0 h1 (by simpa using hl)).up fun n h => by
  show Z3 (S.step (S.tab n)) _ _ = _
  have h : D1 (S.tab n) l k 0 = some (Sum.inl (mkE k l, k + 4 * (l.length : Int), ())) := h
  rw [aF8, h]; rfl
theorem bm2 : ∀ (r pre : aL3) (k : Int), 0 < k → k + 4 * (r.length : Int) < 1000000000000000 → (pre ++ r).length ≤ 2097152 →
  Evt fun n => G0 (S.tab n) (pre ++ mkE k r) k (pre.length : Int) = some (Sum.inr (Sum.inl (k + 4 * (r.length : Int), ())))
 | [], pre, k, _, _, _ => q9.up fun n _ => by
  show G0 (S.step (S.tab n)) _ _ _ = _
  rw [ac9, n8 (by simp [mkE])]
  simp
 | x :: r, pre, k, h0, h1, hl => by
  have hlen : (pre ++ x :: r).length = pre.length + (r.length + 1) := by simp
  have hlen2 : (pre ++ mkE k (x :: r)).length = pre.length + (r.length + 1) := by rw [List.length_append, bz9]; rfl
  simp only [List.length_cons] at h1
  have ih := bm2 r (pre ++ [me k]) (k + 4) (by omega) (by omega) (by simpa using hl)
  obtain ⟨w1, w2, w3, w4⟩ := w4 h0 (show k < 1000000000000000 by omega)
  refine (ih.and (as9 k h0 (by omega))).up fun n ⟨ih, hm⟩ => ?_
  show G0 (S.step (S.tab n)) _ _ _ = _
  rw [ac9, j6 (by simp only [decide_eq_true_eq]; omega)]
  unfold mkE
  have hin := ae0 pre (me k) (mkE (k + 4) r)
  rw [j6 hin, hm, Option.bind_some]
  simp only [w1, w2, w3, w4]
  rw [ate]
  rw [n8 (by simp [me]), j6 hin, n8 (by simp [me]), j6 hin, n8 (by simp [me]), j6 hin, n8 (by simp [me]), B0 (by omega)]
  have e1 : (pre ++ [me k]) ++ mkE (k + 4) r = pre ++ me k :: mkE (k + 4) r := by simp
  have e2 : (pre ++ [me k]).length = pre.length + 1 := by simp
  rw [e1, e2] at ih
  rw [ih]
  simp only [List.length_cons]
  have : k + 4 + 4 * (r.length : Int) = k + 4 * ((r.length + 1 : Nat) : Int) := by omega
  rw [this]
theorem bF8 (l : aL3) (k : Int) (h0 : 0 < k) (h1 : k + 4 * (l.length : Int) < 1000000000000000) (hl : l.length ≤ 2097152) : Evt fun n => T4 (S.tab n) (mkE k l) k = some (k + 4 * (l.length : Int), aa7) :=
 (bm2 l [] k h0 h1 (by simpa using hl)).up fun n h => by
  show T4 (S.step (S.tab n)) _ _ = _
  have h : G0 (S.tab n) (mkE k l) k 0 = some (Sum.inr (Sum.inl (k + 4 * (l.length : Int), ()))) := h
  rw [aF1, h]; rfl
section
variable {ns : List b8.den} (hN : ∀ x ∈ ns, NodeOk x)
include hN in
theorem aR1 : Evt fun n => Y4 (S.tab n) (ns, ()) = some (bG5 ns, an1) := by
 have hs := a97 hN
 have hlen := a78 (ns := ns)
 unfold bG5 at hlen ⊢
 by_cases c : (aw9 ns).1 = 0
 ·obtain ⟨_, h0, h3, hk⟩ := aH0 c
  rw [decide_eq_true c] at hs hlen ⊢
  rw [cond_true] at hlen ⊢
  have w : IntKind.i64.wrap ((ns.length : Int) - 1) = ((ns.length - 1 : Nat) : Int) := by rw [wrap64 _ (by omega) (by omega)]; omega
  have hw := bD5 (ns := ns) hk (fun j hj h4 => bq3 (bb5 c j hj) h4) (fun j hj => (hN _ (List.getElem_mem hj)).nk) ns.length (ns.length - 1) 0 [] [] (by omega) (by omega) (by omega) (by omega) (by simp; omega)
  refine (hs.and hw).up fun n ⟨hs, hw⟩ => ?_
  show Y4 (S.step (S.tab n)) _ = _
  rw [av7, hs, Option.bind_some, n8 (by rfl)]
  dsimp only
  rw [w, hw, Option.bind_some, List.nil_append]
 ·rw [decide_eq_false c] at hs ⊢
  refine hs.up fun n hs => ?_
  show Y4 (S.step (S.tab n)) _ = _
  rw [av7, hs, Option.bind_some, j6 (by rfl)]; rfl
include hN in
theorem aR2 : Evt fun n => ac0 (S.tab n) (ns, ()) = some (bG5 ns, am7) := by
 have hs := aY5 hN
 have hlen := a78 (ns := ns)
 unfold bG5 at hlen ⊢
 by_cases c : (aw9 ns).1 = 0
 ·obtain ⟨et, h0, h3, hk⟩ := aH0 c
  rw [decide_eq_true c] at hlen ⊢
  rw [cond_true] at hlen ⊢
  have w : IntKind.i64.wrap ((ns.length : Int) - 1) = ((ns.length - 1 : Nat) : Int) := by rw [wrap64 _ (by omega) (by omega)]; omega
  have hw := bS7 (ns := ns) hk (fun j hj h4 => bq3 (bb5 c j hj) h4) (fun j hj => (hN _ (List.getElem_mem hj)).nk) ns.length (ns.length - 1) 0 [] (by omega) (by omega) (by omega) (by omega) (by omega)
  refine (hs.and hw).up fun n ⟨hs, hw⟩ => ?_
  show ac0 (S.step (S.tab n)) _ = _
  rw [av2, hs, Option.bind_some, n8 (by rw [et]; rfl)]
  dsimp only
  rw [w, hw, Option.bind_some]
 ·rw [decide_eq_false c]
  refine hs.up fun n hs => ?_
  show ac0 (S.step (S.tab n)) _ = _
  rw [av2, hs, Option.bind_some, j6 (by rw [decide_eq_false c]; rfl)]; rfl
end
theorem bj4 (ns : List b8.den) (hN : ∀ x ∈ ns, Read x) (hn : ns.length ≤ maxLen) : Evt fun n => R6 (S.tab n) (ns, ()) = some (true, r7) := by
 have hsz := bA3 ns hN hn
 by_cases hd : bI8 ns 1048576 < 0
 ·refine hsz.up fun n h => ?_
  show R6 (S.step (S.tab n)) _ = _
  rw [decide_eq_true hd] at h
  rw [aa5, h, Option.bind_some, j6 (by rfl)]
 ·obtain ⟨hO, hl⟩ := guard ns hN hd
  have hp := a78 (ns := ns)
  have k1 := bO9 ns 1
  refine ((hsz.and (bv1 ns hO hl)).and (((aR2 hO).and (aR1 hO)).and (((bj9 ns hO hl).and (bs7 (bG5 ns) (by omega))).and (((bi8 ns hO hl).and (bE4 (bG5 ns) 1 (by decide) (by omega) (by omega))).and (bF8 (bG5 ns) 1 (by decide) (by omega) (by omega)))))).up fun n ⟨⟨h, ht⟩, ⟨hs, hi⟩, ⟨e1, e2⟩, ⟨m1, m2⟩, hh⟩ => ?_
  show R6 (S.step (S.tab n)) _ = _
  rw [decide_eq_false hd, cond_false] at h
  rw [aa5, h, Option.bind_some, n8 (decide_eq_false hd), ht, Option.bind_some]
  dsimp only
  rw [hs, Option.bind_some, Option.bind_some]
  dsimp only
  rw [hi, Option.map_some, Option.bind_some]
  dsimp only
  rw [e2, Option.map_some, Option.bind_some, n8 (by rfl), Option.bind_some]
  dsimp only
  rw [e1, Option.map_some, Option.bind_some, n8 (by rfl)]
  dsimp only
  rw [m1, Option.bind_some, n8 (by simp only [decide_eq_false_iff_not]; omega), e2, Option.map_some, Option.bind_some, n8 (by rfl)]
  dsimp only
  rw [m2, Option.bind_some]
  dsimp only
  rw [hh, Option.map_some, Option.bind_some, n8 (by simp only [decide_eq_false_iff_not]; omega), n8 (by simp), Option.bind_some]
  dsimp only
  rw [hi, Option.map_some, Option.bind_some]
  dsimp only
  rw [e2, Option.map_some, Option.bind_some, n8 (by rfl)]
  try dsimp only
  rw [hh, Option.map_some, Option.bind_some, n8 (by simp only [decide_eq_false_iff_not]; omega), n8 (by simp)]
end Go.Abs.D
end

section
namespace Go.Abs.D
theorem bM7 {x : b8.den} (h : Good b8 x) : Read x := by
 obtain ⟨_, _, _, _, _, _, h7, h8, h9, _⟩ := h
 exact ⟨h7, ⟨h8.1, h8.2⟩, h9.2⟩
end Go.Abs.D
namespace Go.Proofs.YtnoddjddkbhnbaaGreatDoor
open Go.ChangeShapes Go.WideShapes Go.ChangeAt Go.RowKit
set_option maxRecDepth 100000 in
theorem bP0 (W : World) (hL : laidMetH Tryz.prog Rows.fnExactOutlineRow.laid W) (v0 : Value) (x0 : List Abs.D.b8.den) (hR0 : Abs.Rc (Abs.snap W) (.sl Abs.D.b8) x0 [v0]) (hG0 : Abs.Good (.pr (.sl Abs.D.b8) .un) (x0, ())) : Calls Tryz.prog 4 #[.agg #[v0]] W fun e w' => e = .returned (.bool true) ∧ Below W.heap.size W w' := by
 obtain ⟨N, h⟩ := Abs.D.bj4 x0 (fun x hx => Abs.D.bM7 (hG0.1.1 x hx)) hG0.1.2
 have hok := (sys N).fn 4 (by kernel_rfl) ((x0, ()), ()) (true, (((), ()), ())) (h N (Nat.le_refl N)) (Abs.snap W) W [.agg #[v0]] [] (bN7 hL) (fun b L hb => Abs.bC9 hb)
  ⟨_, _, [], [], rfl, rfl, ⟨[v0], rfl, [v0], [], [], [], rfl, rfl, ⟨rfl, rfl, _, rfl, hR0⟩, rfl, rfl⟩, ⟨rfl, rfl⟩⟩ List.nodup_nil (fun b hb => by simp at hb) (Abs.bb2.none rfl)
 refine (Abs.aM4 Tryz.func4 rfl (by kernel_rfl) hok).mono ?_
 rintro e w' ⟨v, rfl, imm', n1, n2, A, ⟨_, h1, _, u, e2, h2⟩, h3⟩
 injection e2 with e2 _
 subst e2
 have h2 : [v] = [Value.bool true] := h2
 injection h2 with h2 _
 subst h2
 exact ⟨rfl, A.below⟩
set_option maxRecDepth 100000 in
theorem bx1 (os : Os) (started : os.Started) (H : Type) (enc : TypeId × Value → H) :
  ReturnsInHanded {} Tryz.checked os 4 .any (fun w args => (Rows.fnExactOutlineSpec.pre enc Tryz.prog Tryz.f4 Rows.fnExactOutlineRow.domain false w args ∧ laidMetH Tryz.prog Rows.fnExactOutlineRow.laid w) ∧ sizedMet enc Tryz.prog Tryz.f4 (OpenSpec.ofChange Rows.fnExactOutlineSpec) false w args)
   (Rows.fnExactOutlineSpec.post enc Tryz.prog Tryz.f4 false true false false) := by
 refine returnsInHanded_of_change_and (C := Tryz.checked) (X := fun w _ => laidMetH Tryz.prog Rows.fnExactOutlineRow.laid w) (fun _ _ _ hh h => h.of_heap hh) own started (by kernel_rfl) Tryz.func4
  (ChangeSpec.witness_shaped (enc := enc) (C := Tryz.checked) (os := os) (X := fun w _ => laidMetH Tryz.prog Rows.fnExactOutlineRow.laid w) false (World.laidAll Tryz.prog os Rows.fnExactOutlineRow.laid) #[.agg #[.slice none 0 0]] 8 (World.laidAll_os _ _ _)
   (World.shaped_of_ZipB (by kernel_rfl) (by kernel_rfl)) (by kernel_rfl) (by kernel_rfl) (by kernel_rfl)
   (by rw [MakeChecks.laidMetH_plain _ _ _ (by kernel_rfl)]; exact laidMet_laidAll _ (by kernel_rfl) (by kernel_rfl))) ?_
 intro W base args ds gs before hval0 hW _ _ hL _
 have hval : ∀ (j : Nat) t v, Tryz.f4.params[j]? = some t → args[j]? = some v → Value.okWide Tryz.prog W .any base t v := hval0
 have hW' := hW
 obtain ⟨p, q, hA0, hV, rfl, hfz, hnd⟩ := hW
 have hA : DataW.TrodAll enc Tryz.prog W 0 (fun _ => true) true Tryz.f4.params.toList args.toList ds p := hA0
 rw [Tryz.params4] at hA hval
 obtain ⟨v0, vs0, d0, ds0, p0, q0, hargs0, rfl, rfl, h0, r0⟩ := trodAll_cons hA
 obtain ⟨rfl, rfl, rfl⟩ := trodAll_nil r0
 obtain rfl : args = #[v0] := by cases args; simp_all
 have h0k := h0
 obtain ⟨fuel0, hf0⟩ := h0
 obtain ⟨cs0, rfl⟩ := bh8 Tryz.underlying24 (hval 0 24 v0 rfl rfl)
 obtain ⟨hR0, hG0⟩ := Abs.a63 5 fuel0 24 (.pr (.sl Abs.D.b8) .un) _ _ (by kernel_rfl) hf0
 have hR20 : ∃ v, cs0 = #[v] ∧ Abs.Rc (Abs.snap W) (.sl Abs.D.b8) (Abs.ofD (.pr (.sl Abs.D.b8) .un) d0).1 [v] := by
  obtain ⟨c1, c2, e, h1, h2⟩ := hR0
  have h2 : c2 = [] := h2
  subst h2
  obtain ⟨A, c, rfl, h3⟩ := h1
  have e : cs0.toList = _ := e
  exact ⟨_, by apply Array.ext'; rw [e]; rfl, A, c, rfl, h3⟩
 obtain ⟨w0, rfl, hw0⟩ := hR20
 have hlt0 : ∀ x ∈ p0, x.block < W.heap.size := fun x hx => by simpa using hW'.lt x (List.mem_append_left _ (List.mem_append_left _ hx))
 have hV3 := aL0 hV
 match gs, hV3, hV, hW' with
 | [g1, g2, g3], _, hV, hW' =>
  clear hA0 hval0
  refine (bP0 W hL w0 _ hw0 hG0).mono fun e W' ⟨he, bel⟩ => ?_
  subst he
  exact ⟨_, rfl, _, _, _, [], _, _, hW', trodAll_mk1 (shut_bool Tryz.underlying4 _), (trodAll_cons_mk (Below.trod laidOut (by kernel_rfl) (of_decide_eq_true (by kernel_rfl)) h0k bel hlt0) trodAll_mk0), Below.trodVars laidOut bel (by kernel_rfl) hV, bel.frame _, fun h => by cases h⟩
theorem bU1 : Rows.FnExactOutlineSaid :=
 OpenClaim.holds_of_wide 4 Tryz.f4 rfl rfl rfl rfl rfl rfl rfl ⟨rfl, rfl, rfl, rfl, rfl⟩ rfl rfl rfl rfl rfl (by kernel_rfl) Tryz.func4 (by kernel_rfl)
  (of_decide_eq_true (by kernel_rfl)) (by unfold Func.isWrapper; first | (rw [if_pos (by decide +kernel)]; kernel_rfl) | (rw [if_neg (by decide +kernel)]; exact ⟨rfl, rfl⟩))
  (fun os started H enc _ => bx1 os started H enc)
theorem fnExactOutline_holds : Rows.FnExactOutlineCardSaid :=
 Claim7.holds_tied_plain_at .later [] [.data, .data, .data, .sentinel, .sentinel, .data, .data, .data] true (true, "4e3d85be510023ad1ea55354940b0eda3824eb405225e0444297d2af1764754c") true
  bU1 (fun _ h => by cases h) (by kernel_rfl) (fun _ h => by cases h) fnExactOutline_row_tie rfl ⟨rfl, rfl⟩ (by kernel_rfl) rfl
  (fun f fn hf hfn => by
   obtain rfl : f = 4 := Option.some.inj ((show Tryz.prog.funcNamed "loop.example/warp/laws.FnExactOutline" = some 4 by kernel_rfl).symm.trans hf) |>.symm
   obtain rfl : fn = Tryz.f4 := (Option.some.inj (Tryz.func4.symm.trans hfn)).symm
   exact ⟨by kernel_rfl, fun j t ht => by
    rw [Tryz.params4] at ht
    have hm : t ∈ [24] := by simpa using Array.mem_of_getElem? ht
    have hall : ([24].all fun u => !Tryz.prog.wantsStandIn u) = true := by kernel_rfl
    exact (show Tryz.prog.wantsStandIn t = false by simpa using List.all_eq_true.1 hall t hm)⟩)
  (by kernel_rfl)
end Go.Proofs.YtnoddjddkbhnbaaGreatDoor
#print axioms Go.Proofs.YtnoddjddkbhnbaaGreatDoor.fnExactOutline_holds
end
