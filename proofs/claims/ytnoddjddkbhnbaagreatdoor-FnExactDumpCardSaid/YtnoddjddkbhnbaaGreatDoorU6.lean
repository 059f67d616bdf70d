/- What is here: the loops of TreeOk on both sides. What is here: the places of a tree's nodes on both sides, and TreeOk. What is here: TreeOk on both sides: the same. What is here: nothing of its own; what the next texts lean on. What is here: nothing of its own; what the next texts lean on. What is here: small laws on rows. What is here: trees: sizes, copies, equality. What is here: what is known of the texts and names of a node that is as the tables say. What is here: what a sound tree is. What is here: what spec.Quote and impl.Quote compute: the same text. What is here: numbers as texts, decimal. What is here: Dump on both sides, and FnExactDump, plain. What is proved: FnExactDump answers true at every input; the package variables are as the program's text lays them. -/
import Derived.Test.YtnoddjddkbhnbaaGreatDoorU5
import Derived.Test.YtnoddjddkbhnbaaGreatDoorCards
set_option linter.unusedVariables false
set_option linter.unusedSimpArgs false
set_option maxRecDepth 100000
section
namespace Go.Abs.D
def bn0 (ns : List b8.den) (j : Nat) : Bool := match ns[j]? with | some x => okN ns j x | none => false
def okQ (ns : List b8.den) (j : Nat) : Bool := decide (j < ns.length) && bn0 ns j
theorem bx2 {ns : List b8.den} : ∀ j, ns.length ≤ j → okQ ns j = false := fun j h => by unfold okQ; rw [decide_eq_false (by omega)]; rfl
def bb5 (ns : List b8.den) : Nat := stop (okQ ns) ns.length 0
abbrev Fa : Type := Int × Int × Unit
section
variable {ns : List b8.den} (hN : ∀ x ∈ ns, NodeOk x) (hn : ns.length ≤ 3000)
include hN hn
theorem bJ5 : Evt fun n => ∀ j ∈ List.range ns.length, A2 (S.tab n) (ns, ()) (j : Int) = some (bn0 ns j, l9) := by
 have : ∀ (l : List Nat), (∀ j ∈ l, j < ns.length) → Evt fun n => ∀ j ∈ l, A2 (S.tab n) (ns, ()) (j : Int) = some (bn0 ns j, l9) := by
  intro l
  induction l with
  | nil => intro _; exact Evt.of fun _ j h => by cases h
  | cons a l ih =>
   intro h
   have ha := h a (List.mem_cons_self ..)
   have e : bn0 ns a = okN ns a ns[a] := by unfold bn0; rw [List.getElem?_eq_getElem ha]
   refine ((aV5 (hN _ (List.getElem_mem ha)) ha hn rfl).and (ih fun j hj => h j (List.mem_cons_of_mem _ hj))).mono fun n ⟨h1, h2⟩ j hj => ?_
   rcases List.mem_cons.1 hj with rfl | hj
   ·rw [e]; exact h1
   ·exact h2 j hj
 exact this _ fun j hj => List.mem_range.1 hj
omit hn in
theorem bH1 : Evt fun n => ∀ j ∈ List.range ns.length, w6 (S.tab n) (ns, ()) (j : Int) = some (bn0 ns j, A1) := by
 have : ∀ (l : List Nat), (∀ j ∈ l, j < ns.length) → Evt fun n => ∀ j ∈ l, w6 (S.tab n) (ns, ()) (j : Int) = some (bn0 ns j, A1) := by
  intro l
  induction l with
  | nil => intro _; exact Evt.of fun _ j h => by cases h
  | cons a l ih =>
   intro h
   have ha := h a (List.mem_cons_self ..)
   have e : bn0 ns a = okN ns a ns[a] := by unfold bn0; rw [List.getElem?_eq_getElem ha]
   refine ((aV1 (hN _ (List.getElem_mem ha)) ha rfl).and (ih fun j hj => h j (List.mem_cons_of_mem _ hj))).mono fun n ⟨h1, h2⟩ j hj => ?_
   rcases List.mem_cons.1 hj with rfl | hj
   ·rw [e]; exact h1
   ·exact h2 j hj
 exact this _ fun j hj => List.mem_range.1 hj
theorem bV2 (z : Int) (f : Fa) : Evt fun n => E5 (S.tab n) (ns, ()) f z (ns.length : Int) 0 = some (bif decide (bb5 ns < ns.length) then Sum.inl ((2, (bb5 ns : Int), ()), ()) else Sum.inr (Sum.inl ((ns, ()), f, z, ()))) :=
 adv (F := fun T (j : Nat) => E5 T (ns, ()) f z (ns.length : Int) (j : Int)) (q := okQ ns) (N := ns.length)
  (out := fun j => bif decide (j < ns.length) then Sum.inl ((2, (j : Int), ()), ()) else Sum.inr (Sum.inl ((ns, ()), f, z, ())))
  (p := fun T => ∀ j ∈ List.range ns.length, A2 T (ns, ()) (j : Int) = some (bn0 ns j, l9)) (bJ5 hN hn) bx2
  (fun T j h hq => by
   unfold okQ at hq
   rw [Bool.and_eq_true, decide_eq_true_eq] at hq
   show E5 (S.step T) _ _ _ _ _ = E5 T (ns, ()) f z (ns.length : Int) ((j + 1 : Nat) : Int)
   rw [an6, j6 (by simp only [decide_eq_true_eq]; omega), h j (List.mem_range.2 hq.1), Option.bind_some, hq.2, n7 (by rfl), A3 (by omega)])
  (fun T j h hq => by
   show E5 (S.step T) _ _ _ _ _ = _
   rw [an6]
   by_cases hj : j < ns.length
   ·unfold okQ at hq
    rw [decide_eq_true hj, Bool.true_and] at hq
    rw [j6 (by simp only [decide_eq_true_eq]; omega), h j (List.mem_range.2 hj), Option.bind_some, hq, j6 (by rfl), decide_eq_true hj]; rfl
   ·rw [n7 (by simp only [decide_eq_false_iff_not]; omega), decide_eq_false hj]; rfl) ns.length 0 (by omega)
theorem bU3 (f : Fa) : Evt fun n => E2 (S.tab n) (ns, ()) f (ns.length : Int) 0 = some (bif decide (bb5 ns < ns.length) then Sum.inl ((2, (bb5 ns : Int), ()), ()) else Sum.inr (Sum.inl ((ns, ()), f, ()))) :=
 adv (F := fun T (j : Nat) => E2 T (ns, ()) f (ns.length : Int) (j : Int)) (q := okQ ns) (N := ns.length)
  (out := fun j => bif decide (j < ns.length) then Sum.inl ((2, (j : Int), ()), ()) else Sum.inr (Sum.inl ((ns, ()), f, ())))
  (p := fun T => ∀ j ∈ List.range ns.length, w6 T (ns, ()) (j : Int) = some (bn0 ns j, A1)) (bH1 hN) bx2
  (fun T j h hq => by
   unfold okQ at hq
   rw [Bool.and_eq_true, decide_eq_true_eq] at hq
   show E2 (S.step T) _ _ _ _ = E2 T (ns, ()) f (ns.length : Int) ((j + 1 : Nat) : Int)
   rw [an1, j6 (by simp only [decide_eq_true_eq]; omega), h j (List.mem_range.2 hq.1), Option.bind_some, hq.2, n7 (by rfl), A3 (by omega)])
  (fun T j h hq => by
   show E2 (S.step T) _ _ _ _ = _
   rw [an1]
   by_cases hj : j < ns.length
   ·unfold okQ at hq
    rw [decide_eq_true hj, Bool.true_and] at hq
    rw [j6 (by simp only [decide_eq_true_eq]; omega), h j (List.mem_range.2 hj), Option.bind_some, hq, j6 (by rfl), decide_eq_true hj]; rfl
   ·rw [n7 (by simp only [decide_eq_false_iff_not]; omega), decide_eq_false hj]; rfl) ns.length 0 (by omega)
omit hN hn in
theorem aI7 (hb : ¬ bb5 ns < ns.length) (j : Nat) (hj : j < ns.length) : ∀ k ∈ j2 ns[j], 0 ≤ k ∧ k < (j : Int) := by
 have hq : okQ ns j = true := aq1 ns.length 0 j (Nat.zero_le _) (by unfold bb5 at hb; omega)
 unfold okQ bn0 at hq
 rw [decide_eq_true hj, Bool.true_and, List.getElem?_eq_getElem hj] at hq
 have hq : okN ns j ns[j] = true := hq
 intro k hk
 have hall : (j2 ns[j]).all (inR j) = true := by
  cases h : (j2 ns[j]).all (inR j) with
  | true => rfl
  | false =>
   unfold okN at hq
   rw [h] at hq
   revert hq
   cases decide (Prod.fst ns[j].2 < 0) <;> cases decide (Prod.fst (Prod.snd ns[j].2) < Prod.fst ns[j].2) <;> cases decide (Prod.fst (Prod.snd (Prod.snd ns[j].2)) < 0) <;> cases decide (200 < (j2 ns[j]).length) <;> intro h <;> cases h
 have := List.all_eq_true.1 hall k hk
 unfold inR at this
 rw [Bool.and_eq_true, decide_eq_true_eq, decide_eq_true_eq] at this
 exact this
end
def dk (i : Nat) : List Int → List Int → List Int
 | [], d => d
 | k :: r, d => dk i r (d.set k.toNat (IntKind.i64.wrap (d.getD i 0 + 1)))
theorem bn5 (i : Nat) : ∀ (r d : List Int), (dk i r d).length = d.length
 | [], d => rfl
 | k :: r, d => by unfold dk; rw [bn5]; simp
def aV7 (ns : List b8.den) : Nat → List Int → List Int
 | 0, d => d
 | i + 1, d => aV7 ns i (match ns[i]? with | some x => dk i (j2 x) d | none => d)
theorem bg2 {ns : List b8.den} {i : Nat} (h : i < ns.length) (d : List Int) : aV7 ns (i + 1) d = aV7 ns i (dk i (j2 ns[i]) d) := by
 show aV7 ns i (match ns[i]? with | some x => dk i (j2 x) d | none => d) = _
 rw [List.getElem?_eq_getElem h]
theorem bv9 (t : Tr) (f : Fa) (i : Nat) : ∀ (r pre d : List Int), i < d.length → (∀ k ∈ r, 0 ≤ k ∧ k < (d.length : Int)) → (pre ++ r).length ≤ 2097152 →
  Evt fun n => I2 (S.tab n) t f d (i : Int) (pre ++ r) ((pre ++ r).length : Int) (pre.length : Int) = some (Sum.inl (t, f, dk i r d, (i : Int), ()))
 | [], pre, d, hi, hk, hl => q9.up fun n _ => by
  show I2 (S.step (S.tab n)) _ _ _ _ _ _ _ = _
  rw [ai9, n7 (by simp)]; rfl
 | k :: r, pre, d, hi, hk, hl => by
  obtain ⟨k0, k1⟩ := hk k (List.mem_cons_self ..)
  have ih := bv9 t f i r (pre ++ [k]) (d.set k.toNat (IntKind.i64.wrap (d.getD i 0 + 1))) (by simpa using hi) (fun c hc => by rw [List.length_set]; exact hk c (List.mem_cons_of_mem _ hc)) (by simpa using hl)
  refine ih.up fun n h => ?_
  show I2 (S.step (S.tab n)) _ _ _ _ _ _ _ = _
  have hlen : (pre ++ k :: r).length = pre.length + (r.length + 1) := by simp
  have hg : (pre ++ k :: r).getD (pre.length : Int).toNat 0 = k := bZ6 pre k r
  have hd : (decide ((0 : Int) ≤ (i : Int)) && decide ((i : Int) < (d.length : Int))) = true := j8 hi
  have hkb : (decide ((0 : Int) ≤ k) && decide (k < (d.length : Int))) = true := by rw [decide_eq_true k0, decide_eq_true k1]; rfl
  rw [ai9, j6 (by simp only [decide_eq_true_eq]; omega), j6 (j8 (by omega)), j6 hd, hg, j6 hkb, A3 (by omega)]
  have e1 : (pre ++ [k]) ++ r = pre ++ k :: r := by simp
  have e2 : (pre ++ [k]).length = pre.length + 1 := by simp
  rw [e1, e2] at h
  exact h
theorem by5 (t : Tr) (f : Fa) (i : Nat) : ∀ (r pre d : List Int), i < d.length → (∀ k ∈ r, 0 ≤ k ∧ k < (d.length : Int)) → (pre ++ r).length ≤ 2097152 →
  Evt fun n => I4 (S.tab n) t f d (i : Int) (pre ++ r) ((pre ++ r).length : Int) (pre.length : Int) = some (Sum.inl (t, f, dk i r d, (i : Int), ()))
 | [], pre, d, hi, hk, hl => q9.up fun n _ => by
  show I4 (S.step (S.tab n)) _ _ _ _ _ _ _ = _
  rw [ai4, n7 (by simp)]; rfl
 | k :: r, pre, d, hi, hk, hl => by
  obtain ⟨k0, k1⟩ := hk k (List.mem_cons_self ..)
  have ih := by5 t f i r (pre ++ [k]) (d.set k.toNat (IntKind.i64.wrap (d.getD i 0 + 1))) (by simpa using hi) (fun c hc => by rw [List.length_set]; exact hk c (List.mem_cons_of_mem _ hc)) (by simpa using hl)
  refine ih.up fun n h => ?_
  show I4 (S.step (S.tab n)) _ _ _ _ _ _ _ = _
  have hlen : (pre ++ k :: r).length = pre.length + (r.length + 1) := by simp
  have hg : (pre ++ k :: r).getD (pre.length : Int).toNat 0 = k := bZ6 pre k r
  have hd : (decide ((0 : Int) ≤ (i : Int)) && decide ((i : Int) < (d.length : Int))) = true := j8 hi
  have hkb : (decide ((0 : Int) ≤ k) && decide (k < (d.length : Int))) = true := by rw [decide_eq_true k0, decide_eq_true k1]; rfl
  rw [ai4, j6 (by simp only [decide_eq_true_eq]; omega), j6 (j8 (by omega)), j6 hd, hg, j6 hkb, A3 (by omega)]
  have e1 : (pre ++ [k]) ++ r = pre ++ k :: r := by simp
  have e2 : (pre ++ [k]).length = pre.length + 1 := by simp
  rw [e1, e2] at h
  exact h
section
variable {ns : List b8.den} (hN : ∀ x ∈ ns, NodeOk x) (hn : ns.length ≤ 3000) (hb : ¬ bb5 ns < ns.length)
include hN hn hb
theorem bC3 (f : Fa) : ∀ (i : Nat) (d : List Int), i ≤ ns.length → d.length = ns.length → Evt fun n => K4 (S.tab n) (ns, ()) f d ((i : Int) - 1) = some (Sum.inl (f, aV7 ns i d, ()))
 | 0, d, hi, hd => q9.up fun n _ => by
  show K4 (S.step (S.tab n)) _ _ _ _ = _
  rw [ai0, n7 (by decide)]; rfl
 | i + 1, d, hi, hd => by
  have hi' : i < ns.length := by omega
  have hx := hN _ (List.getElem_mem hi')
  have hk := aI7 hb i hi'
  have h30 := bv9 (ns, ()) f i (j2 ns[i]) [] d (by omega) (fun k h => by have := hk k h; omega) (by have := hx.nk; simpa using this)
  have ih := bC3 f i (dk i (j2 ns[i]) d) (by omega) (by rw [bn5]; exact hd)
  refine (h30.and ih).up fun n ⟨h, h2⟩ => ?_
  show K4 (S.step (S.tab n)) _ _ _ _ = _
  have e0 : (((i + 1 : Nat) : Int) - 1) = (i : Int) := by omega
  have hat : at_ (τ := b8) ((ns, ()) : Tr).1 (i : Int) = ns[i] := ae5 ns i hi'
  rw [e0, ai0, j6 (by simp only [decide_eq_true_eq]; omega), j6 (j8 hi'), hat]
  have h : I2 (S.tab n) (ns, ()) f d (i : Int) (j2 ns[i]) ((j2 ns[i]).length : Int) 0 = _ := h
  show (I2 (S.tab n) (ns, ()) f d (i : Int) (j2 ns[i]) ((j2 ns[i]).length : Int) 0).bind _ = _
  rw [h]
  simp only [Option.bind_some, C3, Sum.elim_inl]
  rw [wrap64 _ (by omega) (by omega), h2, bg2 hi']
theorem bD0 (f : Fa) : ∀ (i : Nat) (d : List Int), i ≤ ns.length → d.length = ns.length → Evt fun n => K5 (S.tab n) (ns, ()) f d ((i : Int) - 1) = some (Sum.inl (f, aV7 ns i d, ()))
 | 0, d, hi, hd => q9.up fun n _ => by
  show K5 (S.step (S.tab n)) _ _ _ _ = _
  rw [aj1, n7 (by decide)]; rfl
 | i + 1, d, hi, hd => by
  have hi' : i < ns.length := by omega
  have hx := hN _ (List.getElem_mem hi')
  have hk := aI7 hb i hi'
  have h30 := by5 (ns, ()) f i (j2 ns[i]) [] d (by omega) (fun k h => by have := hk k h; omega) (by have := hx.nk; simpa using this)
  have ih := bD0 f i (dk i (j2 ns[i]) d) (by omega) (by rw [bn5]; exact hd)
  refine (h30.and ih).up fun n ⟨h, h2⟩ => ?_
  show K5 (S.step (S.tab n)) _ _ _ _ = _
  have e0 : (((i + 1 : Nat) : Int) - 1) = (i : Int) := by omega
  have hat : at_ (τ := b8) ((ns, ()) : Tr).1 (i : Int) = ns[i] := ae5 ns i hi'
  rw [e0, aj1, j6 (by simp only [decide_eq_true_eq]; omega), j6 (j8 hi'), hat]
  have h : I4 (S.tab n) (ns, ()) f d (i : Int) (j2 ns[i]) ((j2 ns[i]).length : Int) 0 = _ := h
  show (I4 (S.tab n) (ns, ()) f d (i : Int) (j2 ns[i]) ((j2 ns[i]).length : Int) 0).bind _ = _
  rw [h]
  simp only [Option.bind_some, C3, Sum.elim_inl]
  rw [wrap64 _ (by omega) (by omega), h2, bg2 hi']
end
def au7 (d : List Int) (j : Nat) : Bool := decide (j < d.length) && !decide ((100 : Int) < get d j)
theorem be2 {d : List Int} : ∀ j, d.length ≤ j → au7 d j = false := fun j h => by unfold au7; rw [decide_eq_false (by omega)]; rfl
theorem bO9 (f : Fa) (d : List Int) (hd : d.length ≤ 3000) : Evt fun n => F9 (S.tab n) f d (d.length : Int) 0 = some (bif decide (stop (au7 d) d.length 0 < d.length) then Sum.inl ((4, (stop (au7 d) d.length 0 : Int), ()), ()) else Sum.inr (Sum.inl (f, ()))) :=
 adv (F := fun T (j : Nat) => F9 T f d (d.length : Int) (j : Int)) (q := au7 d) (N := d.length) (out := fun j => bif decide (j < d.length) then Sum.inl ((4, (j : Int), ()), ()) else Sum.inr (Sum.inl (f, ()))) (p := Base2) q9 be2
  (fun T j h hq => by
   unfold au7 at hq
   rw [Bool.and_eq_true, decide_eq_true_eq, Bool.not_eq_true', decide_eq_false_iff_not] at hq
   show F9 (S.step T) _ _ _ _ = F9 T f d (d.length : Int) ((j + 1 : Nat) : Int)
   rw [aj5, j6 (by simp only [decide_eq_true_eq]; omega), j6 (j8 hq.1), p9, n7 (decide_eq_false hq.2), A3 (by omega)])
  (fun T j h hq => by
   show F9 (S.step T) _ _ _ _ = _
   rw [aj5]
   by_cases hj : j < d.length
   ·unfold au7 at hq
    rw [decide_eq_true hj, Bool.true_and, Bool.not_eq_false'] at hq
    rw [j6 (by simp only [decide_eq_true_eq]; omega), j6 (j8 hj), p9, j6 hq, decide_eq_true hj]; rfl
   ·rw [n7 (by simp only [decide_eq_false_iff_not]; omega), decide_eq_false hj]; rfl) d.length 0 (by omega)
theorem bP3 (f : Fa) (d : List Int) (hd : d.length ≤ 3000) : Evt fun n => F3 (S.tab n) f d (d.length : Int) 0 = some (bif decide (stop (au7 d) d.length 0 < d.length) then Sum.inl ((4, (stop (au7 d) d.length 0 : Int), ()), ()) else Sum.inr (Sum.inl (f, ()))) :=
 adv (F := fun T (j : Nat) => F3 T f d (d.length : Int) (j : Int)) (q := au7 d) (N := d.length) (out := fun j => bif decide (j < d.length) then Sum.inl ((4, (j : Int), ()), ()) else Sum.inr (Sum.inl (f, ()))) (p := Base2) q9 be2
  (fun T j h hq => by
   unfold au7 at hq
   rw [Bool.and_eq_true, decide_eq_true_eq, Bool.not_eq_true', decide_eq_false_iff_not] at hq
   show F3 (S.step T) _ _ _ _ = F3 T f d (d.length : Int) ((j + 1 : Nat) : Int)
   rw [ah2, j6 (by simp only [decide_eq_true_eq]; omega), j6 (j8 hq.1), p9, n7 (decide_eq_false hq.2), A3 (by omega)])
  (fun T j h hq => by
   show F3 (S.step T) _ _ _ _ = _
   rw [ah2]
   by_cases hj : j < d.length
   ·unfold au7 at hq
    rw [decide_eq_true hj, Bool.true_and, Bool.not_eq_false'] at hq
    rw [j6 (by simp only [decide_eq_true_eq]; omega), j6 (j8 hj), p9, j6 hq, decide_eq_true hj]; rfl
   ·rw [n7 (by simp only [decide_eq_false_iff_not]; omega), decide_eq_false hj]; rfl) d.length 0 (by omega)
theorem a54 (ns : List b8.den) : ∀ (i : Nat) (d : List Int), (aV7 ns i d).length = d.length
 | 0, d => rfl
 | i + 1, d => by
  unfold aV7
  rw [a54]
  split
  ·exact bn5 ..
  ·rfl
end Go.Abs.D
end

section
namespace Go.Abs.D
theorem ao4 (l : List Int) (i j : Nat) (v : Int) (h : i < l.length) : get (l.set i v) j = if j = i then v else get l j := by
 unfold get
 rw [List.getD_eq_getElem?_getD, List.getD_eq_getElem?_getD, List.getElem?_set]
 by_cases e : i = j
 ·subst e; rw [if_pos rfl, if_pos h, if_pos rfl]; rfl
 ·rw [if_neg e, if_neg (fun h => e h.symm)]
def at1 (st kids : List Int) : Nat → Int → Option Int
 | 0, a => some a
 | m + 1, a => bif decide (get kids m = a - 1) then at1 st kids m (get st (get kids m).toNat) else none
def aL5 (sz kids : List Int) : Nat → Int → Int × Bool
 | 0, a => (a, true)
 | m + 1, a => bif decide (get kids m = a - 1) && !decide (get sz (get kids m).toNat = 0) then aL5 sz kids m (a - get sz (get kids m).toNat) else (a, false)
theorem by9 (t : Tr) (f : Fa) (z : Int) (st : List Int) (i : Int) (x : b8.den) (l : List b8.den) (u v : Int) (hk : ∀ k ∈ j2 x, 0 ≤ k ∧ k < (st.length : Int)) (hs : ∀ j, 0 ≤ get st j ∧ get st j ≤ 3000) (hl : (j2 x).length ≤ 2097152) :
  ∀ (m : Nat) (a : Int), m ≤ (j2 x).length → 0 ≤ a → a ≤ 3000 → Evt fun n => F5 (S.tab n) t f z st i x a ((m : Int) - 1) l u v = some (match at1 st (j2 x) m a with | none => Sum.inl ((3, i, ()), ()) | some a => Sum.inr (Sum.inl (t, f, z, st, i, a, l, u, v, ())))
 | 0, a, hm, h0, h1 => q9.up fun n _ => by
  show F5 (S.step (S.tab n)) _ _ _ _ _ _ _ _ _ _ _ = _
  rw [Y6, n7 (by decide)]; rfl
 | m + 1, a, hm, h0, h1 => by
  have hml : m < (j2 x).length := by omega
  have hin : (decide ((0 : Int) ≤ (m : Int)) && decide ((m : Int) < (x.2.2.2.2.2.2.2.2.1.length : Int))) = true := j8 hml
  have hg : x.2.2.2.2.2.2.2.2.1.getD (m : Int).toNat 0 = get (j2 x) m := rfl
  have hgk : get (j2 x) m = (j2 x)[m] := ay7 hml
  have e0 : ((m + 1 : Nat) : Int) - 1 = (m : Int) := by omega
  have wa : IntKind.i64.wrap (a - 1) = a - 1 := wrap64 _ (by omega) (by omega)
  have wm : IntKind.i64.wrap ((m : Int) - 1) = (m : Int) - 1 := wrap64 _ (by omega) (by omega)
  by_cases hc : get (j2 x) m = a - 1
  ·have hkk := hk _ (List.getElem_mem hml)
   rw [← hgk] at hkk
   have hsk := hs (get (j2 x) m).toNat
   have hkb : (decide ((0 : Int) ≤ get (j2 x) m) && decide (get (j2 x) m < (st.length : Int))) = true := by rw [decide_eq_true hkk.1, decide_eq_true hkk.2]; rfl
   refine (by9 t f z st i x l u v hk hs hl m (get st (get (j2 x) m).toNat) (by omega) hsk.1 hsk.2).up fun n h => ?_
   show F5 (S.step (S.tab n)) _ _ _ _ _ _ _ _ _ _ _ = _
   rw [e0, Y6, j6 (by simp only [decide_eq_true_eq]; omega), j6 hin, hg, wa, n7 (by rw [decide_eq_true hc]; rfl), j6 hin, j6 hkb, wm]
   have hst : at1 st (j2 x) (m + 1) a = at1 st (j2 x) m (get st (get (j2 x) m).toNat) := by
    show (bif decide (get (j2 x) m = a - 1) then _ else _) = _
    rw [decide_eq_true hc]; rfl
   rw [hst]
   exact h
  ·refine q9.up fun n _ => ?_
   show F5 (S.step (S.tab n)) _ _ _ _ _ _ _ _ _ _ _ = _
   rw [e0, Y6, j6 (by simp only [decide_eq_true_eq]; omega), j6 hin, hg, wa, j6 (by rw [decide_eq_false hc]; rfl)]
   have hst : at1 st (j2 x) (m + 1) a = none := by
    show (bif decide (get (j2 x) m = a - 1) then _ else _) = _
    rw [decide_eq_false hc]; rfl
   rw [hst]
theorem bK3 (sz : List Int) (i : Int) (x : b8.den) (l : List b8.den) (u v : Int) (hk : ∀ k ∈ j2 x, 0 ≤ k ∧ k < (sz.length : Int)) (hs : ∀ j, 0 ≤ get sz j ∧ get sz j ≤ 3000) (hl : (j2 x).length ≤ 200) :
  ∀ (m : Nat) (a : Int), m ≤ (j2 x).length → 3000 * (m : Int) ≤ a + 1000000 → a ≤ 3000 → Evt fun n => C6 (S.tab n) sz i x a true ((m : Int) - 1) l u v = some (Sum.inl (sz, i, (aL5 sz (j2 x) m a).1, (aL5 sz (j2 x) m a).2, l, u, v, ()))
 | 0, a, hm, h0, h1 => q9.up fun n _ => by
  show C6 (S.step (S.tab n)) _ _ _ _ _ _ _ _ _ = _
  rw [R7, n7 (by decide)]; rfl
 | m + 1, a, hm, h0, h1 => by
  have hml : m < (j2 x).length := by omega
  have hin : (decide ((0 : Int) ≤ (m : Int)) && decide ((m : Int) < (x.2.2.2.2.2.2.2.2.1.length : Int))) = true := j8 hml
  have hg : x.2.2.2.2.2.2.2.2.1.getD (m : Int).toNat 0 = get (j2 x) m := rfl
  have hgk : get (j2 x) m = (j2 x)[m] := ay7 hml
  have e0 : ((m + 1 : Nat) : Int) - 1 = (m : Int) := by omega
  have wa : IntKind.i64.wrap (a - 1) = a - 1 := wrap64 _ (by omega) (by omega)
  have wm : IntKind.i64.wrap ((m : Int) - 1) = (m : Int) - 1 := wrap64 _ (by omega) (by omega)
  have hst : aL5 sz (j2 x) (m + 1) a = bif decide (get (j2 x) m = a - 1) && !decide (get sz (get (j2 x) m).toNat = 0) then aL5 sz (j2 x) m (a - get sz (get (j2 x) m).toNat) else (a, false) := rfl
  by_cases hc : get (j2 x) m = a - 1
  ·have hkk := hk _ (List.getElem_mem hml)
   rw [← hgk] at hkk
   have hsk := hs (get (j2 x) m).toNat
   have hkb : (decide ((0 : Int) ≤ get (j2 x) m) && decide (get (j2 x) m < (sz.length : Int))) = true := by rw [decide_eq_true hkk.1, decide_eq_true hkk.2]; rfl
   have hgs : sz.getD (get (j2 x) m).toNat 0 = get sz (get (j2 x) m).toNat := rfl
   by_cases hz : get sz (get (j2 x) m).toNat = 0
   ·refine q9.up fun n _ => ?_
    show C6 (S.step (S.tab n)) _ _ _ _ _ _ _ _ _ = _
    rw [e0, R7, j6 (by simp only [decide_eq_true_eq]; omega), j6 hin, hg, wa, n7 (by rw [decide_eq_true hc]; rfl), j6 hkb, hgs, j6 (decide_eq_true hz), hst, decide_eq_true hz, Bool.not_true, Bool.and_false]; rfl
   ·have wz : IntKind.i64.wrap (a - get sz (get (j2 x) m).toNat) = a - get sz (get (j2 x) m).toNat := wrap64 _ (by omega) (by omega)
    refine (bK3 sz i x l u v hk hs hl m (a - get sz (get (j2 x) m).toNat) (by omega) (by omega) (by omega)).up fun n h => ?_
    show C6 (S.step (S.tab n)) _ _ _ _ _ _ _ _ _ = _
    rw [e0, R7, j6 (by simp only [decide_eq_true_eq]; omega), j6 hin, hg, wa, n7 (by rw [decide_eq_true hc]; rfl), j6 hkb, hgs, n7 (decide_eq_false hz), j6 hkb, wz, wm, hst, decide_eq_true hc, decide_eq_false hz]
    exact h
  ·refine q9.up fun n _ => ?_
   show C6 (S.step (S.tab n)) _ _ _ _ _ _ _ _ _ = _
   rw [e0, R7, j6 (by simp only [decide_eq_true_eq]; omega), j6 hin, hg, wa, j6 (by rw [decide_eq_false hc]; rfl), hst, decide_eq_false hc]; rfl
def A5 (ns : List b8.den) (i : Nat) : List Int := match ns[i]? with | some x => j2 x | none => []
theorem aP5 {ns : List b8.den} {i : Nat} (h : i < ns.length) : A5 ns i = j2 ns[i] := by unfold A5; rw [List.getElem?_eq_getElem h]
def imS (ns : List b8.den) : Nat → List Int → Nat ⊕ Unit
 | 0, _ => .inr ()
 | r + 1, st => match at1 st (A5 ns (ns.length - (r + 1))) (A5 ns (ns.length - (r + 1))).length ((ns.length - (r + 1) : Nat) : Int) with
  | none => .inl (ns.length - (r + 1))
  | some a => bif decide (r = 0) && !decide (a = 0) then .inl (ns.length - (r + 1)) else imS ns r (st.set (ns.length - (r + 1)) a)
def szS (ns : List b8.den) : Nat → List Int → List Int
 | 0, sz => sz
 | r + 1, sz => szS ns r (bif (aL5 sz (A5 ns (ns.length - (r + 1))) (A5 ns (ns.length - (r + 1))).length ((ns.length - (r + 1) : Nat) : Int)).2 then sz.set (ns.length - (r + 1)) (((ns.length - (r + 1) : Nat) : Int) - (aL5 sz (A5 ns (ns.length - (r + 1))) (A5 ns (ns.length - (r + 1))).length ((ns.length - (r + 1) : Nat) : Int)).1 + 1) else sz)
def zq (sz : List Int) (j : Nat) : Bool := decide (j < sz.length) && !decide (get sz j = 0)
def bL7 (sz : List Int) : Nat ⊕ Unit :=
 bif decide (stop (zq sz) sz.length 0 < sz.length) then .inl (stop (zq sz) sz.length 0) else bif !decide (get sz (sz.length - 1) = (sz.length : Int)) then .inl (sz.length - 1) else .inr ()
theorem bd5 {sz : List Int} : ∀ j, sz.length ≤ j → zq sz j = false := fun j h => by unfold zq; rw [decide_eq_false (by omega)]; rfl
structure RelN (n i : Nat) (st sz : List Int) : Prop where
 l1 : st.length = n
 l2 : sz.length = n
 lo : ∀ j, j < i → get sz j = (j : Int) - get st j + 1 ∧ 0 ≤ get st j ∧ get st j ≤ (j : Int)
 hi : ∀ j, i ≤ j → get sz j = 0 ∧ get st j = 0
theorem a77 {n i : Nat} {st sz kids : List Int} (R : RelN n i st sz) : ∀ (m : Nat) (a : Int), 0 ≤ a → a ≤ (i : Int) → (∀ j, j < m → 0 ≤ get kids j ∧ get kids j < (i : Int)) →
  (∀ b, at1 st kids m a = some b → aL5 sz kids m a = (b, true) ∧ 0 ≤ b ∧ b ≤ (i : Int)) ∧ (at1 st kids m a = none → (aL5 sz kids m a).2 = false)
 | 0, a, h0, h1, hk => ⟨fun b h => by injection h with h; subst h; exact ⟨rfl, h0, h1⟩, fun h => by cases h⟩
 | m + 1, a, h0, h1, hk => by
  obtain ⟨k0, k1⟩ := hk m (by omega)
  unfold at1 aL5
  by_cases hc : get kids m = a - 1
  ·obtain ⟨e1, e2, e3⟩ := R.lo (get kids m).toNat (by omega)
   have e4 : ((get kids m).toNat : Int) = get kids m := Int.toNat_of_nonneg k0
   rw [e4] at e1 e3
   have hz : ¬ get sz (get kids m).toNat = 0 := by omega
   have ea : a - get sz (get kids m).toNat = get st (get kids m).toNat := by omega
   rw [decide_eq_true hc, decide_eq_false hz]
   simp only [cond_true, Bool.true_and, Bool.not_false]
   rw [ea]
   exact a77 R m _ e2 (by omega) fun j hj => hk j (by omega)
  ·rw [decide_eq_false hc]
   exact ⟨(fun b h => by cases h), fun _ => rfl⟩
theorem bi9 (ns : List b8.den) : ∀ (r : Nat) (sz : List Int), (szS ns r sz).length = sz.length
 | 0, sz => rfl
 | r + 1, sz => by
  unfold szS
  rw [bi9]
  cases (aL5 sz (A5 ns (ns.length - (r + 1))) (A5 ns (ns.length - (r + 1))).length ((ns.length - (r + 1) : Nat) : Int)).2 <;> simp
theorem bD2 (ns : List b8.den) : ∀ (r : Nat) (sz : List Int) (j : Nat), r ≤ ns.length → sz.length = ns.length → j < ns.length - r → get (szS ns r sz) j = get sz j
 | 0, sz, j, _, _, _ => rfl
 | r + 1, sz, j, hr, hl, hj => by
  unfold szS
  rw [bD2 ns r _ j (by omega) (by
   cases (aL5 sz (A5 ns (ns.length - (r + 1))) (A5 ns (ns.length - (r + 1))).length ((ns.length - (r + 1) : Nat) : Int)).2 <;> simp [hl]) (by omega)]
  cases (aL5 sz (A5 ns (ns.length - (r + 1))) (A5 ns (ns.length - (r + 1))).length ((ns.length - (r + 1) : Nat) : Int)).2 with
  | false => rfl
  | true =>
   simp only [cond_true]
   rw [ao4 _ _ _ _ (by omega), if_neg (by omega)]
theorem bm0 {q : Nat → Bool} {N m : Nat} (hN : ∀ j, N ≤ j → q j = false) (h1 : ∀ j, j < m → q j = true) (h2 : q m = false) : stop q N 0 = m := by
 have a := a63 (q := q) hN N 0 (by omega)
 have b : ¬ stop q N 0 < m := fun h => by rw [h1 _ h] at a; cases a
 have c : ¬ m < stop q N 0 := fun h => by
  have := aq1 N 0 m (Nat.zero_le _) h
  rw [h2] at this; cases this
 omega
theorem bS2 (ns : List b8.den) (hk : ∀ i, i < ns.length → ∀ j, j < (A5 ns i).length → 0 ≤ get (A5 ns i) j ∧ get (A5 ns i) j < (i : Int)) : ∀ (r : Nat) (st sz : List Int), r + 1 ≤ ns.length → RelN ns.length (ns.length - (r + 1)) st sz → imS ns (r + 1) st = bL7 (szS ns (r + 1) sz) := by
 intro r
 induction r with
 | zero =>
  intro st sz hr R
  have hS := a77 R (A5 ns (ns.length - 1)).length ((ns.length - 1 : Nat) : Int) (by omega) (Int.le_refl _) (hk (ns.length - 1) (by omega))
  show (match at1 st (A5 ns (ns.length - 1)) (A5 ns (ns.length - 1)).length ((ns.length - 1 : Nat) : Int) with | none => _ | some a => _) = bL7 (bif (aL5 sz (A5 ns (ns.length - 1)) (A5 ns (ns.length - 1)).length ((ns.length - 1 : Nat) : Int)).2 then sz.set (ns.length - 1) (((ns.length - 1 : Nat) : Int) - (aL5 sz (A5 ns (ns.length - 1)) (A5 ns (ns.length - 1)).length ((ns.length - 1 : Nat) : Int)).1 + 1) else sz)
  cases hc : at1 st (A5 ns (ns.length - 1)) (A5 ns (ns.length - 1)).length ((ns.length - 1 : Nat) : Int) with
  | none =>
   rw [hS.2 hc, cond_false]
   have hst : stop (zq sz) sz.length 0 = ns.length - 1 := bm0 bd5 (fun j hj => by
    unfold zq
    have := R.lo j hj
    rw [decide_eq_true (by have := R.l2; omega), decide_eq_false (by omega)]; rfl) (by
    unfold zq
    rw [decide_eq_true (R.hi _ (Nat.le_refl _)).1]; simp)
   unfold bL7
   rw [hst, decide_eq_true (show ns.length - 1 < sz.length by have := R.l2; omega)]; rfl
  | some a =>
   obtain ⟨e, a0, a1⟩ := hS.1 a hc
   rw [e]
   simp only [cond_true]
   have hl2 := R.l2
   have hlen : (sz.set (ns.length - 1) (((ns.length - 1 : Nat) : Int) - a + 1)).length = ns.length := by rw [List.length_set]; exact hl2
   have hst : stop (zq (sz.set (ns.length - 1) (((ns.length - 1 : Nat) : Int) - a + 1))) ns.length 0 = ns.length := bm0 (fun j hj => bd5 j (by omega)) (fun j hj => by
    unfold zq
    rw [ao4 _ _ _ _ (by omega), decide_eq_true (by omega)]
    by_cases hjl : j = ns.length - 1
    ·rw [if_pos hjl, decide_eq_false (by omega)]; rfl
    ·have := R.lo j (by omega)
     rw [if_neg hjl, decide_eq_false (by omega)]; rfl) (bd5 _ (by omega))
   unfold bL7
   rw [hlen, hst, decide_eq_false (Nat.lt_irrefl _), cond_false, ao4 _ _ _ _ (by omega), if_pos rfl]
   show (bif decide (0 = 0) && !decide (a = 0) then Sum.inl (ns.length - 1) else Sum.inr ()) = _
   by_cases ha : a = 0
   ·rw [decide_eq_true ha, decide_eq_true (show ((ns.length - 1 : Nat) : Int) - a + 1 = (ns.length : Int) by omega)]; rfl
   ·rw [decide_eq_false ha, decide_eq_false (show ¬ ((ns.length - 1 : Nat) : Int) - a + 1 = (ns.length : Int) by omega)]; rfl
 | succ r ih =>
  intro st sz hr R
  have hS := a77 R (A5 ns (ns.length - (r + 1 + 1))).length ((ns.length - (r + 1 + 1) : Nat) : Int) (by omega) (Int.le_refl _) (hk (ns.length - (r + 1 + 1)) (by omega))
  have hl1 := R.l1
  have hl2 := R.l2
  show (match at1 st (A5 ns (ns.length - (r + 1 + 1))) (A5 ns (ns.length - (r + 1 + 1))).length ((ns.length - (r + 1 + 1) : Nat) : Int) with | none => _ | some a => _) = bL7 (szS ns (r + 1) (bif (aL5 sz (A5 ns (ns.length - (r + 1 + 1))) (A5 ns (ns.length - (r + 1 + 1))).length ((ns.length - (r + 1 + 1) : Nat) : Int)).2 then sz.set (ns.length - (r + 1 + 1)) (((ns.length - (r + 1 + 1) : Nat) : Int) - (aL5 sz (A5 ns (ns.length - (r + 1 + 1))) (A5 ns (ns.length - (r + 1 + 1))).length ((ns.length - (r + 1 + 1) : Nat) : Int)).1 + 1) else sz))
  cases hc : at1 st (A5 ns (ns.length - (r + 1 + 1))) (A5 ns (ns.length - (r + 1 + 1))).length ((ns.length - (r + 1 + 1) : Nat) : Int) with
  | none =>
   rw [hS.2 hc, cond_false]
   have hlen : (szS ns (r + 1) sz).length = ns.length := by rw [bi9]; exact hl2
   have hlow := fun j hj => bD2 ns (r + 1) sz j (by omega) hl2 hj
   have hst : stop (zq (szS ns (r + 1) sz)) ns.length 0 = ns.length - (r + 1 + 1) := bm0 (fun j hj => bd5 j (by omega)) (fun j hj => by
    unfold zq
    have := R.lo j hj
    rw [hlow j (by omega), decide_eq_true (by omega), decide_eq_false (by omega)]; rfl) (by
    unfold zq
    rw [hlow _ (by omega), decide_eq_true (R.hi _ (Nat.le_refl _)).1]; simp)
   unfold bL7
   rw [hlen, hst, decide_eq_true (show ns.length - (r + 1 + 1) < ns.length by omega)]; rfl
  | some a =>
   obtain ⟨e, a0, a1⟩ := hS.1 a hc
   rw [e]
   simp only [cond_true]
   show (bif decide (r + 1 = 0) && !decide (a = 0) then _ else imS ns (r + 1) (st.set (ns.length - (r + 1 + 1)) a)) = _
   rw [decide_eq_false (show ¬ r + 1 = 0 by omega), Bool.false_and, cond_false]
   refine ih _ _ (by omega) ⟨by rw [List.length_set]; exact hl1, by rw [List.length_set]; exact hl2, fun j hj => ?_, fun j hj => ?_⟩
   ·rw [ao4 _ _ _ _ (by omega), ao4 _ _ _ _ (by omega)]
    by_cases hji : j = ns.length - (r + 1 + 1)
    ·rw [if_pos hji, if_pos hji]
     subst hji
     exact ⟨rfl, a0, a1⟩
    ·rw [if_neg hji, if_neg hji]
     exact R.lo j (by omega)
   ·rw [ao4 _ _ _ _ (by omega), ao4 _ _ _ _ (by omega), if_neg (by omega), if_neg (by omega)]
    exact R.hi j (by omega)
end Go.Abs.D
end

section
namespace Go.Abs.D
theorem bq5 {st kids : List Int} (hs : ∀ j, 0 ≤ get st j ∧ get st j ≤ 3000) : ∀ (m : Nat) (a b : Int), 0 ≤ a → a ≤ 3000 → at1 st kids m a = some b → 0 ≤ b ∧ b ≤ 3000
 | 0, a, b, h0, h1, h => by injection h with h; subst h; exact ⟨h0, h1⟩
 | m + 1, a, b, h0, h1, h => by
  unfold at1 at h
  cases hc : decide (get kids m = a - 1) with
  | true =>
   rw [hc] at h
   exact bq5 hs m _ b (hs _).1 (hs _).2 h
  | false => rw [hc] at h; cases h
theorem bx0 {sz kids : List Int} (hs : ∀ j : Nat, 0 ≤ get sz j ∧ get sz j ≤ (j : Int) + 1) : ∀ (m : Nat) (a : Int), 0 ≤ a → (∀ j, j < m → 0 ≤ get kids j) → 0 ≤ (aL5 sz kids m a).1 ∧ (aL5 sz kids m a).1 ≤ a
 | 0, a, h0, _ => ⟨h0, Int.le_refl _⟩
 | m + 1, a, h0, hk => by
  unfold aL5
  by_cases hc : get kids m = a - 1
  ·have hsk := hs (get kids m).toNat
   have k0 := hk m (by omega)
   have e4 : ((get kids m).toNat : Int) = get kids m := Int.toNat_of_nonneg k0
   rw [decide_eq_true hc]
   cases hz : decide (get sz (get kids m).toNat = 0) with
   | true => exact ⟨h0, Int.le_refl _⟩
   | false =>
    have := bx0 hs m (a - get sz (get kids m).toNat) (by omega) fun j hj => hk j (by omega)
    simp only [Bool.true_and, Bool.not_false, cond_true]
    exact ⟨this.1, by omega⟩
  ·rw [decide_eq_false hc]; exact ⟨h0, Int.le_refl _⟩
section
variable {ns : List b8.den} (hN : ∀ x ∈ ns, NodeOk x) (hn : ns.length ≤ 3000) (hb : ¬ bb5 ns < ns.length)
include hN hn hb
omit hN hn in
theorem bc2 (i : Nat) (hi : i < ns.length) : ∀ j, j < (A5 ns i).length → 0 ≤ get (A5 ns i) j ∧ get (A5 ns i) j < (i : Int) := by
 intro j hj
 rw [aP5 hi] at hj ⊢
 have := aI7 hb i hi _ (List.getElem_mem hj)
 have e : get (j2 ns[i]) j = (j2 ns[i])[j] := ay7 hj
 rw [e]; exact this
theorem bB7 (f : Fa) : ∀ (r : Nat) (st : List Int), r ≤ ns.length → st.length = ns.length → (∀ j, 0 ≤ get st j ∧ get st j ≤ 3000) →
    Evt fun n => s7 (S.tab n) (ns, ()) f (ns.length : Int) st ns (ns.length : Int) ((ns.length - r : Nat) : Int) = some (match imS ns r st with | .inl j => Sum.inl ((3, (j : Int), ()), ()) | .inr _ => Sum.inr (Sum.inl ((ns, ()), f, (ns.length : Int), ())))
  | 0, st, hr, hl, hs => q9.up fun n _ => by
    show s7 (S.step (S.tab n)) _ _ _ _ _ _ _ = _
    rw [aj0, n7 (by simp)]; rfl
  | r + 1, st, hr, hl, hs => by
    have hi : ns.length - (r + 1) < ns.length := by omega
    generalize hii : ns.length - (r + 1) = i at hi
    have hx := hN _ (List.getElem_mem hi)
    have hke := aP5 hi
    have h16 := by9 (ns, ()) f (ns.length : Int) st (i : Int) ns[i] ns (ns.length : Int) (i : Int) (fun k h => by have := aI7 hb i hi k h; omega) hs hx.nk (j2 ns[i]).length (i : Int) (Nat.le_refl _) (by omega) (by omega)
    have hat : at_ (τ := b8) ns (i : Int) = ns[i] := ae5 ns i hi
    have wk : IntKind.i64.wrap (((j2 ns[i]).length : Int) - 1) = ((j2 ns[i]).length : Int) - 1 := wrap64 _ (by omega) (by have := hx.nk; omega)
    have start : ∀ n, s7 (S.step (S.tab n)) (ns, ()) f (ns.length : Int) st ns (ns.length : Int) (i : Int) = (F5 (S.tab n) (ns, ()) f (ns.length : Int) st (i : Int) ns[i] (i : Int) (((j2 ns[i]).length : Int) - 1) ns (ns.length : Int) (i : Int)).bind (K0 (fun y16 => some (Sum.inl y16)) (fun y16 => brk (decide ((0 : Int) ≤ y16.2.2.2.2.1) && decide (y16.2.2.2.2.1 < (y16.2.2.2.1.length : Int))) (
   brk (decide (y16.2.2.2.2.1 = IntKind.i64.wrap (y16.2.2.1 - (1 : Int)))) (
    brk (!decide (y16.2.2.2.2.2.1 = (0 : Int))) (
     some (Sum.inl (((3 : Int), y16.2.2.2.2.1, ()), ()))) (
     s7 (S.tab n) y16.1 y16.2.1 y16.2.2.1 (y16.2.2.2.1.set y16.2.2.2.2.1.toNat y16.2.2.2.2.2.1) y16.2.2.2.2.2.2.1 y16.2.2.2.2.2.2.2.1 (IntKind.i64.wrap (y16.2.2.2.2.2.2.2.2.1 + (1 : Int))))) (
    s7 (S.tab n) y16.1 y16.2.1 y16.2.2.1 (y16.2.2.2.1.set y16.2.2.2.2.1.toNat y16.2.2.2.2.2.1) y16.2.2.2.2.2.2.1 y16.2.2.2.2.2.2.2.1 (IntKind.i64.wrap (y16.2.2.2.2.2.2.2.2.1 + (1 : Int))))) none)) := fun n => by
      rw [aj0, j6 (by simp only [decide_eq_true_eq]; omega), j6 (j8 hi), hat]
      show (F5 (S.tab n) (ns, ()) f (ns.length : Int) st (i : Int) ns[i] (i : Int) (IntKind.i64.wrap (((j2 ns[i]).length : Int) - 1)) ns (ns.length : Int) (i : Int)).bind _ = _
      rw [wk]
    have him : imS ns (r + 1) st = match at1 st (A5 ns i) (A5 ns i).length (i : Int) with
      | none => .inl i
      | some a => bif decide (r = 0) && !decide (a = 0) then .inl i else imS ns r (st.set i a) := by
      show (match at1 st (A5 ns (ns.length - (r + 1))) (A5 ns (ns.length - (r + 1))).length ((ns.length - (r + 1) : Nat) : Int) with | none => _ | some a => _) = _
      rw [hii]
    rw [him, hke]
    cases hc : at1 st (j2 ns[i]) (j2 ns[i]).length (i : Int) with
    | none =>
      rw [hc] at h16
      refine h16.up fun n h => ?_
      show s7 (S.step (S.tab n)) _ _ _ _ _ _ _ = _
      rw [start, h]; rfl
    | some a =>
      rw [hc] at h16
      obtain ⟨a0, a1⟩ := bq5 hs _ _ _ (by omega) (by omega) hc
      have ih := bB7 f r (st.set i a) (by omega) (by rw [List.length_set]; exact hl) (fun j => by
        rw [ao4 _ _ _ _ (by omega)]
        split
        · exact ⟨a0, a1⟩
        · exact hs j)
      have ei : ns.length - r = i + 1 := by omega
      rw [ei] at ih
      refine (h16.and ih).up fun n ⟨h, ih⟩ => ?_
      show s7 (S.step (S.tab n)) _ _ _ _ _ _ _ = _
      have w1 : IntKind.i64.wrap ((ns.length : Int) - 1) = (ns.length : Int) - 1 := wrap64 _ (by omega) (by omega)
      have hin : (decide ((0 : Int) ≤ (i : Int)) && decide ((i : Int) < (st.length : Int))) = true := j8 (by omega)
      rw [start, h]
      simp only [Option.bind_some, K0, Sum.elim_inr, Sum.elim_inl, Int.toNat_natCast]
      rw [j6 hin, w1, A3 (by omega)]
      by_cases hr0 : r = 0
      · rw [j6 (decide_eq_true (by omega)), decide_eq_true hr0]
        by_cases ha : a = 0
        · rw [n7 (by rw [decide_eq_true ha]; rfl), decide_eq_true ha]
          exact ih
        · rw [j6 (by rw [decide_eq_false ha]; rfl), decide_eq_false ha]; rfl
      · rw [n7 (decide_eq_false (by omega)), decide_eq_false hr0, Bool.false_and, cond_false]
        exact ih
theorem bv5 : ∀ (r : Nat) (sz : List Int), r ≤ ns.length → sz.length = ns.length → (∀ j : Nat, 0 ≤ get sz j ∧ get sz j ≤ (j : Int) + 1) →
  Evt fun n => w8 (S.tab n) sz ns (ns.length : Int) ((ns.length - r : Nat) : Int) = some (Sum.inl (szS ns r sz, ()))
 | 0, sz, hr, hl, hs => q9.up fun n _ => by
  show w8 (S.step (S.tab n)) _ _ _ _ = _
  rw [ah9, n7 (by simp)]; rfl
 | r + 1, sz, hr, hl, hs => by
  have hi : ns.length - (r + 1) < ns.length := by omega
  generalize hii : ns.length - (r + 1) = i at hi
  have hx := hN _ (List.getElem_mem hi)
  have hke := aP5 hi
  have hk2 := bc2 hb i hi
  rw [hke] at hk2
  have hb3 : ∀ j, 0 ≤ get sz j ∧ get sz j ≤ 3000 := fun j => by
   have := hs j
   rcases Nat.lt_or_ge j sz.length with h | h
   ·omega
   ·rw [N3 h]; omega
  have hnk : (j2 ns[i]).length ≤ 200 := by
   have hq : okQ ns i = true := aq1 ns.length 0 i (Nat.zero_le _) (by unfold bb5 at hb; omega)
   unfold okQ bn0 at hq
   rw [decide_eq_true hi, Bool.true_and, List.getElem?_eq_getElem hi] at hq
   have hq : okN ns i ns[i] = true := hq
   rcases Nat.lt_or_ge 200 (j2 ns[i]).length with h | h
   ·unfold okN at hq
    rw [decide_eq_true h] at hq
    revert hq
    cases decide (Prod.fst ns[i].2 < 0) <;> cases decide (Prod.fst (Prod.snd ns[i].2) < Prod.fst ns[i].2) <;> cases decide (Prod.fst (Prod.snd (Prod.snd ns[i].2)) < 0) <;> intro h <;> cases h
   ·exact h
  have h8 := bK3 sz (i : Int) ns[i] ns (ns.length : Int) (i : Int) (fun k h => by have := aI7 hb i hi k h; omega) hb3 hnk (j2 ns[i]).length (i : Int) (Nat.le_refl _) (by omega) (by omega)
  have hat : at_ (τ := b8) ns (i : Int) = ns[i] := ae5 ns i hi
  have wk : IntKind.i64.wrap (((j2 ns[i]).length : Int) - 1) = ((j2 ns[i]).length : Int) - 1 := wrap64 _ (by omega) (by omega)
  obtain ⟨y0, y1⟩ := bx0 (kids := j2 ns[i]) hs (j2 ns[i]).length (i : Int) (by omega) (fun j hj => (hk2 j hj).1)
  have hsz : szS ns (r + 1) sz = szS ns r (bif (aL5 sz (j2 ns[i]) (j2 ns[i]).length (i : Int)).2 then sz.set i ((i : Int) - (aL5 sz (j2 ns[i]) (j2 ns[i]).length (i : Int)).1 + 1) else sz) := by
   show szS ns r (bif (aL5 sz (A5 ns (ns.length - (r + 1))) (A5 ns (ns.length - (r + 1))).length ((ns.length - (r + 1) : Nat) : Int)).2 then sz.set (ns.length - (r + 1)) (((ns.length - (r + 1) : Nat) : Int) - (aL5 sz (A5 ns (ns.length - (r + 1))) (A5 ns (ns.length - (r + 1))).length ((ns.length - (r + 1) : Nat) : Int)).1 + 1) else sz) = _
   rw [hii, hke]
  rw [hsz]
  generalize hy : aL5 sz (j2 ns[i]) (j2 ns[i]).length (i : Int) = y at h8 y0 y1
  obtain ⟨b, ok⟩ := y
  simp only at y0 y1 h8
  have ei : ns.length - r = i + 1 := by omega
  have start : ∀ n, C6 (S.tab n) sz (i : Int) ns[i] (i : Int) true (((j2 ns[i]).length : Int) - 1) ns (ns.length : Int) (i : Int) = some (Sum.inl (sz, (i : Int), b, ok, ns, (ns.length : Int), (i : Int), ())) → w8 (S.step (S.tab n)) sz ns (ns.length : Int) (i : Int) = brk ok (brk (decide ((0 : Int) ≤ (i : Int)) && decide ((i : Int) < (sz.length : Int))) (w8 (S.tab n) (sz.set i (IntKind.i64.wrap ((IntKind.i64.wrap ((i : Int) - b)) + (1 : Int)))) ns (ns.length : Int) (IntKind.i64.wrap ((i : Int) + (1 : Int)))) none) (w8 (S.tab n) sz ns (ns.length : Int) (IntKind.i64.wrap ((i : Int) + (1 : Int)))) := fun n h => by
   rw [ah9, j6 (by simp only [decide_eq_true_eq]; omega), j6 (j8 hi), hat]
   show (C6 (S.tab n) sz (i : Int) ns[i] (i : Int) true (IntKind.i64.wrap (((j2 ns[i]).length : Int) - 1)) ns (ns.length : Int) (i : Int)).bind _ = _
   rw [wk, h]; rfl
  cases ok with
  | true =>
   have ih := bv5 r (sz.set i ((i : Int) - b + 1)) (by omega) (by rw [List.length_set]; exact hl) (fun j => by
    rw [ao4 _ _ _ _ (by omega)]
    split
    ·rename_i e; subst e; omega
    ·exact hs j)
   rw [ei] at ih
   refine (h8.and ih).up fun n ⟨h, ih⟩ => ?_
   show w8 (S.step (S.tab n)) _ _ _ _ = _
   have hin : (decide ((0 : Int) ≤ (i : Int)) && decide ((i : Int) < (sz.length : Int))) = true := j8 (by omega)
   rw [start n h, e9, j6 hin, wrap64 ((i : Int) - b) (by omega) (by omega), wrap64 ((i : Int) - b + 1) (by omega) (by omega), A3 (by omega)]
   exact ih
  | false =>
   have ih := bv5 r sz (by omega) hl hs
   rw [ei] at ih
   refine (h8.and ih).up fun n ⟨h, ih⟩ => ?_
   show w8 (S.step (S.tab n)) _ _ _ _ = _
   rw [start n h, b9, A3 (by omega)]
   exact ih
end
theorem a68 (n j : Nat) : get (List.replicate n (0 : Int)) j = 0 := by
 unfold get
 rw [List.getD_eq_getElem?_getD, List.getElem?_replicate]
 split <;> rfl
theorem bP5 (t : Tr) (f : Fa) (sz : List Int) (hl : sz.length ≤ 3000) : Evt fun n => A0 (S.tab n) t f sz sz (sz.length : Int) 0 = some (bif decide (stop (zq sz) sz.length 0 < sz.length) then Sum.inl ((3, (stop (zq sz) sz.length 0 : Int), ()), ()) else Sum.inr (Sum.inl (t, f, sz, ()))) :=
 adv (F := fun T (j : Nat) => A0 T t f sz sz (sz.length : Int) (j : Int)) (q := zq sz) (N := sz.length) (out := fun j => bif decide (j < sz.length) then Sum.inl ((3, (j : Int), ()), ()) else Sum.inr (Sum.inl (t, f, sz, ()))) (p := Base2) q9 bd5
  (fun T j h hq => by
   unfold zq at hq
   rw [Bool.and_eq_true, decide_eq_true_eq, Bool.not_eq_true', decide_eq_false_iff_not] at hq
   show A0 (S.step T) _ _ _ _ _ _ = A0 T t f sz sz (sz.length : Int) ((j + 1 : Nat) : Int)
   rw [aj3, j6 (by simp only [decide_eq_true_eq]; omega), j6 (j8 hq.1), p9, n7 (decide_eq_false hq.2), A3 (by omega)])
  (fun T j h hq => by
   show A0 (S.step T) _ _ _ _ _ _ = _
   rw [aj3]
   by_cases hj : j < sz.length
   ·unfold zq at hq
    rw [decide_eq_true hj, Bool.true_and, Bool.not_eq_false'] at hq
    rw [j6 (by simp only [decide_eq_true_eq]; omega), j6 (j8 hj), p9, j6 hq, decide_eq_true hj]; rfl
   ·rw [n7 (by simp only [decide_eq_false_iff_not]; omega), decide_eq_false hj]; rfl) sz.length 0 (by omega)
def aB0 (ns : List b8.den) : Fa :=
 bif decide (ns.length = 0) then (1, 0, ()) else
 bif decide (3000 < ns.length) then (1, 0, ()) else
 bif !decide (S0 ns ((ns.length - 1 : Nat) : Int) = 1) then (1, 0, ()) else
 bif decide (bb5 ns < ns.length) then (2, (bb5 ns : Int), ()) else
 match imS ns ns.length (List.replicate ns.length 0) with
 | .inl j => (3, (j : Int), ())
 | .inr _ => bif decide (stop (au7 (aV7 ns ns.length (List.replicate ns.length 0))) ns.length 0 < ns.length) then (4, (stop (au7 (aV7 ns ns.length (List.replicate ns.length 0))) ns.length 0 : Int), ()) else (0, 0, ())
section
variable {ns : List b8.den} (hN : ∀ x ∈ ns, NodeOk x)
include hN
theorem aX9 : Evt fun n => I7 (S.tab n) (ns, ()) = some (aB0 ns, M5) := by
 unfold aB0
 by_cases c0 : ns.length = 0
 ·refine q9.up fun n _ => ?_
  show I7 (S.step (S.tab n)) _ = _
  have d : decide ((((ns, ()) : Tr).1.length : Int) = 0) = true := decide_eq_true (by show (ns.length : Int) = 0; omega)
  rw [al1, j6 d, decide_eq_true c0]; rfl
 have d0 : decide ((((ns, ()) : Tr).1.length : Int) = 0) = false := decide_eq_false (by show ¬ (ns.length : Int) = 0; omega)
 rw [decide_eq_false c0]
 by_cases c1 : 3000 < ns.length
 ·refine q9.up fun n _ => ?_
  show I7 (S.step (S.tab n)) _ = _
  have d : decide ((3000 : Int) < (((ns, ()) : Tr).1.length : Int)) = true := decide_eq_true (by show (3000 : Int) < (ns.length : Int); omega)
  rw [al1, n7 d0, j6 d, decide_eq_true c1]; rfl
 have hn : ns.length ≤ 3000 := by omega
 have d1 : decide ((3000 : Int) < (((ns, ()) : Tr).1.length : Int)) = false := decide_eq_false (by show ¬ (3000 : Int) < (ns.length : Int); omega)
 rw [decide_eq_false c1]
 have wn : IntKind.i64.wrap ((((ns, ()) : Tr).1.length : Int) - 1) = ((ns.length - 1 : Nat) : Int) := by
  show IntKind.i64.wrap ((ns.length : Int) - 1) = _
  rw [wrap64 _ (by omega) (by omega)]; omega
 have hin : (decide ((0 : Int) ≤ ((ns.length - 1 : Nat) : Int)) && decide (((ns.length - 1 : Nat) : Int) < (((ns, ()) : Tr).1.length : Int))) = true := j8 (show ns.length - 1 < ns.length by omega)
 have start : ∀ n, I7 (S.step (S.tab n)) (ns, ()) = _ := fun n => by
  rw [al1, n7 d0, n7 d1, wn, j6 hin]
 by_cases c2 : ¬ S0 ns ((ns.length - 1 : Nat) : Int) = 1
 ·refine q9.up fun n _ => ?_
  show I7 (S.step (S.tab n)) _ = _
  rw [start, j6 (by
   show (!decide (S0 ns ((ns.length - 1 : Nat) : Int) = 1)) = true
   rw [decide_eq_false c2]; rfl), decide_eq_false c2]; rfl
 replace c2 := Decidable.not_not.1 c2
 rw [decide_eq_true c2]
 have step2 : ∀ n, I7 (S.step (S.tab n)) (ns, ()) = _ := fun n => by
  rw [start, n7 (by
   show (!decide (S0 ns ((ns.length - 1 : Nat) : Int) = 1)) = false
   rw [decide_eq_true c2]; rfl)]
 have h5 := bV2 hN hn (ns.length : Int) (0, 0, ())
 by_cases c3 : bb5 ns < ns.length
 ·refine h5.up fun n h => ?_
  show I7 (S.step (S.tab n)) _ = _
  rw [decide_eq_true c3] at h
  rw [step2, decide_eq_true c3]
  show (E5 (S.tab n) (ns, ()) (0, 0, ()) (ns.length : Int) (ns.length : Int) 0).bind _ = _
  rw [h]; rfl
 rw [decide_eq_false c3] at h5 ⊢
 have h12 := bB7 hN hn c3 (0, 0, ()) ns.length (List.replicate ns.length 0) (Nat.le_refl _) (by simp) (fun j => by rw [a68]; omega)
 rw [Nat.sub_self] at h12
 have hlim : (decide ((0 : Int) ≤ (ns.length : Int)) && decide ((ns.length : Int) ≤ (ns.length : Int)) && decide ((ns.length : Int) ≤ (lim : Int))) = true := by
  rw [decide_eq_true (show (0 : Int) ≤ (ns.length : Int) by omega), decide_eq_true (show (ns.length : Int) ≤ (ns.length : Int) by omega), decide_eq_true (show (ns.length : Int) ≤ (lim : Int) by unfold lim; omega)]; rfl
 have step3 : ∀ n, E5 (S.tab n) (ns, ()) (0, 0, ()) (((ns, ()) : Tr).1.length : Int) (((ns, ()) : Tr).1.length : Int) 0 = some (Sum.inr (Sum.inl ((ns, ()), (0, 0, ()), (ns.length : Int), ()))) → I7 (S.step (S.tab n)) (ns, ()) = _ := fun n h => by
  rw [step2, h, Option.bind_some]
 simp only [cond_false, Bool.not_true]
 cases hc : imS ns ns.length (List.replicate ns.length 0) with
 | inl j =>
  rw [hc] at h12
  refine (h5.and h12).up fun n ⟨h, h'⟩ => ?_
  show I7 (S.step (S.tab n)) _ = _
  rw [step3 n h]
  show brk (decide ((0 : Int) ≤ (ns.length : Int)) && decide ((ns.length : Int) ≤ (ns.length : Int)) && decide ((ns.length : Int) ≤ (lim : Int))) ((s7 (S.tab n) (ns, ()) (0, 0, ()) (ns.length : Int) (List.replicate ns.length 0) ns (ns.length : Int) 0).bind _) _ = _
  have h' : s7 (S.tab n) (ns, ()) (0, 0, ()) (ns.length : Int) (List.replicate ns.length 0) ns (ns.length : Int) 0 = _ := h'
  rw [j6 hlim, h']; rfl
 | inr u =>
  rw [hc] at h12
  have h27 := bC3 hN hn c3 (0, 0, ()) ns.length (List.replicate ns.length 0) (Nat.le_refl _) (by simp)
  have hdl : (aV7 ns ns.length (List.replicate ns.length 0)).length = ns.length := by rw [a54]; simp
  have h35 := bO9 (0, 0, ()) (aV7 ns ns.length (List.replicate ns.length 0)) (by omega)
  rw [hdl] at h35
  refine ((h5.and h12).and (h27.and h35)).up fun n ⟨⟨h, h'⟩, h27, h35⟩ => ?_
  show I7 (S.step (S.tab n)) _ = _
  rw [step3 n h]
  show brk (decide ((0 : Int) ≤ (ns.length : Int)) && decide ((ns.length : Int) ≤ (ns.length : Int)) && decide ((ns.length : Int) ≤ (lim : Int))) ((s7 (S.tab n) (ns, ()) (0, 0, ()) (ns.length : Int) (List.replicate ns.length 0) ns (ns.length : Int) 0).bind _) _ = _
  have h' : s7 (S.tab n) (ns, ()) (0, 0, ()) (ns.length : Int) (List.replicate ns.length 0) ns (ns.length : Int) 0 = _ := h'
  rw [j6 hlim, h', Option.bind_some]
  show brk (decide ((0 : Int) ≤ (ns.length : Int)) && decide ((ns.length : Int) ≤ (ns.length : Int)) && decide ((ns.length : Int) ≤ (lim : Int))) ((K4 (S.tab n) (ns, ()) (0, 0, ()) (List.replicate ns.length 0) (IntKind.i64.wrap ((ns.length : Int) - 1))).bind _) _ = _
  rw [j6 hlim, wrap64 _ (by omega) (by omega), h27, Option.bind_some]
  show (F9 (S.tab n) (0, 0, ()) (aV7 ns ns.length (List.replicate ns.length 0)) ((aV7 ns ns.length (List.replicate ns.length 0)).length : Int) 0).bind _ = _
  rw [hdl, h35, Option.bind_some]
  cases decide (stop (au7 (aV7 ns ns.length (List.replicate ns.length 0))) ns.length 0 < ns.length) <;> rfl
theorem aX0 : Evt fun n => G8 (S.tab n) (ns, ()) = some (aB0 ns, F4) := by
 unfold aB0
 by_cases c0 : ns.length = 0
 ·refine q9.up fun n _ => ?_
  show G8 (S.step (S.tab n)) _ = _
  have d : decide ((((ns, ()) : Tr).1.length : Int) = 0) = true := decide_eq_true (by show (ns.length : Int) = 0; omega)
  rw [ak6, j6 d, decide_eq_true c0]; rfl
 have d0 : decide ((((ns, ()) : Tr).1.length : Int) = 0) = false := decide_eq_false (by show ¬ (ns.length : Int) = 0; omega)
 rw [decide_eq_false c0]
 by_cases c1 : 3000 < ns.length
 ·refine q9.up fun n _ => ?_
  show G8 (S.step (S.tab n)) _ = _
  have d : decide ((3000 : Int) < (((ns, ()) : Tr).1.length : Int)) = true := decide_eq_true (by show (3000 : Int) < (ns.length : Int); omega)
  rw [ak6, n7 d0, j6 d, decide_eq_true c1]; rfl
 have hn : ns.length ≤ 3000 := by omega
 have d1 : decide ((3000 : Int) < (((ns, ()) : Tr).1.length : Int)) = false := decide_eq_false (by show ¬ (3000 : Int) < (ns.length : Int); omega)
 rw [decide_eq_false c1]
 have wn : IntKind.i64.wrap ((((ns, ()) : Tr).1.length : Int) - 1) = ((ns.length - 1 : Nat) : Int) := by
  show IntKind.i64.wrap ((ns.length : Int) - 1) = _
  rw [wrap64 _ (by omega) (by omega)]; omega
 have hin : (decide ((0 : Int) ≤ ((ns.length - 1 : Nat) : Int)) && decide (((ns.length - 1 : Nat) : Int) < (((ns, ()) : Tr).1.length : Int))) = true := j8 (show ns.length - 1 < ns.length by omega)
 have start : ∀ n, G8 (S.step (S.tab n)) (ns, ()) = _ := fun n => by
  rw [ak6, n7 d0, n7 d1, wn, j6 hin]
 by_cases c2 : ¬ S0 ns ((ns.length - 1 : Nat) : Int) = 1
 ·refine q9.up fun n _ => ?_
  show G8 (S.step (S.tab n)) _ = _
  rw [start, j6 (by
   show (!decide (S0 ns ((ns.length - 1 : Nat) : Int) = 1)) = true
   rw [decide_eq_false c2]; rfl), decide_eq_false c2]; rfl
 replace c2 := Decidable.not_not.1 c2
 rw [decide_eq_true c2]
 have step2 : ∀ n, G8 (S.step (S.tab n)) (ns, ()) = _ := fun n => by
  rw [start, n7 (by
   show (!decide (S0 ns ((ns.length - 1 : Nat) : Int) = 1)) = false
   rw [decide_eq_true c2]; rfl)]
 have h4 := bU3 hN hn (0, 0, ())
 by_cases c3 : bb5 ns < ns.length
 ·refine h4.up fun n h => ?_
  show G8 (S.step (S.tab n)) _ = _
  rw [decide_eq_true c3] at h
  rw [step2, decide_eq_true c3]
  show (E2 (S.tab n) (ns, ()) (0, 0, ()) (ns.length : Int) 0).bind _ = _
  rw [h]; rfl
 rw [decide_eq_false c3] at h4 ⊢
 have h3 := bv5 hN hn c3 ns.length (List.replicate ns.length 0) (Nat.le_refl _) (by simp) (fun j => by rw [a68]; omega)
 rw [Nat.sub_self] at h3
 have hlim : (decide ((0 : Int) ≤ (ns.length : Int)) && decide ((ns.length : Int) ≤ (ns.length : Int)) && decide ((ns.length : Int) ≤ (lim : Int))) = true := by
  rw [decide_eq_true (show (0 : Int) ≤ (ns.length : Int) by omega), decide_eq_true (show (ns.length : Int) ≤ (ns.length : Int) by omega), decide_eq_true (show (ns.length : Int) ≤ (lim : Int) by unfold lim; omega)]; rfl
 have hsizes : Evt fun n => S2 (S.tab n) (ns, ()) = some (szS ns ns.length (List.replicate ns.length 0), ay9) := h3.up fun n h => by
  show S2 (S.step (S.tab n)) _ = _
  rw [aS5, j6 hlim]
  show (w8 (S.tab n) (List.replicate ns.length 0) ns (ns.length : Int) 0).bind _ = _
  have h : w8 (S.tab n) (List.replicate ns.length 0) ns (ns.length : Int) 0 = _ := h
  rw [h]; rfl
 have hzl : (szS ns ns.length (List.replicate ns.length 0)).length = ns.length := by rw [bi9]; simp
 have h11 := bP5 (ns, ()) (0, 0, ()) (szS ns ns.length (List.replicate ns.length 0)) (by omega)
 have hal : imS ns ns.length (List.replicate ns.length 0) = bL7 (szS ns ns.length (List.replicate ns.length 0)) := by
  obtain ⟨r, hr⟩ : ∃ r, ns.length = r + 1 := ⟨ns.length - 1, by omega⟩
  have := bS2 ns (bc2 c3) r (List.replicate ns.length 0) (List.replicate ns.length 0) (by omega) ⟨by simp, by simp, fun j hj => by omega, fun j _ => ⟨a68 .., a68 ..⟩⟩
  rw [← hr] at this
  exact this
 rw [hal]
 simp only [cond_false, Bool.not_true]
 generalize hsz : szS ns ns.length (List.replicate ns.length 0) = sz at hsizes hzl h11
 have step3 : ∀ n, E2 (S.tab n) (ns, ()) (0, 0, ()) (((ns, ()) : Tr).1.length : Int) 0 = some (Sum.inr (Sum.inl ((ns, ()), (0, 0, ()), ()))) → G8 (S.step (S.tab n)) (ns, ()) = _ := fun n h => by
  rw [step2, h, Option.bind_some]
 unfold bL7
 cases hz : decide (stop (zq sz) sz.length 0 < sz.length) with
 | true =>
  rw [hz] at h11
  refine ((h4.and hsizes).and h11).up fun n ⟨⟨h, h'⟩, h11⟩ => ?_
  show G8 (S.step (S.tab n)) _ = _
  rw [step3 n h]
  show (S2 (S.tab n) (ns, ())).bind _ = _
  rw [h', Option.bind_some]
  show (A0 (S.tab n) (ns, ()) (0, 0, ()) sz sz (sz.length : Int) 0).bind _ = _
  rw [h11]; rfl
 | false =>
  rw [hz] at h11
  have wz : IntKind.i64.wrap ((sz.length : Int) - 1) = ((sz.length - 1 : Nat) : Int) := by rw [wrap64 _ (by omega) (by omega)]; omega
  have hinz : (decide ((0 : Int) ≤ ((sz.length - 1 : Nat) : Int)) && decide (((sz.length - 1 : Nat) : Int) < (sz.length : Int))) = true := j8 (show sz.length - 1 < sz.length by omega)
  cases hlast : decide (get sz (sz.length - 1) = (sz.length : Int)) with
  | false =>
   refine ((h4.and hsizes).and h11).up fun n ⟨⟨h, h'⟩, h11⟩ => ?_
   show G8 (S.step (S.tab n)) _ = _
   rw [step3 n h]
   show (S2 (S.tab n) (ns, ())).bind _ = _
   rw [h', Option.bind_some]
   show (A0 (S.tab n) (ns, ()) (0, 0, ()) sz sz (sz.length : Int) 0).bind _ = _
   rw [h11, Option.bind_some]
   show brk (decide ((0 : Int) ≤ IntKind.i64.wrap ((sz.length : Int) - 1)) && decide (IntKind.i64.wrap ((sz.length : Int) - 1) < (sz.length : Int))) (brk (!decide (sz.getD (IntKind.i64.wrap ((sz.length : Int) - 1)).toNat 0 = (sz.length : Int))) (some ((3, IntKind.i64.wrap ((sz.length : Int) - 1), ()), F4)) _) _ = _
   rw [wz, j6 hinz, p9, hlast, j6 (by rfl)]; rfl
  | true =>
   have h20 := bD0 hN hn c3 (0, 0, ()) ns.length (List.replicate ns.length 0) (Nat.le_refl _) (by simp)
   have hdl : (aV7 ns ns.length (List.replicate ns.length 0)).length = ns.length := by rw [a54]; simp
   have h28 := bP3 (0, 0, ()) (aV7 ns ns.length (List.replicate ns.length 0)) (by omega)
   rw [hdl] at h28
   refine (((h4.and hsizes).and h11).and (h20.and h28)).up fun n ⟨⟨⟨h, h'⟩, h11⟩, h20, h28⟩ => ?_
   show G8 (S.step (S.tab n)) _ = _
   rw [step3 n h]
   show (S2 (S.tab n) (ns, ())).bind _ = _
   rw [h', Option.bind_some]
   show (A0 (S.tab n) (ns, ()) (0, 0, ()) sz sz (sz.length : Int) 0).bind _ = _
   rw [h11, Option.bind_some]
   show brk (decide ((0 : Int) ≤ IntKind.i64.wrap ((sz.length : Int) - 1)) && decide (IntKind.i64.wrap ((sz.length : Int) - 1) < (sz.length : Int))) (brk (!decide (sz.getD (IntKind.i64.wrap ((sz.length : Int) - 1)).toNat 0 = (sz.length : Int))) (some ((3, IntKind.i64.wrap ((sz.length : Int) - 1), ()), F4)) _) _ = _
   rw [wz, j6 hinz, p9, hlast, n7 (by rfl)]
   show brk (decide ((0 : Int) ≤ (ns.length : Int)) && decide ((ns.length : Int) ≤ (ns.length : Int)) && decide ((ns.length : Int) ≤ (lim : Int))) ((K5 (S.tab n) (ns, ()) (0, 0, ()) (List.replicate ns.length 0) (IntKind.i64.wrap ((ns.length : Int) - 1))).bind _) _ = _
   rw [j6 hlim, wrap64 _ (by omega) (by omega), h20, Option.bind_some]
   show (F3 (S.tab n) (0, 0, ()) (aV7 ns ns.length (List.replicate ns.length 0)) ((aV7 ns ns.length (List.replicate ns.length 0)).length : Int) 0).bind _ = _
   rw [hdl, h28, Option.bind_some]
   cases decide (stop (au7 (aV7 ns ns.length (List.replicate ns.length 0))) ns.length 0 < ns.length) <;> rfl
end
end Go.Abs.D
end

section

end

section

end

section
namespace Go.Abs.D
theorem bl7 {α : Type} (pre : List α) (x y : α) (r : List α) : (pre ++ x :: r).set pre.length y = pre ++ y :: r := by
 rw [List.set_append_right _ _ (Nat.le_refl _), Nat.sub_self]; rfl
end Go.Abs.D
end

section
namespace Go.Abs.D
def szL : List (List Int) → Int → Int
 | [], l => l
 | m :: r, l => bif decide (l - (m.length : Int) < 0) then -1 else szL r (l - (m.length : Int))
def bg8 (names : List (List Int)) (l : Int) : Int := bif decide (l - (names.length : Int) < 0) then -1 else szL names (l - (names.length : Int))
def bF1 (kids : List Int) (l : Int) : Int := bif decide (l - (kids.length : Int) < 0) then -1 else l - (kids.length : Int)
def bs0 (x : b8.den) (l : Int) : Int :=
 bif decide (l - (List.length (α := Int) x.2.2.2.2.2.2.1 : Int) < 0) then -1 else
 bif decide (bg8 (j7 x) (l - (List.length (α := Int) x.2.2.2.2.2.2.1 : Int)) < 0) then -1 else
 bif decide (bF1 (j2 x) (bg8 (j7 x) (l - (List.length (α := Int) x.2.2.2.2.2.2.1 : Int))) < 0) then -1 else bF1 (j2 x) (bg8 (j7 x) (l - (List.length (α := Int) x.2.2.2.2.2.2.1 : Int)))
def bM4 : List b8.den → Int → Int
 | [], l => l
 | x :: r, l => bif decide (bs0 x l < 0) then -1 else bM4 r (bs0 x l)
def bL0 (ns : List b8.den) (l : Int) : Int := bif decide (l - (ns.length : Int) < 0) then -1 else bM4 ns (l - (ns.length : Int))
theorem bw5 {l : Int} {n : Nat} (h0 : 0 ≤ l) (h1 : l ≤ 1048576) (hn : n ≤ maxLen) : IntKind.i64.wrap (l - (n : Int)) = l - (n : Int) := by
 unfold maxLen at hn
 exact wrap64 _ (by omega) (by omega)
theorem bM0 : ∀ (r : List (List Int)) (l : Int), szL r l ≤ l ∨ szL r l = -1
 | [], l => .inl (Int.le_refl _)
 | m :: r, l => by
  unfold szL
  by_cases h : l - (m.length : Int) < 0
  ·rw [decide_eq_true h]; exact .inr rfl
  ·rw [decide_eq_false h]
   rcases bM0 r (l - (m.length : Int)) with h | h
   ·left; simp only [cond_false]; omega
   ·right; exact h
theorem aP4 : ∀ (r pre : List (List Int)) (l : Int), 0 ≤ l → l ≤ 1048576 → (∀ m ∈ r, m.length ≤ maxLen) → (pre ++ r).length ≤ 2097152 →
  Evt fun n => ∃ y, B7 (S.tab n) (pre ++ r) l (pre.length : Int) = some y ∧ (y = .inl (szL r l, ()) ∨ y = .inr (.inl (szL r l, ())))
 | [], pre, l, _, _, _, _ => q9.up fun n _ => by
  show ∃ y, B7 (S.step (S.tab n)) _ _ _ = _ ∧ _
  rw [ad3, n7 (by simp)]
  exact ⟨_, rfl, .inr rfl⟩
 | m :: r, pre, l, h0, h1, hm, hl => by
  have hlen : (pre ++ m :: r).length = pre.length + (r.length + 1) := by simp
  have hg : (pre ++ m :: r).getD (pre.length : Int).toNat [] = m := X8 pre m r []
  have w := bw5 h0 h1 (hm m (List.mem_cons_self ..))
  have start : ∀ n, B7 (S.step (S.tab n)) (pre ++ m :: r) l (pre.length : Int) = _ := fun n => by
   rw [ad3, j6 (by simp only [decide_eq_true_eq]; omega), j6 (j8 (by omega)), hg, w, A3 (by omega)]
  unfold szL
  by_cases h : l - (m.length : Int) < 0
  ·refine q9.up fun n _ => ?_
   show ∃ y, B7 (S.step (S.tab n)) _ _ _ = _ ∧ _
   rw [start, j6 (decide_eq_true h), decide_eq_true h]
   exact ⟨_, rfl, .inl rfl⟩
  ·have ih := aP4 r (pre ++ [m]) (l - (m.length : Int)) (by omega) (by omega) (fun x hx => hm x (List.mem_cons_of_mem _ hx)) (by simpa using hl)
   refine ih.up fun n ih => ?_
   show ∃ y, B7 (S.step (S.tab n)) _ _ _ = _ ∧ _
   rw [start, n7 (decide_eq_false h), decide_eq_false h]
   have e1 : (pre ++ [m]) ++ r = pre ++ m :: r := by simp
   have e2 : (pre ++ [m]).length = pre.length + 1 := by simp
   rw [e1, e2] at ih
   exact ih
theorem bG0 (names : List (List Int)) (l : Int) (h0 : 0 ≤ l) (h1 : l ≤ 1048576) (hm : ∀ m ∈ names, m.length ≤ maxLen) (hn : names.length ≤ maxLen) : Evt fun n => M7 (S.tab n) names l = some (bg8 names l, V5) := by
 have w := bw5 h0 h1 hn
 unfold bg8
 by_cases h : l - (names.length : Int) < 0
 ·refine q9.up fun n _ => ?_
  show M7 (S.step (S.tab n)) _ _ = _
  rw [al9, w, j6 (decide_eq_true h), decide_eq_true h]; rfl
 ·refine (aP4 names [] (l - (names.length : Int)) (by omega) (by omega) hm (by simp only [List.nil_append]; omega)).up fun n ⟨y, h', hy⟩ => ?_
  show M7 (S.step (S.tab n)) _ _ = _
  have h' : B7 (S.tab n) names (l - (names.length : Int)) 0 = some y := h'
  rw [al9, w, n7 (decide_eq_false h), decide_eq_false h, h', Option.bind_some]
  rcases hy with rfl | rfl <;> rfl
theorem bG4 (kids : List Int) (l : Int) (h0 : 0 ≤ l) (h1 : l ≤ 1048576) (hn : kids.length ≤ maxLen) : Evt fun n => ae7 (S.tab n) kids l = some (bF1 kids l, ap3) := q9.up fun n _ => by
 show ae7 (S.step (S.tab n)) _ _ = _
 unfold bF1
 rw [aX8, bw5 h0 h1 hn]
 by_cases h : l - (kids.length : Int) < 0
 ·rw [j6 (decide_eq_true h), decide_eq_true h]; rfl
 ·rw [n7 (decide_eq_false h), decide_eq_false h]; rfl
structure Read (x : b8.den) : Prop where
 text : (∀ c ∈ x.2.2.2.2.2.2.1, isByte c) ∧ List.length (α := Int) x.2.2.2.2.2.2.1 ≤ maxLen
 names : (∀ m ∈ j7 x, (∀ c ∈ m, isByte c) ∧ m.length ≤ maxLen) ∧ (j7 x).length ≤ maxLen
 kids : (j2 x).length ≤ maxLen
theorem bA2 {names : List (List Int)} {l : Int} (h : 0 ≤ bg8 names l) : bg8 names l ≤ l ∧ (names.length : Int) ≤ l := by
 unfold bg8 at h ⊢
 by_cases hd : l - (names.length : Int) < 0
 ·rw [decide_eq_true hd] at h; exact absurd (show (0 : Int) ≤ -1 from h) (by decide)
 ·rw [decide_eq_false hd] at h ⊢
  simp only [cond_false] at h ⊢
  rcases bM0 names (l - (names.length : Int)) with h' | h'
  ·omega
  ·rw [h'] at h; exact absurd (show (0 : Int) ≤ -1 from h) (by decide)
theorem bO4 {kids : List Int} {l : Int} (h : 0 ≤ bF1 kids l) : bF1 kids l ≤ l ∧ (kids.length : Int) ≤ l := by
 unfold bF1 at h ⊢
 by_cases hd : l - (kids.length : Int) < 0
 ·rw [decide_eq_true hd] at h; exact absurd (show (0 : Int) ≤ -1 from h) (by decide)
 ·rw [decide_eq_false hd] at h ⊢
  simp only [cond_false] at h ⊢
  omega
theorem bC4 {x : b8.den} {l : Int} (h : 0 ≤ bs0 x l) : bs0 x l ≤ l ∧ ((j7 x).length : Int) ≤ l ∧ ((j2 x).length : Int) ≤ l ∧ (List.length (α := Int) x.2.2.2.2.2.2.1 : Int) ≤ l := by
 unfold bs0 at h ⊢
 by_cases h1 : l - (List.length (α := Int) x.2.2.2.2.2.2.1 : Int) < 0
 ·rw [decide_eq_true h1] at h; exact absurd (show (0 : Int) ≤ -1 from h) (by decide)
 rw [decide_eq_false h1] at h ⊢
 by_cases h2 : bg8 (j7 x) (l - (List.length (α := Int) x.2.2.2.2.2.2.1 : Int)) < 0
 ·rw [decide_eq_true h2] at h; exact absurd (show (0 : Int) ≤ -1 from h) (by decide)
 rw [decide_eq_false h2] at h ⊢
 by_cases h3 : bF1 (j2 x) (bg8 (j7 x) (l - (List.length (α := Int) x.2.2.2.2.2.2.1 : Int))) < 0
 ·rw [decide_eq_true h3] at h; exact absurd (show (0 : Int) ≤ -1 from h) (by decide)
 rw [decide_eq_false h3] at h ⊢
 simp only [cond_false] at h ⊢
 have a := bA2 (show 0 ≤ bg8 (j7 x) (l - (List.length (α := Int) x.2.2.2.2.2.2.1 : Int)) by omega)
 have b := bO4 (show 0 ≤ bF1 (j2 x) (bg8 (j7 x) (l - (List.length (α := Int) x.2.2.2.2.2.2.1 : Int))) by omega)
 omega
theorem bz4 {x : b8.den} (hx : Read x) (l : Int) (h0 : 0 ≤ l) (h1 : l ≤ 1048576) : Evt fun n => W2 (S.tab n) x l = some (bs0 x l, T0) := by
 have w := bw5 h0 h1 hx.text.2
 unfold bs0
 by_cases c1 : l - (List.length (α := Int) x.2.2.2.2.2.2.1 : Int) < 0
 ·refine q9.up fun n _ => ?_
  show W2 (S.step (S.tab n)) _ _ = _
  rw [al0, w, j6 (decide_eq_true c1), decide_eq_true c1]; rfl
 have hs := bG0 (j7 x) (l - (List.length (α := Int) x.2.2.2.2.2.2.1 : Int)) (by omega) (by omega) (fun m hm => (hx.names.1 m hm).2) hx.names.2
 rw [decide_eq_false c1]
 by_cases c2 : bg8 (j7 x) (l - (List.length (α := Int) x.2.2.2.2.2.2.1 : Int)) < 0
 ·refine hs.up fun n hs => ?_
  show W2 (S.step (S.tab n)) _ _ = _
  rw [al0, w, n7 (decide_eq_false c1)]
  show (M7 (S.tab n) (j7 x) _).bind _ = _
  rw [hs, Option.bind_some, j6 (decide_eq_true c2), decide_eq_true c2]; rfl
 have a := bA2 (show 0 ≤ bg8 (j7 x) (l - (List.length (α := Int) x.2.2.2.2.2.2.1 : Int)) by omega)
 have hi := bG4 (j2 x) (bg8 (j7 x) (l - (List.length (α := Int) x.2.2.2.2.2.2.1 : Int))) (by omega) (by omega) hx.kids
 rw [decide_eq_false c2]
 refine (hs.and hi).up fun n ⟨hs, hi⟩ => ?_
 show W2 (S.step (S.tab n)) _ _ = _
 rw [al0, w, n7 (decide_eq_false c1)]
 show (M7 (S.tab n) (j7 x) _).bind _ = _
 rw [hs, Option.bind_some, n7 (decide_eq_false c2)]
 show (ae7 (S.tab n) (j2 x) _).bind _ = _
 rw [hi, Option.bind_some]
 by_cases c3 : bF1 (j2 x) (bg8 (j7 x) (l - (List.length (α := Int) x.2.2.2.2.2.2.1 : Int))) < 0
 ·rw [j6 (decide_eq_true c3), decide_eq_true c3]; rfl
 ·rw [n7 (decide_eq_false c3), decide_eq_false c3]; rfl
theorem a02 : ∀ (r pre : List b8.den) (l : Int), 0 ≤ l → l ≤ 1048576 → (∀ x ∈ r, Read x) → (pre ++ r).length ≤ 2097152 →
  Evt fun n => ∃ y, F2 (S.tab n) (pre ++ r) l (pre.length : Int) = some y ∧ (y = .inl (bM4 r l, ()) ∨ y = .inr (.inl (bM4 r l, ())))
 | [], pre, l, _, _, _, _ => q9.up fun n _ => by
  show ∃ y, F2 (S.step (S.tab n)) _ _ _ = _ ∧ _
  rw [ah8, n7 (by simp)]
  exact ⟨_, rfl, .inr rfl⟩
 | x :: r, pre, l, h0, h1, hm, hl => by
  have hlen : (pre ++ x :: r).length = pre.length + (r.length + 1) := by simp
  have hg : at_ (τ := b8) (pre ++ x :: r) (pre.length : Int) = x := by rw [ae5 _ _ (by omega)]; simp
  have hz := bz4 (hm x (List.mem_cons_self ..)) l h0 h1
  have start : ∀ n, W2 (S.tab n) x l = some (bs0 x l, T0) → F2 (S.step (S.tab n)) (pre ++ x :: r) l (pre.length : Int) = _ := fun n hz => by
   rw [ah8, j6 (by simp only [decide_eq_true_eq]; omega), j6 (j8 (by omega)), hg, hz, Option.bind_some, A3 (by omega)]
  unfold bM4
  by_cases h : bs0 x l < 0
  ·refine hz.up fun n hz => ?_
   show ∃ y, F2 (S.step (S.tab n)) _ _ _ = _ ∧ _
   rw [start n hz, j6 (decide_eq_true h), decide_eq_true h]
   exact ⟨_, rfl, .inl rfl⟩
  ·have hle := bC4 (show 0 ≤ bs0 x l by omega)
   have ih := a02 r (pre ++ [x]) (bs0 x l) (by omega) (by omega) (fun y hy => hm y (List.mem_cons_of_mem _ hy)) (by simpa using hl)
   refine (hz.and ih).up fun n ⟨hz, ih⟩ => ?_
   show ∃ y, F2 (S.step (S.tab n)) _ _ _ = _ ∧ _
   rw [start n hz, n7 (decide_eq_false h), decide_eq_false h]
   have e1 : (pre ++ [x]) ++ r = pre ++ x :: r := by simp
   have e2 : (pre ++ [x]).length = pre.length + 1 := by simp
   rw [e1, e2] at ih
   exact ih
theorem bn7 : ∀ (r : List b8.den) (l : Int), 0 ≤ bM4 r l → l ≤ 1048576 → ∀ x ∈ r, ((j7 x).length : Int) ≤ 1048576 ∧ ((j2 x).length : Int) ≤ 1048576 ∧ (List.length (α := Int) x.2.2.2.2.2.2.1 : Int) ≤ 1048576
 | [], l, _, _, x, hx => by cases hx
 | y :: r, l, h, h1, x, hx => by
  unfold bM4 at h
  by_cases hd : bs0 y l < 0
  ·rw [decide_eq_true hd] at h; exact absurd (show (0 : Int) ≤ -1 from h) (by decide)
  rw [decide_eq_false hd] at h
  have hle := bC4 (show 0 ≤ bs0 y l by omega)
  rcases List.mem_cons.1 hx with rfl | hx
  ·omega
  ·exact bn7 r _ h (by omega) x hx
theorem bz7 (ns : List b8.den) (hN : ∀ x ∈ ns, Read x) (hn : ns.length ≤ maxLen) : Evt fun n => aq9 (S.tab n) (ns, ()) 1048576 = some (bif decide (bL0 ns 1048576 < 0) then -1 else bL0 ns 1048576, ao7) := by
 have w := bw5 (l := 1048576) (by decide) (by decide) hn
 have hS : Evt fun n => X0 (S.tab n) ns 1048576 = some (bL0 ns 1048576, aa3) := by
  unfold bL0
  by_cases h : 1048576 - (ns.length : Int) < 0
  ·refine q9.up fun n _ => ?_
   show X0 (S.step (S.tab n)) _ _ = _
   rw [av1, w, j6 (decide_eq_true h), decide_eq_true h]; rfl
  ·refine (a02 ns [] (1048576 - (ns.length : Int)) (by omega) (by omega) hN (by simp only [List.nil_append]; omega)).up fun n ⟨y, h', hy⟩ => ?_
   show X0 (S.step (S.tab n)) _ _ = _
   have h' : F2 (S.tab n) ns (1048576 - (ns.length : Int)) 0 = some y := h'
   rw [av1, w, n7 (decide_eq_false h), decide_eq_false h, h', Option.bind_some]
   rcases hy with rfl | rfl <;> rfl
 refine hS.up fun n h => ?_
 show aq9 (S.step (S.tab n)) _ _ = _
 rw [aX3]
 show (X0 (S.tab n) ns 1048576).bind _ = _
 rw [h, Option.bind_some]
 by_cases hd : bL0 ns 1048576 < 0
 ·rw [j6 (decide_eq_true hd), decide_eq_true hd]; rfl
 ·rw [n7 (decide_eq_false hd), decide_eq_false hd]; rfl
theorem aT9 : ∀ (r pre : List (List Int)), (pre ++ r).length ≤ 2097152 → Evt fun n => G6 (S.tab n) (pre ++ r) (pre ++ List.replicate r.length []) (pre.length : Int) = some (Sum.inl (pre ++ r, ()))
 | [], pre, hl => q9.up fun n _ => by
  show G6 (S.step (S.tab n)) _ _ _ = _
  rw [ac9, n7 (by simp)]
  simp
 | m :: r, pre, hl => by
  have hlen : (pre ++ m :: r).length = pre.length + (r.length + 1) := by simp
  have ih := aT9 r (pre ++ [m]) (by simpa using hl)
  refine ih.up fun n h => ?_
  show G6 (S.step (S.tab n)) _ _ _ = _
  have hg : (pre ++ m :: r).getD (pre.length : Int).toNat [] = m := X8 pre m r []
  have e1 : (pre ++ [m]) ++ r = pre ++ m :: r := by simp
  have e2 : (pre ++ [m]).length = pre.length + 1 := by simp
  have e3 : (pre ++ [m]) ++ List.replicate r.length [] = pre ++ m :: List.replicate r.length [] := by simp
  rw [e1, e2, e3] at h
  rw [ac9, j6 (by simp only [decide_eq_true_eq]; omega), j6 (j8 (by omega)), List.length_cons, List.replicate_succ, j6 (j8 (by simp)), hg, Int.toNat_natCast, bl7, A3 (by omega)]
  exact h
theorem bN8 {k : Nat} (h : k ≤ 2097152) : (decide ((0 : Int) ≤ (k : Int)) && decide ((k : Int) ≤ (k : Int)) && decide ((k : Int) ≤ (lim : Int))) = true := by
 rw [decide_eq_true (show (0 : Int) ≤ (k : Int) by omega), decide_eq_true (show (k : Int) ≤ (k : Int) by omega), decide_eq_true (show (k : Int) ≤ (lim : Int) by unfold lim; omega)]; rfl
theorem bG7 (l : List (List Int)) (hl : l.length ≤ 2097152) : Evt fun n => U8 (S.tab n) l = some (l, as8) := (aT9 l [] (by simpa using hl)).up fun n h => by
 show U8 (S.step (S.tab n)) _ = _
 have h : G6 (S.tab n) l (List.replicate l.length []) 0 = some (Sum.inl (l, ())) := h
 rw [aH2, j6 (bN8 hl), Int.toNat_natCast, h]; rfl
theorem aO9 : ∀ (r pre : List Int), (pre ++ r).length ≤ 2097152 → Evt fun n => M8 (S.tab n) (pre ++ r) (pre ++ List.replicate r.length 0) (pre.length : Int) = some (Sum.inl (pre ++ r, ()))
 | [], pre, hl => q9.up fun n _ => by
  show M8 (S.step (S.tab n)) _ _ _ = _
  rw [am5, n7 (by simp)]
  simp
 | m :: r, pre, hl => by
  have hlen : (pre ++ m :: r).length = pre.length + (r.length + 1) := by simp
  have ih := aO9 r (pre ++ [m]) (by simpa using hl)
  refine ih.up fun n h => ?_
  show M8 (S.step (S.tab n)) _ _ _ = _
  have hg : (pre ++ m :: r).getD (pre.length : Int).toNat 0 = m := X8 pre m r 0
  have e1 : (pre ++ [m]) ++ r = pre ++ m :: r := by simp
  have e2 : (pre ++ [m]).length = pre.length + 1 := by simp
  have e3 : (pre ++ [m]) ++ List.replicate r.length 0 = pre ++ m :: List.replicate r.length 0 := by simp
  rw [e1, e2, e3] at h
  rw [am5, j6 (by simp only [decide_eq_true_eq]; omega), j6 (j8 (by omega)), List.length_cons, List.replicate_succ, j6 (j8 (by simp)), hg, Int.toNat_natCast, bl7, A3 (by omega)]
  exact h
theorem bH5 (l : List Int) (hl : l.length ≤ 2097152) : Evt fun n => ae9 (S.tab n) l = some (l, aC6) := (aO9 l [] (by simpa using hl)).up fun n h => by
 show ae9 (S.step (S.tab n)) _ = _
 have h : M8 (S.tab n) l (List.replicate l.length 0) 0 = some (Sum.inl (l, ())) := h
 rw [aV3, j6 (bN8 hl), Int.toNat_natCast, h]; rfl
theorem bw1 {x : b8.den} (hx : NodeOk x) : Evt fun n => ar0 (S.tab n) x = some (x, aE9) := ((bG7 (j7 x) hx.nn).and (bH5 (j2 x) hx.nk)).up fun n ⟨h1, h2⟩ => by
 show ar0 (S.step (S.tab n)) _ = _
 rw [aX5]
 show (U8 (S.tab n) (j7 x)).bind _ = _
 rw [h1, Option.bind_some]
 show (ae9 (S.tab n) (j2 x)).bind _ = _
 rw [h2]; rfl
theorem aF9 (d : b8.den) : ∀ (r pre : List b8.den), (∀ x ∈ r, NodeOk x) → (pre ++ r).length ≤ 2097152 → Evt fun n => K1 (S.tab n) (pre ++ r) (pre ++ List.replicate r.length d) (pre.length : Int) = some (Sum.inl (pre ++ r, ()))
 | [], pre, _, hl => q9.up fun n _ => by
  show K1 (S.step (S.tab n)) _ _ _ = _
  rw [aj7, n7 (by simp)]
  simp
 | x :: r, pre, hN, hl => by
  have hlen : (pre ++ x :: r).length = pre.length + (r.length + 1) := by simp
  have ih := aF9 d r (pre ++ [x]) (fun y hy => hN y (List.mem_cons_of_mem _ hy)) (by simpa using hl)
  refine (ih.and (bw1 (hN x (List.mem_cons_self ..)))).up fun n ⟨h, hx⟩ => ?_
  show K1 (S.step (S.tab n)) _ _ _ = _
  have hg : at_ (τ := b8) (pre ++ x :: r) (pre.length : Int) = x := by rw [ae5 _ _ (by omega)]; simp
  have e1 : (pre ++ [x]) ++ r = pre ++ x :: r := by simp
  have e2 : (pre ++ [x]).length = pre.length + 1 := by simp
  have e3 : (pre ++ [x]) ++ List.replicate r.length d = pre ++ x :: List.replicate r.length d := by simp
  rw [e1, e2, e3] at h
  rw [aj7, j6 (by simp only [decide_eq_true_eq]; omega), j6 (j8 (by omega)), hg, hx, Option.bind_some, List.length_cons, List.replicate_succ, j6 (j8 (by simp)), Int.toNat_natCast, bl7, A3 (by omega)]
  exact h
theorem bD3 (ns : List b8.den) (hN : ∀ x ∈ ns, NodeOk x) (hl : ns.length ≤ 2097152) : Evt fun n => Z7 (S.tab n) (ns, ()) = some ((ns, ()), aE7) := by
 have h1 : Evt fun n => ab3 (S.tab n) ns = some (ns, ax9) := (aF9 _ ns [] hN (by simpa using hl)).up fun n h => by
  show ab3 (S.step (S.tab n)) _ = _
  rw [aQ4, j6 (bN8 hl), Int.toNat_natCast]
  have h : K1 (S.tab n) ns (List.replicate ns.length ((0 : Int), (0 : Int), (0 : Int), (0 : Int), (0 : Int), (0 : Int), ([] : List Int), [], [], ())) 0 = some (Sum.inl (ns, ())) := h
  rw [h]; rfl
 exact h1.up fun n h => by
  show Z7 (S.step (S.tab n)) _ = _
  rw [aU8]
  show (ab3 (S.tab n) ns).bind _ = _
  rw [h]; rfl
theorem bu5 (l : List (List Int)) (hl : l.length ≤ 2097152) : Evt fun n => U7 (S.tab n) l l = some (true, U9) := by
 have := br9 (F := fun T j => D5 T l l (j : Int)) (P := fun _ => true) (l := l) (yes := Sum.inr (Sum.inl ())) (no := Sum.inl (false, ())) (q := Base2) q9
  (fun T j h hT => by
   show D5 (S.step T) _ _ _ = bif true then D5 T l l ((j + 1 : Nat) : Int) else _
   rw [ad1, j6 (by simp only [decide_eq_true_eq]; omega), j6 (j8 h), j6 (j8 h), n7 (by simp), A3 (by omega)]; rfl)
  (fun T hT => by
   show D5 (S.step T) _ _ _ = _
   rw [ad1, n7 (by simp)]) l.length 0 (by omega)
 refine this.up fun n h => ?_
 show U7 (S.step (S.tab n)) _ _ = _
 have e : (l.drop 0).all (fun _ => true) = true := by simp
 rw [e] at h
 have h : D5 (S.tab n) l l 0 = _ := h
 rw [aH1, n7 (by simp), h]; rfl
theorem bu9 (l : List Int) (hl : l.length ≤ 2097152) : Evt fun n => af7 (S.tab n) l l = some (true, ad7) := by
 have := br9 (F := fun T j => J8 T l l (j : Int)) (P := fun _ => true) (l := l) (yes := Sum.inr (Sum.inl ())) (no := Sum.inl (false, ())) (q := Base2) q9
  (fun T j h hT => by
   show J8 (S.step T) _ _ _ = bif true then J8 T l l ((j + 1 : Nat) : Int) else _
   rw [an7, j6 (by simp only [decide_eq_true_eq]; omega), j6 (j8 h), j6 (j8 h), n7 (by simp), A3 (by omega)]; rfl)
  (fun T hT => by
   show J8 (S.step T) _ _ _ = _
   rw [an7, n7 (by simp)]) l.length 0 (by omega)
 refine this.up fun n h => ?_
 show af7 (S.step (S.tab n)) _ _ = _
 have e : (l.drop 0).all (fun _ => true) = true := by simp
 rw [e] at h
 have h : J8 (S.tab n) l l 0 = _ := h
 rw [aX6, n7 (by simp), h]; rfl
theorem bj7 {x : b8.den} (hx : NodeOk x) : Evt fun n => Z5 (S.tab n) x x = some (true, A7) := ((bu5 (j7 x) hx.nn).and (bu9 (j2 x) hx.nk)).up fun n ⟨h1, h2⟩ => by
 show Z5 (S.step (S.tab n)) _ _ = _
 have d : ∀ (x : Int), (!decide (x = x)) = false := fun x => by simp
 have d' : ∀ (x : List Int), (!decide (x = x)) = false := fun x => by simp
 have h1 : U7 (S.tab n) x.2.2.2.2.2.2.2.1 x.2.2.2.2.2.2.2.1 = _ := h1
 have h2 : af7 (S.tab n) x.2.2.2.2.2.2.2.2.1 x.2.2.2.2.2.2.2.2.1 = _ := h2
 rw [aU7, n7 (d _), n7 (d _), n7 (d _), n7 (d _), n7 (d _), n7 (d _), n7 (d' _), h1, Option.bind_some, n7 (by rfl), h2, Option.bind_some, n7 (by rfl)]
theorem bm1 (ns : List b8.den) (hN : ∀ x ∈ ns, NodeOk x) (hl : ns.length ≤ 2097152) : Evt fun n => ar4 (S.tab n) (ns, ()) (ns, ()) = some (true, ao6) := by
 have hall : ∀ (l : List b8.den), (∀ x ∈ l, NodeOk x) → Evt fun n => ∀ x ∈ l, Z5 (S.tab n) x x = some (true, A7) := by
  intro l
  induction l with
  | nil => intro _; exact Evt.of fun _ j h => by cases h
  | cons a l ih =>
   intro h
   refine ((bj7 (h a (List.mem_cons_self ..))).and (ih fun j hj => h j (List.mem_cons_of_mem _ hj))).mono fun n ⟨h1, h2⟩ j hj => ?_
   rcases List.mem_cons.1 hj with rfl | hj
   ·exact h1
   ·exact h2 j hj
 have := br9 (F := fun T j => I1 T ns ns (j : Int)) (P := fun _ => true) (l := ns) (yes := Sum.inr (Sum.inl ())) (no := Sum.inl (false, ())) (q := fun T => ∀ x ∈ ns, Z5 T x x = some (true, A7)) (hall ns hN)
  (fun T j h hT => by
   show I1 (S.step T) _ _ _ = bif true then I1 T ns ns ((j + 1 : Nat) : Int) else _
   rw [ah3, j6 (by simp only [decide_eq_true_eq]; omega), j6 (j8 h), j6 (j8 h), ae5 _ _ h, hT _ (List.getElem_mem h), Option.bind_some, n7 (by rfl), A3 (by omega)]; rfl)
  (fun T hT => by
   show I1 (S.step T) _ _ _ = _
   rw [ah3, n7 (by simp)]) ns.length 0 (by omega)
 have h2 : Evt fun n => ab5 (S.tab n) ns ns = some (true, aa6) := this.up fun n h => by
  show ab5 (S.step (S.tab n)) _ _ = _
  have e : (ns.drop 0).all (fun _ => true) = true := by simp
  rw [e] at h
  have h : I1 (S.tab n) ns ns 0 = _ := h
  rw [aR6, n7 (by simp), h]; rfl
 exact h2.up fun n h => by
  show ar4 (S.step (S.tab n)) _ _ = _
  rw [aX7]
  show (ab5 (S.tab n) ns ns).bind _ = _
  rw [h, Option.bind_some, n7 (by rfl)]
theorem guard (ns : List b8.den) (hN : ∀ x ∈ ns, Read x) (h : ¬ bL0 ns 1048576 < 0) : (∀ x ∈ ns, NodeOk x) ∧ ns.length ≤ 2097152 := by
 unfold bL0 at h
 by_cases hd : 1048576 - (ns.length : Int) < 0
 ·rw [decide_eq_true hd] at h; exact absurd (show (-1 : Int) < 0 by decide) h
 rw [decide_eq_false hd] at h
 have h : ¬ bM4 ns (1048576 - (ns.length : Int)) < 0 := h
 refine ⟨fun x hx => ?_, by omega⟩
 obtain ⟨h1, h2, h3⟩ := bn7 ns (1048576 - (ns.length : Int)) (by omega) (by omega) x hx
 have hr := hN x hx
 exact ⟨hr.text.1, fun m hm => (hr.names.1 m hm).1, by omega, by omega⟩
end Go.Abs.D
end

section
namespace Go.Abs.D
def Bd (names : List (List Int)) (text : List Int) : Prop := text.length ≤ 4000 ∧ names.length ≤ 200 ∧ ∀ m ∈ names, m.length ≤ 40
theorem br0 {k : Int} {s : List Int} (h : U3 k s = true) : s.length ≤ 40 := by
 unfold U3 at h
 simp only [Bool.and_eq_true, decide_eq_true_eq] at h
 exact h.1.2
theorem bY4 {names : List (List Int)} {a b : Int} (h : NM names a b = true) (hb : b ≤ 200) : names.length ≤ 200 ∧ ∀ m ∈ names, m.length ≤ 40 := by
 unfold NM at h
 simp only [Bool.and_eq_true, decide_eq_true_eq, List.all_eq_true] at h
 exact ⟨by omega, fun m hm => br0 (h.2.2 m hm)⟩
def Ws (names : List (List Int)) (text : List Int) (b : Bool) : Prop := b = true → Bd names text
variable {ks : List Int} {names : List (List Int)} {op num : Int} {text : List Int} {kind : Int} {t : Tr} {x : b8.den}
theorem bR5 {a b : Bool} (h : Ws names text b) : Ws names text (a && b) := fun k => h (by cases a <;> simp_all)
theorem bN4 {a b : Bool} (h : Ws names text a) : Ws names text (a && b) := fun k => h (by cases a <;> simp_all)
theorem bK1 : Ws names text false := fun k => by cases k
theorem aH7 {b c : Bool} : Ws names text (PL false b c false (names.length : Int) op num text) := fun k => by
 unfold PL at k
 simp only [Bool.false_or, Bool.and_eq_true, decide_eq_true_eq] at k
 obtain ⟨h1, _, _, h2⟩ := k
 subst h2
 have : names = [] := List.eq_nil_of_length_eq_zero (by omega)
 subst this
 exact ⟨by simp, by simp, fun m hm => by cases hm⟩
theorem bs7 {b c : Bool} {X : Bool} {lo hi : Int} (hh : hi ≤ 200) : Ws names text (PL true b c false (names.length : Int) op num text && (NM names lo hi && X)) := fun k => by
 simp only [Bool.and_eq_true] at k
 obtain ⟨k, k2, _⟩ := k
 unfold PL at k
 simp only [Bool.false_or, Bool.and_eq_true, decide_eq_true_eq] at k
 obtain ⟨_, _, _, h2⟩ := k
 subst h2
 have := bY4 k2 hh
 exact ⟨by simp, this⟩
theorem aL7 {b c : Bool} {X : Bool} (hX : X = true → text.length ≤ 4000) : Ws names text (PL false b c true (names.length : Int) op num text && X) := fun k => by
 simp only [Bool.and_eq_true] at k
 obtain ⟨k, k2⟩ := k
 unfold PL at k
 simp only [Bool.false_or, Bool.and_eq_true, decide_eq_true_eq] at k
 obtain ⟨h1, _⟩ := k
 have : names = [] := List.eq_nil_of_length_eq_zero (by omega)
 subst this
 exact ⟨hX k2, by simp, fun m hm => by cases hm⟩
theorem aZ0 {k : Int} (h : U3 k text = true) : text.length ≤ 4000 := by have := br0 h; omega
theorem aT2 {c a b : Bool} (h1 : Ws names text a) (h2 : Ws names text b) : Ws names text (bif c then a else b) := by cases c <;> assumption
theorem L4 {c : Bool} {a b : AnS} {d : Bool} (h1 : Ws names text (An2 a d)) (h2 : Ws names text (An2 b d)) : Ws names text (An2 (bif c then a else b) d) := by cases c <;> assumption
theorem Q9 {b d : Bool} (h : Ws names text b) : Ws names text (An2 (Sum.inl (b, ())) d) := h
theorem bK7 {y : (Tr × b8.den × Int × Unit)} {d : Bool} (h : Ws names text d) : Ws names text (An2 (Sum.inr (Sum.inl y)) d) := h
theorem bT8 {fl d : Bool} (hd : Ws names text d) : Ws names text (An2 (Q41 t x ks names op num text kind fl) d) := by
 unfold Q41
 refine L4 (Q9 ?_) (L4 (Q9 ?_) (L4 (Q9 ?_) (bK7 hd))) <;> (repeat first | exact aH7 | exact bN4 aH7 | exact bs7 (by decide) | exact aL7 aZ0 | exact aL7 (fun h => by have := of_decide_eq_true h; omega) | exact bK1 | apply bR5)
theorem bU9 {fl d : Bool} (hd : Ws names text d) : Ws names text (An2 (Q28 t x ks names op num text kind fl) d) := by
 unfold Q28
 refine L4 (Q9 ?_) (L4 (Q9 ?_) (L4 (Q9 ?_) (L4 (Q9 ?_) (L4 (Q9 ?_) (L4 (bT8 hd) (bT8 hd)))))) <;> (repeat first | exact aH7 | exact bN4 aH7 | exact bs7 (by decide) | exact aL7 aZ0 | exact aL7 (fun h => by have := of_decide_eq_true h; omega) | exact bK1 | apply bR5)
theorem bS9 {fl d : Bool} (hd : Ws names text d) : Ws names text (An2 (Q18 t x ks names op num text kind fl) d) := by
 unfold Q18
 refine L4 (Q9 ?_) (L4 (Q9 ?_) (L4 (Q9 ?_) (L4 (Q9 ?_) (L4 (Q9 ?_) (L4 (Q9 ?_) (L4 (Q9 ?_) (L4 (Q9 ?_) (L4 (Q9 ?_) (L4 (Q9 ?_) (L4 (Q9 ?_) (bK7 hd))))))))))) <;> (repeat first | exact aH7 | exact bN4 aH7 | exact bs7 (by decide) | exact aL7 aZ0 | exact aL7 (fun h => by have := of_decide_eq_true h; omega) | exact bK1 | apply bR5)
theorem bW3 {fl d : Bool} (hd : Ws names text d) : Ws names text (An2 (Q7 t x ks names op num text kind fl) d) := by
 unfold Q7
 refine L4 (Q9 ?_) (L4 (Q9 ?_) (L4 (Q9 ?_) (L4 (Q9 ?_) (L4 (Q9 ?_) (L4 (bS9 hd) (bS9 hd)))))) <;> (repeat first | exact aH7 | exact bN4 aH7 | exact bs7 (by decide) | exact aL7 aZ0 | exact aL7 (fun h => by have := of_decide_eq_true h; omega) | exact bK1 | apply bR5)
theorem bZ9 : Ws names text (KS t x ks names op num text kind) := by
 unfold KS
 have hd : Ws names text (bif decide (kind = 15) then PL false false false false (names.length : Int) op num text && (decide ((ks.length : Int) = 1) && EX ks 0 1) else false) := aT2 (bN4 aH7) bK1
 refine aT2 ?_ (aT2 ?_ (aT2 ?_ (aT2 ?_ (aT2 ?_ (L4 (bU9 hd) (bU9 hd)))))) <;> (repeat first | exact aH7 | exact bN4 aH7 | exact bs7 (by decide) | exact aL7 aZ0 | exact aL7 (fun h => by have := of_decide_eq_true h; omega) | exact bK1 | apply bR5)
theorem b03 : Ws names text (KE t x ks names op num text kind) := by
 unfold KE
 have hd : Ws names text (bif decide (kind = 42) then decide ((ks.length : Int) = 1) && (EX ks 0 1 && (PL false false false true (names.length : Int) op num text && U3 1 text)) else false) := aT2 (by (repeat first | exact aH7 | exact bN4 aH7 | exact bs7 (by decide) | exact aL7 aZ0 | exact aL7 (fun h => by have := of_decide_eq_true h; omega) | exact bK1 | apply bR5)) bK1
 exact L4 (bW3 hd) (L4 (bW3 hd) (L4 (bW3 hd) (bW3 hd)))
theorem bU5 {ns : List b8.den} {i : Nat} {x : b8.den} (h : okN ns i x = true) : Bd (j7 x) x.2.2.2.2.2.2.1 ∧ (j2 x).length ≤ 200 ∧ ∀ k ∈ j2 x, 0 ≤ k ∧ k < (i : Int) := by
 unfold okN at h
 by_cases c1 : x.2.1 < 0
 ·rw [decide_eq_true c1] at h; cases h
 by_cases c2 : x.2.2.1 < x.2.1
 ·rw [decide_eq_false c1, decide_eq_true c2] at h; cases h
 by_cases c3 : x.2.2.2.1 < 0
 ·rw [decide_eq_false c1, decide_eq_false c2, decide_eq_true c3] at h; cases h
 by_cases c4 : 200 < (j2 x).length
 ·rw [decide_eq_false c1, decide_eq_false c2, decide_eq_false c3, decide_eq_true c4] at h; cases h
 rw [decide_eq_false c1, decide_eq_false c2, decide_eq_false c3, decide_eq_false c4] at h
 simp only [cond_false] at h
 cases ha : (j2 x).all (inR i) with
 | false => rw [ha] at h; cases h
 | true =>
  rw [ha, cond_true] at h
  refine ⟨?_, by omega, fun k hk => ?_⟩
  ·cases hs : E1 x.1 with
   | true => rw [hs] at h; exact bZ9 h
   | false => rw [hs] at h; exact b03 h
  ·have := List.all_eq_true.1 ha k hk
   unfold inR at this
   simpa using this
end Go.Abs.D
end

section
namespace Go.Abs.D
theorem aM8 {ns : List b8.den} (h : (aB0 ns).1 = 0) : aB0 ns = (0, 0, ()) ∧ 0 < ns.length ∧ ns.length ≤ 3000 ∧ ∀ (j : Nat) (hj : j < ns.length), ∀ k ∈ j2 ns[j], 0 ≤ k ∧ k < (j : Int) := by
 unfold aB0 at h ⊢
 by_cases c0 : ns.length = 0
 ·rw [decide_eq_true c0] at h; exact absurd (show (1 : Int) = 0 from h) (by decide)
 rw [decide_eq_false c0] at h ⊢
 by_cases c1 : 3000 < ns.length
 ·rw [decide_eq_true c1] at h; exact absurd (show (1 : Int) = 0 from h) (by decide)
 rw [decide_eq_false c1] at h ⊢
 by_cases c2 : S0 ns ((ns.length - 1 : Nat) : Int) = 1
 ·rw [decide_eq_true c2] at h ⊢
  by_cases c3 : bb5 ns < ns.length
  ·rw [decide_eq_true c3] at h; exact absurd (show (2 : Int) = 0 from h) (by decide)
  rw [decide_eq_false c3] at h ⊢
  refine ⟨?_, by omega, by omega, fun j hj => aI7 c3 j hj⟩
  simp only [Bool.not_true, cond_false] at h ⊢
  cases hi : imS ns ns.length (List.replicate ns.length 0) with
  | inl j => rw [hi] at h; exact absurd (show (3 : Int) = 0 from h) (by decide)
  | inr _ =>
   rw [hi] at h
   simp only at h ⊢
   cases hd : decide (stop (au7 (aV7 ns ns.length (List.replicate ns.length 0))) ns.length 0 < ns.length) with
   | true => rw [hd] at h; exact absurd (show (4 : Int) = 0 from h) (by decide)
   | false => rfl
 ·rw [decide_eq_false c2] at h; exact absurd (show (1 : Int) = 0 from h) (by decide)
theorem a61 {ns : List b8.den} (hN : ∀ x ∈ ns, NodeOk x) : Evt fun n => aw3 (S.tab n) (ns, ()) = some (decide ((aB0 ns).1 = 0), aK7) := (aX9 hN).up fun n h => by
 show aw3 (S.step (S.tab n)) _ = _
 rw [a26, h, Option.bind_some]
 by_cases c : (aB0 ns).1 = 0
 ·have := (aM8 c).1
  rw [this]; rfl
 ·simp only [decide_eq_false c, Bool.false_and]
theorem bA9 {ns : List b8.den} (h : (aB0 ns).1 = 0) (j : Nat) (hj : j < ns.length) : okN ns j ns[j] = true := by
 have hb : ¬ bb5 ns < ns.length := by
  unfold aB0 at h
  by_cases c0 : ns.length = 0
  ·omega
  rw [decide_eq_false c0] at h
  by_cases c1 : 3000 < ns.length
  ·rw [decide_eq_true c1] at h; exact absurd (show (1 : Int) = 0 from h) (by decide)
  rw [decide_eq_false c1] at h
  by_cases c2 : S0 ns ((ns.length - 1 : Nat) : Int) = 1
  ·rw [decide_eq_true c2] at h
   by_cases c3 : bb5 ns < ns.length
   ·rw [decide_eq_true c3] at h; exact absurd (show (2 : Int) = 0 from h) (by decide)
   exact c3
  ·rw [decide_eq_false c2] at h; exact absurd (show (1 : Int) = 0 from h) (by decide)
 have hq : okQ ns j = true := aq1 ns.length 0 j (Nat.zero_le _) (by unfold bb5 at hb; omega)
 unfold okQ bn0 at hq
 rw [decide_eq_true hj, Bool.true_and, List.getElem?_eq_getElem hj] at hq
 exact hq
end Go.Abs.D
end

section
namespace Go.Abs.D
open Go.Proofs
def bg6 : List Int := [48, 49, 50, 51, 52, 53, 54, 55, 56, 57, 97, 98, 99, 100, 101, 102]
def esc (c : Int) : List Int :=
 if c = 10 then [92, 110] else if c = 9 then [92, 116] else if c = 34 then [92, 34] else if c = 92 then [92, 92]
 else if c < 32 ∨ 126 < c then [92, 120, bg6.getD (c / 16).toNat 0, bg6.getD (c % 16).toNat 0] else [c]
theorem bi6 (c : Int) : (esc c).length ≤ 4 := by
 unfold esc
 repeat' split
 all_goals simp
theorem bs3 (T : S.Tab) (t0 t4 : List Int) (i c : Int) (h0 : 0 ≤ i) (hi : i < t0.length) (hl : t0.length ≤ 4000) (hc : t0.getD i.toNat 0 = c) (hb : isByte c) (hf : t4.length + 4 ≤ lim) :
  s6 (S.step T) t0 bg6 t4 i = s6 T t0 bg6 (t4 ++ esc c) (i + 1) := by
 rw [ak2]
 obtain ⟨hb0, hb1⟩ := hb
 have w : IntKind.i64.wrap (i + 1) = i + 1 := wrap64 _ (by omega) (by omega)
 have hh : (bg6.length : Int) = 16 := rfl
 simp only [hc, bZ3 c ⟨hb0, hb1⟩, bS7 c ⟨hb0, hb1⟩, w, hh, J7, h0, hi, decide_true, Bool.and_true, cond_true, List.length_cons, List.length_nil]
 have f4 : fits (t4.length + (0 + 1 + 1 + 1 + 1)) = true := x5 (by omega)
 have f2 : fits (t4.length + (0 + 1 + 1)) = true := x5 (by omega)
 have f2' : fits (t4.length + 2) = true := x5 (by omega)
 have f1 : fits (t4.length + (0 + 1)) = true := x5 (by omega)
 have a1 : (decide (0 ≤ c / 16) && decide (c / 16 < 16)) = true := by
  simp only [Bool.and_eq_true, decide_eq_true_eq]; omega
 have a2 : (decide (0 ≤ c % 16) && decide (c % 16 < 16)) = true := by
  simp only [Bool.and_eq_true, decide_eq_true_eq]; omega
 unfold esc
 by_cases h1 : c = 10
 ·simp [h1, f2']
 by_cases h2 : c = 9
 ·simp [h2, f2']
 by_cases h3 : c = 34
 ·simp [h3, f2]
 by_cases h4 : c = 92
 ·simp [h4, f2]
 by_cases h5 : c < 32
 ·simp only [h1, h2, h3, h4, h5, a1, a2, f4, decide_true, decide_false, cond_true, cond_false, if_true, if_false, true_or]
 by_cases h6 : 126 < c
 ·simp only [h1, h2, h3, h4, h5, h6, a1, a2, f4, decide_true, decide_false, cond_true, cond_false, if_true, if_false, or_true]
 ·simp only [h1, h2, h3, h4, h5, h6, f1, decide_false, cond_true, cond_false, if_false, or_self]
theorem bZ4 (l : List Int) (x : Int) (h0 : 0 ≤ x) (h1 : x < l.length) : sub l x (x + 1) = [l.getD x.toNat 0] := by
 unfold sub
 have e : (x + 1).toNat = x.toNat + 1 := by omega
 have hl : x.toNat < l.length := by omega
 rw [e, List.getD_eq_getElem?_getD, List.getElem?_eq_getElem hl, Option.getD_some]
 apply List.ext_getElem?
 intro j
 rw [List.getElem?_drop, List.getElem?_take]
 cases j with
 | zero => rw [if_pos (by omega)]; simp [hl]
 | succ j => rw [if_neg (by omega)]; simp
theorem bG1 (c : Int) : Bld.idx [10, 9, 34, 92] c 0 = if c = 10 then 0 else if c = 9 then 1 else if c = 34 then 2 else if c = 92 then 3 else -1 := by
 simp only [Bld.idx]
 repeat' split
 all_goals simp_all [eq_comm]
theorem bv1 (T : S.Tab) (t0 t3 : List Int) (i c : Int) (h0 : 0 ≤ i) (hi : i < t0.length) (hl : t0.length ≤ 4000) (hc : t0.getD i.toNat 0 = c) (hb : isByte c) (hf : t3.length + 4 ≤ lim)
  (h17 : A6 T [10, 9, 34, 92] c = some (Bld.idx [10, 9, 34, 92] c 0, (), (), ())) :
  D2 (S.step T) t0 t3 i = D2 T t0 (t3 ++ esc c) (i + 1) := by
 rw [as0]
 obtain ⟨hb0, hb1⟩ := hb
 have w : IntKind.i64.wrap (i + 1) = i + 1 := wrap64 _ (by omega) (by omega)
 have hd : ([48, 49, 50, 51, 52, 53, 54, 55, 56, 57, 97, 98, 99, 100, 101, 102] : List Int) = bg6 := rfl
 have hh : (bg6.length : Int) = 16 := rfl
 have w1 : IntKind.u8.wrap (c / 16 + 1) = c / 16 + 1 := aM3 _ (by omega) (by omega)
 have w2 : IntKind.u8.wrap (c % 16 + 1) = c % 16 + 1 := aM3 _ (by omega) (by omega)
 have s1 : sub bg6 (c / 16) (c / 16 + 1) = [bg6.getD (c / 16).toNat 0] := bZ4 _ _ (by omega) (by omega)
 have s2 : sub bg6 (c % 16) (c % 16 + 1) = [bg6.getD (c % 16).toNat 0] := bZ4 _ _ (by omega) (by omega)
 have b1 : bounds 16 (c / 16) (c / 16 + 1) = true := by
  unfold bounds
  simp only [Bool.and_eq_true, decide_eq_true_eq]; omega
 have b2 : bounds 16 (c % 16) (c % 16 + 1) = true := by
  unfold bounds
  simp only [Bool.and_eq_true, decide_eq_true_eq]; omega
 have f3 : fits (2 + 1) = true := rfl
 have f4 : fits (([92, 120] ++ [bg6.getD (c / 16).toNat 0]).length + 1) = true := rfl
 have g1 : fits (t3.length + 1) = true := x5 (by omega)
 have g1' : ∀ x, fits ((t3 ++ [x]).length + 1) = true := fun x => x5 (by simp; omega)
 have g4 : ∀ x y : Int, fits (t3.length + ([92, 120] ++ [x] ++ [y]).length) = true := fun x y => x5 (by simp; omega)
 simp only [hc, hd, bZ3 c ⟨hb0, hb1⟩, bS7 c ⟨hb0, hb1⟩, w, w1, w2, s1, s2, b1, b2, J7, h0, hi, decide_true, Bool.and_true, cond_true, h17, bG1, List.length_singleton, f3, f4, Bld.Q5, Bld.L7, g1, g1', g4, Option.bind_some]
 unfold esc
 by_cases h1 : c = 10
 ·simp [h1]
 by_cases h2 : c = 9
 ·simp [h2]
 by_cases h3 : c = 34
 ·simp [h3]
 by_cases h4 : c = 92
 ·simp [h4]
 by_cases h5 : c < 32
 ·simp [h1, h2, h3, h4, h5]
 by_cases h6 : 126 < c
 ·simp [h1, h2, h3, h4, h5, h6]
 ·simp [h1, h2, h3, h4, h5, h6]
def an5 (s : List Int) : List Int := if 4000 < s.length then [] else [34] ++ s.flatMap esc ++ [34]
theorem be9 : ∀ (l pre t4 : List Int), (∀ c ∈ l, isByte c) → (pre ++ l).length ≤ 4000 → t4.length + 4 * l.length ≤ 30000 →
  Evt fun n => s6 (S.tab n) (pre ++ l) bg6 t4 (pre.length : Int) = some (Sum.inl (t4 ++ l.flatMap esc, ()))
 | [], pre, t4, _, hl, _ => Evt.up (Evt.of (p := fun _ => True) fun _ => trivial) fun n _ => by
  show s6 (S.step (S.tab n)) _ _ _ _ = _
  rw [ak2, n7 (by simp)]
  simp
 | c :: l, pre, t4, hb, hl, hf => by
  have hlen : (pre ++ c :: l).length = pre.length + (l.length + 1) := by simp
  have e4 := bi6 c
  have ih := be9 l (pre ++ [c]) (t4 ++ esc c) (fun x hx => hb x (List.mem_cons_of_mem _ hx)) (by simp at hl ⊢; omega) (by simp at hf ⊢; omega)
  refine ih.up fun n h => ?_
  show s6 (S.step (S.tab n)) _ _ _ _ = _
  rw [bs3 (S.tab n) _ t4 (pre.length : Int) c (by omega) (by omega) hl (X8 pre c l 0) (hb c (List.mem_cons_self ..)) (by simp [lim] at hf ⊢; omega)]
  rw [List.append_assoc] at h
  simp only [List.length_append, List.length_singleton, List.singleton_append] at h
  push_cast at h
  rw [h, List.flatMap_cons, List.append_assoc]
theorem bS3 (c : Int) (h : isByte c) : Evt fun n => A6 (S.tab n) [10, 9, 34, 92] c = some (Bld.idx [10, 9, 34, 92] c 0, (), (), ()) :=
 Evt.up (Evt.up (Evt.of (p := fun _ => True) fun _ => trivial) (q := fun n => B8 (S.tab n) [10, 9, 34, 92] c = some (Bld.idx [10, 9, 34, 92] c 0, (), (), ())) fun n _ => by
  show B8 (S.step (S.tab n)) _ _ = _
  rw [T5, Bld.al4, bh6 h]
  rfl) fun n h => by
  show A6 (S.step (S.tab n)) _ _ = _
  rw [ac7, h]
  rfl
theorem bc8 : ∀ (l pre t3 : List Int), (∀ c ∈ l, isByte c) → (pre ++ l).length ≤ 4000 → t3.length + 4 * l.length ≤ 30000 →
  Evt fun n => D2 (S.tab n) (pre ++ l) t3 (pre.length : Int) = some (Sum.inl (t3 ++ l.flatMap esc, ()))
 | [], pre, t3, _, hl, _ => Evt.up (Evt.of (p := fun _ => True) fun _ => trivial) fun n _ => by
  show D2 (S.step (S.tab n)) _ _ _ = _
  rw [as0, n7 (by simp)]
  simp
 | c :: l, pre, t3, hb, hl, hf => by
  have hlen : (pre ++ c :: l).length = pre.length + (l.length + 1) := by simp
  have e4 := bi6 c
  have ih := bc8 l (pre ++ [c]) (t3 ++ esc c) (fun x hx => hb x (List.mem_cons_of_mem _ hx)) (by simp at hl ⊢; omega) (by simp at hf ⊢; omega)
  refine (ih.and (bS3 c (hb c (List.mem_cons_self ..)))).up fun n ⟨h, h17⟩ => ?_
  show D2 (S.step (S.tab n)) _ _ _ = _
  rw [bv1 (S.tab n) _ t3 (pre.length : Int) c (by omega) (by omega) hl (X8 pre c l 0) (hb c (List.mem_cons_self ..)) (by simp [lim] at hf ⊢; omega) h17]
  rw [List.append_assoc] at h
  simp only [List.length_append, List.length_singleton, List.singleton_append] at h
  push_cast at h
  rw [h, List.flatMap_cons, List.append_assoc]
theorem aS3 (c : Int) (h : isByte c) : ∀ x ∈ esc c, isByte x := by
 have hx : ∀ n : Nat, isByte (bg6.getD n 0) := by
  intro n
  rw [List.getD_eq_getElem?_getD]
  cases e : bg6[n]? with
  | none => exact ⟨by decide, by decide⟩
  | some v =>
   have := List.mem_of_getElem? e
   have hall : ∀ v ∈ bg6, 0 ≤ v ∧ v < 256 := by decide
   exact hall v this
 intro x hx'
 unfold esc at hx'
 repeat' split at hx'
 all_goals simp only [List.mem_cons, List.not_mem_nil, or_false] at hx'
 all_goals rcases hx' with rfl | rfl | rfl | rfl
 all_goals first | exact hx _ | exact h | exact ⟨by omega, by omega⟩
theorem a58 (l : List Int) : (l.flatMap esc).length ≤ 4 * l.length := by
 induction l with
 | nil => simp
 | cons c l ih =>
  have := bi6 c
  rw [List.flatMap_cons, List.length_append, List.length_cons]; omega
theorem bt1 (s : List Int) (hb : ∀ c ∈ s, isByte c) (hl : ¬ 4000 < s.length) : Evt fun n => ab0 (S.tab n) s = some (an5 s, (), ()) := by
 refine (be9 s [] [34] hb (by simpa using hl) (by simp; omega)).up fun n h => ?_
 show ab0 (S.step (S.tab n)) _ = _
 have h' : s6 (S.tab n) s [48, 49, 50, 51, 52, 53, 54, 55, 56, 57, 97, 98, 99, 100, 101, 102] [34] 0 = some (Sum.inl ([34] ++ s.flatMap esc, ())) := h
 have := a58 s
 rw [aO5, h']
 simp only [Option.bind_some, C3, Sum.elim_inl]
 rw [j6 (x5 (by simp only [lim, List.length_append, List.length_singleton]; omega)), aG6]
 ·simp [an5, hl]
 ·intro c hc
  simp only [List.mem_append, List.mem_cons, List.not_mem_nil, or_false, List.mem_flatMap] at hc
  rcases hc with (rfl | ⟨a, ha, hc⟩) | rfl
  ·exact ⟨by decide, by decide⟩
  ·exact aS3 a (hb a ha) c hc
  ·exact ⟨by decide, by decide⟩
theorem bu1 (s : List Int) (hb : ∀ c ∈ s, isByte c) : Evt fun n => an2 (S.tab n) s = some (an5 s, (), ()) := by
 by_cases hl : 4000 < s.length
 ·exact Evt.up (Evt.of (p := fun _ => True) fun _ => trivial) fun n _ => by
   show an2 (S.step (S.tab n)) _ = _
   rw [aD4, j6 (by simp; omega)]
   simp [an5, hl]
 ·refine (bc8 s [] [34] hb (by simpa using hl) (by simp; omega)).up fun n h => ?_
  show an2 (S.step (S.tab n)) _ = _
  have h' : D2 (S.tab n) s [34] 0 = some (Sum.inl ([34] ++ s.flatMap esc, ())) := h
  have := a58 s
  rw [aD4, n7 (by simp; omega)]
  have w0 : Bld.Q5 ([], 34, ()) = some (true, [34], (), ()) := rfl
  have w1 : Bld.Q5 ([34] ++ s.flatMap esc, 34, ()) = some (true, [34] ++ s.flatMap esc ++ [34], (), ()) := by
   show (bif fits _ then _ else _) = _
   rw [x5 (by simp only [lim, List.length_append, List.length_singleton]; omega)]; rfl
  have hby : ∀ c ∈ [34] ++ s.flatMap esc ++ [34], isByte c := by
   intro c hc
   simp only [List.mem_append, List.mem_cons, List.not_mem_nil, or_false, List.mem_flatMap] at hc
   rcases hc with (rfl | ⟨a, ha, hc⟩) | rfl
   ·exact ⟨by decide, by decide⟩
   ·exact aS3 a (hb a ha) c hc
   ·exact ⟨by decide, by decide⟩
  have w2 : Bld.au3 ([34] ++ s.flatMap esc ++ [34], ()) = some ([34] ++ s.flatMap esc ++ [34], (), ()) := by
   show (bif fits _ then _ else _) = _
   rw [x5 (by simp only [lim, List.length_append, List.length_singleton]; omega)]
   show some (List.map byte _, (), ()) = _
   rw [aG6 hby]
  simp only [w0, Option.bind_some, h', C3, Sum.elim_inl, w1, w2]
  simp [an5, hl]
end Go.Abs.D
end

section
namespace Go.Abs.D
def dec (n : Int) : List Int := Lx.ints (Lib.itoa n)
def rdg : Nat → Nat → List Int
 | 0, _ => []
 | k + 1, m => bif Nat.beq m 0 then [] else (48 + ((m % 10 : Nat) : Int)) :: rdg k (m / 10)
theorem bl6 : ∀ (k m : Nat), (rdg k m).length ≤ k
 | 0, m => Nat.le_refl _
 | k + 1, m => by
  unfold rdg
  cases Nat.beq m 0
  ·have := bl6 k (m / 10); simp only [cond_false, List.length_cons]; omega
  ·simp
theorem a45 : ∀ (k m : Nat), ∀ c ∈ rdg k m, isByte c
 | 0, m, c, h => by simp [rdg] at h
 | k + 1, m, c, h => by
  unfold rdg at h
  cases hm : Nat.beq m 0
  ·rw [hm] at h
   simp only [cond_false, List.mem_cons] at h
   rcases h with rfl | h
   ·exact ⟨by omega, by omega⟩
   ·exact a45 k (m / 10) c h
  ·rw [hm] at h; simp at h
theorem bq3 (m : Nat) (h : m < 10) : (((UInt8.ofNat (48 + m)).toNat : Nat) : Int) = 48 + (m : Int) := by
 rw [UInt8.toNat_ofNat']
 omega
theorem bh3 : ∀ (k m : Nat), 0 < m → m < 10 ^ k → (rdg k m).reverse = Lx.ints (Lib.decDigits m)
 | 0, m, h0, h1 => by simp at h1; omega
 | k + 1, m, h0, h1 => by
  unfold rdg
  have hb : Nat.beq m 0 = false := by
   cases h : Nat.beq m 0
   ·rfl
   ·have := Nat.eq_of_beq_eq_true h; omega
  rw [hb]
  simp only [cond_false, List.reverse_cons]
  have hp : 10 ^ (k + 1) = 10 ^ k * 10 := Nat.pow_succ ..
  by_cases hm : m < 10
  ·have e0 : m / 10 = 0 := by omega
   have e1 : rdg k (m / 10) = [] := by rw [e0]; cases k <;> rfl
   rw [e1, Lib.decDigits, dif_pos hm]
   have e2 : m % 10 = m := by omega
   rw [e2]
   unfold Lx.ints
   simp only [List.reverse_nil, List.nil_append, List.map_cons, List.map_nil, bq3 m hm]
  ·have e3 : Lib.decDigits m = Lib.decDigits (m / 10) ++ [UInt8.ofNat (48 + m % 10)] := by rw [Lib.decDigits, dif_neg hm]
   rw [bh3 k (m / 10) (by omega) (by omega), e3]
   unfold Lx.ints
   rw [List.map_append, List.map_cons, List.map_nil, bq3 _ (Nat.mod_lt _ (by decide))]
theorem tm (n : Int) : n.tmod 10 = if n < 0 then -((n.natAbs % 10 : Nat) : Int) else ((n.natAbs % 10 : Nat) : Int) := by
 by_cases h : n < 0
 ·rw [if_pos h]
  obtain ⟨m, rfl⟩ : ∃ m : Int, n = -m := ⟨-n, by omega⟩
  rw [Int.neg_tmod, Int.tmod_eq_emod_of_nonneg (by omega)]
  omega
 ·rw [if_neg h, Int.tmod_eq_emod_of_nonneg (by omega)]
  omega
theorem td (n : Int) : n.tdiv 10 = if n < 0 then -((n.natAbs / 10 : Nat) : Int) else ((n.natAbs / 10 : Nat) : Int) := by
 by_cases h : n < 0
 ·rw [if_pos h]
  obtain ⟨m, rfl⟩ : ∃ m : Int, n = -m := ⟨-n, by omega⟩
  rw [Int.neg_tdiv, Int.tdiv_eq_ediv_of_nonneg (by omega)]
  omega
 ·rw [if_neg h, Int.tdiv_eq_ediv_of_nonneg (by omega)]
  omega
theorem au4 : ∀ (k : Nat) (n : Int) (neg : Bool) (o : List Int), n.natAbs < 10 ^ k → -9223372036854775808 ≤ n → n ≤ 9223372036854775807 → o.length + k ≤ 100 →
  Evt fun N => D7 (S.tab N) n neg o = some (Sum.inl (neg, o ++ rdg k n.natAbs, ()))
 | 0, n, neg, o, h0, _, _, _ => q9.up fun N _ => by
  show D7 (S.step (S.tab N)) _ _ _ = _
  have : n = 0 := by simp at h0; omega
  subst this
  rw [U1, n7 (by rfl)]
  simp [rdg]
 | k + 1, n, neg, o, h0, h1, h2, ho => by
  have hp : 10 ^ (k + 1) = 10 ^ k * 10 := Nat.pow_succ ..
  by_cases hn : n = 0
  ·subst hn
   refine q9.up fun N _ => ?_
   show D7 (S.step (S.tab N)) _ _ _ = _
   rw [U1, n7 (by rfl)]
   simp [rdg]
  ·have hb : Nat.beq n.natAbs 0 = false := by
    cases h : Nat.beq n.natAbs 0
    ·rfl
    ·have := Nat.eq_of_beq_eq_true h; omega
   have hq : (n.tdiv 10).natAbs = n.natAbs / 10 := by rw [td]; split <;> omega
   have hr1 : -9223372036854775808 ≤ n.tdiv 10 := by rw [td]; split <;> omega
   have hr2 : n.tdiv 10 ≤ 9223372036854775807 := by rw [td]; split <;> omega
   have ih := au4 k (n.tdiv 10) neg (o ++ [48 + ((n.natAbs % 10 : Nat) : Int)]) (by omega) hr1 hr2 (by simp; omega)
   have hf : fits (o.length + 1) = true := x5 (by unfold lim; omega)
   have w3 : IntKind.i64.wrap (n.tdiv 10) = n.tdiv 10 := wrap64 _ hr1 (by omega)
   have hlt : n.natAbs % 10 < 10 := Nat.mod_lt _ (by decide)
   refine ih.up fun N ih => ?_
   show D7 (S.step (S.tab N)) _ _ _ = _
   rw [U1, j6 (by rw [decide_eq_false hn]; rfl), w3]
   have fin : o ++ [48 + ((n.natAbs % 10 : Nat) : Int)] ++ rdg k (n.tdiv 10).natAbs = o ++ rdg (k + 1) n.natAbs := by
    rw [hq]
    conv => rhs; unfold rdg
    rw [hb]; simp
   rw [fin] at ih
   by_cases hneg : n.tmod 10 < 0
   ·have e1 : 0 - n.tmod 10 = ((n.natAbs % 10 : Nat) : Int) := by rw [tm] at hneg ⊢; split at hneg <;> simp_all <;> omega
    have w1 : IntKind.i64.wrap (0 - n.tmod 10) = ((n.natAbs % 10 : Nat) : Int) := by rw [e1, wrap64 _ (by omega) (by omega)]
    rw [j6 (decide_eq_true hneg), w1, wrap64 (48 + ((n.natAbs % 10 : Nat) : Int)) (by omega) (by omega), aM3 _ (by omega) (by omega), j6 (by simpa using hf)]
    exact ih
   ·have e1 : n.tmod 10 = ((n.natAbs % 10 : Nat) : Int) := by rw [tm] at hneg ⊢; split at hneg <;> simp_all <;> omega
    rw [n7 (decide_eq_false hneg), e1, wrap64 (48 + ((n.natAbs % 10 : Nat) : Int)) (by omega) (by omega), aM3 _ (by omega) (by omega), j6 (by simpa using hf)]
    exact ih
theorem as7 (ds : List Int) (hd : ∀ c ∈ ds, isByte c) (hl : ds.length ≤ 100) : ∀ (k : Nat) (o : List Int), k ≤ ds.length → o.length + k ≤ 200 →
  Evt fun N => I6 (S.tab N) ds o ((k : Int) - 1) = some (Sum.inl (o ++ (ds.take k).reverse, ()))
 | 0, o, _, _ => q9.up fun N _ => by
  show I6 (S.step (S.tab N)) _ _ _ = _
  rw [ab4, n7 (by simp)]
  simp
 | k + 1, o, hk, ho => by
  have hlt : k < ds.length := by omega
  have ih := as7 ds hd hl k (o ++ [ds[k]]) (by omega) (by simp; omega)
  refine ih.up fun N ih => ?_
  show I6 (S.step (S.tab N)) _ _ _ = _
  have e : ((k + 1 : Nat) : Int) - 1 = (k : Int) := by omega
  have hg : ds.getD (k : Int).toNat 0 = ds[k] := by
   rw [Int.toNat_natCast, List.getD_eq_getElem?_getD, List.getElem?_eq_getElem hlt]; rfl
  have hm : ([ds[k]] : List Int).map byte = [ds[k]] := aG6 fun c hc => by
   have : c = ds[k] := by simpa using hc
   subst this; exact hd _ (List.getElem_mem hlt)
  rw [e, ab4, j6 (by simp only [decide_eq_true_eq]; omega), j6 (j8 hlt), hg, hm, j6 (x5 (by unfold lim; simp only [List.length_singleton]; omega)), wrap64 _ (by omega) (by omega), ih]
  rw [List.take_succ_eq_append_getElem hlt, List.reverse_append, List.reverse_singleton, List.append_assoc]
theorem as2 (ds : List Int) (hd : ∀ c ∈ ds, isByte c) (hl : ds.length ≤ 100) (o : List Int) (ho : o.length ≤ 1) : Evt fun N => M4 (S.tab N) ds o = some (Sum.inl (o ++ ds.reverse, ())) :=
 (as7 ds hd hl ds.length o (Nat.le_refl _) (by omega)).up fun N h => by
  show M4 (S.step (S.tab N)) _ _ = _
  rw [av5, wrap64 _ (by omega) (by omega), h, Option.bind_some]
  simp [C3]
theorem bw4 (n : Int) (h1 : -9223372036854775808 ≤ n) (h2 : n ≤ 9223372036854775807) : n.natAbs < 10 ^ 19 := by
 have : (10 : Nat) ^ 19 = 10000000000000000000 := by decide
 omega
theorem ak4 (n : Int) (h1 : -9223372036854775808 ≤ n) (h2 : n ≤ 9223372036854775807) : Evt fun N => E4 (S.tab N) n = some (dec n, V6) := by
 by_cases hn : n = 0
 ·subst hn
  refine q9.up fun N _ => ?_
  show E4 (S.step (S.tab N)) _ = _
  rw [am6, j6 (by rfl)]
  have : dec 0 = [48] := by
   unfold dec Lib.itoa
   rw [if_neg (by decide), Lib.decDigits, dif_pos (by decide)]; rfl
  rw [this]
 ·have a := au4 19 n (decide (n < 0)) [] (bw4 n h1 h2) h1 h2 (by simp)
  have hl := bl6 19 n.natAbs
  have b1 := as2 (rdg 19 n.natAbs) (a45 _ _) (by omega) [45] (by simp)
  have b2 := as2 (rdg 19 n.natAbs) (a45 _ _) (by omega) [] (by simp)
  have hd := bh3 19 n.natAbs (by omega) (bw4 n h1 h2)
  refine ((a.and b1).and b2).up fun N ⟨⟨a, b1⟩, b2⟩ => ?_
  show E4 (S.step (S.tab N)) _ = _
  rw [am6, n7 (decide_eq_false hn), a, Option.bind_some]
  simp only [C3, Sum.elim_inl, List.nil_append]
  by_cases hneg : n < 0
  ·rw [j6 (decide_eq_true hneg), b1, Option.bind_some]
   simp only [Sum.elim_inl]
   rw [hd]
   unfold dec Lib.itoa
   rw [if_pos hneg]; rfl
  ·rw [n7 (decide_eq_false hneg), b2, Option.bind_some]
   simp only [Sum.elim_inl]
   rw [hd]
   unfold dec Lib.itoa
   rw [if_neg hneg]
   have : n.natAbs = n.toNat := by omega
   rw [this]; rfl
theorem N0 (n : Int) (h1 : -9223372036854775808 ≤ n) (h2 : n ≤ 9223372036854775807) : (dec n).length ≤ 20 := by
 by_cases hn : n = 0
 ·subst hn
  have : dec 0 = [48] := by
   unfold dec Lib.itoa
   rw [if_neg (by decide), Lib.decDigits, dif_pos (by decide)]; rfl
  rw [this]; decide
 ·have hd := bh3 19 n.natAbs (by omega) (bw4 n h1 h2)
  have hl := bl6 19 n.natAbs
  have e : (Lx.ints (Lib.decDigits n.natAbs)).length ≤ 19 := by rw [← hd, List.length_reverse]; exact hl
  unfold dec Lib.itoa
  split
  ·have e2 : Lx.ints (45 :: Lib.decDigits n.natAbs) = 45 :: Lx.ints (Lib.decDigits n.natAbs) := rfl
   rw [e2, List.length_cons]; omega
  ·have : n.toNat = n.natAbs := by omega
   rw [this]; omega
theorem bn3 (n : Int) : ∀ c ∈ dec n, isByte c := by
 intro c hc
 unfold dec Lx.ints at hc
 obtain ⟨b, _, rfl⟩ := List.mem_map.1 hc
 have := b.toNat_lt
 exact ⟨by omega, by omega⟩
theorem a74 (n : Int) (h1 : -9223372036854775808 ≤ n) (h2 : n ≤ 9223372036854775807) : Lx.Z8 (n, 10, ()) = some (dec n, (), (), ()) := by
 unfold Lx.Z8
 simp only [decide_true, decide_eq_true h1, decide_eq_true h2, Bool.and_self, cond_true]; rfl
theorem ak3 (n : Int) (h1 : -9223372036854775808 ≤ n) (h2 : n ≤ 9223372036854775807) : Lx.ax5 (n, ()) = some (dec n, (), ()) := by
 unfold Lx.ax5
 simp only [decide_eq_true h1, decide_eq_true h2, Bool.and_self, cond_true]; rfl
end Go.Abs.D
end

section
namespace Go.Abs.D
def rg (n : Int) : Prop := -9223372036854775808 ≤ n ∧ n ≤ 9223372036854775807
structure ReadI (x : b8.den) : Prop where
 read : Read x
 f1 : rg x.1
 f2 : rg x.2.1
 f3 : rg x.2.2.1
 f4 : rg x.2.2.2.1
 f5 : rg x.2.2.2.2.1
 f6 : rg x.2.2.2.2.2.1
theorem a00 (p s : List Int) : ∀ r : List (List Int), Lx.ax2 (p :: r) s = p ++ r.flatMap (s ++ ·)
 | [] => by simp [Lx.ax2]
 | q :: r => by
  unfold Lx.ax2
  rw [a00 q s r]
  simp
theorem bm6 {s : List Int} (hb : ∀ c ∈ s, isByte c) : ∀ c ∈ an5 s, isByte c := by
 intro c hc
 unfold an5 at hc
 split at hc
 ·cases hc
 ·simp only [List.mem_append, List.mem_cons, List.not_mem_nil, or_false, List.mem_flatMap] at hc
  rcases hc with (rfl | ⟨a, ha, hc⟩) | rfl
  ·exact ⟨by decide, by decide⟩
  ·exact aS3 a (hb a ha) c hc
  ·exact ⟨by decide, by decide⟩
theorem aH5 (s : List Int) : (an5 s).length ≤ 16002 := by
 unfold an5
 split
 ·simp
 ·have := a58 s
  simp only [List.length_append, List.length_singleton]; omega
def aV4 (x : b8.den) : List (List Int) := [dec x.1, dec x.2.1, dec x.2.2.1, dec x.2.2.2.1, dec x.2.2.2.2.1, dec x.2.2.2.2.2.1, an5 x.2.2.2.2.2.2.1, dec ((j7 x).length : Int)]
def parts (x : b8.den) : List (List Int) := ((aV4 x ++ j7 x) ++ [dec ((j2 x).length : Int)]) ++ (j2 x).map dec
def Y4 (x : b8.den) : List Int := Lx.ax2 (parts x) [32] ++ [10]
theorem aT1 (x : b8.den) : Lx.ax2 (parts x) [32] = dec x.1 ++ ((([dec x.2.1, dec x.2.2.1, dec x.2.2.2.1, dec x.2.2.2.2.1, dec x.2.2.2.2.2.1, an5 x.2.2.2.2.2.2.1, dec ((j7 x).length : Int)] ++ j7 x) ++ [dec ((j2 x).length : Int)]) ++ (j2 x).map dec).flatMap ([32] ++ ·) := a00 _ _ _
theorem be4 (k : Nat) (s : List Int) : ∀ r : List (List Int), (∀ m ∈ r, m.length ≤ k) → (r.flatMap (s ++ ·)).length ≤ (k + s.length) * r.length
 | [], _ => by simp
 | m :: r, h => by
  have := be4 k s r fun x hx => h x (List.mem_cons_of_mem _ hx)
  have h1 := h m (List.mem_cons_self ..)
  rw [List.flatMap_cons, List.length_append, List.length_append, List.length_cons, Nat.mul_add]
  omega
section
variable {x : b8.den} (hx : NodeOk x) (hr : ReadI x) (hb : Bd (j7 x) x.2.2.2.2.2.2.1) (hk : (j2 x).length ≤ 200) (hkr : ∀ k ∈ j2 x, rg k)
theorem bq4 : ∀ (r pre : List Int) (o : List Int), (∀ k ∈ r, rg k) → (pre ++ r).length ≤ 100 → o.length + 30 * r.length ≤ 1000000 →
  Evt fun n => J4 (S.tab n) x o (pre ++ r) ((pre ++ r).length : Int) (pre.length : Int) = some (Sum.inl (x, o ++ r.flatMap (fun z => dec z ++ [32]), ()))
 | [], pre, o, _, hl, _ => q9.up fun n _ => by
  show J4 (S.step (S.tab n)) _ _ _ _ _ = _
  rw [an3, n7 (by simp)]
  simp
 | k :: r, pre, o, hk, hl, ho => by
  have hlen : (pre ++ k :: r).length = pre.length + (r.length + 1) := by simp
  obtain ⟨k0, k1⟩ := hk k (List.mem_cons_self ..)
  have hd := N0 k k0 k1
  rw [List.length_cons] at ho
  have ih := bq4 r (pre ++ [k]) (o ++ (dec k ++ [32])) (fun x hx => hk x (List.mem_cons_of_mem _ hx)) (by simpa using hl) (by simp; omega)
  have e1 : (pre ++ [k]) ++ r = pre ++ k :: r := by simp
  have e2 : (pre ++ [k]).length = pre.length + 1 := by simp
  rw [e1, e2] at ih
  have hg : (pre ++ k :: r).getD (pre.length : Int).toNat 0 = k := X8 pre k r 0
  refine (ih.and (ak4 k k0 k1)).up fun n ⟨ih, h1⟩ => ?_
  show J4 (S.step (S.tab n)) _ _ _ _ _ = _
  rw [an3, j6 (by simp only [decide_eq_true_eq]; omega), j6 (j8 (by omega)), hg, h1, Option.bind_some]
  dsimp only
  rw [j6 (x5 (by unfold lim; omega)), j6 (x5 (by unfold lim; simp; omega)), A3 (by omega), ih]
  simp
theorem bn4 : ∀ (r pre : List (List Int)) (o : List Int), (∀ m ∈ r, m.length ≤ 40) → (pre ++ r).length ≤ 200 → o.length + 50 * r.length ≤ 1000000 →
  Evt fun n => J6 (S.tab n) x o (pre ++ r) ((pre ++ r).length : Int) (pre.length : Int) = some (Sum.inl (x, o ++ r.flatMap ([32] ++ ·), ()))
 | [], pre, o, _, hl, _ => q9.up fun n _ => by
  show J6 (S.step (S.tab n)) _ _ _ _ _ = _
  rw [am7, n7 (by simp)]
  simp
 | k :: r, pre, o, hk, hl, ho => by
  have hlen : (pre ++ k :: r).length = pre.length + (r.length + 1) := by simp
  have k0 := hk k (List.mem_cons_self ..)
  rw [List.length_cons] at ho
  have ih := bn4 r (pre ++ [k]) (o ++ ([32] ++ k)) (fun x hx => hk x (List.mem_cons_of_mem _ hx)) (by simpa using hl) (by simp; omega)
  have e1 : (pre ++ [k]) ++ r = pre ++ k :: r := by simp
  have e2 : (pre ++ [k]).length = pre.length + 1 := by simp
  rw [e1, e2] at ih
  have hg : (pre ++ k :: r).getD (pre.length : Int).toNat [] = k := X8 pre k r []
  refine ih.up fun n ih => ?_
  show J6 (S.step (S.tab n)) _ _ _ _ _ = _
  rw [am7, j6 (by simp only [decide_eq_true_eq]; omega), j6 (j8 (by omega)), hg, j6 (x5 (by unfold lim; omega)), j6 (x5 (by unfold lim; simp; omega)), A3 (by omega), ih]
  simp
theorem ba2 : ∀ (r pre : List Int) (o : List Int), (∀ k ∈ r, rg k) → (pre ++ r).length ≤ 200 → o.length + 30 * r.length ≤ 1000000 →
  Evt fun n => I3 (S.tab n) o (pre ++ r) ((pre ++ r).length : Int) (pre.length : Int) = some (Sum.inl (o ++ (r.map dec).flatMap ([32] ++ ·), ()))
 | [], pre, o, _, hl, _ => q9.up fun n _ => by
  show I3 (S.step (S.tab n)) _ _ _ _ = _
  rw [aj9, n7 (by simp)]
  simp
 | k :: r, pre, o, hk, hl, ho => by
  have hlen : (pre ++ k :: r).length = pre.length + (r.length + 1) := by simp
  obtain ⟨k0, k1⟩ := hk k (List.mem_cons_self ..)
  have hd := N0 k k0 k1
  rw [List.length_cons] at ho
  have ih := ba2 r (pre ++ [k]) (o ++ ([32] ++ dec k)) (fun x hx => hk x (List.mem_cons_of_mem _ hx)) (by simpa using hl) (by simp; omega)
  have e1 : (pre ++ [k]) ++ r = pre ++ k :: r := by simp
  have e2 : (pre ++ [k]).length = pre.length + 1 := by simp
  rw [e1, e2] at ih
  have hg : (pre ++ k :: r).getD (pre.length : Int).toNat 0 = k := X8 pre k r 0
  refine (ih.and (ak4 k k0 k1)).up fun n ⟨ih, h1⟩ => ?_
  show I3 (S.step (S.tab n)) _ _ _ _ = _
  rw [aj9, j6 (by simp only [decide_eq_true_eq]; omega), j6 (j8 (by omega)), hg, h1, Option.bind_some]
  dsimp only
  rw [j6 (x5 (by unfold lim; omega)), j6 (x5 (by unfold lim; simp; omega)), A3 (by omega), ih]
  simp
include hr hb in
theorem bA7 : (((([] : List Int) ++ ([x.1, x.2.1, x.2.2.1, x.2.2.2.1, x.2.2.2.2.1, x.2.2.2.2.2.1] : List Int).flatMap (fun z => dec z ++ [32])) ++ ((an5 x.2.2.2.2.2.2.1 ++ [32]) ++ dec ((j7 x).length : Int))).length ≤ 17000) := by
 have a1 := N0 _ hr.f1.1 hr.f1.2
 have a2 := N0 _ hr.f2.1 hr.f2.2
 have a3 := N0 _ hr.f3.1 hr.f3.2
 have a4 := N0 _ hr.f4.1 hr.f4.2
 have a5 := N0 _ hr.f5.1 hr.f5.2
 have a6 := N0 _ hr.f6.1 hr.f6.2
 have a7 := aH5 x.2.2.2.2.2.2.1
 have hn := hb.2.1
 have a8 := N0 ((j7 x).length : Int) (by omega) (by omega)
 simp only [List.flatMap_cons, List.flatMap_nil, List.length_append, List.length_nil, List.length_singleton]
 omega
include hx hr hb hk hkr in
theorem bP9 : Evt fun n => aq3 (S.tab n) x = some (Y4 x, aG1) := by
 have hn := hb.2.1
 have H := bA7 hr hb
 have dn := N0 ((j7 x).length : Int) (by omega) (by omega)
 have dk := N0 ((j2 x).length : Int) (by omega) (by omega)
 have ql := aH5 x.2.2.2.2.2.2.1
 have h3 := bq4 (x := x) [x.1, x.2.1, x.2.2.1, x.2.2.2.1, x.2.2.2.2.1, x.2.2.2.2.2.1] [] [] (by
  intro k hk
  simp only [List.mem_cons, List.not_mem_nil, or_false] at hk
  rcases hk with h | h | h | h | h | h <;> rw [h]
  ·exact hr.f1
  ·exact hr.f2
  ·exact hr.f3
  ·exact hr.f4
  ·exact hr.f5
  ·exact hr.f6) (by simp) (by simp)
 generalize hA : ([] : List Int) ++ ([x.1, x.2.1, x.2.2.1, x.2.2.2.1, x.2.2.2.2.1, x.2.2.2.2.2.1] : List Int).flatMap (fun z => dec z ++ [32]) = A at h3 H
 have hAl : A.length ≤ 17000 := by rw [List.length_append] at H; omega
 generalize hB : (an5 x.2.2.2.2.2.2.1 ++ [32]) ++ dec ((j7 x).length : Int) = B at H
 have h9 := bn4 (x := x) (j7 x) [] (A ++ B) hb.2.2 (by simpa using hn) (by omega)
 have f9 := be4 40 [32] (j7 x) hb.2.2
 have f9' : ((j7 x).flatMap ([32] ++ ·)).length ≤ 8200 := by
  have : (40 + ([32] : List Int).length) * (j7 x).length ≤ 41 * 200 := Nat.mul_le_mul (Nat.le_refl 41) hn
  omega
 have kd : ∀ m ∈ (j2 x).map dec, m.length ≤ 20 := fun m hm => by
  obtain ⟨k, hk', rfl⟩ := List.mem_map.1 hm
  exact N0 k (hkr k hk').1 (hkr k hk').2
 have f15 := be4 20 [32] ((j2 x).map dec) kd
 have f15' : (((j2 x).map dec).flatMap ([32] ++ ·)).length ≤ 4200 := by
  rw [List.length_map] at f15
  have : (20 + ([32] : List Int).length) * (j2 x).length ≤ 21 * 200 := Nat.mul_le_mul (Nat.le_refl 21) hk
  omega
 have h15 := ba2 (j2 x) [] (((A ++ B) ++ (j7 x).flatMap ([32] ++ ·)) ++ ([32] ++ dec ((j2 x).length : Int))) hkr (by simpa using hk) (by simp only [List.length_append, List.length_singleton] at H ⊢; omega)
 refine (((h3.and (bt1 x.2.2.2.2.2.2.1 hx.text (Nat.not_lt.2 hb.1))).and ((ak4 ((j7 x).length : Int) (by omega) (by omega)).and (ak4 ((j2 x).length : Int) (by omega) (by omega)))).and (h9.and h15)).up fun n ⟨⟨⟨h3, hq⟩, hn', hk'⟩, h9, h15⟩ => ?_
 show aq3 (S.step (S.tab n)) _ = _
 have h3 : J4 (S.tab n) x [] [x.1, x.2.1, x.2.2.1, x.2.2.2.1, x.2.2.2.2.1, x.2.2.2.2.2.1] 6 0 = some (Sum.inl (x, A, ())) := h3
 rw [aX4]
 show (J4 (S.tab n) x [] [x.1, x.2.1, x.2.2.1, x.2.2.2.1, x.2.2.2.2.1, x.2.2.2.2.2.1] 6 0).bind _ = _
 rw [h3, Option.bind_some]
 show (ab0 (S.tab n) x.2.2.2.2.2.2.1).bind _ = _
 rw [hq, Option.bind_some]
 dsimp only
 rw [j6 (x5 (by unfold lim; omega))]
 show (E4 (S.tab n) ((j7 x).length : Int)).bind _ = _
 rw [hn', Option.bind_some]
 dsimp only
 rw [j6 (x5 (by unfold lim; simp only [List.length_append, List.length_singleton]; omega)), hB, j6 (x5 (by unfold lim; rw [List.length_append] at H; omega))]
 show (J6 (S.tab n) x (A ++ B) (j7 x) ((j7 x).length : Int) 0).bind _ = _
 have h9 : J6 (S.tab n) x (A ++ B) (j7 x) ((j7 x).length : Int) 0 = _ := h9
 rw [h9, Option.bind_some]
 show (E4 (S.tab n) ((j2 x).length : Int)).bind _ = _
 rw [hk', Option.bind_some]
 dsimp only
 rw [j6 (x5 (by unfold lim; omega)), j6 (x5 (by unfold lim; simp only [List.length_append, List.length_singleton] at H f9' ⊢; omega))]
 have h15 : I3 (S.tab n) (((A ++ B) ++ (j7 x).flatMap ([32] ++ ·)) ++ ([32] ++ dec ((j2 x).length : Int))) (j2 x) ((j2 x).length : Int) 0 = _ := h15
 show (I3 (S.tab n) (((A ++ B) ++ (j7 x).flatMap ([32] ++ ·)) ++ ([32] ++ dec ((j2 x).length : Int))) (j2 x) ((j2 x).length : Int) 0).bind _ = _
 rw [h15, Option.bind_some]
 simp only [C3, Sum.elim_inl]
 rw [j6 (x5 (by unfold lim; simp only [List.length_append, List.length_singleton] at H f9' f15' ⊢; omega))]
 congr 2
 unfold Y4
 rw [← hA, ← hB, aT1]
 simp [List.flatMap_append, List.append_assoc]
theorem bb6 (a : List Int) (ns : List b8.den) (b c : Int) : ∀ (r pre : List Int) (o : List (List Int)), (∀ k ∈ r, rg k) → (pre ++ r).length ≤ 200 → o.length + r.length ≤ 1000000 →
  Evt fun n => M3 (S.tab n) a o ns b c (pre ++ r) ((pre ++ r).length : Int) (pre.length : Int) = some (Sum.inl (a, o ++ r.map dec, ns, b, c, ()))
 | [], pre, o, _, hl, _ => q9.up fun n _ => by
  show M3 (S.step (S.tab n)) _ _ _ _ _ _ _ _ = _
  rw [as6, n7 (by simp)]
  simp
 | k :: r, pre, o, hk, hl, ho => by
  have hlen : (pre ++ k :: r).length = pre.length + (r.length + 1) := by simp
  obtain ⟨k0, k1⟩ := hk k (List.mem_cons_self ..)
  rw [List.length_cons] at ho
  have ih := bb6 a ns b c r (pre ++ [k]) (o ++ [dec k]) (fun x hx => hk x (List.mem_cons_of_mem _ hx)) (by simpa using hl) (by simp; omega)
  have e1 : (pre ++ [k]) ++ r = pre ++ k :: r := by simp
  have e2 : (pre ++ [k]).length = pre.length + 1 := by simp
  rw [e1, e2] at ih
  have hg : (pre ++ k :: r).getD (pre.length : Int).toNat 0 = k := X8 pre k r 0
  refine ih.up fun n ih => ?_
  show M3 (S.step (S.tab n)) _ _ _ _ _ _ _ _ = _
  rw [as6, j6 (by simp only [decide_eq_true_eq]; omega), j6 (j8 (by omega)), hg, ak3 k k0 k1, Option.bind_some]
  dsimp only
  rw [j6 (x5 (by unfold lim; simp only [List.length_singleton]; omega)), A3 (by omega), ih]
  simp
include hr hb hk hkr in
theorem aR7 : (Lx.ax2 (parts x) [32]).length ≤ 40000 ∧ (parts x).length ≤ 1000 := by
 have a1 := N0 _ hr.f1.1 hr.f1.2
 have a2 := N0 _ hr.f2.1 hr.f2.2
 have a3 := N0 _ hr.f3.1 hr.f3.2
 have a4 := N0 _ hr.f4.1 hr.f4.2
 have a5 := N0 _ hr.f5.1 hr.f5.2
 have a6 := N0 _ hr.f6.1 hr.f6.2
 have a7 := aH5 x.2.2.2.2.2.2.1
 have hn := hb.2.1
 have a8 := N0 ((j7 x).length : Int) (by omega) (by omega)
 have a9 := N0 ((j2 x).length : Int) (by omega) (by omega)
 have f9 := be4 40 [32] (j7 x) hb.2.2
 have f9' : ((j7 x).flatMap ([32] ++ ·)).length ≤ 8200 := by
  have : (40 + ([32] : List Int).length) * (j7 x).length ≤ 41 * 200 := Nat.mul_le_mul (Nat.le_refl 41) hn
  omega
 have kd : ∀ m ∈ (j2 x).map dec, m.length ≤ 20 := fun m hm => by
  obtain ⟨k, hk', rfl⟩ := List.mem_map.1 hm
  exact N0 k (hkr k hk').1 (hkr k hk').2
 have f15 := be4 20 [32] ((j2 x).map dec) kd
 have f15' : (((j2 x).map dec).flatMap ([32] ++ ·)).length ≤ 4200 := by
  rw [List.length_map] at f15
  have : (20 + ([32] : List Int).length) * (j2 x).length ≤ 21 * 200 := Nat.mul_le_mul (Nat.le_refl 21) hk
  omega
 rw [aT1]
 unfold parts aV4
 simp only [List.flatMap_append, List.flatMap_cons, List.flatMap_nil, List.length_append, List.length_cons, List.length_nil, List.length_map] at f9' f15' ⊢
 omega
include hx in
theorem bC7 : ∀ c ∈ Y4 x, isByte c := by
 intro c hc
 unfold Y4 at hc
 rw [aT1] at hc
 have s32 : isByte 32 := ⟨by decide, by decide⟩
 have fm : ∀ (r : List (List Int)), (∀ m ∈ r, ∀ c ∈ m, isByte c) → ∀ c ∈ r.flatMap ([32] ++ ·), isByte c := by
  intro r h c hc
  obtain ⟨m, hm, hc⟩ := List.mem_flatMap.1 hc
  rcases List.mem_append.1 hc with hc | hc
  ·have : c = 32 := by simpa using hc
   subst this; exact s32
  ·exact h m hm c hc
 rcases List.mem_append.1 hc with hc | hc
 ·rcases List.mem_append.1 hc with hc | hc
  ·exact bn3 _ c hc
  ·refine fm _ (fun m hm => ?_) c hc
   simp only [List.mem_append, List.mem_cons, List.not_mem_nil, or_false, List.mem_map] at hm
   rcases hm with ((((rfl | rfl | rfl | rfl | rfl | rfl | rfl) | hm) | rfl) | ⟨k, _, rfl⟩)
   all_goals first | exact bn3 _ | exact bm6 hx.text | exact hx.names m hm
 ·have : c = 10 := by simpa using hc
  subst this; exact ⟨by decide, by decide⟩
end
structure AllOk (ns : List b8.den) : Prop where
 n : ∀ x ∈ ns, NodeOk x
 r : ∀ x ∈ ns, ReadI x
 b : ∀ x ∈ ns, Bd (j7 x) x.2.2.2.2.2.2.1 ∧ (j2 x).length ≤ 200 ∧ ∀ k ∈ j2 x, rg k
theorem ay5 : ∀ (r pre : List b8.den) (o : List Int), AllOk r → (pre ++ r).length ≤ 3000 → o.length + 50000 * r.length ≤ 1000000000 →
  Evt fun n => O8 (S.tab n) o (pre ++ r) ((pre ++ r).length : Int) (pre.length : Int) = some (Sum.inl (o ++ r.flatMap Y4, ()))
 | [], pre, o, _, hl, _ => q9.up fun n _ => by
  show O8 (S.step (S.tab n)) _ _ _ _ = _
  rw [av8, n7 (by simp)]
  simp
 | x :: r, pre, o, hA, hl, ho => by
  have hlen : (pre ++ x :: r).length = pre.length + (r.length + 1) := by simp
  have hm := List.mem_cons_self (a := x) (l := r)
  have hx := hA.n x hm
  have hr := hA.r x hm
  obtain ⟨hb, hk, hkr⟩ := hA.b x hm
  have hn := hb.2.1
  obtain ⟨jl, pl⟩ := aR7 hr hb hk hkr
  rw [List.length_cons] at ho
  have hll : (Y4 x).length ≤ 40001 := by unfold Y4; rw [List.length_append, List.length_singleton]; omega
  have ih := ay5 r (pre ++ [x]) (o ++ Y4 x) ⟨fun y hy => hA.n y (List.mem_cons_of_mem _ hy), fun y hy => hA.r y (List.mem_cons_of_mem _ hy), fun y hy => hA.b y (List.mem_cons_of_mem _ hy)⟩ (by simpa using hl) (by rw [List.length_append]; omega)
  have e1 : (pre ++ [x]) ++ r = pre ++ x :: r := by simp
  have e2 : (pre ++ [x]).length = pre.length + 1 := by simp
  rw [e1, e2] at ih
  have hg : at_ (τ := b8) (pre ++ x :: r) (pre.length : Int) = x := by rw [ae5 _ _ (by omega)]; simp
  have h12 := bb6 o (pre ++ x :: r) ((pre ++ x :: r).length : Int) (pre.length : Int) (j2 x) [] ((aV4 x ++ j7 x) ++ [dec ((j2 x).length : Int)]) hkr (by simpa using hk) (by unfold aV4; simp; omega)
  refine ((ih.and h12).and (bu1 x.2.2.2.2.2.2.1 hx.text)).up fun n ⟨⟨ih, h12⟩, hq⟩ => ?_
  show O8 (S.step (S.tab n)) _ _ _ _ = _
  rw [av8, j6 (by simp only [decide_eq_true_eq]; omega), j6 (j8 (by omega)), hg, ak3 _ hr.f1.1 hr.f1.2, Option.bind_some, ak3 _ hr.f2.1 hr.f2.2, Option.bind_some, ak3 _ hr.f3.1 hr.f3.2, Option.bind_some, ak3 _ hr.f4.1 hr.f4.2, Option.bind_some, ak3 _ hr.f5.1 hr.f5.2, Option.bind_some, a74 _ hr.f6.1 hr.f6.2, Option.bind_some, hq, Option.bind_some]
  show (Lx.ax5 (((j7 x).length : Int), ())).bind _ = _
  rw [ak3 _ (by omega) (by omega), Option.bind_some]
  show brk (fits ((aV4 x).length + (j7 x).length)) _ _ = _
  rw [j6 (x5 (by unfold lim aV4; simp; omega))]
  show (Lx.ax5 (((j2 x).length : Int), ())).bind _ = _
  rw [ak3 _ (by omega) (by omega), Option.bind_some]
  show brk (fits ((aV4 x ++ j7 x).length + 1)) _ _ = _
  rw [j6 (x5 (by unfold lim aV4; simp; omega))]
  show (M3 (S.tab n) o ((aV4 x ++ j7 x) ++ [dec ((j2 x).length : Int)]) (pre ++ x :: r) ((pre ++ x :: r).length : Int) (pre.length : Int) (j2 x) ((j2 x).length : Int) 0).bind _ = _
  have h12 : M3 (S.tab n) o ((aV4 x ++ j7 x) ++ [dec ((j2 x).length : Int)]) (pre ++ x :: r) ((pre ++ x :: r).length : Int) (pre.length : Int) (j2 x) ((j2 x).length : Int) 0 = _ := h12
  rw [h12, Option.bind_some]
  show (Lx.ba7 (parts x, [32], ())).bind _ = _
  have hj : Lx.ba7 (parts x, [32], ()) = some (Lx.ax2 (parts x) [32], (), (), ()) := by
   unfold Lx.ba7
   dsimp only
   rw [x5 (show (parts x).length ≤ lim by unfold lim; omega), x5 (show (Lx.ax2 (parts x) [32]).length ≤ lim by unfold lim; omega)]; rfl
  rw [hj, Option.bind_some]
  dsimp only
  rw [j6 (x5 (by unfold lim; omega))]
  show (Bld.L7 (o, Y4 x, ())).bind _ = _
  have hw : Bld.L7 (o, Y4 x, ()) = some ((((Y4 x).length : Int), true, ()), o ++ Y4 x, (), ()) := by
   unfold Bld.L7
   dsimp only
   rw [x5 (show o.length + (Y4 x).length ≤ lim by unfold lim; omega)]; rfl
  rw [hw, Option.bind_some]
  dsimp only
  rw [A3 (by omega), ih]
  simp
theorem ay4 : ∀ (r pre : List b8.den) (o : List Int), AllOk r → (pre ++ r).length ≤ 3000 → o.length + 50000 * r.length ≤ 1000000000 →
  Evt fun n => O7 (S.tab n) o (pre ++ r) ((pre ++ r).length : Int) (pre.length : Int) = some (Sum.inl (o ++ r.flatMap Y4, ()))
 | [], pre, o, _, hl, _ => q9.up fun n _ => by
  show O7 (S.step (S.tab n)) _ _ _ _ = _
  rw [au8, n7 (by simp)]
  simp
 | x :: r, pre, o, hA, hl, ho => by
  have hlen : (pre ++ x :: r).length = pre.length + (r.length + 1) := by simp
  have hm := List.mem_cons_self (a := x) (l := r)
  have hx := hA.n x hm
  have hr := hA.r x hm
  obtain ⟨hb, hk, hkr⟩ := hA.b x hm
  obtain ⟨jl, pl⟩ := aR7 hr hb hk hkr
  rw [List.length_cons] at ho
  have hll : (Y4 x).length ≤ 40001 := by unfold Y4; rw [List.length_append, List.length_singleton]; omega
  have ih := ay4 r (pre ++ [x]) (o ++ Y4 x) ⟨fun y hy => hA.n y (List.mem_cons_of_mem _ hy), fun y hy => hA.r y (List.mem_cons_of_mem _ hy), fun y hy => hA.b y (List.mem_cons_of_mem _ hy)⟩ (by simpa using hl) (by rw [List.length_append]; omega)
  have e1 : (pre ++ [x]) ++ r = pre ++ x :: r := by simp
  have e2 : (pre ++ [x]).length = pre.length + 1 := by simp
  rw [e1, e2] at ih
  have hg : at_ (τ := b8) (pre ++ x :: r) (pre.length : Int) = x := by rw [ae5 _ _ (by omega)]; simp
  refine (ih.and (bP9 hx hr hb hk hkr)).up fun n ⟨ih, hq⟩ => ?_
  show O7 (S.step (S.tab n)) _ _ _ _ = _
  rw [au8, j6 (by simp only [decide_eq_true_eq]; omega), j6 (j8 (by omega)), hg, hq, Option.bind_some]
  dsimp only
  rw [j6 (x5 (by unfold lim; omega)), A3 (by omega), ih]
  simp
def bI7 (ns : List b8.den) : List Int := bif decide ((aB0 ns).1 = 0) then ns.flatMap Y4 else []
section
variable {ns : List b8.den} (hN : ∀ x ∈ ns, NodeOk x) (hR : ∀ x ∈ ns, ReadI x)
include hN hR in
theorem bL9 (c : (aB0 ns).1 = 0) : AllOk ns := by
 obtain ⟨_, h0, h3, hk⟩ := aM8 c
 refine ⟨hN, hR, fun x hx => ?_⟩
 obtain ⟨j, hj, rfl⟩ := List.getElem_of_mem hx
 obtain ⟨b1, b2, b3⟩ := bU5 (bA9 c j hj)
 exact ⟨b1, b2, fun k hk => by have := b3 k hk; unfold rg; omega⟩
theorem bL3 : ∀ (r : List b8.den), AllOk r → (r.flatMap Y4).length ≤ 50000 * r.length
 | [], _ => by simp
 | x :: r, hA => by
  have hm := List.mem_cons_self (a := x) (l := r)
  obtain ⟨hb, hk, hkr⟩ := hA.b x hm
  obtain ⟨jl, pl⟩ := aR7 (hA.r x hm) hb hk hkr
  have := bL3 r ⟨fun y hy => hA.n y (List.mem_cons_of_mem _ hy), fun y hy => hA.r y (List.mem_cons_of_mem _ hy), fun y hy => hA.b y (List.mem_cons_of_mem _ hy)⟩
  rw [List.flatMap_cons, List.length_append, List.length_cons]
  have hll : (Y4 x).length ≤ 40001 := by unfold Y4; rw [List.length_append, List.length_singleton]; omega
  omega
theorem bv8 {r : List b8.den} (hA : AllOk r) : ∀ c ∈ r.flatMap Y4, isByte c := fun c hc => by
 obtain ⟨x, hx, hc⟩ := List.mem_flatMap.1 hc
 obtain ⟨hb, hk, hkr⟩ := hA.b x hx
 exact bC7 (hA.n x hx) c hc
include hN hR in
theorem bd8 : Evt fun n => at5 (S.tab n) (ns, ()) = some (bI7 ns, aA4) := by
 have hs := a61 hN
 unfold bI7
 by_cases c : (aB0 ns).1 = 0
 ·obtain ⟨_, h0, h3, hk⟩ := aM8 c
  have hA := bL9 hN hR c
  rw [decide_eq_true c] at hs ⊢
  have h6 := ay5 ns [] [] hA (by simpa using h3) (by simp; omega)
  have hl := bL3 ns hA
  refine (hs.and h6).up fun n ⟨hs, h6⟩ => ?_
  show at5 (S.step (S.tab n)) _ = _
  rw [aJ1, hs, Option.bind_some, n7 (by rfl)]
  have h6 : O8 (S.tab n) [] ns (ns.length : Int) 0 = some (Sum.inl (ns.flatMap Y4, ())) := h6
  show (O8 (S.tab n) [] ns (ns.length : Int) 0).bind _ = _
  rw [h6, Option.bind_some]
  show (Bld.au3 (ns.flatMap Y4, ())).bind _ = _
  have hw : Bld.au3 (ns.flatMap Y4, ()) = some (ns.flatMap Y4, (), ()) := by
   unfold Bld.au3
   dsimp only
   rw [x5 (show (ns.flatMap Y4).length ≤ lim by unfold lim; omega), aG6 (bv8 hA)]; rfl
  rw [hw]; rfl
 ·rw [decide_eq_false c] at hs ⊢
  refine hs.up fun n hs => ?_
  show at5 (S.step (S.tab n)) _ = _
  rw [aJ1, hs, Option.bind_some, j6 (by rfl)]; rfl
include hN hR in
theorem bg5 : Evt fun n => aw1 (S.tab n) (ns, ()) = some (bI7 ns, ap5) := by
 have hs := aX0 hN
 unfold bI7
 by_cases c : (aB0 ns).1 = 0
 ·obtain ⟨et, h0, h3, hk⟩ := aM8 c
  have hA := bL9 hN hR c
  rw [decide_eq_true c]
  have h6 := ay4 ns [] [] hA (by simpa using h3) (by simp; omega)
  refine (hs.and h6).up fun n ⟨hs, h6⟩ => ?_
  show aw1 (S.step (S.tab n)) _ = _
  rw [aJ4, hs, Option.bind_some, n7 (by rw [et]; rfl)]
  have h6 : O7 (S.tab n) [] ns (ns.length : Int) 0 = some (Sum.inl (ns.flatMap Y4, ())) := h6
  show (O7 (S.tab n) [] ns (ns.length : Int) 0).bind _ = _
  rw [h6, Option.bind_some]
  show some ((ns.flatMap Y4).map byte, ap5) = _
  rw [aG6 (bv8 hA)]; rfl
 ·rw [decide_eq_false c]
  refine hs.up fun n hs => ?_
  show aw1 (S.step (S.tab n)) _ = _
  rw [aJ4, hs, Option.bind_some, j6 (by rw [decide_eq_false c]; rfl)]; rfl
end
theorem bH4 (ns : List b8.den) (hN : ∀ x ∈ ns, ReadI x) (hn : ns.length ≤ maxLen) : Evt fun n => V0 (S.tab n) (ns, ()) = some (true, M6) := by
 have hN' : ∀ x ∈ ns, Read x := fun x hx => (hN x hx).read
 have hsz := bz7 ns hN' hn
 by_cases hd : bL0 ns 1048576 < 0
 ·refine hsz.up fun n h => ?_
  show V0 (S.step (S.tab n)) _ = _
  rw [decide_eq_true hd] at h
  rw [af8, h, Option.bind_some, j6 (by rfl)]
 ·obtain ⟨hO, hl⟩ := guard ns hN' hd
  refine ((hsz.and (bD3 ns hO hl)).and (((bg5 hO hN).and (bd8 hO hN)).and (bm1 ns hO hl))).up fun n ⟨⟨h, ht⟩, ⟨hs, hi⟩, e1⟩ => ?_
  show V0 (S.step (S.tab n)) _ = _
  rw [decide_eq_false hd, cond_false] at h
  rw [af8, h, Option.bind_some, n7 (decide_eq_false hd), ht, Option.bind_some]
  dsimp only
  rw [hs, Option.bind_some, Option.bind_some]
  dsimp only
  rw [hi, Option.map_some, Option.bind_some]
  dsimp only
  rw [n7 (by simp), Option.bind_some]
  dsimp only
  rw [e1, Option.map_some, Option.bind_some, n7 (by rfl)]
end Go.Abs.D
end

section
namespace Go.Abs.D
theorem bP8 {x : b8.den} (h : Good b8 x) : ReadI x := by
 obtain ⟨h1, h2, h3, h4, h5, h6, h7, h8, h9, _⟩ := h
 exact ⟨⟨h7, ⟨h8.1, h8.2⟩, h9.2⟩, h1, h2, h3, h4, h5, h6⟩
end Go.Abs.D
namespace Go.Proofs.YtnoddjddkbhnbaaGreatDoor
open Go.ChangeShapes Go.WideShapes Go.ChangeAt Go.RowKit
set_option maxRecDepth 100000 in
theorem bQ5 (W : World) (hL : laidMetH Tryz.prog Rows.fnExactDumpRow.laid W) (v0 : Value) (x0 : List Abs.D.b8.den) (hR0 : Abs.Rc (Abs.snap W) (.sl Abs.D.b8) x0 [v0]) (hG0 : Abs.Good (.pr (.sl Abs.D.b8) .un) (x0, ())) : Calls Tryz.prog 5 #[.agg #[v0]] W fun e w' => e = .returned (.bool true) ∧ Below W.heap.size W w' := by
 obtain ⟨N, h⟩ := Abs.D.bH4 x0 (fun x hx => Abs.D.bP8 (hG0.1.1 x hx)) hG0.1.2
 have hok := (sys N).fn 5 (by kernel_rfl) ((x0, ()), ()) (true, (((), ()), ())) (h N (Nat.le_refl N)) (Abs.snap W) W [.agg #[v0]] [] (bO1 hL) (fun b L hb => Abs.bz6 hb)
  ⟨_, _, [], [], rfl, rfl, ⟨[v0], rfl, [v0], [], [], [], rfl, rfl, ⟨rfl, rfl, _, rfl, hR0⟩, rfl, rfl⟩, ⟨rfl, rfl⟩⟩ List.nodup_nil (fun b hb => by simp at hb)
 refine (Abs.aM1 Tryz.func5 rfl (by kernel_rfl) hok).mono ?_
 rintro e w' ⟨v, rfl, imm', n1, n2, A, ⟨_, h1, _, u, e2, h2⟩, h3⟩
 injection e2 with e2 _
 subst e2
 have h2 : [v] = [Value.bool true] := h2
 injection h2 with h2 _
 subst h2
 exact ⟨rfl, A.below⟩
set_option maxRecDepth 100000 in
theorem bE7 (os : Os) (started : os.Started) (H : Type) (enc : TypeId × Value → H) :
  ReturnsInHanded {} Tryz.checked os 5 .any (fun w args => (Rows.fnExactDumpSpec.pre enc Tryz.prog Tryz.f5 Rows.fnExactDumpRow.domain false w args ∧ laidMetH Tryz.prog Rows.fnExactDumpRow.laid w) ∧ sizedMet enc Tryz.prog Tryz.f5 (OpenSpec.ofChange Rows.fnExactDumpSpec) false w args)
   (Rows.fnExactDumpSpec.post enc Tryz.prog Tryz.f5 false true false false) := by
 refine returnsInHanded_of_change_and (C := Tryz.checked) (X := fun w _ => laidMetH Tryz.prog Rows.fnExactDumpRow.laid w) (fun _ _ _ hh h => h.of_heap hh) own started (by kernel_rfl) Tryz.func5
  (ChangeSpec.witness_shaped (enc := enc) (C := Tryz.checked) (os := os) (X := fun w _ => laidMetH Tryz.prog Rows.fnExactDumpRow.laid w) false (World.laidAll Tryz.prog os Rows.fnExactDumpRow.laid) #[.agg #[.slice none 0 0]] 8 (World.laidAll_os _ _ _)
   (World.shaped_of_ZipB (by kernel_rfl) (by kernel_rfl)) (by kernel_rfl) (by kernel_rfl) (by kernel_rfl)
   (by rw [MakeChecks.laidMetH_plain _ _ _ (by kernel_rfl)]; exact laidMet_laidAll _ (by kernel_rfl) (by kernel_rfl))) ?_
 intro W base args ds gs before hval0 hW _ _ hL _
 have hval : ∀ (j : Nat) t v, Tryz.f5.params[j]? = some t → args[j]? = some v → Value.okWide Tryz.prog W .any base t v := hval0
 have hW' := hW
 obtain ⟨p, q, hA0, hV, rfl, hfz, hnd⟩ := hW
 have hA : DataW.TrodAll enc Tryz.prog W 0 (fun _ => true) true Tryz.f5.params.toList args.toList ds p := hA0
 rw [Tryz.params5] at hA hval
 obtain ⟨v0, vs0, d0, ds0, p0, q0, hargs0, rfl, rfl, h0, r0⟩ := trodAll_cons hA
 obtain ⟨rfl, rfl, rfl⟩ := trodAll_nil r0
 obtain rfl : args = #[v0] := by cases args; simp_all
 have h0k := h0
 obtain ⟨fuel0, hf0⟩ := h0
 obtain ⟨cs0, rfl⟩ := bk1 Tryz.underlying24 (hval 0 24 v0 rfl rfl)
 obtain ⟨hR0, hG0⟩ := Abs.a32 5 fuel0 24 (.pr (.sl Abs.D.b8) .un) _ _ (by kernel_rfl) hf0
 have hR20 : ∃ v, cs0 = #[v] ∧ Abs.Rc (Abs.snap W) (.sl Abs.D.b8) (Abs.ofD (.pr (.sl Abs.D.b8) .un) d0).1 [v] := by
  obtain ⟨c1, c2, e, h1, h2⟩ := hR0
  have h2 : c2 = [] := h2
  subst h2
  obtain ⟨A, c, rfl, h3⟩ := h1
  have e : cs0.toList = _ := e
  exact ⟨_, by apply Array.ext'; rw [e]; rfl, A, c, rfl, h3⟩
 obtain ⟨w0, rfl, hw0⟩ := hR20
 have hlt0 : ∀ x ∈ p0, x.block < W.heap.size := fun x hx => by simpa using hW'.lt x (List.mem_append_left _ (List.mem_append_left _ hx))
 have hV3 := aJ8 hV
 match gs, hV3, hV, hW' with
 | [g1, g2, g3], _, hV, hW' =>
  clear hA0 hval0
  refine (bQ5 W hL w0 _ hw0 hG0).mono fun e W' ⟨he, bel⟩ => ?_
  subst he
  exact ⟨_, rfl, _, _, _, [], _, _, hW', trodAll_mk1 (shut_bool Tryz.underlying4 _), (trodAll_cons_mk (Below.trod laidOut (by kernel_rfl) (of_decide_eq_true (by kernel_rfl)) h0k bel hlt0) trodAll_mk0), Below.trodVars laidOut bel (by kernel_rfl) hV, bel.frame _, fun h => by cases h⟩
theorem bV9 : Rows.FnExactDumpSaid :=
 OpenClaim.holds_of_wide 5 Tryz.f5 rfl rfl rfl rfl rfl rfl rfl ⟨rfl, rfl, rfl, rfl, rfl⟩ rfl rfl rfl rfl rfl (by kernel_rfl) Tryz.func5 (by kernel_rfl)
  (of_decide_eq_true (by kernel_rfl)) (by unfold Func.isWrapper; first | (rw [if_pos (by decide +kernel)]; kernel_rfl) | (rw [if_neg (by decide +kernel)]; exact ⟨rfl, rfl⟩))
  (fun os started H enc _ => bE7 os started H enc)
theorem fnExactDump_holds : Rows.FnExactDumpCardSaid :=
 Claim7.holds_tied_plain_at .later [] [.data, .data, .data, .sentinel, .sentinel, .data, .data, .data] true (true, "4e3d85be510023ad1ea55354940b0eda3824eb405225e0444297d2af1764754c") true
  bV9 (fun _ h => by cases h) (by kernel_rfl) (fun _ h => by cases h) fnExactDump_row_tie rfl ⟨rfl, rfl⟩ (by kernel_rfl) rfl
  (fun f fn hf hfn => by
   obtain rfl : f = 5 := Option.some.inj ((show Tryz.prog.funcNamed "loop.example/warp/laws.FnExactDump" = some 5 by kernel_rfl).symm.trans hf) |>.symm
   obtain rfl : fn = Tryz.f5 := (Option.some.inj (Tryz.func5.symm.trans hfn)).symm
   exact ⟨by kernel_rfl, fun j t ht => by
    rw [Tryz.params5] at ht
    have hm : t ∈ [24] := by simpa using Array.mem_of_getElem? ht
    have hall : ([24].all fun u => !Tryz.prog.wantsStandIn u) = true := by kernel_rfl
    exact (show Tryz.prog.wantsStandIn t = false by simpa using List.all_eq_true.1 hall t hm)⟩)
  (by kernel_rfl)
end Go.Proofs.YtnoddjddkbhnbaaGreatDoor
#print axioms Go.Proofs.YtnoddjddkbhnbaaGreatDoor.fnExactDump_holds
end
