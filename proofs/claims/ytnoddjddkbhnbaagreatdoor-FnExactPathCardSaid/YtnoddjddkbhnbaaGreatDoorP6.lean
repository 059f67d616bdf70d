/- What is here: what the given nodeOk's pieces call. What is here: what the reference's nodeOk's pieces call. What is here: what both nodeOk answer, by the kind: the same. What is here: nodeOk on both sides: the same. What is here: the reference's nodeOk. What is here: the loops of TreeOk on both sides. What is here: the places of a tree's nodes on both sides, and TreeOk. What is here: TreeOk on both sides: the same. What is here: nothing of its own; what the next texts lean on. What is here: the text of a mark. What is here: nothing of its own; what the next texts lean on. What is here: trees: sizes, copies, equality. What is here: marks written over a tree, and found again. What is here: Path on both sides, and FnExactPath, plain. What is proved: FnExactPath answers true at every input; the package variables are as the program's text lays them. -/
import Derived.Test.YtnoddjddkbhnbaaGreatDoorP5
import Derived.Test.YtnoddjddkbhnbaaGreatDoorCards
set_option linter.unusedVariables false
set_option linter.unusedSimpArgs false
set_option maxRecDepth 100000
section
namespace Go.Abs.D
theorem allL {R α : Type} {F : S.Tab → Nat → Option R} {P : α → Bool} {l : List α} {yes no : R} {q : S.Tab → Prop} (hq : Evt fun n => q (S.tab n))
    (hs : ∀ T j (h : j < l.length), q T → F (S.step T) j = bif P l[j] then F T (j + 1) else some no) (he : ∀ T, q T → F (S.step T) l.length = some yes) :
    ∀ k j, j + k = l.length → Evt fun n => F (S.tab n) j = some (bif (l.drop j).all P then yes else no)
  | 0, j, h => hq.up fun n hT => by
    show F (S.step (S.tab n)) j = _
    have : j = l.length := by omega
    subst this
    rw [he _ hT, List.drop_length]; rfl
  | k + 1, j, h => by
    have hj : j < l.length := by omega
    refine (hq.and (allL hq hs he k (j + 1) (by omega))).up fun n ⟨hT, ih⟩ => ?_
    show F (S.step (S.tab n)) j = _
    rw [hs _ j hj hT, List.drop_eq_getElem_cons hj, List.all_cons]
    cases hp : P l[j] with
    | true => rw [cond_true, ih, Bool.true_and]
    | false => rfl
theorem get_lt {l : List Int} {j : Nat} (h : j < l.length) : l.getD (j : Int).toNat 0 = l[j] := by
  rw [Int.toNat_natCast, List.getD_eq_getElem?_getD, List.getElem?_eq_getElem h]; rfl
theorem gets_lt {l : List (List Int)} {j : Nat} (h : j < l.length) : l.getD (j : Int).toNat [] = l[j] := by
  rw [Int.toNat_natCast, List.getD_eq_getElem?_getD, List.getElem?_eq_getElem h]; rfl
theorem isStat_ok : Evt fun n => ∀ v, impl_isStat (S.tab n) v = some (statB v, o_impl_isStat) := in_ok.up fun n h v => by
  show impl_isStat (S.step (S.tab n)) _ = _
  rw [impl_isStat_eq, h]; rfl
theorem isExpr_ok : Evt fun n => ∀ v, impl_isExpr (S.tab n) v = some (exprB v, o_impl_isExpr) := in_ok.up fun n h v => by
  show impl_isExpr (S.step (S.tab n)) _ = _
  rw [impl_isExpr_eq, h]; rfl
theorem pl_ok : Evt fun n => ∀ a b c d nn op num text, impl_nodeOk_2 (S.tab n) a b c d nn op num text = some (PL a b c d nn op num text, (), (), (), (), nn, op, num, text, ()) := base2.up fun n _ a b c d nn op num text => by
  show impl_nodeOk_2 (S.step (S.tab n)) _ _ _ _ _ _ _ _ = _
  rw [impl_nodeOk_2_eq]
  unfold PL
  generalize decide (nn = 0) = p
  generalize decide (op = 0) = q
  generalize decide (num = 0) = r
  generalize decide (text = []) = s
  cases a <;> cases b <;> cases c <;> cases d <;> cases p <;> cases q <;> cases r <;> simp only [brk_true, brk_false, Bool.true_or, Bool.false_or, Bool.true_and, Bool.false_and]
theorem ex_l2_ok (ks l : List Int) (hl : l.length ≤ 2097152) : Evt fun n => impl_nodeOk_1_l2 (S.tab n) ks l (l.length : Int) 0 = some (bif l.all exprB then Sum.inr (Sum.inl (ks, ())) else Sum.inl (ks, false, ())) := by
  have := allL (F := fun T j => impl_nodeOk_1_l2 T ks l (l.length : Int) (j : Int)) (P := exprB) (l := l) (yes := Sum.inr (Sum.inl (ks, ()))) (no := Sum.inl (ks, false, ())) (q := fun T => ∀ v, impl_isExpr T v = some (exprB v, o_impl_isExpr)) isExpr_ok
    (fun T j h hT => by
      show impl_nodeOk_1_l2 (S.step T) _ _ _ _ = bif _ then impl_nodeOk_1_l2 T ks l (l.length : Int) ((j + 1 : Nat) : Int) else _
      rw [impl_nodeOk_1_l2_eq, brkT (by simp only [decide_eq_true_eq]; omega), brkT (inb_nat h), get_lt h, hT, Option.bind_some, wrap1 (by omega)]
      cases exprB l[j] with
      | true => rw [brkF (by rfl)]; rfl
      | false => rw [brkT (by rfl)]; rfl)
    (fun T hT => by
      show impl_nodeOk_1_l2 (S.step T) _ _ _ _ = _
      rw [impl_nodeOk_1_l2_eq, brkF (by simp)]) l.length 0 (by omega)
  rw [List.drop_zero] at this
  exact this
theorem ex_ok (ks : List Int) (hl : ks.length ≤ 200) (i j : Nat) (h1 : i ≤ j) (h2 : j ≤ ks.length) : Evt fun n => impl_nodeOk_1 (S.tab n) (i : Int) (j : Int) ks = some (EX ks i j, (), (), ks, ()) := by
  have hs : (subN ks i j).length ≤ 2097152 := by rw [subN_len h2]; omega
  refine (ex_l2_ok ks (subN ks i j) hs).up fun n h => ?_
  show impl_nodeOk_1 (S.step (S.tab n)) _ _ _ = _
  rw [impl_nodeOk_1_eq, brkT (bounds_nat h1 h2), sub_nat, h]
  unfold EX
  cases (subN ks i j).all exprB <;> rfl
theorem bs_ok (ks : List Int) (hl : ks.length ≤ 200) : Evt fun n => impl_nodeOk_3 (S.tab n) (ks.length : Int) ks = some (BS ks, (ks.length : Int), ks, ()) := isExpr_ok.up fun n h => by
  show impl_nodeOk_3 (S.step (S.tab n)) _ _ = _
  rw [impl_nodeOk_3_eq]
  unfold BS
  by_cases h0 : 1 ≤ ks.length
  · have d1 : decide ((0 : Int) < (ks.length : Int)) = true := decide_eq_true (by omega)
    rw [brkT (decide_eq_true (by omega)), brkT d1, h, Option.bind_some, decide_eq_true h0]
    have g0 : ks.getD 0 0 = get ks 0 := rfl
    rw [g0]
    cases exprB (get ks 0) with
    | true => rw [brkT (by rfl), brkT d1]; rfl
    | false => rw [brkF (by rfl)]; rfl
  · rw [brkF (decide_eq_false (by omega)), decide_eq_false h0]; rfl
theorem l26_ok (nn op num : Int) (text : List Int) (l : List Int) (hl : l.length ≤ 2097152) : Evt fun n => impl_nodeOk_l26 (S.tab n) nn op num text l (l.length : Int) 0 = some (bif l.all statB then Sum.inr (Sum.inl (nn, op, num, text, ())) else Sum.inl (false, ())) := by
  have := allL (F := fun T j => impl_nodeOk_l26 T nn op num text l (l.length : Int) (j : Int)) (P := statB) (l := l) (yes := Sum.inr (Sum.inl (nn, op, num, text, ()))) (no := Sum.inl (false, ())) (q := fun T => ∀ v, impl_isStat T v = some (statB v, o_impl_isStat)) isStat_ok
    (fun T j h hT => by
      show impl_nodeOk_l26 (S.step T) _ _ _ _ _ _ _ = bif _ then impl_nodeOk_l26 T nn op num text l (l.length : Int) ((j + 1 : Nat) : Int) else _
      rw [impl_nodeOk_l26_eq, brkT (by simp only [decide_eq_true_eq]; omega), brkT (inb_nat h), get_lt h, hT, Option.bind_some, wrap1 (by omega)]
      cases statB l[j] with
      | true => rw [brkF (by rfl)]; rfl
      | false => rw [brkT (by rfl)]; rfl)
    (fun T hT => by
      show impl_nodeOk_l26 (S.step T) _ _ _ _ _ _ _ = _
      rw [impl_nodeOk_l26_eq, brkF (by simp)]) l.length 0 (by omega)
  rw [List.drop_zero] at this
  exact this
theorem l97_ok (nn op num : Int) (text : List Int) (l : List Int) (hl : l.length ≤ 2097152) : Evt fun n => impl_nodeOk_l97 (S.tab n) nn op num text l (l.length : Int) 0 = some (bif l.all entryB then Sum.inr (Sum.inl (nn, op, num, text, ())) else Sum.inl (false, ())) := by
  have := allL (F := fun T j => impl_nodeOk_l97 T nn op num text l (l.length : Int) (j : Int)) (P := entryB) (l := l) (yes := Sum.inr (Sum.inl (nn, op, num, text, ()))) (no := Sum.inl (false, ())) (q := fun T => ∀ v lo hi, impl_in T v lo hi = some (decide (lo ≤ v) && decide (v ≤ hi), o_impl_in)) in_ok
    (fun T j h hT => by
      show impl_nodeOk_l97 (S.step T) _ _ _ _ _ _ _ = bif _ then impl_nodeOk_l97 T nn op num text l (l.length : Int) ((j + 1 : Nat) : Int) else _
      rw [impl_nodeOk_l97_eq, brkT (by simp only [decide_eq_true_eq]; omega), brkT (inb_nat h), get_lt h, hT, Option.bind_some, wrap1 (by omega)]
      show brk (!entryB l[j]) _ _ = _
      cases entryB l[j] with
      | true => rw [brkF (by rfl)]; rfl
      | false => rw [brkT (by rfl)]; rfl)
    (fun T hT => by
      show impl_nodeOk_l97 (S.step T) _ _ _ _ _ _ _ = _
      rw [impl_nodeOk_l97_eq, brkF (by simp)]) l.length 0 (by omega)
  rw [List.drop_zero] at this
  exact this
theorem l42_ok (ks : List Int) (num nk : Int) (l : List Int) (hl : l.length ≤ 2097152) : Evt fun n => impl_nodeOk_l42 (S.tab n) ks num nk l (l.length : Int) 0 = some (bif l.all targetB then Sum.inr (Sum.inl (ks, num, nk, ())) else Sum.inl (false, ())) := by
  have := allL (F := fun T j => impl_nodeOk_l42 T ks num nk l (l.length : Int) (j : Int)) (P := targetB) (l := l) (yes := Sum.inr (Sum.inl (ks, num, nk, ()))) (no := Sum.inl (false, ())) (q := Base2) base2
    (fun T j h hT => by
      show impl_nodeOk_l42 (S.step T) _ _ _ _ _ _ = bif _ then impl_nodeOk_l42 T ks num nk l (l.length : Int) ((j + 1 : Nat) : Int) else _
      rw [impl_nodeOk_l42_eq, brkT (by simp only [decide_eq_true_eq]; omega), brkT (inb_nat h), get_lt h, wrap1 (by omega)]
      unfold targetB
      cases decide (l[j] = 26) with
      | true => rw [brkF (by rfl)]; rfl
      | false =>
        rw [brkT (by rfl)]
        cases decide (l[j] = 32) with
        | true => rw [brkF (by rfl)]; rfl
        | false =>
          rw [brkT (by rfl)]
          cases decide (l[j] = 33) with
          | true => rw [brkF (by rfl)]; rfl
          | false => rw [brkT (by rfl)]; rfl)
    (fun T hT => by
      show impl_nodeOk_l42 (S.step T) _ _ _ _ _ _ = _
      rw [impl_nodeOk_l42_eq, brkF (by simp)]) l.length 0 (by omega)
  rw [List.drop_zero] at this
  exact this
theorem Evt.imp {p : Prop} {q : Nat → Prop} (h : p → Evt q) : Evt fun n => p → q n := by
  by_cases hp : p
  · exact (h hp).mono fun n h _ => h
  · exact Evt.of fun n h => absurd h hp
theorem if_ok (ks : List Int) (hl : ks.length ≤ 200) (nn op num : Int) (text : List Int) (hb : ∀ c ∈ text, isByte c) : Evt fun n => IF (S.tab n) ks nn op num text := by
  have hw : 1 ≤ ks.length → IntKind.i64.wrap ((ks.length : Int) - 1) = ((ks.length - 1 : Nat) : Int) := fun h => by rw [wrap64 _ (by omega) (by omega)]; omega
  have a1 := pl_ok
  have a2 : Evt fun n => 1 ≤ ks.length → impl_nodeOk_1 (S.tab n) 0 1 ks = some (EX ks 0 1, (), (), ks, ()) := Evt.imp fun h => ex_ok ks hl 0 1 (by omega) h
  have a3 : Evt fun n => 2 ≤ ks.length → impl_nodeOk_1 (S.tab n) 0 2 ks = some (EX ks 0 2, (), (), ks, ()) := Evt.imp fun h => ex_ok ks hl 0 2 (by omega) h
  have a4 : Evt fun n => impl_nodeOk_1 (S.tab n) 0 (ks.length : Int) ks = some (EX ks 0 ks.length, (), (), ks, ()) := ex_ok ks hl 0 ks.length (by omega) (Nat.le_refl _)
  have a5 : Evt fun n => 1 ≤ ks.length → impl_nodeOk_1 (S.tab n) 0 (IntKind.i64.wrap ((ks.length : Int) - 1)) ks = some (EX ks 0 (ks.length - 1), (), (), ks, ()) := Evt.imp fun h => by
    rw [hw h]
    exact ex_ok ks hl 0 (ks.length - 1) (by omega) (by omega)
  have a6 : Evt fun n => (1 ≤ num ∧ num ≤ ks.length) → impl_nodeOk_1 (S.tab n) num (ks.length : Int) ks = some (EX ks num.toNat ks.length, (), (), ks, ()) := Evt.imp fun h => by
    have := ex_ok ks hl num.toNat ks.length (by omega) (Nat.le_refl _)
    rw [Int.toNat_of_nonneg (by omega)] at this
    exact this
  have a7 := bs_ok ks hl
  have a8 := goodName_ok (s := text) hb
  have a9 := goodFloat_ok (s := text) hb
  have b1 := in_ok
  have b2 := l26_ok nn op num text ks (by omega)
  have b3 := l97_ok nn op num text ks (by omega)
  have b4 : Evt fun n => (1 ≤ num ∧ num ≤ ks.length) → impl_nodeOk_l42 (S.tab n) ks num (ks.length : Int) (sub ks 0 num) ((sub ks 0 num).length : Int) 0 = some (bif (subN ks 0 num.toNat).all targetB then Sum.inr (Sum.inl (ks, num, (ks.length : Int), ())) else Sum.inl (false, ())) := Evt.imp fun h => by
    have e : sub ks 0 num = subN ks 0 num.toNat := rfl
    rw [e]
    exact l42_ok ks num ks.length _ (by rw [subN_len (by omega)]; omega)
  refine ((((a1.and a2).and (a3.and a4)).and ((a5.and a6).and (a7.and a8))).and (((a9.and b1).and (b2.and b3)).and b4)).mono fun n ⟨⟨⟨⟨a1, a2⟩, a3, a4⟩, ⟨a5, a6⟩, a7, a8⟩, ⟨⟨a9, b1⟩, b2, b3⟩, b4⟩ => ?_
  exact ⟨fun a b c d => a1 a b c d nn op num text, a2, a3, a4, a5, fun h1 h2 => a6 ⟨h1, h2⟩, a7, a8, a9, b1, b2, b3, fun h1 h2 => b4 ⟨h1, h2⟩⟩
end Go.Abs.D
end

section
namespace Go.Abs.D
def kidsOf (x : tyNode.den) : List Int := x.2.2.2.2.2.2.2.2.1
def namesOf (x : tyNode.den) : List (List Int) := x.2.2.2.2.2.2.2.1
def kindAt (ns : List tyNode.den) (k : Int) : Int := (at_ (τ := tyNode) ns k).1
def kindsOf (ns : List tyNode.den) (x : tyNode.den) : List Int := (kidsOf x).map (kindAt ns)
theorem kid_get {ns : List tyNode.den} {x : tyNode.den} {j : Nat} (h : j < (kidsOf x).length) : (kindsOf ns x).getD j 0 = kindAt ns ((kidsOf x)[j]) := by
  unfold kindsOf
  rw [List.getD_eq_getElem?_getD, List.getElem?_map, List.getElem?_eq_getElem h]; rfl
theorem kid_get' {x : tyNode.den} {j : Nat} (h : j < (kidsOf x).length) : x.2.2.2.2.2.2.2.2.1.getD (j : Int).toNat 0 = (kidsOf x)[j] := get_lt h
theorem stat_ok : Evt fun n => ∀ v, spec_l2stat (S.tab n) v = some (statB v, o_spec_l2stat) := base2.up fun n _ v => by
  show spec_l2stat (S.step (S.tab n)) _ = _
  rw [spec_l2stat_eq]
  unfold statB
  cases decide ((1 : Int) ≤ v) with
  | true => rw [brkT rfl]; rfl
  | false => rw [brkF rfl]; rfl
theorem expr_ok : Evt fun n => ∀ v, spec_l2expr (S.tab n) v = some (exprB v, o_spec_l2expr) := base2.up fun n _ v => by
  show spec_l2expr (S.step (S.tab n)) _ = _
  rw [spec_l2expr_eq]
  unfold exprB
  cases decide ((20 : Int) ≤ v) with
  | true => rw [brkT rfl]; rfl
  | false => rw [brkF rfl]; rfl
theorem target_ok : Evt fun n => ∀ v, spec_l2target (S.tab n) v = some (targetB v, o_spec_l2target) := base2.up fun n _ v => by
  show spec_l2target (S.step (S.tab n)) _ = _
  rw [spec_l2target_eq]
  unfold targetB
  cases decide (v = 26) with
  | true => rw [brkT rfl]; rfl
  | false =>
    rw [brkF rfl]
    cases decide (v = 32) with
    | true => rw [brkT rfl]; rfl
    | false => rw [brkF rfl]; rfl
theorem bare_ok (x : tyNode.den) : Evt fun n => ∀ a b c d, spec_l2bare (S.tab n) x a b c d = some (PL d a b c ((namesOf x).length : Int) x.2.2.2.2.1 x.2.2.2.2.2.1 x.2.2.2.2.2.2.1, o_spec_l2bare) := base2.up fun n _ a b c d => by
  show spec_l2bare (S.step (S.tab n)) _ _ _ _ _ = _
  rw [spec_l2bare_eq]
  unfold PL namesOf
  generalize decide ((x.2.2.2.2.2.2.2.1.length : Int) = 0) = p
  generalize decide (x.2.2.2.2.1 = 0) = q
  generalize decide (x.2.2.2.2.2.1 = 0) = r
  generalize decide (x.2.2.2.2.2.2.1 = []) = s
  cases a <;> cases b <;> cases c <;> cases d <;> cases q <;> cases r <;> cases s <;> simp only [brk_true, brk_false, Bool.true_or, Bool.false_or, Bool.true_and, Bool.false_and, Bool.and_true, Bool.and_false]
theorem named_l4_ok (l : List (List Int)) (hl : l.length ≤ 2097152) : Evt fun n => spec_l2named_l4 (S.tab n) l (l.length : Int) 0 = some (bif l.all (okAs 1) then Sum.inr (Sum.inl ()) else Sum.inl (false, ())) := by
  have := allL (F := fun T j => spec_l2named_l4 T l (l.length : Int) (j : Int)) (P := okAs 1) (l := l) (yes := Sum.inr (Sum.inl ())) (no := Sum.inl (false, ())) (q := fun T => ∀ s ∈ l, spec_l1nameok T s = some (okAs 1 s, o_spec_l1nameok)) (evt_all l fun s => nameok_ok (s := s))
    (fun T j h hT => by
      show spec_l2named_l4 (S.step T) _ _ _ = bif _ then spec_l2named_l4 T l (l.length : Int) ((j + 1 : Nat) : Int) else _
      rw [spec_l2named_l4_eq, brkT (by simp only [decide_eq_true_eq]; omega), brkT (inb_nat h), gets_lt h, hT _ (List.getElem_mem h), Option.bind_some, wrap1 (by omega)]
      cases okAs 1 l[j] with
      | true => rw [brkF (by rfl)]; rfl
      | false => rw [brkT (by rfl)]; rfl)
    (fun T hT => by
      show spec_l2named_l4 (S.step T) _ _ _ = _
      rw [spec_l2named_l4_eq, brkF (by simp)]) l.length 0 (by omega)
  rw [List.drop_zero] at this
  exact this
theorem named_ok (x : tyNode.den) (hl : (namesOf x).length ≤ 2097152) : Evt fun n => ∀ a b, spec_l2named (S.tab n) x a b = some (NM (namesOf x) a b, o_spec_l2named) := (named_l4_ok (namesOf x) hl).up fun n h a b => by
  show spec_l2named (S.step (S.tab n)) _ _ _ = _
  have h : spec_l2named_l4 (S.tab n) x.2.2.2.2.2.2.2.1 (x.2.2.2.2.2.2.2.1.length : Int) 0 = _ := h
  rw [spec_l2named_eq, h]
  unfold NM
  by_cases h1 : a ≤ ((namesOf x).length : Int)
  · have d1 : decide ((x.2.2.2.2.2.2.2.1.length : Int) < a) = false := decide_eq_false (by unfold namesOf at h1; omega)
    rw [brkF d1, decide_eq_true h1]
    by_cases h2 : ((namesOf x).length : Int) ≤ b
    · have d2 : decide (b < (x.2.2.2.2.2.2.2.1.length : Int)) = false := decide_eq_false (by unfold namesOf at h2; omega)
      rw [brkF d2, decide_eq_true h2]
      cases (namesOf x).all (okAs 1) <;> rfl
    · have d2 : decide (b < (x.2.2.2.2.2.2.2.1.length : Int)) = true := decide_eq_true (by unfold namesOf at h2; omega)
      rw [brkT d2, decide_eq_false h2]; rfl
  · have d1 : decide ((x.2.2.2.2.2.2.2.1.length : Int) < a) = true := decide_eq_true (by unfold namesOf at h1; omega)
    rw [brkT d1, decide_eq_false h1]; rfl
variable {ns : List tyNode.den} {x : tyNode.den} (hk : ∀ k ∈ kidsOf x, 0 ≤ k ∧ k < (ns.length : Int)) (hl : (kidsOf x).length ≤ 200)
include hk
theorem in_kid {j : Nat} (h : j < (kidsOf x).length) : (decide ((0 : Int) ≤ (kidsOf x)[j]) && decide ((kidsOf x)[j] < (ns.length : Int))) = true := by
  have := hk _ (List.getElem_mem h)
  rw [decide_eq_true this.1, decide_eq_true this.2]; rfl
theorem kid_ok : Evt fun n => ∀ j : Nat, j < (kidsOf x).length → spec_l2kid (S.tab n) (ns, ()) x (j : Int) = some ((kindsOf ns x).getD j 0, o_spec_l2kid) := base2.up fun n _ j h => by
  show spec_l2kid (S.step (S.tab n)) _ _ _ = _
  have hi : (decide ((0 : Int) ≤ (j : Int)) && decide ((j : Int) < (x.2.2.2.2.2.2.2.2.1.length : Int))) = true := inb_nat h
  rw [spec_l2kid_eq, brkT hi, kid_get' h, brkT (in_kid hk h), kid_get h]; rfl
include hl
theorem exprs_l2_ok (j : Nat) (hj : j ≤ (kidsOf x).length) : ∀ (k i : Nat), i + k = j → Evt fun n => spec_l2exprs_l2 (S.tab n) (j : Int) (ns, ()) x (i : Int) = some (bif EX (kindsOf ns x) i j then Sum.inr (Sum.inl ()) else Sum.inl (false, ()))
  | 0, i, h => base2.up fun n _ => by
    show spec_l2exprs_l2 (S.step (S.tab n)) _ _ _ _ = _
    have : i = j := by omega
    subst this
    rw [spec_l2exprs_l2_eq, brkF (by simp)]
    unfold EX
    rw [subN_nil]; rfl
  | k + 1, i, h => by
    have hi : i < (kidsOf x).length := by omega
    refine ((exprs_l2_ok j hj k (i + 1) (by omega)).and expr_ok).up fun n ⟨ih, he⟩ => ?_
    show spec_l2exprs_l2 (S.step (S.tab n)) _ _ _ _ = _
    have hin : (decide ((0 : Int) ≤ (i : Int)) && decide ((i : Int) < (x.2.2.2.2.2.2.2.2.1.length : Int))) = true := inb_nat hi
    have hx : EX (kindsOf ns x) i j = (exprB (kindAt ns (kidsOf x)[i]) && EX (kindsOf ns x) (i + 1) j) := by
      unfold EX subN
      have hi' : i < ((kindsOf ns x).take j).length := by rw [List.length_take]; unfold kindsOf; rw [List.length_map]; omega
      rw [List.drop_eq_getElem_cons hi', List.all_cons]
      congr 2
      rw [List.getElem_take]
      unfold kindsOf
      rw [List.getElem_map]
    rw [spec_l2exprs_l2_eq, brkT (by simp only [decide_eq_true_eq]; omega), brkT hin, kid_get' hi, brkT (in_kid hk hi), wrap1 (by omega), hx]
    have e : (at_ (τ := tyNode) (ns, ()).1 (kidsOf x)[i]).1 = kindAt ns (kidsOf x)[i] := rfl
    rw [e, he, Option.bind_some]
    cases exprB (kindAt ns (kidsOf x)[i]) with
    | true => rw [brkF (by rfl), ih]; rfl
    | false => rw [brkT (by rfl)]; rfl
theorem exprs_ok (i j : Nat) (h1 : i ≤ j) (h2 : j ≤ (kidsOf x).length) : Evt fun n => spec_l2exprs (S.tab n) (ns, ()) x (i : Int) (j : Int) = some (EX (kindsOf ns x) i j, o_spec_l2exprs) := (exprs_l2_ok hk hl j h2 (j - i) i (by omega)).up fun n h => by
  show spec_l2exprs (S.step (S.tab n)) _ _ _ _ = _
  rw [spec_l2exprs_eq, h]
  cases EX (kindsOf ns x) i j <;> rfl
theorem sl5_ok : Evt fun n => spec_l2statement_l5 (S.tab n) (ns, ()) x ((kidsOf x).length : Int) 0 = some (bif (kindsOf ns x).all statB then Sum.inr (Sum.inl (x, ())) else Sum.inl (false, ())) := by
  have := allL (F := fun T j => spec_l2statement_l5 T (ns, ()) x ((kidsOf x).length : Int) (j : Int)) (P := fun k => statB (kindAt ns k)) (l := kidsOf x) (yes := Sum.inr (Sum.inl (x, ()))) (no := Sum.inl (false, ()))
    (q := fun T => (∀ v, spec_l2stat T v = some (statB v, o_spec_l2stat)) ∧ ∀ j : Nat, j < (kidsOf x).length → spec_l2kid T (ns, ()) x (j : Int) = some ((kindsOf ns x).getD j 0, o_spec_l2kid)) (stat_ok.and (kid_ok hk))
    (fun T j h hT => by
      show spec_l2statement_l5 (S.step T) _ _ _ _ = bif _ then spec_l2statement_l5 T (ns, ()) x ((kidsOf x).length : Int) ((j + 1 : Nat) : Int) else _
      rw [spec_l2statement_l5_eq, brkT (by simp only [decide_eq_true_eq]; omega), hT.2 j h, Option.bind_some, kid_get h, hT.1, Option.bind_some, wrap1 (by omega)]
      cases statB (kindAt ns (kidsOf x)[j]) with
      | true => rw [brkF (by rfl)]; rfl
      | false => rw [brkT (by rfl)]; rfl)
    (fun T hT => by
      show spec_l2statement_l5 (S.step T) _ _ _ _ = _
      rw [spec_l2statement_l5_eq, brkF (by simp)]) (kidsOf x).length 0 (by omega)
  rw [List.drop_zero] at this
  unfold kindsOf
  rw [List.all_map]
  exact this
theorem sl31_ok : Evt fun n => spec_l2expression_l31 (S.tab n) (ns, ()) x ((kidsOf x).length : Int) 0 = some (bif (kindsOf ns x).all entryB then Sum.inr (Sum.inl (x, ())) else Sum.inl (false, ())) := by
  have := allL (F := fun T j => spec_l2expression_l31 T (ns, ()) x ((kidsOf x).length : Int) (j : Int)) (P := fun k => entryB (kindAt ns k)) (l := kidsOf x) (yes := Sum.inr (Sum.inl (x, ()))) (no := Sum.inl (false, ()))
    (q := fun T => ∀ j : Nat, j < (kidsOf x).length → spec_l2kid T (ns, ()) x (j : Int) = some ((kindsOf ns x).getD j 0, o_spec_l2kid)) (kid_ok hk)
    (fun T j h hT => by
      show spec_l2expression_l31 (S.step T) _ _ _ _ = bif _ then spec_l2expression_l31 T (ns, ()) x ((kidsOf x).length : Int) ((j + 1 : Nat) : Int) else _
      rw [spec_l2expression_l31_eq, brkT (by simp only [decide_eq_true_eq]; omega), hT j h, Option.bind_some, kid_get h, wrap1 (by omega)]
      simp only
      unfold entryB
      by_cases h1 : 40 ≤ kindAt ns (kidsOf x)[j]
      · rw [brkF (decide_eq_false (by omega)), decide_eq_true h1]
        by_cases h2 : kindAt ns (kidsOf x)[j] ≤ 42
        · rw [brkF (decide_eq_false (by omega)), decide_eq_true h2]; rfl
        · rw [brkT (decide_eq_true (by omega)), decide_eq_false h2]; rfl
      · rw [brkT (decide_eq_true (by omega)), decide_eq_false h1]; rfl)
    (fun T hT => by
      show spec_l2expression_l31 (S.step T) _ _ _ _ = _
      rw [spec_l2expression_l31_eq, brkF (by simp)]) (kidsOf x).length 0 (by omega)
  rw [List.drop_zero] at this
  unfold kindsOf
  rw [List.all_map]
  exact this
theorem sl21_ok (m : Nat) (hm : x.2.2.2.2.2.1 = (m : Int)) (hml : m ≤ (kidsOf x).length) (nk : Int) : ∀ (k i : Nat), i + k = m → Evt fun n => spec_l2statement_l21 (S.tab n) (ns, ()) x nk (i : Int) = some (bif (subN (kindsOf ns x) i m).all targetB then Sum.inr (Sum.inl ((ns, ()), x, nk, ())) else Sum.inl (false, ()))
  | 0, i, h => base2.up fun n _ => by
    show spec_l2statement_l21 (S.step (S.tab n)) _ _ _ _ = _
    have : i = m := by omega
    subst this
    rw [spec_l2statement_l21_eq, hm, brkF (by simp), subN_nil]; rfl
  | k + 1, i, h => by
    have hi : i < (kidsOf x).length := by omega
    refine ((sl21_ok m hm hml nk k (i + 1) (by omega)).and (target_ok.and (kid_ok hk))).up fun n ⟨ih, ht, hkd⟩ => ?_
    show spec_l2statement_l21 (S.step (S.tab n)) _ _ _ _ = _
    have hx : (subN (kindsOf ns x) i m).all targetB = (targetB (kindAt ns (kidsOf x)[i]) && (subN (kindsOf ns x) (i + 1) m).all targetB) := by
      unfold subN
      have hi' : i < ((kindsOf ns x).take m).length := by rw [List.length_take]; unfold kindsOf; rw [List.length_map]; omega
      rw [List.drop_eq_getElem_cons hi', List.all_cons]
      congr 2
      rw [List.getElem_take]
      unfold kindsOf
      rw [List.getElem_map]
    rw [spec_l2statement_l21_eq, hm, brkT (by simp only [decide_eq_true_eq]; omega), hkd i hi, Option.bind_some, kid_get hi, ht, Option.bind_some, wrap1 (by omega), hx]
    cases targetB (kindAt ns (kidsOf x)[i]) with
    | true => rw [brkF (by rfl), ih]; rfl
    | false => rw [brkT (by rfl)]; rfl
theorem sf_ok (hn : (namesOf x).length ≤ 2097152) : Evt fun n => SF (S.tab n) (ns, ()) x (kindsOf ns x) (namesOf x) x.2.2.2.2.1 x.2.2.2.2.2.1 x.2.2.2.2.2.2.1 := by
  have hlen : (kindsOf ns x).length = (kidsOf x).length := by unfold kindsOf; rw [List.length_map]
  have hw : 1 ≤ (kindsOf ns x).length → IntKind.i64.wrap (((kindsOf ns x).length : Int) - 1) = (((kindsOf ns x).length - 1 : Nat) : Int) := fun h => by rw [wrap64 _ (by omega) (by omega)]; omega
  have a1 := bare_ok x
  have a2 := named_ok x hn
  have a3 : Evt fun n => 1 ≤ (kindsOf ns x).length → spec_l2exprs (S.tab n) (ns, ()) x 0 1 = some (EX (kindsOf ns x) 0 1, o_spec_l2exprs) := Evt.imp fun h => exprs_ok hk hl 0 1 (by omega) (by omega)
  have a4 : Evt fun n => 2 ≤ (kindsOf ns x).length → spec_l2exprs (S.tab n) (ns, ()) x 0 2 = some (EX (kindsOf ns x) 0 2, o_spec_l2exprs) := Evt.imp fun h => exprs_ok hk hl 0 2 (by omega) (by omega)
  have a5 : Evt fun n => spec_l2exprs (S.tab n) (ns, ()) x 0 ((kindsOf ns x).length : Int) = some (EX (kindsOf ns x) 0 (kindsOf ns x).length, o_spec_l2exprs) := exprs_ok hk hl 0 (kindsOf ns x).length (by omega) (by omega)
  have a6 : Evt fun n => 1 ≤ (kindsOf ns x).length → spec_l2exprs (S.tab n) (ns, ()) x 0 (IntKind.i64.wrap (((kindsOf ns x).length : Int) - 1)) = some (EX (kindsOf ns x) 0 ((kindsOf ns x).length - 1), o_spec_l2exprs) := Evt.imp fun h => by
    rw [hw h]
    exact exprs_ok hk hl 0 ((kindsOf ns x).length - 1) (by omega) (by omega)
  have a7 : Evt fun n => (1 ≤ x.2.2.2.2.2.1 ∧ x.2.2.2.2.2.1 ≤ ((kindsOf ns x).length : Int)) → spec_l2exprs (S.tab n) (ns, ()) x x.2.2.2.2.2.1 ((kindsOf ns x).length : Int) = some (EX (kindsOf ns x) (Int.toNat x.2.2.2.2.2.1) (kindsOf ns x).length, o_spec_l2exprs) := by
    have aux : ∀ z : Int, Evt fun n => (1 ≤ z ∧ z ≤ ((kindsOf ns x).length : Int)) → spec_l2exprs (S.tab n) (ns, ()) x z ((kindsOf ns x).length : Int) = some (EX (kindsOf ns x) z.toNat (kindsOf ns x).length, o_spec_l2exprs) := fun z => Evt.imp fun ⟨h1, h2⟩ => by
      obtain ⟨m, rfl⟩ : ∃ m : Nat, z = m := ⟨z.toNat, by omega⟩
      exact exprs_ok hk hl m (kindsOf ns x).length (by omega) (by omega)
    exact aux x.2.2.2.2.2.1
  have a8 := kid_ok hk
  have a9 := nameok_ok (s := x.2.2.2.2.2.2.1)
  have b1 := fltok_ok (s := x.2.2.2.2.2.2.1)
  have b2 := sl5_ok hk hl
  have b3 := sl31_ok hk hl
  have b4 : Evt fun n => (1 ≤ x.2.2.2.2.2.1 ∧ x.2.2.2.2.2.1 ≤ ((kindsOf ns x).length : Int)) → spec_l2statement_l21 (S.tab n) (ns, ()) x ((kindsOf ns x).length : Int) 0 = some (bif (subN (kindsOf ns x) 0 (Int.toNat x.2.2.2.2.2.1)).all targetB then Sum.inr (Sum.inl ((ns, ()), x, ((kindsOf ns x).length : Int), ())) else Sum.inl (false, ())) := by
    have aux : ∀ z : Int, x.2.2.2.2.2.1 = z → Evt fun n => (1 ≤ z ∧ z ≤ ((kindsOf ns x).length : Int)) → spec_l2statement_l21 (S.tab n) (ns, ()) x ((kindsOf ns x).length : Int) 0 = some (bif (subN (kindsOf ns x) 0 z.toNat).all targetB then Sum.inr (Sum.inl ((ns, ()), x, ((kindsOf ns x).length : Int), ())) else Sum.inl (false, ())) := fun z hz => Evt.imp fun ⟨h1, h2⟩ => by
      obtain ⟨m, rfl⟩ : ∃ m : Nat, z = m := ⟨z.toNat, by omega⟩
      exact sl21_ok hk hl m hz (by omega) _ m 0 (by omega)
    exact aux x.2.2.2.2.2.1 rfl
  refine ((((a1.and a2).and (a3.and a4)).and ((a5.and a6).and (a7.and a8))).and (((a9.and b1).and (b2.and b3)).and b4)).mono fun n ⟨⟨⟨⟨a1, a2⟩, a3, a4⟩, ⟨a5, a6⟩, a7, a8⟩, ⟨⟨a9, b1⟩, b2, b3⟩, b4⟩ => ?_
  rw [← hlen] at b2 b3
  exact ⟨rfl, rfl, rfl, hlen.symm, a1, a2, a3, a4, a5, a6, fun h1 h2 => a7 ⟨h1, h2⟩, fun h => a8 0 (by omega), fun h => a8 1 (by omega), fun h => a8 2 (by omega), fun h => by rw [hw h]; exact a8 _ (by omega), a9, b1, b2, b3, fun h1 h2 => b4 ⟨h1, h2⟩⟩
end Go.Abs.D
end

section
namespace Go.Abs.D
def KI (ks : List Int) (names : List (List Int)) (op num : Int) (text : List Int) (kind : Int) : Bool :=
  bif decide (kind = 1) then ks.all statB && PL false false false false (names.length : Int) op num text else
  bif decide (kind = 2) then PL true false false false (names.length : Int) op num text && (decide ((1 : Int) ≤ (names.length : Int)) && EX ks 0 ks.length) else
  bif decide (kind = 3) then PL true false false false (names.length : Int) op num text && (decide ((names.length : Int) = 1) && (decide ((ks.length : Int) = 1) && EX ks 0 1)) else
  bif decide (kind = 4) then PL true false false false (names.length : Int) op num text && (decide ((names.length : Int) = 1) && (decide ((ks.length : Int) = 1) && decide (ks.getD 0 0 = 36))) else
  bif decide (kind = 5) then PL false false true false (names.length : Int) op num text && (decide (1 ≤ num) && (decide (num < (ks.length : Int)) && ((subN ks 0 num.toNat).all targetB && EX ks num.toNat ks.length))) else
  bif decide (kind = 6) then (R50 ks (names.length : Int) op num text kind true).val else (R50 ks (names.length : Int) op num text kind (decide (kind = 16))).val
def An2 (y : AnS) (b : Bool) : Bool := y.elim (fun y => y.1) fun _ => b
def KS (t : Tr) (x : tyNode.den) (ks : List Int) (names : List (List Int)) (op num : Int) (text : List Int) (kind : Int) : Bool :=
  bif decide (kind = 1) then ks.all statB && PL false false false false (names.length : Int) op num text else
  bif decide (kind = 2) then PL true false false false (names.length : Int) op num text && (NM names 1 200 && EX ks 0 ks.length) else
  bif decide (kind = 3) then PL true false false false (names.length : Int) op num text && (NM names 1 1 && (decide ((ks.length : Int) = 1) && EX ks 0 1)) else
  bif decide (kind = 4) then PL true false false false (names.length : Int) op num text && (NM names 1 1 && (decide ((ks.length : Int) = 1) && decide (ks.getD 0 0 = 36))) else
  bif decide (kind = 5) then PL false false true false (names.length : Int) op num text && (decide (1 ≤ num) && (decide (num < (ks.length : Int)) && ((subN ks 0 num.toNat).all targetB && EX ks num.toNat ks.length))) else
  An2 (bif decide (kind = 6) then Q28 t x ks names op num text kind true else Q28 t x ks names op num text kind (decide (kind = 16))) (bif decide (kind = 15) then PL false false false false (names.length : Int) op num text && (decide ((ks.length : Int) = 1) && EX ks 0 1) else false)
def KE (t : Tr) (x : tyNode.den) (ks : List Int) (names : List (List Int)) (op num : Int) (text : List Int) (kind : Int) : Bool :=
  An2 (bif decide (kind = 20) then Q7 t x ks names op num text kind true else bif decide (kind = 21) then Q7 t x ks names op num text kind true else bif decide (kind = 22) then Q7 t x ks names op num text kind true else Q7 t x ks names op num text kind (decide (kind = 27)))
    (bif decide (kind = 42) then decide ((ks.length : Int) = 1) && (EX ks 0 1 && (PL false false false true (names.length : Int) op num text && okAs 1 text)) else false)
theorem val_other {ks : List Int} {nn op num : Int} {text : List Int} {kind : Int} (h : kind < 1 ∨ 42 < kind ∨ (16 < kind ∧ kind < 20) ∨ (37 < kind ∧ kind < 40)) : (R50 ks nn op num text kind (decide (kind = 16))).val = false := by
  have ne : ∀ c : Int, (1 ≤ c ∧ c ≤ 16) ∨ (20 ≤ c ∧ c ≤ 37) ∨ (40 ≤ c ∧ c ≤ 42) → decide (kind = c) = false := fun c hc => decide_eq_false (by omega)
  unfold R50
  rw [ne 16 (by omega), ne 7 (by omega), ne 8 (by omega), ne 9 (by omega), ne 10 (by omega), ne 11 (by omega), ne 12 (by omega), ne 20 (by omega), ne 21 (by omega), ne 22 (by omega), ne 27 (by omega)]
  simp only [cond_false]
  unfold R65
  rw [ne 13 (by omega), ne 14 (by omega), ne 15 (by omega), ne 40 (by omega)]
  simp only [cond_false]
  unfold R72
  rw [ne 23 (by omega), ne 24 (by omega), ne 25 (by omega), ne 26 (by omega), ne 28 (by omega), ne 29 (by omega), ne 41 (by omega)]
  simp only [cond_false]
  unfold R84
  rw [ne 30 (by omega), ne 31 (by omega), ne 32 (by omega), ne 33 (by omega), ne 34 (by omega), ne 35 (by omega), ne 36 (by omega), ne 37 (by omega), ne 42 (by omega)]
  rfl
theorem expr_other {t : Tr} {x : tyNode.den} {ks : List Int} {names : List (List Int)} {op num : Int} {text : List Int} {kind : Int} (h : kind < 1 ∨ 42 < kind ∨ (16 < kind ∧ kind < 20) ∨ (37 < kind ∧ kind < 40)) : KE t x ks names op num text kind = false := by
  have ne : ∀ c : Int, (1 ≤ c ∧ c ≤ 16) ∨ (20 ≤ c ∧ c ≤ 37) ∨ (40 ≤ c ∧ c ≤ 42) → decide (kind = c) = false := fun c hc => decide_eq_false (by omega)
  unfold KE
  rw [ne 20 (by omega), ne 21 (by omega), ne 22 (by omega), ne 27 (by omega), ne 42 (by omega)]
  simp only [cond_false]
  unfold Q7
  rw [ne 23 (by omega), ne 24 (by omega), ne 25 (by omega), ne 26 (by omega), ne 28 (by omega), ne 29 (by omega)]
  simp only [cond_false]
  unfold Q18
  rw [ne 30 (by omega), ne 31 (by omega), ne 32 (by omega), ne 33 (by omega), ne 34 (by omega), ne 35 (by omega), ne 36 (by omega), ne 37 (by omega), ne 40 (by omega), ne 41 (by omega)]
  rfl
theorem len_one {α : Type} {l : List α} (h : l.length = 1) : ∃ a, l = [a] := by
  match l, h with
  | [a], _ => exact ⟨a, rfl⟩
theorem len_two {α : Type} {l : List α} (h : l.length = 2) : ∃ a b, l = [a, b] := by
  match l, h with
  | [a, b], _ => exact ⟨a, b, rfl⟩
theorem EX_one (a : Int) : EX [a] 0 1 = exprB a := by simp [EX, subN]
theorem EX_two (a b : Int) : EX [a, b] 0 2 = (exprB a && exprB b) := by simp [EX, subN]
theorem EX_all (a : Int) (r : List Int) : EX (a :: r) 0 (a :: r).length = (exprB a && r.all exprB) := by
  unfold EX subN
  rw [List.take_length, List.drop_zero, List.all_cons]
theorem bs1 (ks : List Int) : (decide ((ks.length : Int) = 1) && BS ks) = (decide ((ks.length : Int) = 1) && (EX ks 0 1 && !decide (ks.getD 0 0 = 27))) := by
  by_cases h : ks.length = 1
  · obtain ⟨a, rfl⟩ := len_one h
    rw [EX_one]; rfl
  · rw [decide_eq_false (show ¬ (ks.length : Int) = 1 by omega)]; rfl
theorem bs2 (ks : List Int) : (decide ((ks.length : Int) = 2) && (BS ks && EX ks 0 2)) = (decide ((ks.length : Int) = 2) && (EX ks 0 2 && !decide (ks.getD 0 0 = 27))) := by
  by_cases h : ks.length = 2
  · obtain ⟨a, b, rfl⟩ := len_two h
    rw [EX_two]
    show (true && (true && (exprB a && !decide (a = 27)) && (exprB a && exprB b))) = (true && (exprB a && exprB b && !decide (a = 27)))
    cases exprB a <;> cases exprB b <;> cases decide (a = 27) <;> rfl
  · rw [decide_eq_false (show ¬ (ks.length : Int) = 2 by omega)]; rfl
theorem bsn (ks : List Int) : (BS ks && EX ks 0 ks.length) = (decide ((1 : Int) ≤ (ks.length : Int)) && (EX ks 0 ks.length && !decide (ks.getD 0 0 = 27))) := by
  cases ks with
  | nil => rfl
  | cons a r =>
    rw [EX_all, decide_eq_true (show (1 : Int) ≤ ((a :: r).length : Int) by simp; omega)]
    show (true && (exprB a && !decide (a = 27)) && (exprB a && r.all exprB)) = (true && (exprB a && r.all exprB && !decide (a = 27)))
    cases exprB a <;> cases r.all exprB <;> cases decide (a = 27) <;> rfl
theorem n23 (n : Int) (h0 : 0 ≤ n) (Z : Bool) : (!decide (n < 2) && (!decide ((3 : Int) < n) && Z)) = ((decide (n = 2) || decide (n = 3)) && Z) := by
  by_cases h2 : n = 2
  · subst h2; rfl
  by_cases h3 : n = 3
  · subst h3; rfl
  rw [decide_eq_false h2, decide_eq_false h3]
  by_cases h : n < 2
  · rw [decide_eq_true h]; rfl
  · rw [decide_eq_true (show (3 : Int) < n by omega)]; simp
theorem un (names : List (List Int)) (b c d : Bool) (op num : Int) (text : List Int) (Z : Bool) :
    (decide ((names.length : Int) ≤ 200) && (names.all (okAs 1) && (PL false b c d (names.length : Int) op num text && Z))) = (PL false b c d (names.length : Int) op num text && Z) := by
  cases names with
  | nil => rfl
  | cons m r =>
    have : PL false b c d ((m :: r).length : Int) op num text = false := by
      unfold PL
      rw [decide_eq_false (show ¬ ((m :: r).length : Int) = 0 by simp; omega)]; rfl
    rw [this]; simp
theorem un2 (names : List (List Int)) (b c d : Bool) (op num : Int) (text : List Int) (Z : Bool) :
    (decide ((names.length : Int) ≤ 200) && (names.all (okAs 1) && (Z && PL false b c d (names.length : Int) op num text))) = (Z && PL false b c d (names.length : Int) op num text) := by
  rw [Bool.and_comm Z, un]
theorem nm1 (names : List (List Int)) (p Z : Bool) : (decide ((names.length : Int) ≤ 200) && (names.all (okAs 1) && (p && (decide ((names.length : Int) = 1) && Z)))) = (p && (NM names 1 1 && Z)) := by
  unfold NM
  by_cases h : (names.length : Int) = 1
  · rw [h]
    show (true && (names.all (okAs 1) && (p && (true && Z)))) = (p && ((true && (true && names.all (okAs 1))) && Z))
    cases names.all (okAs 1) <;> cases p <;> rfl
  · rw [decide_eq_false h]
    have : (decide ((1 : Int) ≤ (names.length : Int)) && (decide ((names.length : Int) ≤ 1) && names.all (okAs 1))) = false := by
      by_cases h1 : (1 : Int) ≤ (names.length : Int)
      · rw [decide_eq_false (show ¬ (names.length : Int) ≤ 1 by omega)]; simp
      · rw [decide_eq_false h1]; rfl
    rw [this]; simp
theorem nm2 (names : List (List Int)) (p Z : Bool) : (decide ((names.length : Int) ≤ 200) && (names.all (okAs 1) && (p && ((decide ((names.length : Int) = 1) || decide ((names.length : Int) = 2)) && Z)))) = (p && (NM names 1 2 && Z)) := by
  unfold NM
  by_cases h : (names.length : Int) = 1
  · rw [h]
    show (true && (names.all (okAs 1) && (p && (true && Z)))) = (p && ((true && (true && names.all (okAs 1))) && Z))
    cases names.all (okAs 1) <;> cases p <;> rfl
  by_cases h' : (names.length : Int) = 2
  · rw [h']
    show (true && (names.all (okAs 1) && (p && (true && Z)))) = (p && ((true && (true && names.all (okAs 1))) && Z))
    cases names.all (okAs 1) <;> cases p <;> rfl
  · rw [decide_eq_false h, decide_eq_false h']
    have : (decide ((1 : Int) ≤ (names.length : Int)) && (decide ((names.length : Int) ≤ 2) && names.all (okAs 1))) = false := by
      by_cases h1 : (1 : Int) ≤ (names.length : Int)
      · rw [decide_eq_false (show ¬ (names.length : Int) ≤ 2 by omega)]; simp
      · rw [decide_eq_false h1]; rfl
    rw [this]; simp
theorem nmn (names : List (List Int)) (p Z : Bool) : (decide ((names.length : Int) ≤ 200) && (names.all (okAs 1) && (p && (decide ((1 : Int) ≤ (names.length : Int)) && Z)))) = (p && (NM names 1 200 && Z)) := by
  unfold NM
  generalize decide ((names.length : Int) ≤ 200) = a
  generalize names.all (okAs 1) = b
  generalize decide ((1 : Int) ≤ (names.length : Int)) = c
  cases a <;> cases b <;> cases c <;> cases p <;> rfl
theorem nm0 (names : List (List Int)) : NM names 0 200 = (decide ((names.length : Int) ≤ 200) && names.all (okAs 1)) := by
  unfold NM
  rw [decide_eq_true (show (0 : Int) ≤ (names.length : Int) by omega)]; rfl
theorem op01 (op : Int) : (decide ((0 : Int) ≤ op) && decide (op ≤ 1)) = (decide (op = 0) || decide (op = 1)) := by
  by_cases h0 : op = 0
  · subst h0; rfl
  by_cases h1 : op = 1
  · subst h1; rfl
  rw [decide_eq_false h0, decide_eq_false h1]
  by_cases h : (0 : Int) ≤ op
  · rw [decide_eq_false (show ¬ op ≤ 1 by omega)]; simp
  · rw [decide_eq_false h]; rfl
theorem alike (t : Tr) (x : tyNode.den) (ks : List Int) (names : List (List Int)) (op num : Int) (text : List Int) (kind : Int) :
    (decide ((names.length : Int) ≤ 200) && (names.all (okAs 1) && KI ks names op num text kind)) = bif statB kind then KS t x ks names op num text kind else KE t x ks names op num text kind := by
  by_cases ho : kind < 1 ∨ 42 < kind ∨ (16 < kind ∧ kind < 20) ∨ (37 < kind ∧ kind < 40)
  · have hs : statB kind = false := by
      unfold statB
      rw [Bool.and_eq_false_iff, decide_eq_false_iff_not, decide_eq_false_iff_not]; omega
    have ne : ∀ c : Int, (1 ≤ c ∧ c ≤ 16) → decide (kind = c) = false := fun c hc => decide_eq_false (by omega)
    rw [hs, cond_false, expr_other ho]
    unfold KI
    rw [ne 1 (by omega), ne 2 (by omega), ne 3 (by omega), ne 4 (by omega), ne 5 (by omega), ne 6 (by omega)]
    simp only [cond_false]
    rw [val_other ho, Bool.and_false, Bool.and_false]
  have hk : kind = 1 ∨ kind = 2 ∨ kind = 3 ∨ kind = 4 ∨ kind = 5 ∨ kind = 6 ∨ kind = 7 ∨ kind = 8 ∨ kind = 9 ∨ kind = 10 ∨ kind = 11 ∨ kind = 12 ∨ kind = 13 ∨ kind = 14 ∨ kind = 15 ∨ kind = 16 ∨ kind = 20 ∨ kind = 21 ∨ kind = 22 ∨ kind = 23 ∨ kind = 24 ∨ kind = 25 ∨ kind = 26 ∨ kind = 27 ∨ kind = 28 ∨ kind = 29 ∨ kind = 30 ∨ kind = 31 ∨ kind = 32 ∨ kind = 33 ∨ kind = 34 ∨ kind = 35 ∨ kind = 36 ∨ kind = 37 ∨ kind = 40 ∨ kind = 41 ∨ kind = 42 := by omega
  clear ho
  rcases hk with rfl | rfl | rfl | rfl | rfl | rfl | rfl | rfl | rfl | rfl | rfl | rfl | rfl | rfl | rfl | rfl | rfl | rfl | rfl | rfl | rfl | rfl | rfl | rfl | rfl | rfl | rfl | rfl | rfl | rfl | rfl | rfl | rfl | rfl | rfl | rfl | rfl
  · simp only [KI, KS, KE, statB, R50, R65, R72, R84, Q28, Q41, Q7, Q18, An.val, An2, Int.reduceEq, Int.reduceLE, decide_true, decide_false, cond_true, cond_false, Sum.elim_inl, Sum.elim_inr, Bool.and_self, Bool.and_true, Bool.true_and, Bool.and_false, Bool.false_and, Bool.true_or, Bool.or_true, Bool.or_false, Bool.false_or]
    rw [un2]
  · simp only [KI, KS, KE, statB, R50, R65, R72, R84, Q28, Q41, Q7, Q18, An.val, An2, Int.reduceEq, Int.reduceLE, decide_true, decide_false, cond_true, cond_false, Sum.elim_inl, Sum.elim_inr, Bool.and_self, Bool.and_true, Bool.true_and, Bool.and_false, Bool.false_and, Bool.true_or, Bool.or_true, Bool.or_false, Bool.false_or]
    rw [nmn]
  · simp only [KI, KS, KE, statB, R50, R65, R72, R84, Q28, Q41, Q7, Q18, An.val, An2, Int.reduceEq, Int.reduceLE, decide_true, decide_false, cond_true, cond_false, Sum.elim_inl, Sum.elim_inr, Bool.and_self, Bool.and_true, Bool.true_and, Bool.and_false, Bool.false_and, Bool.true_or, Bool.or_true, Bool.or_false, Bool.false_or]
    rw [nm1]
  · simp only [KI, KS, KE, statB, R50, R65, R72, R84, Q28, Q41, Q7, Q18, An.val, An2, Int.reduceEq, Int.reduceLE, decide_true, decide_false, cond_true, cond_false, Sum.elim_inl, Sum.elim_inr, Bool.and_self, Bool.and_true, Bool.true_and, Bool.and_false, Bool.false_and, Bool.true_or, Bool.or_true, Bool.or_false, Bool.false_or]
    rw [nm1]
  · simp only [KI, KS, KE, statB, R50, R65, R72, R84, Q28, Q41, Q7, Q18, An.val, An2, Int.reduceEq, Int.reduceLE, decide_true, decide_false, cond_true, cond_false, Sum.elim_inl, Sum.elim_inr, Bool.and_self, Bool.and_true, Bool.true_and, Bool.and_false, Bool.false_and, Bool.true_or, Bool.or_true, Bool.or_false, Bool.false_or]
    rw [un]
  · simp only [KI, KS, KE, statB, R50, R65, R72, R84, Q28, Q41, Q7, Q18, An.val, An2, Int.reduceEq, Int.reduceLE, decide_true, decide_false, cond_true, cond_false, Sum.elim_inl, Sum.elim_inr, Bool.and_self, Bool.and_true, Bool.true_and, Bool.and_false, Bool.false_and, Bool.true_or, Bool.or_true, Bool.or_false, Bool.false_or]
    rw [un]
  · simp only [KI, KS, KE, statB, R50, R65, R72, R84, Q28, Q41, Q7, Q18, An.val, An2, Int.reduceEq, Int.reduceLE, decide_true, decide_false, cond_true, cond_false, Sum.elim_inl, Sum.elim_inr, Bool.and_self, Bool.and_true, Bool.true_and, Bool.and_false, Bool.false_and, Bool.true_or, Bool.or_true, Bool.or_false, Bool.false_or]
    rw [un]
    rw [n23 _ (by omega)]
  · simp only [KI, KS, KE, statB, R50, R65, R72, R84, Q28, Q41, Q7, Q18, An.val, An2, Int.reduceEq, Int.reduceLE, decide_true, decide_false, cond_true, cond_false, Sum.elim_inl, Sum.elim_inr, Bool.and_self, Bool.and_true, Bool.true_and, Bool.and_false, Bool.false_and, Bool.true_or, Bool.or_true, Bool.or_false, Bool.false_or]
    rw [un]
  · simp only [KI, KS, KE, statB, R50, R65, R72, R84, Q28, Q41, Q7, Q18, An.val, An2, Int.reduceEq, Int.reduceLE, decide_true, decide_false, cond_true, cond_false, Sum.elim_inl, Sum.elim_inr, Bool.and_self, Bool.and_true, Bool.true_and, Bool.and_false, Bool.false_and, Bool.true_or, Bool.or_true, Bool.or_false, Bool.false_or]
    rw [nm1]
  · simp only [KI, KS, KE, statB, R50, R65, R72, R84, Q28, Q41, Q7, Q18, An.val, An2, Int.reduceEq, Int.reduceLE, decide_true, decide_false, cond_true, cond_false, Sum.elim_inl, Sum.elim_inr, Bool.and_self, Bool.and_true, Bool.true_and, Bool.and_false, Bool.false_and, Bool.true_or, Bool.or_true, Bool.or_false, Bool.false_or]
    rw [nmn]
  · simp only [KI, KS, KE, statB, R50, R65, R72, R84, Q28, Q41, Q7, Q18, An.val, An2, Int.reduceEq, Int.reduceLE, decide_true, decide_false, cond_true, cond_false, Sum.elim_inl, Sum.elim_inr, Bool.and_self, Bool.and_true, Bool.true_and, Bool.and_false, Bool.false_and, Bool.true_or, Bool.or_true, Bool.or_false, Bool.false_or]
    rw [un]
  · simp only [KI, KS, KE, statB, R50, R65, R72, R84, Q28, Q41, Q7, Q18, An.val, An2, Int.reduceEq, Int.reduceLE, decide_true, decide_false, cond_true, cond_false, Sum.elim_inl, Sum.elim_inr, Bool.and_self, Bool.and_true, Bool.true_and, Bool.and_false, Bool.false_and, Bool.true_or, Bool.or_true, Bool.or_false, Bool.false_or]
    rw [un]
  · simp only [KI, KS, KE, statB, R50, R65, R72, R84, Q28, Q41, Q7, Q18, An.val, An2, Int.reduceEq, Int.reduceLE, decide_true, decide_false, cond_true, cond_false, Sum.elim_inl, Sum.elim_inr, Bool.and_self, Bool.and_true, Bool.true_and, Bool.and_false, Bool.false_and, Bool.true_or, Bool.or_true, Bool.or_false, Bool.false_or]
    rw [un]
  · simp only [KI, KS, KE, statB, R50, R65, R72, R84, Q28, Q41, Q7, Q18, An.val, An2, Int.reduceEq, Int.reduceLE, decide_true, decide_false, cond_true, cond_false, Sum.elim_inl, Sum.elim_inr, Bool.and_self, Bool.and_true, Bool.true_and, Bool.and_false, Bool.false_and, Bool.true_or, Bool.or_true, Bool.or_false, Bool.false_or]
    rw [nm2]
  · simp only [KI, KS, KE, statB, R50, R65, R72, R84, Q28, Q41, Q7, Q18, An.val, An2, Int.reduceEq, Int.reduceLE, decide_true, decide_false, cond_true, cond_false, Sum.elim_inl, Sum.elim_inr, Bool.and_self, Bool.and_true, Bool.true_and, Bool.and_false, Bool.false_and, Bool.true_or, Bool.or_true, Bool.or_false, Bool.false_or]
    rw [un]
  · simp only [KI, KS, KE, statB, R50, R65, R72, R84, Q28, Q41, Q7, Q18, An.val, An2, Int.reduceEq, Int.reduceLE, decide_true, decide_false, cond_true, cond_false, Sum.elim_inl, Sum.elim_inr, Bool.and_self, Bool.and_true, Bool.true_and, Bool.and_false, Bool.false_and, Bool.true_or, Bool.or_true, Bool.or_false, Bool.false_or]
    rw [un]
  · simp only [KI, KS, KE, statB, R50, R65, R72, R84, Q28, Q41, Q7, Q18, An.val, An2, Int.reduceEq, Int.reduceLE, decide_true, decide_false, cond_true, cond_false, Sum.elim_inl, Sum.elim_inr, Bool.and_self, Bool.and_true, Bool.true_and, Bool.and_false, Bool.false_and, Bool.true_or, Bool.or_true, Bool.or_false, Bool.false_or]
    rw [un]
    ac_rfl
  · simp only [KI, KS, KE, statB, R50, R65, R72, R84, Q28, Q41, Q7, Q18, An.val, An2, Int.reduceEq, Int.reduceLE, decide_true, decide_false, cond_true, cond_false, Sum.elim_inl, Sum.elim_inr, Bool.and_self, Bool.and_true, Bool.true_and, Bool.and_false, Bool.false_and, Bool.true_or, Bool.or_true, Bool.or_false, Bool.false_or]
    rw [un]
    ac_rfl
  · simp only [KI, KS, KE, statB, R50, R65, R72, R84, Q28, Q41, Q7, Q18, An.val, An2, Int.reduceEq, Int.reduceLE, decide_true, decide_false, cond_true, cond_false, Sum.elim_inl, Sum.elim_inr, Bool.and_self, Bool.and_true, Bool.true_and, Bool.and_false, Bool.false_and, Bool.true_or, Bool.or_true, Bool.or_false, Bool.false_or]
    rw [un]
    ac_rfl
  · simp only [KI, KS, KE, statB, R50, R65, R72, R84, Q28, Q41, Q7, Q18, An.val, An2, Int.reduceEq, Int.reduceLE, decide_true, decide_false, cond_true, cond_false, Sum.elim_inl, Sum.elim_inr, Bool.and_self, Bool.and_true, Bool.true_and, Bool.and_false, Bool.false_and, Bool.true_or, Bool.or_true, Bool.or_false, Bool.false_or]
    rw [un]
    ac_rfl
  · simp only [KI, KS, KE, statB, R50, R65, R72, R84, Q28, Q41, Q7, Q18, An.val, An2, Int.reduceEq, Int.reduceLE, decide_true, decide_false, cond_true, cond_false, Sum.elim_inl, Sum.elim_inr, Bool.and_self, Bool.and_true, Bool.true_and, Bool.and_false, Bool.false_and, Bool.true_or, Bool.or_true, Bool.or_false, Bool.false_or]
    rw [un]
    ac_rfl
  · simp only [KI, KS, KE, statB, R50, R65, R72, R84, Q28, Q41, Q7, Q18, An.val, An2, Int.reduceEq, Int.reduceLE, decide_true, decide_false, cond_true, cond_false, Sum.elim_inl, Sum.elim_inr, Bool.and_self, Bool.and_true, Bool.true_and, Bool.and_false, Bool.false_and, Bool.true_or, Bool.or_true, Bool.or_false, Bool.false_or]
    rw [un]
    ac_rfl
  · simp only [KI, KS, KE, statB, R50, R65, R72, R84, Q28, Q41, Q7, Q18, An.val, An2, Int.reduceEq, Int.reduceLE, decide_true, decide_false, cond_true, cond_false, Sum.elim_inl, Sum.elim_inr, Bool.and_self, Bool.and_true, Bool.true_and, Bool.and_false, Bool.false_and, Bool.true_or, Bool.or_true, Bool.or_false, Bool.false_or]
    rw [un]
    ac_rfl
  · simp only [KI, KS, KE, statB, R50, R65, R72, R84, Q28, Q41, Q7, Q18, An.val, An2, Int.reduceEq, Int.reduceLE, decide_true, decide_false, cond_true, cond_false, Sum.elim_inl, Sum.elim_inr, Bool.and_self, Bool.and_true, Bool.true_and, Bool.and_false, Bool.false_and, Bool.true_or, Bool.or_true, Bool.or_false, Bool.false_or]
    rw [un]
    ac_rfl
  · simp only [KI, KS, KE, statB, R50, R65, R72, R84, Q28, Q41, Q7, Q18, An.val, An2, Int.reduceEq, Int.reduceLE, decide_true, decide_false, cond_true, cond_false, Sum.elim_inl, Sum.elim_inr, Bool.and_self, Bool.and_true, Bool.true_and, Bool.and_false, Bool.false_and, Bool.true_or, Bool.or_true, Bool.or_false, Bool.false_or]
    rw [un]
    ac_rfl
  · simp only [KI, KS, KE, statB, R50, R65, R72, R84, Q28, Q41, Q7, Q18, An.val, An2, Int.reduceEq, Int.reduceLE, decide_true, decide_false, cond_true, cond_false, Sum.elim_inl, Sum.elim_inr, Bool.and_self, Bool.and_true, Bool.true_and, Bool.and_false, Bool.false_and, Bool.true_or, Bool.or_true, Bool.or_false, Bool.false_or]
    rw [un]
    ac_rfl
  · simp only [KI, KS, KE, statB, R50, R65, R72, R84, Q28, Q41, Q7, Q18, An.val, An2, Int.reduceEq, Int.reduceLE, decide_true, decide_false, cond_true, cond_false, Sum.elim_inl, Sum.elim_inr, Bool.and_self, Bool.and_true, Bool.true_and, Bool.and_false, Bool.false_and, Bool.true_or, Bool.or_true, Bool.or_false, Bool.false_or]
    rw [un]
    ac_rfl
  · simp only [KI, KS, KE, statB, R50, R65, R72, R84, Q28, Q41, Q7, Q18, An.val, An2, Int.reduceEq, Int.reduceLE, decide_true, decide_false, cond_true, cond_false, Sum.elim_inl, Sum.elim_inr, Bool.and_self, Bool.and_true, Bool.true_and, Bool.and_false, Bool.false_and, Bool.true_or, Bool.or_true, Bool.or_false, Bool.false_or]
    rw [un]
    ac_rfl
  · simp only [KI, KS, KE, statB, R50, R65, R72, R84, Q28, Q41, Q7, Q18, An.val, An2, Int.reduceEq, Int.reduceLE, decide_true, decide_false, cond_true, cond_false, Sum.elim_inl, Sum.elim_inr, Bool.and_self, Bool.and_true, Bool.true_and, Bool.and_false, Bool.false_and, Bool.true_or, Bool.or_true, Bool.or_false, Bool.false_or]
    rw [un]
    rw [bs2]
    ac_rfl
  · simp only [KI, KS, KE, statB, R50, R65, R72, R84, Q28, Q41, Q7, Q18, An.val, An2, Int.reduceEq, Int.reduceLE, decide_true, decide_false, cond_true, cond_false, Sum.elim_inl, Sum.elim_inr, Bool.and_self, Bool.and_true, Bool.true_and, Bool.and_false, Bool.false_and, Bool.true_or, Bool.or_true, Bool.or_false, Bool.false_or]
    rw [un]
    rw [← Bool.and_assoc (decide _) (BS ks), bs1]
    ac_rfl
  · simp only [KI, KS, KE, statB, R50, R65, R72, R84, Q28, Q41, Q7, Q18, An.val, An2, Int.reduceEq, Int.reduceLE, decide_true, decide_false, cond_true, cond_false, Sum.elim_inl, Sum.elim_inr, Bool.and_self, Bool.and_true, Bool.true_and, Bool.and_false, Bool.false_and, Bool.true_or, Bool.or_true, Bool.or_false, Bool.false_or]
    rw [un]
    rw [bsn]
    ac_rfl
  · simp only [KI, KS, KE, statB, R50, R65, R72, R84, Q28, Q41, Q7, Q18, An.val, An2, Int.reduceEq, Int.reduceLE, decide_true, decide_false, cond_true, cond_false, Sum.elim_inl, Sum.elim_inr, Bool.and_self, Bool.and_true, Bool.true_and, Bool.and_false, Bool.false_and, Bool.true_or, Bool.or_true, Bool.or_false, Bool.false_or]
    rw [un2]
  · simp only [KI, KS, KE, statB, R50, R65, R72, R84, Q28, Q41, Q7, Q18, An.val, An2, Int.reduceEq, Int.reduceLE, decide_true, decide_false, cond_true, cond_false, Sum.elim_inl, Sum.elim_inr, Bool.and_self, Bool.and_true, Bool.true_and, Bool.and_false, Bool.false_and, Bool.true_or, Bool.or_true, Bool.or_false, Bool.false_or]
    rw [nm0, op01]
    ac_rfl
  · simp only [KI, KS, KE, statB, R50, R65, R72, R84, Q28, Q41, Q7, Q18, An.val, An2, Int.reduceEq, Int.reduceLE, decide_true, decide_false, cond_true, cond_false, Sum.elim_inl, Sum.elim_inr, Bool.and_self, Bool.and_true, Bool.true_and, Bool.and_false, Bool.false_and, Bool.true_or, Bool.or_true, Bool.or_false, Bool.false_or]
    rw [un]
    ac_rfl
  · simp only [KI, KS, KE, statB, R50, R65, R72, R84, Q28, Q41, Q7, Q18, An.val, An2, Int.reduceEq, Int.reduceLE, decide_true, decide_false, cond_true, cond_false, Sum.elim_inl, Sum.elim_inr, Bool.and_self, Bool.and_true, Bool.true_and, Bool.and_false, Bool.false_and, Bool.true_or, Bool.or_true, Bool.or_false, Bool.false_or]
    rw [un]
    ac_rfl
  · simp only [KI, KS, KE, statB, R50, R65, R72, R84, Q28, Q41, Q7, Q18, An.val, An2, Int.reduceEq, Int.reduceLE, decide_true, decide_false, cond_true, cond_false, Sum.elim_inl, Sum.elim_inr, Bool.and_self, Bool.and_true, Bool.true_and, Bool.and_false, Bool.false_and, Bool.true_or, Bool.or_true, Bool.or_false, Bool.false_or]
    rw [un]
    ac_rfl
  · simp only [KI, KS, KE, statB, R50, R65, R72, R84, Q28, Q41, Q7, Q18, An.val, An2, Int.reduceEq, Int.reduceLE, decide_true, decide_false, cond_true, cond_false, Sum.elim_inl, Sum.elim_inr, Bool.and_self, Bool.and_true, Bool.true_and, Bool.and_false, Bool.false_and, Bool.true_or, Bool.or_true, Bool.or_false, Bool.false_or]
    rw [un]
    ac_rfl
end Go.Abs.D
end

section
namespace Go.Abs.D
theorem at_node (l : List tyNode.den) (j : Nat) (h : j < l.length) : at_ (τ := tyNode) l (j : Int) = l[j] := by
  show (l.getD (j : Int).toNat _) = _
  rw [Int.toNat_natCast, List.getD_eq_getElem?_getD, List.getElem?_eq_getElem h]; rfl
def inR (i : Nat) (k : Int) : Bool := decide (0 ≤ k) && decide (k < (i : Int))
def okN (ns : List tyNode.den) (i : Nat) (x : tyNode.den) : Bool :=
  bif decide (x.2.1 < 0) then false else
  bif decide (x.2.2.1 < x.2.1) then false else
  bif decide (x.2.2.2.1 < 0) then false else
  bif decide (200 < (kidsOf x).length) then false else
  bif (kidsOf x).all (inR i) then (bif statB x.1 then KS (ns, ()) x (kindsOf ns x) (namesOf x) x.2.2.2.2.1 x.2.2.2.2.2.1 x.2.2.2.2.2.2.1 x.1 else KE (ns, ()) x (kindsOf ns x) (namesOf x) x.2.2.2.2.1 x.2.2.2.2.2.1 x.2.2.2.2.2.2.1 x.1) else false
structure NodeOk (x : tyNode.den) : Prop where
  text : ∀ c ∈ x.2.2.2.2.2.2.1, isByte c
  names : ∀ m ∈ namesOf x, ∀ c ∈ m, isByte c
  nn : (namesOf x).length ≤ 2097152
  nk : (kidsOf x).length ≤ 2097152
theorem tail5 {T : S.Tab} (ks : List Int) (z : Int) (hl : ks.length ≤ 200) (exu : 1 ≤ z → z ≤ ks.length → impl_nodeOk_1 T z (ks.length : Int) ks = some (EX ks z.toNat ks.length, (), (), ks, ()))
    (l42 : 1 ≤ z → z ≤ ks.length → impl_nodeOk_l42 T ks z (ks.length : Int) (sub ks 0 z) ((sub ks 0 z).length : Int) 0 = some (bif (subN ks 0 z.toNat).all targetB then Sum.inr (Sum.inl (ks, z, (ks.length : Int), ())) else Sum.inl (false, ()))) :
    brk (decide (z < 1)) (some (false, o_impl_nodeOk)) (brk (decide (IntKind.i64.wrap ((ks.length : Int) - 1) < z)) (some (false, o_impl_nodeOk)) (brk (bounds ks.length 0 z) ((impl_nodeOk_l42 T ks z (ks.length : Int) (sub ks 0 z) ((sub ks 0 z).length : Int) 0).bind (out2 (fun y42 => some (y42.1, o_impl_nodeOk)) (fun y42 => (impl_nodeOk_1 T y42.2.1 y42.2.2.1 y42.1).bind fun d204 => some (d204.1, o_impl_nodeOk)))) none)) =
      some (true && (decide (1 ≤ z) && (decide (z < (ks.length : Int)) && ((subN ks 0 z.toNat).all targetB && EX ks z.toNat ks.length))), o_impl_nodeOk) := by
  have wk : IntKind.i64.wrap ((ks.length : Int) - 1) = (ks.length : Int) - 1 := wrap64 _ (by omega) (by omega)
  rw [wk, Bool.true_and]
  by_cases h1 : 1 ≤ z
  · rw [brkF (decide_eq_false (by omega)), decide_eq_true h1]
    by_cases h2 : z < (ks.length : Int)
    · have hb : bounds ks.length 0 z = true := by
        unfold bounds
        rw [decide_eq_true (show (0 : Int) ≤ 0 by omega), decide_eq_true (show (0 : Int) ≤ z by omega), decide_eq_true (show z ≤ (ks.length : Int) by omega)]; rfl
      rw [brkF (decide_eq_false (by omega)), decide_eq_true h2, brkT hb, l42 h1 (by omega)]
      cases (subN ks 0 z.toNat).all targetB with
      | true =>
        simp only [cond_true, Option.bind_some, out2, Sum.elim_inr, Sum.elim_inl]
        rw [exu h1 (by omega)]; rfl
      | false => rfl
    · rw [brkT (decide_eq_true (by omega)), decide_eq_false h2]; rfl
  · rw [brkT (decide_eq_true (by omega)), decide_eq_false h1]; rfl
variable {ns : List tyNode.den} {i : Nat} {x : tyNode.den} (hx : NodeOk x) (hi : i < ns.length) (hn : ns.length ≤ 3000)
include hi hn
theorem il6_ok (hl : (kidsOf x).length ≤ 200) : ∀ (k j : Nat), j + k = (kidsOf x).length → Evt fun n => impl_nodeOk_l6 (S.tab n) (i : Int) (ns, ()) x ((kindsOf ns x).take j) (kidsOf x) ((kidsOf x).length : Int) (j : Int) = some (bif ((kidsOf x).drop j).all (inR i) then Sum.inr (Sum.inl (x, kindsOf ns x, ())) else Sum.inl (false, ()))
  | 0, j, h => base2.up fun n _ => by
    show impl_nodeOk_l6 (S.step (S.tab n)) _ _ _ _ _ _ _ = _
    have : j = (kidsOf x).length := by omega
    subst this
    rw [impl_nodeOk_l6_eq, brkF (by simp), List.drop_length]
    have : (kindsOf ns x).take (kidsOf x).length = kindsOf ns x := by
      rw [List.take_of_length_le]
      unfold kindsOf; rw [List.length_map]; exact Nat.le_refl _
    rw [this]; rfl
  | k + 1, j, h => by
    have hj : j < (kidsOf x).length := by omega
    have hj' : j < (kindsOf ns x).length := by unfold kindsOf; rw [List.length_map]; exact hj
    refine ((il6_ok hl k (j + 1) (by omega)).and in_ok).up fun n ⟨ih, hin⟩ => ?_
    show impl_nodeOk_l6 (S.step (S.tab n)) _ _ _ _ _ _ _ = _
    have wi : IntKind.i64.wrap ((i : Int) - 1) = (i : Int) - 1 := wrap64 _ (by omega) (by omega)
    rw [impl_nodeOk_l6_eq, brkT (by simp only [decide_eq_true_eq]; omega), brkT (inb_nat hj), get_lt hj, wi, hin, Option.bind_some, List.drop_eq_getElem_cons hj, List.all_cons, wrap1 (by omega)]
    have e : (decide ((0 : Int) ≤ (kidsOf x)[j]) && decide ((kidsOf x)[j] ≤ (i : Int) - 1)) = inR i (kidsOf x)[j] := by
      unfold inR
      congr 1
      by_cases h : (kidsOf x)[j] < (i : Int)
      · rw [decide_eq_true h, decide_eq_true (by omega)]
      · rw [decide_eq_false h, decide_eq_false (by omega)]
    rw [e]
    cases hr : inR i (kidsOf x)[j] with
    | false => rw [brkT (by rfl)]; rfl
    | true =>
      unfold inR at hr
      rw [Bool.and_eq_true, decide_eq_true_eq, decide_eq_true_eq] at hr
      have e2 : (kindsOf ns x).take (j + 1) = (kindsOf ns x).take j ++ [kindAt ns (kidsOf x)[j]] := by
        have hm : (kindsOf ns x)[j] = kindAt ns (kidsOf x)[j] := List.getElem_map ..
        rw [List.take_add_one, List.getElem?_eq_getElem hj', hm]; rfl
      have ef : fits (((kindsOf ns x).take j).length + ([(at_ (τ := tyNode) (ns, ()).1 (kidsOf x)[j]).1] : List Int).length) = true := fits_of (by
        unfold lim
        rw [List.length_take, List.length_singleton]; omega)
      rw [brkF (by rfl), brkT (by
        show (decide ((0 : Int) ≤ (kidsOf x)[j]) && decide ((kidsOf x)[j] < (ns.length : Int))) = true
        rw [decide_eq_true hr.1, decide_eq_true (by omega)]; rfl), brkT ef]
      rw [e2] at ih
      exact ih
omit hi hn in
theorem il13_ok (hx : NodeOk x) (ks : List Int) : Evt fun n => impl_nodeOk_l13 (S.tab n) x ks (namesOf x) ((namesOf x).length : Int) 0 = some (bif (namesOf x).all (okAs 1) then Sum.inr (Sum.inl (x, ks, ())) else Sum.inl (false, ())) := by
  have hg : ∀ (l : List (List Int)), (∀ m ∈ l, ∀ c ∈ m, isByte c) → Evt fun n => ∀ m ∈ l, impl_goodName (S.tab n) m = some (okAs 1 m, o_impl_goodName) := by
    intro l
    induction l with
    | nil => intro _; exact Evt.of fun _ m h => by cases h
    | cons a l ih =>
      intro h
      refine ((goodName_ok (s := a) (h a (List.mem_cons_self ..))).and (ih fun m hm => h m (List.mem_cons_of_mem _ hm))).mono fun n ⟨h1, h2⟩ m hm => ?_
      rcases List.mem_cons.1 hm with rfl | hm
      · exact h1
      · exact h2 m hm
  have hnn := hx.nn
  have := allL (F := fun T j => impl_nodeOk_l13 T x ks (namesOf x) ((namesOf x).length : Int) (j : Int)) (P := okAs 1) (l := namesOf x) (yes := Sum.inr (Sum.inl (x, ks, ()))) (no := Sum.inl (false, ())) (q := fun T => ∀ m ∈ namesOf x, impl_goodName T m = some (okAs 1 m, o_impl_goodName)) (hg _ hx.names)
    (fun T j h hT => by
      show impl_nodeOk_l13 (S.step T) _ _ _ _ _ = bif _ then impl_nodeOk_l13 T x ks (namesOf x) ((namesOf x).length : Int) ((j + 1 : Nat) : Int) else _
      rw [impl_nodeOk_l13_eq, brkT (by simp only [decide_eq_true_eq]; omega), brkT (inb_nat h), gets_lt h, hT _ (List.getElem_mem h), Option.bind_some, wrap1 (by omega)]
      cases okAs 1 (namesOf x)[j] with
      | true => rw [brkF (by rfl)]; rfl
      | false => rw [brkT (by rfl)]; rfl)
    (fun T hT => by
      show impl_nodeOk_l13 (S.step T) _ _ _ _ _ = _
      rw [impl_nodeOk_l13_eq, brkF (by simp)]) (namesOf x).length 0 (by omega)
  rw [List.drop_zero] at this
  exact this
omit hi hn in
theorem sl5n_ok (hl : (kidsOf x).length ≤ 200) : Evt fun n => spec_l2nodeok_l5 (S.tab n) (i : Int) (ns, ()) x (kidsOf x) ((kidsOf x).length : Int) 0 = some (bif (kidsOf x).all (inR i) then Sum.inr (Sum.inl ((ns, ()), x, ())) else Sum.inl (false, ())) := by
  have := allL (F := fun T j => spec_l2nodeok_l5 T (i : Int) (ns, ()) x (kidsOf x) ((kidsOf x).length : Int) (j : Int)) (P := inR i) (l := kidsOf x) (yes := Sum.inr (Sum.inl ((ns, ()), x, ()))) (no := Sum.inl (false, ())) (q := Base2) base2
    (fun T j h hT => by
      show spec_l2nodeok_l5 (S.step T) _ _ _ _ _ _ = bif _ then spec_l2nodeok_l5 T (i : Int) (ns, ()) x (kidsOf x) ((kidsOf x).length : Int) ((j + 1 : Nat) : Int) else _
      rw [spec_l2nodeok_l5_eq, brkT (by simp only [decide_eq_true_eq]; omega), brkT (inb_nat h), get_lt h, wrap1 (by omega)]
      unfold inR
      by_cases h1 : (0 : Int) ≤ (kidsOf x)[j]
      · rw [brkF (decide_eq_false (by omega)), decide_eq_true h1]
        by_cases h2 : (kidsOf x)[j] < (i : Int)
        · rw [brkF (decide_eq_false (by omega)), decide_eq_true h2]; rfl
        · rw [brkT (decide_eq_true (by omega)), decide_eq_false h2]; rfl
      · rw [brkT (decide_eq_true (by omega)), decide_eq_false h1]; rfl)
    (fun T hT => by
      show spec_l2nodeok_l5 (S.step T) _ _ _ _ _ _ = _
      rw [spec_l2nodeok_l5_eq, brkF (by simp)]) (kidsOf x).length 0 (by omega)
  rw [List.drop_zero] at this
  exact this
include hx
theorem impl_nodeOk_ok (hxi : ns[i] = x) : Evt fun n => impl_nodeOk (S.tab n) (ns, ()) (i : Int) = some (okN ns i x, o_impl_nodeOk) := by
  have hat : at_ (τ := tyNode) ns (i : Int) = x := by rw [at_node _ _ hi]; exact hxi
  have hat' : at_ (τ := tyNode) ((ns, ()) : Tr).1 (i : Int) = x := hat
  have start : ∀ n, impl_nodeOk (S.step (S.tab n)) (ns, ()) (i : Int) = _ := fun n => by
    rw [impl_nodeOk_eq, brkT (inb_nat hi), hat']
  unfold okN
  by_cases c1 : x.2.1 < 0
  · refine base2.up fun n _ => ?_
    show impl_nodeOk (S.step (S.tab n)) _ _ = _
    rw [start, brkT (decide_eq_true c1), decide_eq_true c1]; rfl
  by_cases c2 : x.2.2.1 < x.2.1
  · refine base2.up fun n _ => ?_
    show impl_nodeOk (S.step (S.tab n)) _ _ = _
    rw [start, brkF (decide_eq_false c1), brkT (decide_eq_true c2), decide_eq_false c1, decide_eq_true c2]; rfl
  by_cases c3 : x.2.2.2.1 < 0
  · refine base2.up fun n _ => ?_
    show impl_nodeOk (S.step (S.tab n)) _ _ = _
    rw [start, brkF (decide_eq_false c1), brkF (decide_eq_false c2), brkT (decide_eq_true c3), decide_eq_false c1, decide_eq_false c2, decide_eq_true c3]; rfl
  rw [decide_eq_false c1, decide_eq_false c2, decide_eq_false c3]
  by_cases c4 : 200 < (kidsOf x).length
  · refine base2.up fun n _ => ?_
    show impl_nodeOk (S.step (S.tab n)) _ _ = _
    have d4 : decide ((200 : Int) < (x.2.2.2.2.2.2.2.2.1.length : Int)) = true := decide_eq_true (by unfold kidsOf at c4; omega)
    rw [start, brkF (decide_eq_false c1), brkF (decide_eq_false c2), brkF (decide_eq_false c3), brkT d4, decide_eq_true c4]; rfl
  have d4 : decide ((200 : Int) < (x.2.2.2.2.2.2.2.2.1.length : Int)) = false := decide_eq_false (by unfold kidsOf at c4; omega)
  rw [decide_eq_false c4]
  simp only [cond_false]
  have hl : (kidsOf x).length ≤ 200 := by omega
  have hks : (kindsOf ns x).length ≤ 200 := by unfold kindsOf; rw [List.length_map]; exact hl
  rw [← alike]
  by_cases c5 : ¬ ((namesOf x).length : Int) ≤ 200
  · have d5 : decide ((200 : Int) < (x.2.2.2.2.2.2.2.1.length : Int)) = true := decide_eq_true (by unfold namesOf at c5; omega)
    refine base2.up fun n _ => ?_
    show impl_nodeOk (S.step (S.tab n)) _ _ = _
    rw [start, brkF (decide_eq_false c1), brkF (decide_eq_false c2), brkF (decide_eq_false c3), brkF d4, brkT d5, decide_eq_false c5]
    cases (kidsOf x).all (inR i) <;> rfl
  replace c5 := Decidable.not_not.1 c5
  have d5 : decide ((200 : Int) < (x.2.2.2.2.2.2.2.1.length : Int)) = false := decide_eq_false (by unfold namesOf at c5; omega)
  rw [decide_eq_true c5, Bool.true_and]
  have h6 := il6_ok hi hn hl (kidsOf x).length 0 (by omega)
  rw [List.drop_zero] at h6
  have step2 : ∀ n, impl_nodeOk (S.step (S.tab n)) (ns, ()) (i : Int) = _ := fun n => by
    rw [start, brkF (decide_eq_false c1), brkF (decide_eq_false c2), brkF (decide_eq_false c3), brkF d4, brkF d5]
  cases hr : (kidsOf x).all (inR i) with
  | false =>
    rw [hr] at h6
    refine h6.up fun n h => ?_
    show impl_nodeOk (S.step (S.tab n)) _ _ = _
    have h : impl_nodeOk_l6 (S.tab n) (i : Int) (ns, ()) x [] x.2.2.2.2.2.2.2.2.1 (x.2.2.2.2.2.2.2.2.1.length : Int) 0 = _ := h
    rw [step2, h]; rfl
  | true =>
    rw [hr] at h6
    have h13 := il13_ok hx (kindsOf ns x)
    have hIF := if_ok (kindsOf ns x) hks ((namesOf x).length : Int) x.2.2.2.2.1 x.2.2.2.2.2.1 x.2.2.2.2.2.2.1 hx.text
    have step3 : ∀ n, impl_nodeOk_l6 (S.tab n) (i : Int) (ns, ()) x [] x.2.2.2.2.2.2.2.2.1 (x.2.2.2.2.2.2.2.2.1.length : Int) 0 = some (Sum.inr (Sum.inl (x, kindsOf ns x, ()))) → impl_nodeOk (S.step (S.tab n)) (ns, ()) (i : Int) = _ := fun n h => by
      rw [step2, h, Option.bind_some]
    cases hna : (namesOf x).all (okAs 1) with
    | false =>
      rw [hna] at h13
      refine (h6.and h13).up fun n ⟨h, h13⟩ => ?_
      show impl_nodeOk (S.step (S.tab n)) _ _ = _
      have h13 : impl_nodeOk_l13 (S.tab n) x (kindsOf ns x) x.2.2.2.2.2.2.2.1 (x.2.2.2.2.2.2.2.1.length : Int) 0 = _ := h13
      rw [step3 n h]
      show (impl_nodeOk_l13 (S.tab n) x (kindsOf ns x) x.2.2.2.2.2.2.2.1 (x.2.2.2.2.2.2.2.1.length : Int) 0).bind _ = _
      rw [h13]; rfl
    | true =>
      rw [hna] at h13
      have h84 : Evt fun n => ∀ fl, impl_nodeOk_j84 (S.tab n) (kindsOf ns x) ((namesOf x).length : Int) x.2.2.2.2.1 x.2.2.2.2.2.1 x.2.2.2.2.2.2.1 ((kindsOf ns x).length : Int) x.1 fl = some (R84 (kindsOf ns x) ((namesOf x).length : Int) x.2.2.2.2.1 x.2.2.2.2.2.1 x.2.2.2.2.2.2.1 x.1 fl) := hIF.up fun n h fl => r84 h hks x.1 fl
      have h72 : Evt fun n => ∀ fl, impl_nodeOk_j72 (S.tab n) (kindsOf ns x) ((namesOf x).length : Int) x.2.2.2.2.1 x.2.2.2.2.2.1 x.2.2.2.2.2.2.1 ((kindsOf ns x).length : Int) x.1 fl = some (R72 (kindsOf ns x) ((namesOf x).length : Int) x.2.2.2.2.1 x.2.2.2.2.2.1 x.2.2.2.2.2.2.1 x.1 fl) := (hIF.and h84).up fun n ⟨h, h'⟩ fl => r72 h hks x.1 h' fl
      have h65 : Evt fun n => ∀ fl, impl_nodeOk_j65 (S.tab n) (kindsOf ns x) ((namesOf x).length : Int) x.2.2.2.2.1 x.2.2.2.2.2.1 x.2.2.2.2.2.2.1 ((kindsOf ns x).length : Int) x.1 fl = some (R65 (kindsOf ns x) ((namesOf x).length : Int) x.2.2.2.2.1 x.2.2.2.2.2.1 x.2.2.2.2.2.2.1 x.1 fl) := (hIF.and h72).up fun n ⟨h, h'⟩ fl => r65 h hks x.1 h' fl
      have h50 : Evt fun n => ∀ fl, impl_nodeOk_j50 (S.tab n) (kindsOf ns x) ((namesOf x).length : Int) x.2.2.2.2.1 x.2.2.2.2.2.1 x.2.2.2.2.2.2.1 ((kindsOf ns x).length : Int) x.1 fl = some (R50 (kindsOf ns x) ((namesOf x).length : Int) x.2.2.2.2.1 x.2.2.2.2.2.1 x.2.2.2.2.2.2.1 x.1 fl) := (hIF.and h65).up fun n ⟨h, h'⟩ fl => r50 h hks x.1 h' fl
      refine ((h6.and h13).and (hIF.and h50)).up fun n ⟨⟨h, h13⟩, hI, h50⟩ => ?_
      show impl_nodeOk (S.step (S.tab n)) _ _ = _
      have h13 : impl_nodeOk_l13 (S.tab n) x (kindsOf ns x) x.2.2.2.2.2.2.2.1 (x.2.2.2.2.2.2.2.1.length : Int) 0 = _ := h13
      rw [step3 n h]
      show (impl_nodeOk_l13 (S.tab n) x (kindsOf ns x) x.2.2.2.2.2.2.2.1 (x.2.2.2.2.2.2.2.1.length : Int) 0).bind _ = _
      rw [h13]
      simp only [cond_true, Option.bind_some, out2, Sum.elim_inr, Sum.elim_inl]
      have hnn : (x.2.2.2.2.2.2.2.1.length : Int) = ((namesOf x).length : Int) := rfl
      rw [hnn]
      unfold KI
      by_cases k1 : x.1 = 1
      · rw [brkT (decide_eq_true k1), decide_eq_true k1, cond_true, hI.l26]
        cases (kindsOf ns x).all statB with
        | true => simp only [cond_true, Option.bind_some, out2, Sum.elim_inr, Sum.elim_inl, hI.pl, Bool.true_and]
        | false => rfl
      rw [brkF (decide_eq_false k1), decide_eq_false k1, cond_false]
      by_cases k2 : x.1 = 2
      · rw [brkT (decide_eq_true k2), decide_eq_true k2, cond_true, hI.pl, hI.ex0n]
        simp only [Option.bind_some]
        cases PL true false false false ((namesOf x).length : Int) x.2.2.2.2.1 x.2.2.2.2.2.1 x.2.2.2.2.2.2.1 with
        | false => rw [brk_false]; rfl
        | true =>
          rw [brk_true]
          cases decide ((1 : Int) ≤ ((namesOf x).length : Int)) with
          | false => rw [brk_false]; rfl
          | true => rw [brk_true]; rfl
      rw [brkF (decide_eq_false k2), decide_eq_false k2, cond_false]
      by_cases k3 : x.1 = 3
      · rw [brkT (decide_eq_true k3), decide_eq_true k3, cond_true, hI.pl]
        simp only [Option.bind_some]
        cases PL true false false false ((namesOf x).length : Int) x.2.2.2.2.1 x.2.2.2.2.2.1 x.2.2.2.2.2.2.1 with
        | false => rw [brk_false]; rfl
        | true =>
          rw [brk_true]
          cases decide (((namesOf x).length : Int) = 1) with
          | false => rw [brk_false]; rfl
          | true =>
            rw [brk_true]
            by_cases h1 : (kindsOf ns x).length = 1
            · rw [brkT (decide_eq_true (by omega)), hI.ex01 (by omega), decide_eq_true (show ((kindsOf ns x).length : Int) = 1 by omega)]; rfl
            · rw [brkF (decide_eq_false (by omega)), decide_eq_false (show ¬ ((kindsOf ns x).length : Int) = 1 by omega)]; rfl
      rw [brkF (decide_eq_false k3), decide_eq_false k3, cond_false]
      by_cases k4 : x.1 = 4
      · rw [brkT (decide_eq_true k4), decide_eq_true k4, cond_true, hI.pl]
        simp only [Option.bind_some]
        cases PL true false false false ((namesOf x).length : Int) x.2.2.2.2.1 x.2.2.2.2.2.1 x.2.2.2.2.2.2.1 with
        | false => rw [brk_false]; rfl
        | true =>
          rw [brk_true]
          cases decide (((namesOf x).length : Int) = 1) with
          | false => rw [brk_false]; rfl
          | true =>
            rw [brk_true]
            by_cases h1 : (kindsOf ns x).length = 1
            · rw [brkT (decide_eq_true (by omega)), brkT (decide_eq_true (by omega)), decide_eq_true (show ((kindsOf ns x).length : Int) = 1 by omega)]; rfl
            · rw [brkF (decide_eq_false (by omega)), decide_eq_false (show ¬ ((kindsOf ns x).length : Int) = 1 by omega)]; rfl
      rw [brkF (decide_eq_false k4), decide_eq_false k4, cond_false]
      by_cases k5 : x.1 = 5
      · rw [brkT (decide_eq_true k5), decide_eq_true k5, cond_true, hI.pl]
        simp only [Option.bind_some]
        cases PL false false true false ((namesOf x).length : Int) x.2.2.2.2.1 x.2.2.2.2.2.1 x.2.2.2.2.2.2.1 with
        | false => rw [brkT (by rfl)]; rfl
        | true =>
          rw [brkF (by rfl)]
          exact tail5 (kindsOf ns x) x.2.2.2.2.2.1 hks hI.exu hI.l42
      rw [brkF (decide_eq_false k5), decide_eq_false k5, cond_false]
      by_cases k6 : x.1 = 6
      · rw [brkT (decide_eq_true k6), decide_eq_true k6, cond_true, h50]
        cases hR : R50 (kindsOf ns x) ((namesOf x).length : Int) x.2.2.2.2.1 x.2.2.2.2.2.1 x.2.2.2.2.2.2.1 x.1 true with
        | inl y => rfl
        | inr y => cases y with
          | inl y => rfl
          | inr y => exact y.elim
      · rw [brkF (decide_eq_false k6), decide_eq_false k6, cond_false, h50]
        cases hR : R50 (kindsOf ns x) ((namesOf x).length : Int) x.2.2.2.2.1 x.2.2.2.2.2.1 x.2.2.2.2.2.2.1 x.1 (decide (x.1 = 16)) with
        | inl y => rfl
        | inr y => cases y with
          | inl y => rfl
          | inr y => exact y.elim
end Go.Abs.D
end

section
namespace Go.Abs.D
variable {ns : List tyNode.den} {i : Nat} {x : tyNode.den} (hx : NodeOk x) (hi : i < ns.length) (hn : ns.length ≤ 3000)
theorem tail5s {T : S.Tab} (t : Tr) (x : tyNode.den) (ks : List Int) (z : Int) (hz : x.2.2.2.2.2.1 = z) (hl : ks.length ≤ 200) (exu : 1 ≤ z → z ≤ ks.length → spec_l2exprs T t x z (ks.length : Int) = some (EX ks z.toNat ks.length, o_spec_l2exprs))
    (l21 : 1 ≤ z → z ≤ ks.length → spec_l2statement_l21 T t x (ks.length : Int) 0 = some (bif (subN ks 0 z.toNat).all targetB then Sum.inr (Sum.inl (t, x, (ks.length : Int), ())) else Sum.inl (false, ()))) :
    brk (decide (z < 1)) (some (false, o_spec_l2statement)) (brk (decide ((ks.length : Int) ≤ z)) (some (false, o_spec_l2statement)) ((spec_l2statement_l21 T t x (ks.length : Int) 0).bind (out2 (fun y21 => some (y21.1, o_spec_l2statement)) (fun y21 => (spec_l2exprs T y21.1 y21.2.1 y21.2.1.2.2.2.2.2.1 y21.2.2.1).bind fun d112 => some (d112.1, o_spec_l2statement))))) =
      some (true && (decide (1 ≤ z) && (decide (z < (ks.length : Int)) && ((subN ks 0 z.toNat).all targetB && EX ks z.toNat ks.length))), o_spec_l2statement) := by
  rw [Bool.true_and]
  by_cases h1 : 1 ≤ z
  · rw [brkF (decide_eq_false (by omega)), decide_eq_true h1]
    by_cases h2 : z < (ks.length : Int)
    · rw [brkF (decide_eq_false (by omega)), decide_eq_true h2, l21 h1 (by omega)]
      cases (subN ks 0 z.toNat).all targetB with
      | true =>
        simp only [cond_true, Option.bind_some, out2, Sum.elim_inr, Sum.elim_inl]
        rw [hz, exu h1 (by omega)]; rfl
      | false => rfl
    · rw [brkT (decide_eq_true (by omega)), decide_eq_false h2]; rfl
  · rw [brkT (decide_eq_true (by omega)), decide_eq_false h1]; rfl
theorem j46s {T : S.Tab} {t : Tr} {x : tyNode.den} {ks : List Int} {names : List (List Int)} {op num : Int} {text : List Int} (h : SF T t x ks names op num text) : spec_l2statement_j46 (S.step T) t x (ks.length : Int) = some (Sum.inl (bif decide (x.1 = 15) then PL false false false false (names.length : Int) op num text && (decide ((ks.length : Int) = 1) && EX ks 0 1) else false, ())) := by
  rw [spec_l2statement_j46_eq]
  by_cases k : x.1 = 15
  · rw [brkT (decide_eq_true k), decide_eq_true k, cond_true, h.pl]
    simp only [Option.bind_some]
    cases PL false false false false (names.length : Int) op num text with
    | false => rw [brk_false]; rfl
    | true =>
      rw [brk_true]
      by_cases h1 : ks.length = 1
      · rw [brkT (decide_eq_true (by omega)), h.ex01 (by omega), decide_eq_true (show (ks.length : Int) = 1 by omega)]; rfl
      · rw [brkF (decide_eq_false (by omega)), decide_eq_false (show ¬ (ks.length : Int) = 1 by omega)]; rfl
  · rw [brkF (decide_eq_false k), decide_eq_false k]; rfl
theorem j46e {T : S.Tab} {t : Tr} {x : tyNode.den} {ks : List Int} {names : List (List Int)} {op num : Int} {text : List Int} (h : SF T t x ks names op num text) : spec_l2expression_j46 (S.step T) t x (ks.length : Int) = some (Sum.inl (bif decide (x.1 = 42) then decide ((ks.length : Int) = 1) && (EX ks 0 1 && (PL false false false true (names.length : Int) op num text && okAs 1 text)) else false, ())) := by
  rw [spec_l2expression_j46_eq]
  by_cases k : x.1 = 42
  · rw [brkT (decide_eq_true k), decide_eq_true k, cond_true]
    by_cases h1 : ks.length = 1
    · rw [brkT (decide_eq_true (by omega)), h.ex01 (by omega), decide_eq_true (show (ks.length : Int) = 1 by omega)]
      simp only [Option.bind_some, h.pl]
      cases EX ks 0 1 with
      | false => rw [brk_false]; rfl
      | true =>
        rw [brk_true]
        cases PL false false false true (names.length : Int) op num text with
        | false => rw [brk_false]; rfl
        | true =>
          rw [brk_true, h.xtext, h.gn]; rfl
    · rw [brkF (decide_eq_false (by omega)), decide_eq_false (show ¬ (ks.length : Int) = 1 by omega)]; rfl
  · rw [brkF (decide_eq_false k), decide_eq_false k]; rfl
def Fine (t : Tr) (x : tyNode.den) (ks : List Int) (y : AnS) : Prop := (∃ b, y = Sum.inl (b, ())) ∨ y = Sum.inr (Sum.inl (t, x, (ks.length : Int), ()))
theorem fine_if {t : Tr} {x : tyNode.den} {ks : List Int} {c : Bool} {a b : AnS} (ha : Fine t x ks a) (hb : Fine t x ks b) : Fine t x ks (bif c then a else b) := by cases c <;> assumption
theorem fine_l {t : Tr} {x : tyNode.den} {ks : List Int} (b : Bool) : Fine t x ks (Sum.inl (b, ())) := .inl ⟨b, rfl⟩
theorem fine_r {t : Tr} {x : tyNode.den} {ks : List Int} : Fine t x ks (Sum.inr (Sum.inl (t, x, (ks.length : Int), ()))) := .inr rfl
section
variable {t : Tr} {ks : List Int} {names : List (List Int)} {op num : Int} {text : List Int} {kind : Int}
theorem fine18 (fl : Bool) : Fine t x ks (Q18 t x ks names op num text kind fl) := by
  unfold Q18
  repeat refine fine_if (fine_l _) ?_
  exact fine_r
theorem fine7 (fl : Bool) : Fine t x ks (Q7 t x ks names op num text kind fl) := by
  unfold Q7
  exact fine_if (fine_l _) (fine_if (fine_l _) (fine_if (fine_l _) (fine_if (fine_l _) (fine_if (fine_l _) (fine_if (fine18 _) (fine18 _))))))
theorem fine41 (fl : Bool) : Fine t x ks (Q41 t x ks names op num text kind fl) := by
  unfold Q41
  repeat refine fine_if (fine_l _) ?_
  exact fine_r
theorem fine28 (fl : Bool) : Fine t x ks (Q28 t x ks names op num text kind fl) := by
  unfold Q28
  exact fine_if (fine_l _) (fine_if (fine_l _) (fine_if (fine_l _) (fine_if (fine_l _) (fine_if (fine_l _) (fine_if (fine41 _) (fine41 _))))))
end
section
variable (hk : ∀ k ∈ kidsOf x, 0 ≤ k ∧ k < (ns.length : Int)) (hl : (kidsOf x).length ≤ 200)
include hx hk hl
theorem expression_ok : Evt fun n => spec_l2expression (S.tab n) (ns, ()) x = some (KE (ns, ()) x (kindsOf ns x) (namesOf x) x.2.2.2.2.1 x.2.2.2.2.2.1 x.2.2.2.2.2.2.1 x.1, o_spec_l2expression) := by
  have hks : (kindsOf ns x).length ≤ 200 := by unfold kindsOf; rw [List.length_map]; exact hl
  have hSF := sf_ok hk hl hx.nn
  have h18 : Evt fun n => ∀ fl, spec_l2expression_j18 (S.tab n) (ns, ()) x ((kindsOf ns x).length : Int) x.1 fl = some (Q18 (ns, ()) x (kindsOf ns x) (namesOf x) x.2.2.2.2.1 x.2.2.2.2.2.1 x.2.2.2.2.2.2.1 x.1 fl) := hSF.up fun n h fl => q18 h hks x.1 fl
  have h7 : Evt fun n => ∀ fl, spec_l2expression_j7 (S.tab n) (ns, ()) x ((kindsOf ns x).length : Int) x.1 fl = some (Q7 (ns, ()) x (kindsOf ns x) (namesOf x) x.2.2.2.2.1 x.2.2.2.2.2.1 x.2.2.2.2.2.2.1 x.1 fl) := (hSF.and h18).up fun n ⟨h, h'⟩ fl => q7 h hks x.1 h' fl
  have h46 : Evt fun n => spec_l2expression_j46 (S.tab n) (ns, ()) x ((kindsOf ns x).length : Int) = _ := hSF.up fun n h => j46e h
  refine ((h7.and h46).and hSF).up fun n ⟨⟨h7, h46⟩, hF⟩ => ?_
  show spec_l2expression (S.step (S.tab n)) _ _ = _
  have hlen : (x.2.2.2.2.2.2.2.2.1.length : Int) = ((kindsOf ns x).length : Int) := by rw [hF.xlen]
  have fin : ∀ y : AnS, Fine (ns, ()) x (kindsOf ns x) y → ((some y : Option AnS).bind (out2 (fun y7 => some (y7.1, o_spec_l2expression)) (fun y7 => (spec_l2expression_j46 (S.tab n) y7.1 y7.2.1 y7.2.2.1).bind (out1 (fun y46 => some (y46.1, o_spec_l2expression)))))) = some (An2 y (bif decide (x.1 = 42) then decide (((kindsOf ns x).length : Int) = 1) && (EX (kindsOf ns x) 0 1 && (PL false false false true ((namesOf x).length : Int) x.2.2.2.2.1 x.2.2.2.2.2.1 x.2.2.2.2.2.2.1 && okAs 1 x.2.2.2.2.2.2.1)) else false), o_spec_l2expression) := fun y hy => by
    rcases hy with ⟨b, rfl⟩ | rfl
    · rfl
    · show (spec_l2expression_j46 (S.tab n) (ns, ()) x ((kindsOf ns x).length : Int)).bind _ = _
      rw [h46]; rfl
  rw [spec_l2expression_eq]
  rw [hlen]
  unfold KE
  by_cases k20 : x.1 = 20
  · rw [brkT (decide_eq_true k20), decide_eq_true k20, h7]
    exact fin _ (fine7 _)
  rw [brkF (decide_eq_false k20), decide_eq_false k20]
  by_cases k21 : x.1 = 21
  · rw [brkT (decide_eq_true k21), decide_eq_true k21, h7]
    exact fin _ (fine7 _)
  rw [brkF (decide_eq_false k21), decide_eq_false k21]
  by_cases k22 : x.1 = 22
  · rw [brkT (decide_eq_true k22), decide_eq_true k22, h7]
    exact fin _ (fine7 _)
  rw [brkF (decide_eq_false k22), decide_eq_false k22, h7]
  exact fin _ (fine7 _)
theorem statement_ok : Evt fun n => spec_l2statement (S.tab n) (ns, ()) x = some (KS (ns, ()) x (kindsOf ns x) (namesOf x) x.2.2.2.2.1 x.2.2.2.2.2.1 x.2.2.2.2.2.2.1 x.1, o_spec_l2statement) := by
  have hks : (kindsOf ns x).length ≤ 200 := by unfold kindsOf; rw [List.length_map]; exact hl
  have hSF := sf_ok hk hl hx.nn
  have h41 : Evt fun n => ∀ fl, spec_l2statement_j41 (S.tab n) (ns, ()) x ((kindsOf ns x).length : Int) x.1 fl = some (Q41 (ns, ()) x (kindsOf ns x) (namesOf x) x.2.2.2.2.1 x.2.2.2.2.2.1 x.2.2.2.2.2.2.1 x.1 fl) := hSF.up fun n h fl => q41 h hks x.1 fl
  have h28 : Evt fun n => ∀ fl, spec_l2statement_j28 (S.tab n) (ns, ()) x ((kindsOf ns x).length : Int) x.1 fl = some (Q28 (ns, ()) x (kindsOf ns x) (namesOf x) x.2.2.2.2.1 x.2.2.2.2.2.1 x.2.2.2.2.2.2.1 x.1 fl) := (hSF.and h41).up fun n ⟨h, h'⟩ fl => q28 h hks x.1 h' fl
  have h46 : Evt fun n => spec_l2statement_j46 (S.tab n) (ns, ()) x ((kindsOf ns x).length : Int) = _ := hSF.up fun n h => j46s h
  refine ((h28.and h46).and hSF).up fun n ⟨⟨h28, h46⟩, hF⟩ => ?_
  show spec_l2statement (S.step (S.tab n)) _ _ = _
  have hlen : (x.2.2.2.2.2.2.2.2.1.length : Int) = ((kindsOf ns x).length : Int) := by rw [hF.xlen]
  have fin : ∀ y : AnS, Fine (ns, ()) x (kindsOf ns x) y → ((some y : Option AnS).bind (out2 (fun y28 => some (y28.1, o_spec_l2statement)) (fun y28 => (spec_l2statement_j46 (S.tab n) y28.1 y28.2.1 y28.2.2.1).bind (out1 (fun y46 => some (y46.1, o_spec_l2statement)))))) = some (An2 y (bif decide (x.1 = 15) then PL false false false false ((namesOf x).length : Int) x.2.2.2.2.1 x.2.2.2.2.2.1 x.2.2.2.2.2.2.1 && (decide (((kindsOf ns x).length : Int) = 1) && EX (kindsOf ns x) 0 1) else false), o_spec_l2statement) := fun y hy => by
    rcases hy with ⟨b, rfl⟩ | rfl
    · rfl
    · show (spec_l2statement_j46 (S.tab n) (ns, ()) x ((kindsOf ns x).length : Int)).bind _ = _
      rw [h46]; rfl
  rw [spec_l2statement_eq]
  rw [hlen]
  unfold KS
  by_cases k1 : x.1 = 1
  · rw [brkT (decide_eq_true k1), decide_eq_true k1, hF.l5]
    cases (kindsOf ns x).all statB with
    | true => simp only [cond_true, Option.bind_some, out2, Sum.elim_inr, Sum.elim_inl, hF.pl, Bool.true_and]
    | false => rfl
  rw [brkF (decide_eq_false k1), decide_eq_false k1, cond_false]
  by_cases k2 : x.1 = 2
  · rw [brkT (decide_eq_true k2), decide_eq_true k2, cond_true, hF.pl, hF.nm, hF.ex0n]
    simp only [Option.bind_some]
    cases PL true false false false ((namesOf x).length : Int) x.2.2.2.2.1 x.2.2.2.2.2.1 x.2.2.2.2.2.2.1 with
    | false => rw [brk_false]; rfl
    | true =>
      rw [brk_true]
      cases NM (namesOf x) 1 200 with
      | false => rw [brk_false]; rfl
      | true => rw [brk_true]; rfl
  rw [brkF (decide_eq_false k2), decide_eq_false k2, cond_false]
  by_cases k3 : x.1 = 3
  · rw [brkT (decide_eq_true k3), decide_eq_true k3, cond_true, hF.pl, hF.nm]
    simp only [Option.bind_some]
    cases PL true false false false ((namesOf x).length : Int) x.2.2.2.2.1 x.2.2.2.2.2.1 x.2.2.2.2.2.2.1 with
    | false => rw [brk_false]; rfl
    | true =>
      rw [brk_true]
      cases NM (namesOf x) 1 1 with
      | false => rw [brk_false]; rfl
      | true =>
        rw [brk_true]
        by_cases h1 : (kindsOf ns x).length = 1
        · rw [brkT (decide_eq_true (by omega)), hF.ex01 (by omega), decide_eq_true (show ((kindsOf ns x).length : Int) = 1 by omega)]; rfl
        · rw [brkF (decide_eq_false (by omega)), decide_eq_false (show ¬ ((kindsOf ns x).length : Int) = 1 by omega)]; rfl
  rw [brkF (decide_eq_false k3), decide_eq_false k3, cond_false]
  by_cases k4 : x.1 = 4
  · rw [brkT (decide_eq_true k4), decide_eq_true k4, cond_true, hF.pl, hF.nm]
    simp only [Option.bind_some]
    cases PL true false false false ((namesOf x).length : Int) x.2.2.2.2.1 x.2.2.2.2.2.1 x.2.2.2.2.2.2.1 with
    | false => rw [brk_false]; rfl
    | true =>
      rw [brk_true]
      cases NM (namesOf x) 1 1 with
      | false => rw [brk_false]; rfl
      | true =>
        rw [brk_true]
        by_cases h1 : (kindsOf ns x).length = 1
        · rw [brkT (decide_eq_true (by omega)), hF.k0 (by omega), decide_eq_true (show ((kindsOf ns x).length : Int) = 1 by omega)]; rfl
        · rw [brkF (decide_eq_false (by omega)), decide_eq_false (show ¬ ((kindsOf ns x).length : Int) = 1 by omega)]; rfl
  rw [brkF (decide_eq_false k4), decide_eq_false k4, cond_false]
  by_cases k5 : x.1 = 5
  · rw [brkT (decide_eq_true k5), decide_eq_true k5, cond_true, hF.pl]
    simp only [Option.bind_some]
    cases PL false false true false ((namesOf x).length : Int) x.2.2.2.2.1 x.2.2.2.2.2.1 x.2.2.2.2.2.2.1 with
    | false => rw [brkT (by rfl)]; rfl
    | true =>
      rw [brkF (by rfl)]
      exact tail5s (ns, ()) x (kindsOf ns x) x.2.2.2.2.2.1 rfl hks hF.exu hF.l21
  rw [brkF (decide_eq_false k5), decide_eq_false k5, cond_false]
  by_cases k6 : x.1 = 6
  · rw [brkT (decide_eq_true k6), decide_eq_true k6, cond_true, h28]
    exact fin _ (fine28 _)
  · rw [brkF (decide_eq_false k6), decide_eq_false k6, cond_false, h28]
    exact fin _ (fine28 _)
end
include hx hi
theorem spec_nodeok_ok (hxi : ns[i] = x) : Evt fun n => spec_l2nodeok (S.tab n) (ns, ()) (i : Int) = some (okN ns i x, o_spec_l2nodeok) := by
  have hat : at_ (τ := tyNode) ((ns, ()) : Tr).1 (i : Int) = x := by
    show at_ (τ := tyNode) ns (i : Int) = x
    rw [at_node _ _ hi]; exact hxi
  have start : ∀ n, spec_l2nodeok (S.step (S.tab n)) (ns, ()) (i : Int) = _ := fun n => by
    rw [spec_l2nodeok_eq, brkT (inb_nat hi), hat]
  unfold okN
  by_cases c1 : x.2.1 < 0
  · refine base2.up fun n _ => ?_
    show spec_l2nodeok (S.step (S.tab n)) _ _ = _
    rw [start, brkT (decide_eq_true c1), decide_eq_true c1]; rfl
  by_cases c2 : x.2.2.1 < x.2.1
  · refine base2.up fun n _ => ?_
    show spec_l2nodeok (S.step (S.tab n)) _ _ = _
    rw [start, brkF (decide_eq_false c1), brkT (decide_eq_true c2), decide_eq_false c1, decide_eq_true c2]; rfl
  by_cases c3 : x.2.2.2.1 < 0
  · refine base2.up fun n _ => ?_
    show spec_l2nodeok (S.step (S.tab n)) _ _ = _
    rw [start, brkF (decide_eq_false c1), brkF (decide_eq_false c2), brkT (decide_eq_true c3), decide_eq_false c1, decide_eq_false c2, decide_eq_true c3]; rfl
  rw [decide_eq_false c1, decide_eq_false c2, decide_eq_false c3]
  by_cases c4 : 200 < (kidsOf x).length
  · refine base2.up fun n _ => ?_
    show spec_l2nodeok (S.step (S.tab n)) _ _ = _
    have d4 : decide ((200 : Int) < (x.2.2.2.2.2.2.2.2.1.length : Int)) = true := decide_eq_true (by unfold kidsOf at c4; omega)
    rw [start, brkF (decide_eq_false c1), brkF (decide_eq_false c2), brkF (decide_eq_false c3), brkT d4, decide_eq_true c4]; rfl
  have d4 : decide ((200 : Int) < (x.2.2.2.2.2.2.2.2.1.length : Int)) = false := decide_eq_false (by unfold kidsOf at c4; omega)
  rw [decide_eq_false c4]
  simp only [cond_false]
  have hl : (kidsOf x).length ≤ 200 := by omega
  have h5 := sl5n_ok (ns := ns) (i := i) (x := x) hl
  have step2 : ∀ n, spec_l2nodeok (S.step (S.tab n)) (ns, ()) (i : Int) = _ := fun n => by
    rw [start, brkF (decide_eq_false c1), brkF (decide_eq_false c2), brkF (decide_eq_false c3), brkF d4]
  cases hr : (kidsOf x).all (inR i) with
  | false =>
    rw [hr] at h5
    refine h5.up fun n h => ?_
    show spec_l2nodeok (S.step (S.tab n)) _ _ = _
    have h : spec_l2nodeok_l5 (S.tab n) (i : Int) (ns, ()) x x.2.2.2.2.2.2.2.2.1 (x.2.2.2.2.2.2.2.2.1.length : Int) 0 = _ := h
    rw [step2, h]; rfl
  | true =>
    rw [hr] at h5
    have hk : ∀ k ∈ kidsOf x, 0 ≤ k ∧ k < (ns.length : Int) := fun k hkm => by
      have := List.all_eq_true.1 hr k hkm
      unfold inR at this
      rw [Bool.and_eq_true, decide_eq_true_eq, decide_eq_true_eq] at this
      omega
    have step3 : ∀ n, spec_l2nodeok_l5 (S.tab n) (i : Int) (ns, ()) x x.2.2.2.2.2.2.2.2.1 (x.2.2.2.2.2.2.2.2.1.length : Int) 0 = some (Sum.inr (Sum.inl ((ns, ()), x, ()))) → spec_l2nodeok (S.step (S.tab n)) (ns, ()) (i : Int) = _ := fun n h => by
      rw [step2, h, Option.bind_some]
    cases hs : statB x.1 with
    | true =>
      refine ((h5.and stat_ok).and (statement_ok hx hk hl)).up fun n ⟨⟨h, hst⟩, hS⟩ => ?_
      show spec_l2nodeok (S.step (S.tab n)) _ _ = _
      rw [step3 n h]
      show (spec_l2stat (S.tab n) x.1).bind _ = _
      rw [hst, Option.bind_some, hs, brkT (by rfl)]
      show (spec_l2statement (S.tab n) (ns, ()) x).bind _ = _
      rw [hS]; rfl
    | false =>
      refine ((h5.and stat_ok).and (expression_ok hx hk hl)).up fun n ⟨⟨h, hst⟩, hE⟩ => ?_
      show spec_l2nodeok (S.step (S.tab n)) _ _ = _
      rw [step3 n h]
      show (spec_l2stat (S.tab n) x.1).bind _ = _
      rw [hst, Option.bind_some, hs, brkF (by rfl)]
      show (spec_l2expression (S.tab n) (ns, ()) x).bind _ = _
      rw [hE]; rfl
end Go.Abs.D
end

section
namespace Go.Abs.D
def okAt (ns : List tyNode.den) (j : Nat) : Bool := match ns[j]? with | some x => okN ns j x | none => false
def okQ (ns : List tyNode.den) (j : Nat) : Bool := decide (j < ns.length) && okAt ns j
theorem okQ_end {ns : List tyNode.den} : ∀ j, ns.length ≤ j → okQ ns j = false := fun j h => by unfold okQ; rw [decide_eq_false (by omega)]; rfl
def badN (ns : List tyNode.den) : Nat := stop (okQ ns) ns.length 0
abbrev Fa : Type := Int × Int × Unit
section
variable {ns : List tyNode.den} (hN : ∀ x ∈ ns, NodeOk x) (hn : ns.length ≤ 3000)
include hN hn
theorem impl_all : Evt fun n => ∀ j ∈ List.range ns.length, impl_nodeOk (S.tab n) (ns, ()) (j : Int) = some (okAt ns j, o_impl_nodeOk) := by
  have : ∀ (l : List Nat), (∀ j ∈ l, j < ns.length) → Evt fun n => ∀ j ∈ l, impl_nodeOk (S.tab n) (ns, ()) (j : Int) = some (okAt ns j, o_impl_nodeOk) := by
    intro l
    induction l with
    | nil => intro _; exact Evt.of fun _ j h => by cases h
    | cons a l ih =>
      intro h
      have ha := h a (List.mem_cons_self ..)
      have e : okAt ns a = okN ns a ns[a] := by unfold okAt; rw [List.getElem?_eq_getElem ha]
      refine ((impl_nodeOk_ok (hN _ (List.getElem_mem ha)) ha hn rfl).and (ih fun j hj => h j (List.mem_cons_of_mem _ hj))).mono fun n ⟨h1, h2⟩ j hj => ?_
      rcases List.mem_cons.1 hj with rfl | hj
      · rw [e]; exact h1
      · exact h2 j hj
  exact this _ fun j hj => List.mem_range.1 hj
omit hn in
theorem spec_all : Evt fun n => ∀ j ∈ List.range ns.length, spec_l2nodeok (S.tab n) (ns, ()) (j : Int) = some (okAt ns j, o_spec_l2nodeok) := by
  have : ∀ (l : List Nat), (∀ j ∈ l, j < ns.length) → Evt fun n => ∀ j ∈ l, spec_l2nodeok (S.tab n) (ns, ()) (j : Int) = some (okAt ns j, o_spec_l2nodeok) := by
    intro l
    induction l with
    | nil => intro _; exact Evt.of fun _ j h => by cases h
    | cons a l ih =>
      intro h
      have ha := h a (List.mem_cons_self ..)
      have e : okAt ns a = okN ns a ns[a] := by unfold okAt; rw [List.getElem?_eq_getElem ha]
      refine ((spec_nodeok_ok (hN _ (List.getElem_mem ha)) ha rfl).and (ih fun j hj => h j (List.mem_cons_of_mem _ hj))).mono fun n ⟨h1, h2⟩ j hj => ?_
      rcases List.mem_cons.1 hj with rfl | hj
      · rw [e]; exact h1
      · exact h2 j hj
  exact this _ fun j hj => List.mem_range.1 hj
theorem il5_ok (z : Int) (f : Fa) : Evt fun n => impl_TreeOk_l5 (S.tab n) (ns, ()) f z (ns.length : Int) 0 = some (bif decide (badN ns < ns.length) then Sum.inl ((2, (badN ns : Int), ()), ()) else Sum.inr (Sum.inl ((ns, ()), f, z, ()))) :=
  adv (F := fun T (j : Nat) => impl_TreeOk_l5 T (ns, ()) f z (ns.length : Int) (j : Int)) (q := okQ ns) (N := ns.length)
    (out := fun j => bif decide (j < ns.length) then Sum.inl ((2, (j : Int), ()), ()) else Sum.inr (Sum.inl ((ns, ()), f, z, ())))
    (p := fun T => ∀ j ∈ List.range ns.length, impl_nodeOk T (ns, ()) (j : Int) = some (okAt ns j, o_impl_nodeOk)) (impl_all hN hn) okQ_end
    (fun T j h hq => by
      unfold okQ at hq
      rw [Bool.and_eq_true, decide_eq_true_eq] at hq
      show impl_TreeOk_l5 (S.step T) _ _ _ _ _ = impl_TreeOk_l5 T (ns, ()) f z (ns.length : Int) ((j + 1 : Nat) : Int)
      rw [impl_TreeOk_l5_eq, brkT (by simp only [decide_eq_true_eq]; omega), h j (List.mem_range.2 hq.1), Option.bind_some, hq.2, brkF (by rfl), wrap1 (by omega)])
    (fun T j h hq => by
      show impl_TreeOk_l5 (S.step T) _ _ _ _ _ = _
      rw [impl_TreeOk_l5_eq]
      by_cases hj : j < ns.length
      · unfold okQ at hq
        rw [decide_eq_true hj, Bool.true_and] at hq
        rw [brkT (by simp only [decide_eq_true_eq]; omega), h j (List.mem_range.2 hj), Option.bind_some, hq, brkT (by rfl), decide_eq_true hj]; rfl
      · rw [brkF (by simp only [decide_eq_false_iff_not]; omega), decide_eq_false hj]; rfl) ns.length 0 (by omega)
theorem sl4_ok (f : Fa) : Evt fun n => spec_TreeOk_l4 (S.tab n) (ns, ()) f (ns.length : Int) 0 = some (bif decide (badN ns < ns.length) then Sum.inl ((2, (badN ns : Int), ()), ()) else Sum.inr (Sum.inl ((ns, ()), f, ()))) :=
  adv (F := fun T (j : Nat) => spec_TreeOk_l4 T (ns, ()) f (ns.length : Int) (j : Int)) (q := okQ ns) (N := ns.length)
    (out := fun j => bif decide (j < ns.length) then Sum.inl ((2, (j : Int), ()), ()) else Sum.inr (Sum.inl ((ns, ()), f, ())))
    (p := fun T => ∀ j ∈ List.range ns.length, spec_l2nodeok T (ns, ()) (j : Int) = some (okAt ns j, o_spec_l2nodeok)) (spec_all hN) okQ_end
    (fun T j h hq => by
      unfold okQ at hq
      rw [Bool.and_eq_true, decide_eq_true_eq] at hq
      show spec_TreeOk_l4 (S.step T) _ _ _ _ = spec_TreeOk_l4 T (ns, ()) f (ns.length : Int) ((j + 1 : Nat) : Int)
      rw [spec_TreeOk_l4_eq, brkT (by simp only [decide_eq_true_eq]; omega), h j (List.mem_range.2 hq.1), Option.bind_some, hq.2, brkF (by rfl), wrap1 (by omega)])
    (fun T j h hq => by
      show spec_TreeOk_l4 (S.step T) _ _ _ _ = _
      rw [spec_TreeOk_l4_eq]
      by_cases hj : j < ns.length
      · unfold okQ at hq
        rw [decide_eq_true hj, Bool.true_and] at hq
        rw [brkT (by simp only [decide_eq_true_eq]; omega), h j (List.mem_range.2 hj), Option.bind_some, hq, brkT (by rfl), decide_eq_true hj]; rfl
      · rw [brkF (by simp only [decide_eq_false_iff_not]; omega), decide_eq_false hj]; rfl) ns.length 0 (by omega)
omit hN hn in
theorem kids_lt (hb : ¬ badN ns < ns.length) (j : Nat) (hj : j < ns.length) : ∀ k ∈ kidsOf ns[j], 0 ≤ k ∧ k < (j : Int) := by
  have hq : okQ ns j = true := stop_run ns.length 0 j (Nat.zero_le _) (by unfold badN at hb; omega)
  unfold okQ okAt at hq
  rw [decide_eq_true hj, Bool.true_and, List.getElem?_eq_getElem hj] at hq
  have hq : okN ns j ns[j] = true := hq
  intro k hk
  have hall : (kidsOf ns[j]).all (inR j) = true := by
    cases h : (kidsOf ns[j]).all (inR j) with
    | true => rfl
    | false =>
      unfold okN at hq
      rw [h] at hq
      revert hq
      cases decide (Prod.fst ns[j].2 < 0) <;> cases decide (Prod.fst (Prod.snd ns[j].2) < Prod.fst ns[j].2) <;> cases decide (Prod.fst (Prod.snd (Prod.snd ns[j].2)) < 0) <;> cases decide (200 < (kidsOf ns[j]).length) <;> intro h <;> cases h
  have := List.all_eq_true.1 hall k hk
  unfold inR at this
  rw [Bool.and_eq_true, decide_eq_true_eq, decide_eq_true_eq] at this
  exact this
end
def dk (i : Nat) : List Int → List Int → List Int
  | [], d => d
  | k :: r, d => dk i r (d.set k.toNat (IntKind.i64.wrap (d.getD i 0 + 1)))
theorem dk_len (i : Nat) : ∀ (r d : List Int), (dk i r d).length = d.length
  | [], d => rfl
  | k :: r, d => by unfold dk; rw [dk_len]; simp
def dall (ns : List tyNode.den) : Nat → List Int → List Int
  | 0, d => d
  | i + 1, d => dall ns i (match ns[i]? with | some x => dk i (kidsOf x) d | none => d)
theorem dall_succ {ns : List tyNode.den} {i : Nat} (h : i < ns.length) (d : List Int) : dall ns (i + 1) d = dall ns i (dk i (kidsOf ns[i]) d) := by
  show dall ns i (match ns[i]? with | some x => dk i (kidsOf x) d | none => d) = _
  rw [List.getElem?_eq_getElem h]
theorem il30_ok (t : Tr) (f : Fa) (i : Nat) : ∀ (r pre d : List Int), i < d.length → (∀ k ∈ r, 0 ≤ k ∧ k < (d.length : Int)) → (pre ++ r).length ≤ 2097152 →
    Evt fun n => impl_TreeOk_l30 (S.tab n) t f d (i : Int) (pre ++ r) ((pre ++ r).length : Int) (pre.length : Int) = some (Sum.inl (t, f, dk i r d, (i : Int), ()))
  | [], pre, d, hi, hk, hl => base2.up fun n _ => by
    show impl_TreeOk_l30 (S.step (S.tab n)) _ _ _ _ _ _ _ = _
    rw [impl_TreeOk_l30_eq, brkF (by simp)]; rfl
  | k :: r, pre, d, hi, hk, hl => by
    obtain ⟨k0, k1⟩ := hk k (List.mem_cons_self ..)
    have ih := il30_ok t f i r (pre ++ [k]) (d.set k.toNat (IntKind.i64.wrap (d.getD i 0 + 1))) (by simpa using hi) (fun c hc => by rw [List.length_set]; exact hk c (List.mem_cons_of_mem _ hc)) (by simpa using hl)
    refine ih.up fun n h => ?_
    show impl_TreeOk_l30 (S.step (S.tab n)) _ _ _ _ _ _ _ = _
    have hlen : (pre ++ k :: r).length = pre.length + (r.length + 1) := by simp
    have hg : (pre ++ k :: r).getD (pre.length : Int).toNat 0 = k := get1 pre k r
    have hd : (decide ((0 : Int) ≤ (i : Int)) && decide ((i : Int) < (d.length : Int))) = true := inb_nat hi
    have hkb : (decide ((0 : Int) ≤ k) && decide (k < (d.length : Int))) = true := by rw [decide_eq_true k0, decide_eq_true k1]; rfl
    rw [impl_TreeOk_l30_eq, brkT (by simp only [decide_eq_true_eq]; omega), brkT (inb_nat (by omega)), brkT hd, hg, brkT hkb, wrap1 (by omega)]
    have e1 : (pre ++ [k]) ++ r = pre ++ k :: r := by simp
    have e2 : (pre ++ [k]).length = pre.length + 1 := by simp
    rw [e1, e2] at h
    exact h
theorem sl23_ok (t : Tr) (f : Fa) (i : Nat) : ∀ (r pre d : List Int), i < d.length → (∀ k ∈ r, 0 ≤ k ∧ k < (d.length : Int)) → (pre ++ r).length ≤ 2097152 →
    Evt fun n => spec_TreeOk_l23 (S.tab n) t f d (i : Int) (pre ++ r) ((pre ++ r).length : Int) (pre.length : Int) = some (Sum.inl (t, f, dk i r d, (i : Int), ()))
  | [], pre, d, hi, hk, hl => base2.up fun n _ => by
    show spec_TreeOk_l23 (S.step (S.tab n)) _ _ _ _ _ _ _ = _
    rw [spec_TreeOk_l23_eq, brkF (by simp)]; rfl
  | k :: r, pre, d, hi, hk, hl => by
    obtain ⟨k0, k1⟩ := hk k (List.mem_cons_self ..)
    have ih := sl23_ok t f i r (pre ++ [k]) (d.set k.toNat (IntKind.i64.wrap (d.getD i 0 + 1))) (by simpa using hi) (fun c hc => by rw [List.length_set]; exact hk c (List.mem_cons_of_mem _ hc)) (by simpa using hl)
    refine ih.up fun n h => ?_
    show spec_TreeOk_l23 (S.step (S.tab n)) _ _ _ _ _ _ _ = _
    have hlen : (pre ++ k :: r).length = pre.length + (r.length + 1) := by simp
    have hg : (pre ++ k :: r).getD (pre.length : Int).toNat 0 = k := get1 pre k r
    have hd : (decide ((0 : Int) ≤ (i : Int)) && decide ((i : Int) < (d.length : Int))) = true := inb_nat hi
    have hkb : (decide ((0 : Int) ≤ k) && decide (k < (d.length : Int))) = true := by rw [decide_eq_true k0, decide_eq_true k1]; rfl
    rw [spec_TreeOk_l23_eq, brkT (by simp only [decide_eq_true_eq]; omega), brkT (inb_nat (by omega)), brkT hd, hg, brkT hkb, wrap1 (by omega)]
    have e1 : (pre ++ [k]) ++ r = pre ++ k :: r := by simp
    have e2 : (pre ++ [k]).length = pre.length + 1 := by simp
    rw [e1, e2] at h
    exact h
section
variable {ns : List tyNode.den} (hN : ∀ x ∈ ns, NodeOk x) (hn : ns.length ≤ 3000) (hb : ¬ badN ns < ns.length)
include hN hn hb
theorem il27_ok (f : Fa) : ∀ (i : Nat) (d : List Int), i ≤ ns.length → d.length = ns.length → Evt fun n => impl_TreeOk_l27 (S.tab n) (ns, ()) f d ((i : Int) - 1) = some (Sum.inl (f, dall ns i d, ()))
  | 0, d, hi, hd => base2.up fun n _ => by
    show impl_TreeOk_l27 (S.step (S.tab n)) _ _ _ _ = _
    rw [impl_TreeOk_l27_eq, brkF (by decide)]; rfl
  | i + 1, d, hi, hd => by
    have hi' : i < ns.length := by omega
    have hx := hN _ (List.getElem_mem hi')
    have hk := kids_lt hb i hi'
    have h30 := il30_ok (ns, ()) f i (kidsOf ns[i]) [] d (by omega) (fun k h => by have := hk k h; omega) (by have := hx.nk; simpa using this)
    have ih := il27_ok f i (dk i (kidsOf ns[i]) d) (by omega) (by rw [dk_len]; exact hd)
    refine (h30.and ih).up fun n ⟨h, h2⟩ => ?_
    show impl_TreeOk_l27 (S.step (S.tab n)) _ _ _ _ = _
    have e0 : (((i + 1 : Nat) : Int) - 1) = (i : Int) := by omega
    have hat : at_ (τ := tyNode) ((ns, ()) : Tr).1 (i : Int) = ns[i] := at_node ns i hi'
    rw [e0, impl_TreeOk_l27_eq, brkT (by simp only [decide_eq_true_eq]; omega), brkT (inb_nat hi'), hat]
    have h : impl_TreeOk_l30 (S.tab n) (ns, ()) f d (i : Int) (kidsOf ns[i]) ((kidsOf ns[i]).length : Int) 0 = _ := h
    show (impl_TreeOk_l30 (S.tab n) (ns, ()) f d (i : Int) (kidsOf ns[i]) ((kidsOf ns[i]).length : Int) 0).bind _ = _
    rw [h]
    simp only [Option.bind_some, out1, Sum.elim_inl]
    rw [wrap64 _ (by omega) (by omega), h2, dall_succ hi']
theorem sl20_ok (f : Fa) : ∀ (i : Nat) (d : List Int), i ≤ ns.length → d.length = ns.length → Evt fun n => spec_TreeOk_l20 (S.tab n) (ns, ()) f d ((i : Int) - 1) = some (Sum.inl (f, dall ns i d, ()))
  | 0, d, hi, hd => base2.up fun n _ => by
    show spec_TreeOk_l20 (S.step (S.tab n)) _ _ _ _ = _
    rw [spec_TreeOk_l20_eq, brkF (by decide)]; rfl
  | i + 1, d, hi, hd => by
    have hi' : i < ns.length := by omega
    have hx := hN _ (List.getElem_mem hi')
    have hk := kids_lt hb i hi'
    have h30 := sl23_ok (ns, ()) f i (kidsOf ns[i]) [] d (by omega) (fun k h => by have := hk k h; omega) (by have := hx.nk; simpa using this)
    have ih := sl20_ok f i (dk i (kidsOf ns[i]) d) (by omega) (by rw [dk_len]; exact hd)
    refine (h30.and ih).up fun n ⟨h, h2⟩ => ?_
    show spec_TreeOk_l20 (S.step (S.tab n)) _ _ _ _ = _
    have e0 : (((i + 1 : Nat) : Int) - 1) = (i : Int) := by omega
    have hat : at_ (τ := tyNode) ((ns, ()) : Tr).1 (i : Int) = ns[i] := at_node ns i hi'
    rw [e0, spec_TreeOk_l20_eq, brkT (by simp only [decide_eq_true_eq]; omega), brkT (inb_nat hi'), hat]
    have h : spec_TreeOk_l23 (S.tab n) (ns, ()) f d (i : Int) (kidsOf ns[i]) ((kidsOf ns[i]).length : Int) 0 = _ := h
    show (spec_TreeOk_l23 (S.tab n) (ns, ()) f d (i : Int) (kidsOf ns[i]) ((kidsOf ns[i]).length : Int) 0).bind _ = _
    rw [h]
    simp only [Option.bind_some, out1, Sum.elim_inl]
    rw [wrap64 _ (by omega) (by omega), h2, dall_succ hi']
end
def dq100 (d : List Int) (j : Nat) : Bool := decide (j < d.length) && !decide ((100 : Int) < get d j)
theorem dq100_end {d : List Int} : ∀ j, d.length ≤ j → dq100 d j = false := fun j h => by unfold dq100; rw [decide_eq_false (by omega)]; rfl
theorem il35_ok (f : Fa) (d : List Int) (hd : d.length ≤ 3000) : Evt fun n => impl_TreeOk_l35 (S.tab n) f d (d.length : Int) 0 = some (bif decide (stop (dq100 d) d.length 0 < d.length) then Sum.inl ((4, (stop (dq100 d) d.length 0 : Int), ()), ()) else Sum.inr (Sum.inl (f, ()))) :=
  adv (F := fun T (j : Nat) => impl_TreeOk_l35 T f d (d.length : Int) (j : Int)) (q := dq100 d) (N := d.length) (out := fun j => bif decide (j < d.length) then Sum.inl ((4, (j : Int), ()), ()) else Sum.inr (Sum.inl (f, ()))) (p := Base2) base2 dq100_end
    (fun T j h hq => by
      unfold dq100 at hq
      rw [Bool.and_eq_true, decide_eq_true_eq, Bool.not_eq_true', decide_eq_false_iff_not] at hq
      show impl_TreeOk_l35 (S.step T) _ _ _ _ = impl_TreeOk_l35 T f d (d.length : Int) ((j + 1 : Nat) : Int)
      rw [impl_TreeOk_l35_eq, brkT (by simp only [decide_eq_true_eq]; omega), brkT (inb_nat hq.1), getD_nat, brkF (decide_eq_false hq.2), wrap1 (by omega)])
    (fun T j h hq => by
      show impl_TreeOk_l35 (S.step T) _ _ _ _ = _
      rw [impl_TreeOk_l35_eq]
      by_cases hj : j < d.length
      · unfold dq100 at hq
        rw [decide_eq_true hj, Bool.true_and, Bool.not_eq_false'] at hq
        rw [brkT (by simp only [decide_eq_true_eq]; omega), brkT (inb_nat hj), getD_nat, brkT hq, decide_eq_true hj]; rfl
      · rw [brkF (by simp only [decide_eq_false_iff_not]; omega), decide_eq_false hj]; rfl) d.length 0 (by omega)
theorem sl28_ok (f : Fa) (d : List Int) (hd : d.length ≤ 3000) : Evt fun n => spec_TreeOk_l28 (S.tab n) f d (d.length : Int) 0 = some (bif decide (stop (dq100 d) d.length 0 < d.length) then Sum.inl ((4, (stop (dq100 d) d.length 0 : Int), ()), ()) else Sum.inr (Sum.inl (f, ()))) :=
  adv (F := fun T (j : Nat) => spec_TreeOk_l28 T f d (d.length : Int) (j : Int)) (q := dq100 d) (N := d.length) (out := fun j => bif decide (j < d.length) then Sum.inl ((4, (j : Int), ()), ()) else Sum.inr (Sum.inl (f, ()))) (p := Base2) base2 dq100_end
    (fun T j h hq => by
      unfold dq100 at hq
      rw [Bool.and_eq_true, decide_eq_true_eq, Bool.not_eq_true', decide_eq_false_iff_not] at hq
      show spec_TreeOk_l28 (S.step T) _ _ _ _ = spec_TreeOk_l28 T f d (d.length : Int) ((j + 1 : Nat) : Int)
      rw [spec_TreeOk_l28_eq, brkT (by simp only [decide_eq_true_eq]; omega), brkT (inb_nat hq.1), getD_nat, brkF (decide_eq_false hq.2), wrap1 (by omega)])
    (fun T j h hq => by
      show spec_TreeOk_l28 (S.step T) _ _ _ _ = _
      rw [spec_TreeOk_l28_eq]
      by_cases hj : j < d.length
      · unfold dq100 at hq
        rw [decide_eq_true hj, Bool.true_and, Bool.not_eq_false'] at hq
        rw [brkT (by simp only [decide_eq_true_eq]; omega), brkT (inb_nat hj), getD_nat, brkT hq, decide_eq_true hj]; rfl
      · rw [brkF (by simp only [decide_eq_false_iff_not]; omega), decide_eq_false hj]; rfl) d.length 0 (by omega)
theorem dall_len (ns : List tyNode.den) : ∀ (i : Nat) (d : List Int), (dall ns i d).length = d.length
  | 0, d => rfl
  | i + 1, d => by
    unfold dall
    rw [dall_len]
    split
    · exact dk_len ..
    · rfl
end Go.Abs.D
end

section
namespace Go.Abs.D
theorem get_set (l : List Int) (i j : Nat) (v : Int) (h : i < l.length) : get (l.set i v) j = if j = i then v else get l j := by
  unfold get
  rw [List.getD_eq_getElem?_getD, List.getD_eq_getElem?_getD, List.getElem?_set]
  by_cases e : i = j
  · subst e; rw [if_pos rfl, if_pos h, if_pos rfl]; rfl
  · rw [if_neg e, if_neg (fun h => e h.symm)]
def strtN (st kids : List Int) : Nat → Int → Option Int
  | 0, a => some a
  | m + 1, a => bif decide (get kids m = a - 1) then strtN st kids m (get st (get kids m).toNat) else none
def stzN (sz kids : List Int) : Nat → Int → Int × Bool
  | 0, a => (a, true)
  | m + 1, a => bif decide (get kids m = a - 1) && !decide (get sz (get kids m).toNat = 0) then stzN sz kids m (a - get sz (get kids m).toNat) else (a, false)
theorem il16_ok (t : Tr) (f : Fa) (z : Int) (st : List Int) (i : Int) (x : tyNode.den) (l : List tyNode.den) (u v : Int) (hk : ∀ k ∈ kidsOf x, 0 ≤ k ∧ k < (st.length : Int)) (hs : ∀ j, 0 ≤ get st j ∧ get st j ≤ 3000) (hl : (kidsOf x).length ≤ 2097152) :
    ∀ (m : Nat) (a : Int), m ≤ (kidsOf x).length → 0 ≤ a → a ≤ 3000 → Evt fun n => impl_TreeOk_l16 (S.tab n) t f z st i x a ((m : Int) - 1) l u v = some (match strtN st (kidsOf x) m a with | none => Sum.inl ((3, i, ()), ()) | some a => Sum.inr (Sum.inl (t, f, z, st, i, a, l, u, v, ())))
  | 0, a, hm, h0, h1 => base2.up fun n _ => by
    show impl_TreeOk_l16 (S.step (S.tab n)) _ _ _ _ _ _ _ _ _ _ _ = _
    rw [impl_TreeOk_l16_eq, brkF (by decide)]; rfl
  | m + 1, a, hm, h0, h1 => by
    have hml : m < (kidsOf x).length := by omega
    have hin : (decide ((0 : Int) ≤ (m : Int)) && decide ((m : Int) < (x.2.2.2.2.2.2.2.2.1.length : Int))) = true := inb_nat hml
    have hg : x.2.2.2.2.2.2.2.2.1.getD (m : Int).toNat 0 = get (kidsOf x) m := rfl
    have hgk : get (kidsOf x) m = (kidsOf x)[m] := get_lt hml
    have e0 : ((m + 1 : Nat) : Int) - 1 = (m : Int) := by omega
    have wa : IntKind.i64.wrap (a - 1) = a - 1 := wrap64 _ (by omega) (by omega)
    have wm : IntKind.i64.wrap ((m : Int) - 1) = (m : Int) - 1 := wrap64 _ (by omega) (by omega)
    by_cases hc : get (kidsOf x) m = a - 1
    · have hkk := hk _ (List.getElem_mem hml)
      rw [← hgk] at hkk
      have hsk := hs (get (kidsOf x) m).toNat
      have hkb : (decide ((0 : Int) ≤ get (kidsOf x) m) && decide (get (kidsOf x) m < (st.length : Int))) = true := by rw [decide_eq_true hkk.1, decide_eq_true hkk.2]; rfl
      refine (il16_ok t f z st i x l u v hk hs hl m (get st (get (kidsOf x) m).toNat) (by omega) hsk.1 hsk.2).up fun n h => ?_
      show impl_TreeOk_l16 (S.step (S.tab n)) _ _ _ _ _ _ _ _ _ _ _ = _
      rw [e0, impl_TreeOk_l16_eq, brkT (by simp only [decide_eq_true_eq]; omega), brkT hin, hg, wa, brkF (by rw [decide_eq_true hc]; rfl), brkT hin, brkT hkb, wm]
      have hst : strtN st (kidsOf x) (m + 1) a = strtN st (kidsOf x) m (get st (get (kidsOf x) m).toNat) := by
        show (bif decide (get (kidsOf x) m = a - 1) then _ else _) = _
        rw [decide_eq_true hc]; rfl
      rw [hst]
      exact h
    · refine base2.up fun n _ => ?_
      show impl_TreeOk_l16 (S.step (S.tab n)) _ _ _ _ _ _ _ _ _ _ _ = _
      rw [e0, impl_TreeOk_l16_eq, brkT (by simp only [decide_eq_true_eq]; omega), brkT hin, hg, wa, brkT (by rw [decide_eq_false hc]; rfl)]
      have hst : strtN st (kidsOf x) (m + 1) a = none := by
        show (bif decide (get (kidsOf x) m = a - 1) then _ else _) = _
        rw [decide_eq_false hc]; rfl
      rw [hst]
theorem sl8_ok (sz : List Int) (i : Int) (x : tyNode.den) (l : List tyNode.den) (u v : Int) (hk : ∀ k ∈ kidsOf x, 0 ≤ k ∧ k < (sz.length : Int)) (hs : ∀ j, 0 ≤ get sz j ∧ get sz j ≤ 3000) (hl : (kidsOf x).length ≤ 200) :
    ∀ (m : Nat) (a : Int), m ≤ (kidsOf x).length → 3000 * (m : Int) ≤ a + 1000000 → a ≤ 3000 → Evt fun n => spec_l2sizes_l8 (S.tab n) sz i x a true ((m : Int) - 1) l u v = some (Sum.inl (sz, i, (stzN sz (kidsOf x) m a).1, (stzN sz (kidsOf x) m a).2, l, u, v, ()))
  | 0, a, hm, h0, h1 => base2.up fun n _ => by
    show spec_l2sizes_l8 (S.step (S.tab n)) _ _ _ _ _ _ _ _ _ = _
    rw [spec_l2sizes_l8_eq, brkF (by decide)]; rfl
  | m + 1, a, hm, h0, h1 => by
    have hml : m < (kidsOf x).length := by omega
    have hin : (decide ((0 : Int) ≤ (m : Int)) && decide ((m : Int) < (x.2.2.2.2.2.2.2.2.1.length : Int))) = true := inb_nat hml
    have hg : x.2.2.2.2.2.2.2.2.1.getD (m : Int).toNat 0 = get (kidsOf x) m := rfl
    have hgk : get (kidsOf x) m = (kidsOf x)[m] := get_lt hml
    have e0 : ((m + 1 : Nat) : Int) - 1 = (m : Int) := by omega
    have wa : IntKind.i64.wrap (a - 1) = a - 1 := wrap64 _ (by omega) (by omega)
    have wm : IntKind.i64.wrap ((m : Int) - 1) = (m : Int) - 1 := wrap64 _ (by omega) (by omega)
    have hst : stzN sz (kidsOf x) (m + 1) a = bif decide (get (kidsOf x) m = a - 1) && !decide (get sz (get (kidsOf x) m).toNat = 0) then stzN sz (kidsOf x) m (a - get sz (get (kidsOf x) m).toNat) else (a, false) := rfl
    by_cases hc : get (kidsOf x) m = a - 1
    · have hkk := hk _ (List.getElem_mem hml)
      rw [← hgk] at hkk
      have hsk := hs (get (kidsOf x) m).toNat
      have hkb : (decide ((0 : Int) ≤ get (kidsOf x) m) && decide (get (kidsOf x) m < (sz.length : Int))) = true := by rw [decide_eq_true hkk.1, decide_eq_true hkk.2]; rfl
      have hgs : sz.getD (get (kidsOf x) m).toNat 0 = get sz (get (kidsOf x) m).toNat := rfl
      by_cases hz : get sz (get (kidsOf x) m).toNat = 0
      · refine base2.up fun n _ => ?_
        show spec_l2sizes_l8 (S.step (S.tab n)) _ _ _ _ _ _ _ _ _ = _
        rw [e0, spec_l2sizes_l8_eq, brkT (by simp only [decide_eq_true_eq]; omega), brkT hin, hg, wa, brkF (by rw [decide_eq_true hc]; rfl), brkT hkb, hgs, brkT (decide_eq_true hz), hst, decide_eq_true hz, Bool.not_true, Bool.and_false]; rfl
      · have wz : IntKind.i64.wrap (a - get sz (get (kidsOf x) m).toNat) = a - get sz (get (kidsOf x) m).toNat := wrap64 _ (by omega) (by omega)
        refine (sl8_ok sz i x l u v hk hs hl m (a - get sz (get (kidsOf x) m).toNat) (by omega) (by omega) (by omega)).up fun n h => ?_
        show spec_l2sizes_l8 (S.step (S.tab n)) _ _ _ _ _ _ _ _ _ = _
        rw [e0, spec_l2sizes_l8_eq, brkT (by simp only [decide_eq_true_eq]; omega), brkT hin, hg, wa, brkF (by rw [decide_eq_true hc]; rfl), brkT hkb, hgs, brkF (decide_eq_false hz), brkT hkb, wz, wm, hst, decide_eq_true hc, decide_eq_false hz]
        exact h
    · refine base2.up fun n _ => ?_
      show spec_l2sizes_l8 (S.step (S.tab n)) _ _ _ _ _ _ _ _ _ = _
      rw [e0, spec_l2sizes_l8_eq, brkT (by simp only [decide_eq_true_eq]; omega), brkT hin, hg, wa, brkT (by rw [decide_eq_false hc]; rfl), hst, decide_eq_false hc]; rfl
def kidsAt (ns : List tyNode.den) (i : Nat) : List Int := match ns[i]? with | some x => kidsOf x | none => []
theorem kidsAt_eq {ns : List tyNode.den} {i : Nat} (h : i < ns.length) : kidsAt ns i = kidsOf ns[i] := by unfold kidsAt; rw [List.getElem?_eq_getElem h]
def imS (ns : List tyNode.den) : Nat → List Int → Nat ⊕ Unit
  | 0, _ => .inr ()
  | r + 1, st => match strtN st (kidsAt ns (ns.length - (r + 1))) (kidsAt ns (ns.length - (r + 1))).length ((ns.length - (r + 1) : Nat) : Int) with
    | none => .inl (ns.length - (r + 1))
    | some a => bif decide (r = 0) && !decide (a = 0) then .inl (ns.length - (r + 1)) else imS ns r (st.set (ns.length - (r + 1)) a)
def szS (ns : List tyNode.den) : Nat → List Int → List Int
  | 0, sz => sz
  | r + 1, sz => szS ns r (bif (stzN sz (kidsAt ns (ns.length - (r + 1))) (kidsAt ns (ns.length - (r + 1))).length ((ns.length - (r + 1) : Nat) : Int)).2 then sz.set (ns.length - (r + 1)) (((ns.length - (r + 1) : Nat) : Int) - (stzN sz (kidsAt ns (ns.length - (r + 1))) (kidsAt ns (ns.length - (r + 1))).length ((ns.length - (r + 1) : Nat) : Int)).1 + 1) else sz)
def zq (sz : List Int) (j : Nat) : Bool := decide (j < sz.length) && !decide (get sz j = 0)
def resS (sz : List Int) : Nat ⊕ Unit :=
  bif decide (stop (zq sz) sz.length 0 < sz.length) then .inl (stop (zq sz) sz.length 0) else bif !decide (get sz (sz.length - 1) = (sz.length : Int)) then .inl (sz.length - 1) else .inr ()
theorem zq_end {sz : List Int} : ∀ j, sz.length ≤ j → zq sz j = false := fun j h => by unfold zq; rw [decide_eq_false (by omega)]; rfl
structure RelN (n i : Nat) (st sz : List Int) : Prop where
  l1 : st.length = n
  l2 : sz.length = n
  lo : ∀ j, j < i → get sz j = (j : Int) - get st j + 1 ∧ 0 ≤ get st j ∧ get st j ≤ (j : Int)
  hi : ∀ j, i ≤ j → get sz j = 0 ∧ get st j = 0
theorem strt_stz {n i : Nat} {st sz kids : List Int} (R : RelN n i st sz) : ∀ (m : Nat) (a : Int), 0 ≤ a → a ≤ (i : Int) → (∀ j, j < m → 0 ≤ get kids j ∧ get kids j < (i : Int)) →
    (∀ b, strtN st kids m a = some b → stzN sz kids m a = (b, true) ∧ 0 ≤ b ∧ b ≤ (i : Int)) ∧ (strtN st kids m a = none → (stzN sz kids m a).2 = false)
  | 0, a, h0, h1, hk => ⟨fun b h => by injection h with h; subst h; exact ⟨rfl, h0, h1⟩, fun h => by cases h⟩
  | m + 1, a, h0, h1, hk => by
    obtain ⟨k0, k1⟩ := hk m (by omega)
    unfold strtN stzN
    by_cases hc : get kids m = a - 1
    · obtain ⟨e1, e2, e3⟩ := R.lo (get kids m).toNat (by omega)
      have e4 : ((get kids m).toNat : Int) = get kids m := Int.toNat_of_nonneg k0
      rw [e4] at e1 e3
      have hz : ¬ get sz (get kids m).toNat = 0 := by omega
      have ea : a - get sz (get kids m).toNat = get st (get kids m).toNat := by omega
      rw [decide_eq_true hc, decide_eq_false hz]
      simp only [cond_true, Bool.true_and, Bool.not_false]
      rw [ea]
      exact strt_stz R m _ e2 (by omega) fun j hj => hk j (by omega)
    · rw [decide_eq_false hc]
      exact ⟨(fun b h => by cases h), fun _ => rfl⟩
theorem szS_len (ns : List tyNode.den) : ∀ (r : Nat) (sz : List Int), (szS ns r sz).length = sz.length
  | 0, sz => rfl
  | r + 1, sz => by
    unfold szS
    rw [szS_len]
    cases (stzN sz (kidsAt ns (ns.length - (r + 1))) (kidsAt ns (ns.length - (r + 1))).length ((ns.length - (r + 1) : Nat) : Int)).2 <;> simp
theorem szS_low (ns : List tyNode.den) : ∀ (r : Nat) (sz : List Int) (j : Nat), r ≤ ns.length → sz.length = ns.length → j < ns.length - r → get (szS ns r sz) j = get sz j
  | 0, sz, j, _, _, _ => rfl
  | r + 1, sz, j, hr, hl, hj => by
    unfold szS
    rw [szS_low ns r _ j (by omega) (by
      cases (stzN sz (kidsAt ns (ns.length - (r + 1))) (kidsAt ns (ns.length - (r + 1))).length ((ns.length - (r + 1) : Nat) : Int)).2 <;> simp [hl]) (by omega)]
    cases (stzN sz (kidsAt ns (ns.length - (r + 1))) (kidsAt ns (ns.length - (r + 1))).length ((ns.length - (r + 1) : Nat) : Int)).2 with
    | false => rfl
    | true =>
      simp only [cond_true]
      rw [get_set _ _ _ _ (by omega), if_neg (by omega)]
theorem stop_at {q : Nat → Bool} {N m : Nat} (hN : ∀ j, N ≤ j → q j = false) (h1 : ∀ j, j < m → q j = true) (h2 : q m = false) : stop q N 0 = m := by
  have a := stop_end (q := q) hN N 0 (by omega)
  have b : ¬ stop q N 0 < m := fun h => by rw [h1 _ h] at a; cases a
  have c : ¬ m < stop q N 0 := fun h => by
    have := stop_run N 0 m (Nat.zero_le _) h
    rw [h2] at this; cases this
  omega
theorem alikeS (ns : List tyNode.den) (hk : ∀ i, i < ns.length → ∀ j, j < (kidsAt ns i).length → 0 ≤ get (kidsAt ns i) j ∧ get (kidsAt ns i) j < (i : Int)) : ∀ (r : Nat) (st sz : List Int), r + 1 ≤ ns.length → RelN ns.length (ns.length - (r + 1)) st sz → imS ns (r + 1) st = resS (szS ns (r + 1) sz) := by
  intro r
  induction r with
  | zero =>
    intro st sz hr R
    have hS := strt_stz R (kidsAt ns (ns.length - 1)).length ((ns.length - 1 : Nat) : Int) (by omega) (Int.le_refl _) (hk (ns.length - 1) (by omega))
    show (match strtN st (kidsAt ns (ns.length - 1)) (kidsAt ns (ns.length - 1)).length ((ns.length - 1 : Nat) : Int) with | none => _ | some a => _) = resS (bif (stzN sz (kidsAt ns (ns.length - 1)) (kidsAt ns (ns.length - 1)).length ((ns.length - 1 : Nat) : Int)).2 then sz.set (ns.length - 1) (((ns.length - 1 : Nat) : Int) - (stzN sz (kidsAt ns (ns.length - 1)) (kidsAt ns (ns.length - 1)).length ((ns.length - 1 : Nat) : Int)).1 + 1) else sz)
    cases hc : strtN st (kidsAt ns (ns.length - 1)) (kidsAt ns (ns.length - 1)).length ((ns.length - 1 : Nat) : Int) with
    | none =>
      rw [hS.2 hc, cond_false]
      have hst : stop (zq sz) sz.length 0 = ns.length - 1 := stop_at zq_end (fun j hj => by
        unfold zq
        have := R.lo j hj
        rw [decide_eq_true (by have := R.l2; omega), decide_eq_false (by omega)]; rfl) (by
        unfold zq
        rw [decide_eq_true (R.hi _ (Nat.le_refl _)).1]; simp)
      unfold resS
      rw [hst, decide_eq_true (show ns.length - 1 < sz.length by have := R.l2; omega)]; rfl
    | some a =>
      obtain ⟨e, a0, a1⟩ := hS.1 a hc
      rw [e]
      simp only [cond_true]
      have hl2 := R.l2
      have hlen : (sz.set (ns.length - 1) (((ns.length - 1 : Nat) : Int) - a + 1)).length = ns.length := by rw [List.length_set]; exact hl2
      have hst : stop (zq (sz.set (ns.length - 1) (((ns.length - 1 : Nat) : Int) - a + 1))) ns.length 0 = ns.length := stop_at (fun j hj => zq_end j (by omega)) (fun j hj => by
        unfold zq
        rw [get_set _ _ _ _ (by omega), decide_eq_true (by omega)]
        by_cases hjl : j = ns.length - 1
        · rw [if_pos hjl, decide_eq_false (by omega)]; rfl
        · have := R.lo j (by omega)
          rw [if_neg hjl, decide_eq_false (by omega)]; rfl) (zq_end _ (by omega))
      unfold resS
      rw [hlen, hst, decide_eq_false (Nat.lt_irrefl _), cond_false, get_set _ _ _ _ (by omega), if_pos rfl]
      show (bif decide (0 = 0) && !decide (a = 0) then Sum.inl (ns.length - 1) else Sum.inr ()) = _
      by_cases ha : a = 0
      · rw [decide_eq_true ha, decide_eq_true (show ((ns.length - 1 : Nat) : Int) - a + 1 = (ns.length : Int) by omega)]; rfl
      · rw [decide_eq_false ha, decide_eq_false (show ¬ ((ns.length - 1 : Nat) : Int) - a + 1 = (ns.length : Int) by omega)]; rfl
  | succ r ih =>
    intro st sz hr R
    have hS := strt_stz R (kidsAt ns (ns.length - (r + 1 + 1))).length ((ns.length - (r + 1 + 1) : Nat) : Int) (by omega) (Int.le_refl _) (hk (ns.length - (r + 1 + 1)) (by omega))
    have hl1 := R.l1
    have hl2 := R.l2
    show (match strtN st (kidsAt ns (ns.length - (r + 1 + 1))) (kidsAt ns (ns.length - (r + 1 + 1))).length ((ns.length - (r + 1 + 1) : Nat) : Int) with | none => _ | some a => _) = resS (szS ns (r + 1) (bif (stzN sz (kidsAt ns (ns.length - (r + 1 + 1))) (kidsAt ns (ns.length - (r + 1 + 1))).length ((ns.length - (r + 1 + 1) : Nat) : Int)).2 then sz.set (ns.length - (r + 1 + 1)) (((ns.length - (r + 1 + 1) : Nat) : Int) - (stzN sz (kidsAt ns (ns.length - (r + 1 + 1))) (kidsAt ns (ns.length - (r + 1 + 1))).length ((ns.length - (r + 1 + 1) : Nat) : Int)).1 + 1) else sz))
    cases hc : strtN st (kidsAt ns (ns.length - (r + 1 + 1))) (kidsAt ns (ns.length - (r + 1 + 1))).length ((ns.length - (r + 1 + 1) : Nat) : Int) with
    | none =>
      rw [hS.2 hc, cond_false]
      have hlen : (szS ns (r + 1) sz).length = ns.length := by rw [szS_len]; exact hl2
      have hlow := fun j hj => szS_low ns (r + 1) sz j (by omega) hl2 hj
      have hst : stop (zq (szS ns (r + 1) sz)) ns.length 0 = ns.length - (r + 1 + 1) := stop_at (fun j hj => zq_end j (by omega)) (fun j hj => by
        unfold zq
        have := R.lo j hj
        rw [hlow j (by omega), decide_eq_true (by omega), decide_eq_false (by omega)]; rfl) (by
        unfold zq
        rw [hlow _ (by omega), decide_eq_true (R.hi _ (Nat.le_refl _)).1]; simp)
      unfold resS
      rw [hlen, hst, decide_eq_true (show ns.length - (r + 1 + 1) < ns.length by omega)]; rfl
    | some a =>
      obtain ⟨e, a0, a1⟩ := hS.1 a hc
      rw [e]
      simp only [cond_true]
      show (bif decide (r + 1 = 0) && !decide (a = 0) then _ else imS ns (r + 1) (st.set (ns.length - (r + 1 + 1)) a)) = _
      rw [decide_eq_false (show ¬ r + 1 = 0 by omega), Bool.false_and, cond_false]
      refine ih _ _ (by omega) ⟨by rw [List.length_set]; exact hl1, by rw [List.length_set]; exact hl2, fun j hj => ?_, fun j hj => ?_⟩
      · rw [get_set _ _ _ _ (by omega), get_set _ _ _ _ (by omega)]
        by_cases hji : j = ns.length - (r + 1 + 1)
        · rw [if_pos hji, if_pos hji]
          subst hji
          exact ⟨rfl, a0, a1⟩
        · rw [if_neg hji, if_neg hji]
          exact R.lo j (by omega)
      · rw [get_set _ _ _ _ (by omega), get_set _ _ _ _ (by omega), if_neg (by omega), if_neg (by omega)]
        exact R.hi j (by omega)
end Go.Abs.D
end

section
namespace Go.Abs.D
theorem strtN_bd {st kids : List Int} (hs : ∀ j, 0 ≤ get st j ∧ get st j ≤ 3000) : ∀ (m : Nat) (a b : Int), 0 ≤ a → a ≤ 3000 → strtN st kids m a = some b → 0 ≤ b ∧ b ≤ 3000
  | 0, a, b, h0, h1, h => by injection h with h; subst h; exact ⟨h0, h1⟩
  | m + 1, a, b, h0, h1, h => by
    unfold strtN at h
    cases hc : decide (get kids m = a - 1) with
    | true =>
      rw [hc] at h
      exact strtN_bd hs m _ b (hs _).1 (hs _).2 h
    | false => rw [hc] at h; cases h
theorem stzN_bd {sz kids : List Int} (hs : ∀ j : Nat, 0 ≤ get sz j ∧ get sz j ≤ (j : Int) + 1) : ∀ (m : Nat) (a : Int), 0 ≤ a → (∀ j, j < m → 0 ≤ get kids j) → 0 ≤ (stzN sz kids m a).1 ∧ (stzN sz kids m a).1 ≤ a
  | 0, a, h0, _ => ⟨h0, Int.le_refl _⟩
  | m + 1, a, h0, hk => by
    unfold stzN
    by_cases hc : get kids m = a - 1
    · have hsk := hs (get kids m).toNat
      have k0 := hk m (by omega)
      have e4 : ((get kids m).toNat : Int) = get kids m := Int.toNat_of_nonneg k0
      rw [decide_eq_true hc]
      cases hz : decide (get sz (get kids m).toNat = 0) with
      | true => exact ⟨h0, Int.le_refl _⟩
      | false =>
        have := stzN_bd hs m (a - get sz (get kids m).toNat) (by omega) fun j hj => hk j (by omega)
        simp only [Bool.true_and, Bool.not_false, cond_true]
        exact ⟨this.1, by omega⟩
    · rw [decide_eq_false hc]; exact ⟨h0, Int.le_refl _⟩
section
variable {ns : List tyNode.den} (hN : ∀ x ∈ ns, NodeOk x) (hn : ns.length ≤ 3000) (hb : ¬ badN ns < ns.length)
include hN hn hb
omit hN hn in
theorem kidsAt_lt (i : Nat) (hi : i < ns.length) : ∀ j, j < (kidsAt ns i).length → 0 ≤ get (kidsAt ns i) j ∧ get (kidsAt ns i) j < (i : Int) := by
  intro j hj
  rw [kidsAt_eq hi] at hj ⊢
  have := kids_lt hb i hi _ (List.getElem_mem hj)
  have e : get (kidsOf ns[i]) j = (kidsOf ns[i])[j] := get_lt hj
  rw [e]; exact this
theorem il12_ok (f : Fa) : ∀ (r : Nat) (st : List Int), r ≤ ns.length → st.length = ns.length → (∀ j, 0 ≤ get st j ∧ get st j ≤ 3000) →
    Evt fun n => impl_TreeOk_l12 (S.tab n) (ns, ()) f (ns.length : Int) st ns (ns.length : Int) ((ns.length - r : Nat) : Int) = some (match imS ns r st with | .inl j => Sum.inl ((3, (j : Int), ()), ()) | .inr _ => Sum.inr (Sum.inl ((ns, ()), f, (ns.length : Int), ())))
  | 0, st, hr, hl, hs => base2.up fun n _ => by
    show impl_TreeOk_l12 (S.step (S.tab n)) _ _ _ _ _ _ _ = _
    rw [impl_TreeOk_l12_eq, brkF (by simp)]; rfl
  | r + 1, st, hr, hl, hs => by
    have hi : ns.length - (r + 1) < ns.length := by omega
    generalize hii : ns.length - (r + 1) = i at hi
    have hx := hN _ (List.getElem_mem hi)
    have hke := kidsAt_eq hi
    have h16 := il16_ok (ns, ()) f (ns.length : Int) st (i : Int) ns[i] ns (ns.length : Int) (i : Int) (fun k h => by have := kids_lt hb i hi k h; omega) hs hx.nk (kidsOf ns[i]).length (i : Int) (Nat.le_refl _) (by omega) (by omega)
    have hat : at_ (τ := tyNode) ns (i : Int) = ns[i] := at_node ns i hi
    have wk : IntKind.i64.wrap (((kidsOf ns[i]).length : Int) - 1) = ((kidsOf ns[i]).length : Int) - 1 := wrap64 _ (by omega) (by have := hx.nk; omega)
    have start : ∀ n, impl_TreeOk_l12 (S.step (S.tab n)) (ns, ()) f (ns.length : Int) st ns (ns.length : Int) (i : Int) = (impl_TreeOk_l16 (S.tab n) (ns, ()) f (ns.length : Int) st (i : Int) ns[i] (i : Int) (((kidsOf ns[i]).length : Int) - 1) ns (ns.length : Int) (i : Int)).bind (out2 (fun y16 => some (Sum.inl y16)) (fun y16 => brk (decide ((0 : Int) ≤ y16.2.2.2.2.1) && decide (y16.2.2.2.2.1 < (y16.2.2.2.1.length : Int))) (
   brk (decide (y16.2.2.2.2.1 = IntKind.i64.wrap (y16.2.2.1 - (1 : Int)))) (
    brk (!decide (y16.2.2.2.2.2.1 = (0 : Int))) (
     some (Sum.inl (((3 : Int), y16.2.2.2.2.1, ()), ()))) (
     impl_TreeOk_l12 (S.tab n) y16.1 y16.2.1 y16.2.2.1 (y16.2.2.2.1.set y16.2.2.2.2.1.toNat y16.2.2.2.2.2.1) y16.2.2.2.2.2.2.1 y16.2.2.2.2.2.2.2.1 (IntKind.i64.wrap (y16.2.2.2.2.2.2.2.2.1 + (1 : Int))))) (
    impl_TreeOk_l12 (S.tab n) y16.1 y16.2.1 y16.2.2.1 (y16.2.2.2.1.set y16.2.2.2.2.1.toNat y16.2.2.2.2.2.1) y16.2.2.2.2.2.2.1 y16.2.2.2.2.2.2.2.1 (IntKind.i64.wrap (y16.2.2.2.2.2.2.2.2.1 + (1 : Int))))) none)) := fun n => by
      rw [impl_TreeOk_l12_eq, brkT (by simp only [decide_eq_true_eq]; omega), brkT (inb_nat hi), hat]
      show (impl_TreeOk_l16 (S.tab n) (ns, ()) f (ns.length : Int) st (i : Int) ns[i] (i : Int) (IntKind.i64.wrap (((kidsOf ns[i]).length : Int) - 1)) ns (ns.length : Int) (i : Int)).bind _ = _
      rw [wk]
    have him : imS ns (r + 1) st = match strtN st (kidsAt ns i) (kidsAt ns i).length (i : Int) with
      | none => .inl i
      | some a => bif decide (r = 0) && !decide (a = 0) then .inl i else imS ns r (st.set i a) := by
      show (match strtN st (kidsAt ns (ns.length - (r + 1))) (kidsAt ns (ns.length - (r + 1))).length ((ns.length - (r + 1) : Nat) : Int) with | none => _ | some a => _) = _
      rw [hii]
    rw [him, hke]
    cases hc : strtN st (kidsOf ns[i]) (kidsOf ns[i]).length (i : Int) with
    | none =>
      rw [hc] at h16
      refine h16.up fun n h => ?_
      show impl_TreeOk_l12 (S.step (S.tab n)) _ _ _ _ _ _ _ = _
      rw [start, h]; rfl
    | some a =>
      rw [hc] at h16
      obtain ⟨a0, a1⟩ := strtN_bd hs _ _ _ (by omega) (by omega) hc
      have ih := il12_ok f r (st.set i a) (by omega) (by rw [List.length_set]; exact hl) (fun j => by
        rw [get_set _ _ _ _ (by omega)]
        split
        · exact ⟨a0, a1⟩
        · exact hs j)
      have ei : ns.length - r = i + 1 := by omega
      rw [ei] at ih
      refine (h16.and ih).up fun n ⟨h, ih⟩ => ?_
      show impl_TreeOk_l12 (S.step (S.tab n)) _ _ _ _ _ _ _ = _
      have w1 : IntKind.i64.wrap ((ns.length : Int) - 1) = (ns.length : Int) - 1 := wrap64 _ (by omega) (by omega)
      have hin : (decide ((0 : Int) ≤ (i : Int)) && decide ((i : Int) < (st.length : Int))) = true := inb_nat (by omega)
      rw [start, h]
      simp only [Option.bind_some, out2, Sum.elim_inr, Sum.elim_inl, Int.toNat_natCast]
      rw [brkT hin, w1, wrap1 (by omega)]
      by_cases hr0 : r = 0
      · rw [brkT (decide_eq_true (by omega)), decide_eq_true hr0]
        by_cases ha : a = 0
        · rw [brkF (by rw [decide_eq_true ha]; rfl), decide_eq_true ha]
          exact ih
        · rw [brkT (by rw [decide_eq_false ha]; rfl), decide_eq_false ha]; rfl
      · rw [brkF (decide_eq_false (by omega)), decide_eq_false hr0, Bool.false_and, cond_false]
        exact ih
theorem sl3_ok : ∀ (r : Nat) (sz : List Int), r ≤ ns.length → sz.length = ns.length → (∀ j : Nat, 0 ≤ get sz j ∧ get sz j ≤ (j : Int) + 1) →
    Evt fun n => spec_l2sizes_l3 (S.tab n) sz ns (ns.length : Int) ((ns.length - r : Nat) : Int) = some (Sum.inl (szS ns r sz, ()))
  | 0, sz, hr, hl, hs => base2.up fun n _ => by
    show spec_l2sizes_l3 (S.step (S.tab n)) _ _ _ _ = _
    rw [spec_l2sizes_l3_eq, brkF (by simp)]; rfl
  | r + 1, sz, hr, hl, hs => by
    have hi : ns.length - (r + 1) < ns.length := by omega
    generalize hii : ns.length - (r + 1) = i at hi
    have hx := hN _ (List.getElem_mem hi)
    have hke := kidsAt_eq hi
    have hk2 := kidsAt_lt hb i hi
    rw [hke] at hk2
    have hb3 : ∀ j, 0 ≤ get sz j ∧ get sz j ≤ 3000 := fun j => by
      have := hs j
      rcases Nat.lt_or_ge j sz.length with h | h
      · omega
      · rw [get_end h]; omega
    have hnk : (kidsOf ns[i]).length ≤ 200 := by
      have hq : okQ ns i = true := stop_run ns.length 0 i (Nat.zero_le _) (by unfold badN at hb; omega)
      unfold okQ okAt at hq
      rw [decide_eq_true hi, Bool.true_and, List.getElem?_eq_getElem hi] at hq
      have hq : okN ns i ns[i] = true := hq
      rcases Nat.lt_or_ge 200 (kidsOf ns[i]).length with h | h
      · unfold okN at hq
        rw [decide_eq_true h] at hq
        revert hq
        cases decide (Prod.fst ns[i].2 < 0) <;> cases decide (Prod.fst (Prod.snd ns[i].2) < Prod.fst ns[i].2) <;> cases decide (Prod.fst (Prod.snd (Prod.snd ns[i].2)) < 0) <;> intro h <;> cases h
      · exact h
    have h8 := sl8_ok sz (i : Int) ns[i] ns (ns.length : Int) (i : Int) (fun k h => by have := kids_lt hb i hi k h; omega) hb3 hnk (kidsOf ns[i]).length (i : Int) (Nat.le_refl _) (by omega) (by omega)
    have hat : at_ (τ := tyNode) ns (i : Int) = ns[i] := at_node ns i hi
    have wk : IntKind.i64.wrap (((kidsOf ns[i]).length : Int) - 1) = ((kidsOf ns[i]).length : Int) - 1 := wrap64 _ (by omega) (by omega)
    obtain ⟨y0, y1⟩ := stzN_bd (kids := kidsOf ns[i]) hs (kidsOf ns[i]).length (i : Int) (by omega) (fun j hj => (hk2 j hj).1)
    have hsz : szS ns (r + 1) sz = szS ns r (bif (stzN sz (kidsOf ns[i]) (kidsOf ns[i]).length (i : Int)).2 then sz.set i ((i : Int) - (stzN sz (kidsOf ns[i]) (kidsOf ns[i]).length (i : Int)).1 + 1) else sz) := by
      show szS ns r (bif (stzN sz (kidsAt ns (ns.length - (r + 1))) (kidsAt ns (ns.length - (r + 1))).length ((ns.length - (r + 1) : Nat) : Int)).2 then sz.set (ns.length - (r + 1)) (((ns.length - (r + 1) : Nat) : Int) - (stzN sz (kidsAt ns (ns.length - (r + 1))) (kidsAt ns (ns.length - (r + 1))).length ((ns.length - (r + 1) : Nat) : Int)).1 + 1) else sz) = _
      rw [hii, hke]
    rw [hsz]
    generalize hy : stzN sz (kidsOf ns[i]) (kidsOf ns[i]).length (i : Int) = y at h8 y0 y1
    obtain ⟨b, ok⟩ := y
    simp only at y0 y1 h8
    have ei : ns.length - r = i + 1 := by omega
    have start : ∀ n, spec_l2sizes_l8 (S.tab n) sz (i : Int) ns[i] (i : Int) true (((kidsOf ns[i]).length : Int) - 1) ns (ns.length : Int) (i : Int) = some (Sum.inl (sz, (i : Int), b, ok, ns, (ns.length : Int), (i : Int), ())) → spec_l2sizes_l3 (S.step (S.tab n)) sz ns (ns.length : Int) (i : Int) = brk ok (brk (decide ((0 : Int) ≤ (i : Int)) && decide ((i : Int) < (sz.length : Int))) (spec_l2sizes_l3 (S.tab n) (sz.set i (IntKind.i64.wrap ((IntKind.i64.wrap ((i : Int) - b)) + (1 : Int)))) ns (ns.length : Int) (IntKind.i64.wrap ((i : Int) + (1 : Int)))) none) (spec_l2sizes_l3 (S.tab n) sz ns (ns.length : Int) (IntKind.i64.wrap ((i : Int) + (1 : Int)))) := fun n h => by
      rw [spec_l2sizes_l3_eq, brkT (by simp only [decide_eq_true_eq]; omega), brkT (inb_nat hi), hat]
      show (spec_l2sizes_l8 (S.tab n) sz (i : Int) ns[i] (i : Int) true (IntKind.i64.wrap (((kidsOf ns[i]).length : Int) - 1)) ns (ns.length : Int) (i : Int)).bind _ = _
      rw [wk, h]; rfl
    cases ok with
    | true =>
      have ih := sl3_ok r (sz.set i ((i : Int) - b + 1)) (by omega) (by rw [List.length_set]; exact hl) (fun j => by
        rw [get_set _ _ _ _ (by omega)]
        split
        · rename_i e; subst e; omega
        · exact hs j)
      rw [ei] at ih
      refine (h8.and ih).up fun n ⟨h, ih⟩ => ?_
      show spec_l2sizes_l3 (S.step (S.tab n)) _ _ _ _ = _
      have hin : (decide ((0 : Int) ≤ (i : Int)) && decide ((i : Int) < (sz.length : Int))) = true := inb_nat (by omega)
      rw [start n h, brk_true, brkT hin, wrap64 ((i : Int) - b) (by omega) (by omega), wrap64 ((i : Int) - b + 1) (by omega) (by omega), wrap1 (by omega)]
      exact ih
    | false =>
      have ih := sl3_ok r sz (by omega) hl hs
      rw [ei] at ih
      refine (h8.and ih).up fun n ⟨h, ih⟩ => ?_
      show spec_l2sizes_l3 (S.step (S.tab n)) _ _ _ _ = _
      rw [start n h, brk_false, wrap1 (by omega)]
      exact ih
end
theorem get_rep (n j : Nat) : get (List.replicate n (0 : Int)) j = 0 := by
  unfold get
  rw [List.getD_eq_getElem?_getD, List.getElem?_replicate]
  split <;> rfl
theorem sl11_ok (t : Tr) (f : Fa) (sz : List Int) (hl : sz.length ≤ 3000) : Evt fun n => spec_TreeOk_l11 (S.tab n) t f sz sz (sz.length : Int) 0 = some (bif decide (stop (zq sz) sz.length 0 < sz.length) then Sum.inl ((3, (stop (zq sz) sz.length 0 : Int), ()), ()) else Sum.inr (Sum.inl (t, f, sz, ()))) :=
  adv (F := fun T (j : Nat) => spec_TreeOk_l11 T t f sz sz (sz.length : Int) (j : Int)) (q := zq sz) (N := sz.length) (out := fun j => bif decide (j < sz.length) then Sum.inl ((3, (j : Int), ()), ()) else Sum.inr (Sum.inl (t, f, sz, ()))) (p := Base2) base2 zq_end
    (fun T j h hq => by
      unfold zq at hq
      rw [Bool.and_eq_true, decide_eq_true_eq, Bool.not_eq_true', decide_eq_false_iff_not] at hq
      show spec_TreeOk_l11 (S.step T) _ _ _ _ _ _ = spec_TreeOk_l11 T t f sz sz (sz.length : Int) ((j + 1 : Nat) : Int)
      rw [spec_TreeOk_l11_eq, brkT (by simp only [decide_eq_true_eq]; omega), brkT (inb_nat hq.1), getD_nat, brkF (decide_eq_false hq.2), wrap1 (by omega)])
    (fun T j h hq => by
      show spec_TreeOk_l11 (S.step T) _ _ _ _ _ _ = _
      rw [spec_TreeOk_l11_eq]
      by_cases hj : j < sz.length
      · unfold zq at hq
        rw [decide_eq_true hj, Bool.true_and, Bool.not_eq_false'] at hq
        rw [brkT (by simp only [decide_eq_true_eq]; omega), brkT (inb_nat hj), getD_nat, brkT hq, decide_eq_true hj]; rfl
      · rw [brkF (by simp only [decide_eq_false_iff_not]; omega), decide_eq_false hj]; rfl) sz.length 0 (by omega)
def treeM (ns : List tyNode.den) : Fa :=
  bif decide (ns.length = 0) then (1, 0, ()) else
  bif decide (3000 < ns.length) then (1, 0, ()) else
  bif !decide (kindAt ns ((ns.length - 1 : Nat) : Int) = 1) then (1, 0, ()) else
  bif decide (badN ns < ns.length) then (2, (badN ns : Int), ()) else
  match imS ns ns.length (List.replicate ns.length 0) with
  | .inl j => (3, (j : Int), ())
  | .inr _ => bif decide (stop (dq100 (dall ns ns.length (List.replicate ns.length 0))) ns.length 0 < ns.length) then (4, (stop (dq100 (dall ns ns.length (List.replicate ns.length 0))) ns.length 0 : Int), ()) else (0, 0, ())
section
variable {ns : List tyNode.den} (hN : ∀ x ∈ ns, NodeOk x)
include hN
theorem impl_TreeOk_ok : Evt fun n => impl_TreeOk (S.tab n) (ns, ()) = some (treeM ns, o_impl_TreeOk) := by
  unfold treeM
  by_cases c0 : ns.length = 0
  · refine base2.up fun n _ => ?_
    show impl_TreeOk (S.step (S.tab n)) _ = _
    have d : decide ((((ns, ()) : Tr).1.length : Int) = 0) = true := decide_eq_true (by show (ns.length : Int) = 0; omega)
    rw [impl_TreeOk_eq, brkT d, decide_eq_true c0]; rfl
  have d0 : decide ((((ns, ()) : Tr).1.length : Int) = 0) = false := decide_eq_false (by show ¬ (ns.length : Int) = 0; omega)
  rw [decide_eq_false c0]
  by_cases c1 : 3000 < ns.length
  · refine base2.up fun n _ => ?_
    show impl_TreeOk (S.step (S.tab n)) _ = _
    have d : decide ((3000 : Int) < (((ns, ()) : Tr).1.length : Int)) = true := decide_eq_true (by show (3000 : Int) < (ns.length : Int); omega)
    rw [impl_TreeOk_eq, brkF d0, brkT d, decide_eq_true c1]; rfl
  have hn : ns.length ≤ 3000 := by omega
  have d1 : decide ((3000 : Int) < (((ns, ()) : Tr).1.length : Int)) = false := decide_eq_false (by show ¬ (3000 : Int) < (ns.length : Int); omega)
  rw [decide_eq_false c1]
  have wn : IntKind.i64.wrap ((((ns, ()) : Tr).1.length : Int) - 1) = ((ns.length - 1 : Nat) : Int) := by
    show IntKind.i64.wrap ((ns.length : Int) - 1) = _
    rw [wrap64 _ (by omega) (by omega)]; omega
  have hin : (decide ((0 : Int) ≤ ((ns.length - 1 : Nat) : Int)) && decide (((ns.length - 1 : Nat) : Int) < (((ns, ()) : Tr).1.length : Int))) = true := inb_nat (show ns.length - 1 < ns.length by omega)
  have start : ∀ n, impl_TreeOk (S.step (S.tab n)) (ns, ()) = _ := fun n => by
    rw [impl_TreeOk_eq, brkF d0, brkF d1, wn, brkT hin]
  by_cases c2 : ¬ kindAt ns ((ns.length - 1 : Nat) : Int) = 1
  · refine base2.up fun n _ => ?_
    show impl_TreeOk (S.step (S.tab n)) _ = _
    rw [start, brkT (by
      show (!decide (kindAt ns ((ns.length - 1 : Nat) : Int) = 1)) = true
      rw [decide_eq_false c2]; rfl), decide_eq_false c2]; rfl
  replace c2 := Decidable.not_not.1 c2
  rw [decide_eq_true c2]
  have step2 : ∀ n, impl_TreeOk (S.step (S.tab n)) (ns, ()) = _ := fun n => by
    rw [start, brkF (by
      show (!decide (kindAt ns ((ns.length - 1 : Nat) : Int) = 1)) = false
      rw [decide_eq_true c2]; rfl)]
  have h5 := il5_ok hN hn (ns.length : Int) (0, 0, ())
  by_cases c3 : badN ns < ns.length
  · refine h5.up fun n h => ?_
    show impl_TreeOk (S.step (S.tab n)) _ = _
    rw [decide_eq_true c3] at h
    rw [step2, decide_eq_true c3]
    show (impl_TreeOk_l5 (S.tab n) (ns, ()) (0, 0, ()) (ns.length : Int) (ns.length : Int) 0).bind _ = _
    rw [h]; rfl
  rw [decide_eq_false c3] at h5 ⊢
  have h12 := il12_ok hN hn c3 (0, 0, ()) ns.length (List.replicate ns.length 0) (Nat.le_refl _) (by simp) (fun j => by rw [get_rep]; omega)
  rw [Nat.sub_self] at h12
  have hlim : (decide ((0 : Int) ≤ (ns.length : Int)) && decide ((ns.length : Int) ≤ (ns.length : Int)) && decide ((ns.length : Int) ≤ (lim : Int))) = true := by
    rw [decide_eq_true (show (0 : Int) ≤ (ns.length : Int) by omega), decide_eq_true (show (ns.length : Int) ≤ (ns.length : Int) by omega), decide_eq_true (show (ns.length : Int) ≤ (lim : Int) by unfold lim; omega)]; rfl
  have step3 : ∀ n, impl_TreeOk_l5 (S.tab n) (ns, ()) (0, 0, ()) (((ns, ()) : Tr).1.length : Int) (((ns, ()) : Tr).1.length : Int) 0 = some (Sum.inr (Sum.inl ((ns, ()), (0, 0, ()), (ns.length : Int), ()))) → impl_TreeOk (S.step (S.tab n)) (ns, ()) = _ := fun n h => by
    rw [step2, h, Option.bind_some]
  simp only [cond_false, Bool.not_true]
  cases hc : imS ns ns.length (List.replicate ns.length 0) with
  | inl j =>
    rw [hc] at h12
    refine (h5.and h12).up fun n ⟨h, h'⟩ => ?_
    show impl_TreeOk (S.step (S.tab n)) _ = _
    rw [step3 n h]
    show brk (decide ((0 : Int) ≤ (ns.length : Int)) && decide ((ns.length : Int) ≤ (ns.length : Int)) && decide ((ns.length : Int) ≤ (lim : Int))) ((impl_TreeOk_l12 (S.tab n) (ns, ()) (0, 0, ()) (ns.length : Int) (List.replicate ns.length 0) ns (ns.length : Int) 0).bind _) _ = _
    have h' : impl_TreeOk_l12 (S.tab n) (ns, ()) (0, 0, ()) (ns.length : Int) (List.replicate ns.length 0) ns (ns.length : Int) 0 = _ := h'
    rw [brkT hlim, h']; rfl
  | inr u =>
    rw [hc] at h12
    have h27 := il27_ok hN hn c3 (0, 0, ()) ns.length (List.replicate ns.length 0) (Nat.le_refl _) (by simp)
    have hdl : (dall ns ns.length (List.replicate ns.length 0)).length = ns.length := by rw [dall_len]; simp
    have h35 := il35_ok (0, 0, ()) (dall ns ns.length (List.replicate ns.length 0)) (by omega)
    rw [hdl] at h35
    refine ((h5.and h12).and (h27.and h35)).up fun n ⟨⟨h, h'⟩, h27, h35⟩ => ?_
    show impl_TreeOk (S.step (S.tab n)) _ = _
    rw [step3 n h]
    show brk (decide ((0 : Int) ≤ (ns.length : Int)) && decide ((ns.length : Int) ≤ (ns.length : Int)) && decide ((ns.length : Int) ≤ (lim : Int))) ((impl_TreeOk_l12 (S.tab n) (ns, ()) (0, 0, ()) (ns.length : Int) (List.replicate ns.length 0) ns (ns.length : Int) 0).bind _) _ = _
    have h' : impl_TreeOk_l12 (S.tab n) (ns, ()) (0, 0, ()) (ns.length : Int) (List.replicate ns.length 0) ns (ns.length : Int) 0 = _ := h'
    rw [brkT hlim, h', Option.bind_some]
    show brk (decide ((0 : Int) ≤ (ns.length : Int)) && decide ((ns.length : Int) ≤ (ns.length : Int)) && decide ((ns.length : Int) ≤ (lim : Int))) ((impl_TreeOk_l27 (S.tab n) (ns, ()) (0, 0, ()) (List.replicate ns.length 0) (IntKind.i64.wrap ((ns.length : Int) - 1))).bind _) _ = _
    rw [brkT hlim, wrap64 _ (by omega) (by omega), h27, Option.bind_some]
    show (impl_TreeOk_l35 (S.tab n) (0, 0, ()) (dall ns ns.length (List.replicate ns.length 0)) ((dall ns ns.length (List.replicate ns.length 0)).length : Int) 0).bind _ = _
    rw [hdl, h35, Option.bind_some]
    cases decide (stop (dq100 (dall ns ns.length (List.replicate ns.length 0))) ns.length 0 < ns.length) <;> rfl
theorem spec_TreeOk_ok : Evt fun n => spec_TreeOk (S.tab n) (ns, ()) = some (treeM ns, o_spec_TreeOk) := by
  unfold treeM
  by_cases c0 : ns.length = 0
  · refine base2.up fun n _ => ?_
    show spec_TreeOk (S.step (S.tab n)) _ = _
    have d : decide ((((ns, ()) : Tr).1.length : Int) = 0) = true := decide_eq_true (by show (ns.length : Int) = 0; omega)
    rw [spec_TreeOk_eq, brkT d, decide_eq_true c0]; rfl
  have d0 : decide ((((ns, ()) : Tr).1.length : Int) = 0) = false := decide_eq_false (by show ¬ (ns.length : Int) = 0; omega)
  rw [decide_eq_false c0]
  by_cases c1 : 3000 < ns.length
  · refine base2.up fun n _ => ?_
    show spec_TreeOk (S.step (S.tab n)) _ = _
    have d : decide ((3000 : Int) < (((ns, ()) : Tr).1.length : Int)) = true := decide_eq_true (by show (3000 : Int) < (ns.length : Int); omega)
    rw [spec_TreeOk_eq, brkF d0, brkT d, decide_eq_true c1]; rfl
  have hn : ns.length ≤ 3000 := by omega
  have d1 : decide ((3000 : Int) < (((ns, ()) : Tr).1.length : Int)) = false := decide_eq_false (by show ¬ (3000 : Int) < (ns.length : Int); omega)
  rw [decide_eq_false c1]
  have wn : IntKind.i64.wrap ((((ns, ()) : Tr).1.length : Int) - 1) = ((ns.length - 1 : Nat) : Int) := by
    show IntKind.i64.wrap ((ns.length : Int) - 1) = _
    rw [wrap64 _ (by omega) (by omega)]; omega
  have hin : (decide ((0 : Int) ≤ ((ns.length - 1 : Nat) : Int)) && decide (((ns.length - 1 : Nat) : Int) < (((ns, ()) : Tr).1.length : Int))) = true := inb_nat (show ns.length - 1 < ns.length by omega)
  have start : ∀ n, spec_TreeOk (S.step (S.tab n)) (ns, ()) = _ := fun n => by
    rw [spec_TreeOk_eq, brkF d0, brkF d1, wn, brkT hin]
  by_cases c2 : ¬ kindAt ns ((ns.length - 1 : Nat) : Int) = 1
  · refine base2.up fun n _ => ?_
    show spec_TreeOk (S.step (S.tab n)) _ = _
    rw [start, brkT (by
      show (!decide (kindAt ns ((ns.length - 1 : Nat) : Int) = 1)) = true
      rw [decide_eq_false c2]; rfl), decide_eq_false c2]; rfl
  replace c2 := Decidable.not_not.1 c2
  rw [decide_eq_true c2]
  have step2 : ∀ n, spec_TreeOk (S.step (S.tab n)) (ns, ()) = _ := fun n => by
    rw [start, brkF (by
      show (!decide (kindAt ns ((ns.length - 1 : Nat) : Int) = 1)) = false
      rw [decide_eq_true c2]; rfl)]
  have h4 := sl4_ok hN hn (0, 0, ())
  by_cases c3 : badN ns < ns.length
  · refine h4.up fun n h => ?_
    show spec_TreeOk (S.step (S.tab n)) _ = _
    rw [decide_eq_true c3] at h
    rw [step2, decide_eq_true c3]
    show (spec_TreeOk_l4 (S.tab n) (ns, ()) (0, 0, ()) (ns.length : Int) 0).bind _ = _
    rw [h]; rfl
  rw [decide_eq_false c3] at h4 ⊢
  have h3 := sl3_ok hN hn c3 ns.length (List.replicate ns.length 0) (Nat.le_refl _) (by simp) (fun j => by rw [get_rep]; omega)
  rw [Nat.sub_self] at h3
  have hlim : (decide ((0 : Int) ≤ (ns.length : Int)) && decide ((ns.length : Int) ≤ (ns.length : Int)) && decide ((ns.length : Int) ≤ (lim : Int))) = true := by
    rw [decide_eq_true (show (0 : Int) ≤ (ns.length : Int) by omega), decide_eq_true (show (ns.length : Int) ≤ (ns.length : Int) by omega), decide_eq_true (show (ns.length : Int) ≤ (lim : Int) by unfold lim; omega)]; rfl
  have hsizes : Evt fun n => spec_l2sizes (S.tab n) (ns, ()) = some (szS ns ns.length (List.replicate ns.length 0), o_spec_l2sizes) := h3.up fun n h => by
    show spec_l2sizes (S.step (S.tab n)) _ = _
    rw [spec_l2sizes_eq, brkT hlim]
    show (spec_l2sizes_l3 (S.tab n) (List.replicate ns.length 0) ns (ns.length : Int) 0).bind _ = _
    have h : spec_l2sizes_l3 (S.tab n) (List.replicate ns.length 0) ns (ns.length : Int) 0 = _ := h
    rw [h]; rfl
  have hzl : (szS ns ns.length (List.replicate ns.length 0)).length = ns.length := by rw [szS_len]; simp
  have h11 := sl11_ok (ns, ()) (0, 0, ()) (szS ns ns.length (List.replicate ns.length 0)) (by omega)
  have hal : imS ns ns.length (List.replicate ns.length 0) = resS (szS ns ns.length (List.replicate ns.length 0)) := by
    obtain ⟨r, hr⟩ : ∃ r, ns.length = r + 1 := ⟨ns.length - 1, by omega⟩
    have := alikeS ns (kidsAt_lt c3) r (List.replicate ns.length 0) (List.replicate ns.length 0) (by omega) ⟨by simp, by simp, fun j hj => by omega, fun j _ => ⟨get_rep .., get_rep ..⟩⟩
    rw [← hr] at this
    exact this
  rw [hal]
  simp only [cond_false, Bool.not_true]
  generalize hsz : szS ns ns.length (List.replicate ns.length 0) = sz at hsizes hzl h11
  have step3 : ∀ n, spec_TreeOk_l4 (S.tab n) (ns, ()) (0, 0, ()) (((ns, ()) : Tr).1.length : Int) 0 = some (Sum.inr (Sum.inl ((ns, ()), (0, 0, ()), ()))) → spec_TreeOk (S.step (S.tab n)) (ns, ()) = _ := fun n h => by
    rw [step2, h, Option.bind_some]
  unfold resS
  cases hz : decide (stop (zq sz) sz.length 0 < sz.length) with
  | true =>
    rw [hz] at h11
    refine ((h4.and hsizes).and h11).up fun n ⟨⟨h, h'⟩, h11⟩ => ?_
    show spec_TreeOk (S.step (S.tab n)) _ = _
    rw [step3 n h]
    show (spec_l2sizes (S.tab n) (ns, ())).bind _ = _
    rw [h', Option.bind_some]
    show (spec_TreeOk_l11 (S.tab n) (ns, ()) (0, 0, ()) sz sz (sz.length : Int) 0).bind _ = _
    rw [h11]; rfl
  | false =>
    rw [hz] at h11
    have wz : IntKind.i64.wrap ((sz.length : Int) - 1) = ((sz.length - 1 : Nat) : Int) := by rw [wrap64 _ (by omega) (by omega)]; omega
    have hinz : (decide ((0 : Int) ≤ ((sz.length - 1 : Nat) : Int)) && decide (((sz.length - 1 : Nat) : Int) < (sz.length : Int))) = true := inb_nat (show sz.length - 1 < sz.length by omega)
    cases hlast : decide (get sz (sz.length - 1) = (sz.length : Int)) with
    | false =>
      refine ((h4.and hsizes).and h11).up fun n ⟨⟨h, h'⟩, h11⟩ => ?_
      show spec_TreeOk (S.step (S.tab n)) _ = _
      rw [step3 n h]
      show (spec_l2sizes (S.tab n) (ns, ())).bind _ = _
      rw [h', Option.bind_some]
      show (spec_TreeOk_l11 (S.tab n) (ns, ()) (0, 0, ()) sz sz (sz.length : Int) 0).bind _ = _
      rw [h11, Option.bind_some]
      show brk (decide ((0 : Int) ≤ IntKind.i64.wrap ((sz.length : Int) - 1)) && decide (IntKind.i64.wrap ((sz.length : Int) - 1) < (sz.length : Int))) (brk (!decide (sz.getD (IntKind.i64.wrap ((sz.length : Int) - 1)).toNat 0 = (sz.length : Int))) (some ((3, IntKind.i64.wrap ((sz.length : Int) - 1), ()), o_spec_TreeOk)) _) _ = _
      rw [wz, brkT hinz, getD_nat, hlast, brkT (by rfl)]; rfl
    | true =>
      have h20 := sl20_ok hN hn c3 (0, 0, ()) ns.length (List.replicate ns.length 0) (Nat.le_refl _) (by simp)
      have hdl : (dall ns ns.length (List.replicate ns.length 0)).length = ns.length := by rw [dall_len]; simp
      have h28 := sl28_ok (0, 0, ()) (dall ns ns.length (List.replicate ns.length 0)) (by omega)
      rw [hdl] at h28
      refine (((h4.and hsizes).and h11).and (h20.and h28)).up fun n ⟨⟨⟨h, h'⟩, h11⟩, h20, h28⟩ => ?_
      show spec_TreeOk (S.step (S.tab n)) _ = _
      rw [step3 n h]
      show (spec_l2sizes (S.tab n) (ns, ())).bind _ = _
      rw [h', Option.bind_some]
      show (spec_TreeOk_l11 (S.tab n) (ns, ()) (0, 0, ()) sz sz (sz.length : Int) 0).bind _ = _
      rw [h11, Option.bind_some]
      show brk (decide ((0 : Int) ≤ IntKind.i64.wrap ((sz.length : Int) - 1)) && decide (IntKind.i64.wrap ((sz.length : Int) - 1) < (sz.length : Int))) (brk (!decide (sz.getD (IntKind.i64.wrap ((sz.length : Int) - 1)).toNat 0 = (sz.length : Int))) (some ((3, IntKind.i64.wrap ((sz.length : Int) - 1), ()), o_spec_TreeOk)) _) _ = _
      rw [wz, brkT hinz, getD_nat, hlast, brkF (by rfl)]
      show brk (decide ((0 : Int) ≤ (ns.length : Int)) && decide ((ns.length : Int) ≤ (ns.length : Int)) && decide ((ns.length : Int) ≤ (lim : Int))) ((spec_TreeOk_l20 (S.tab n) (ns, ()) (0, 0, ()) (List.replicate ns.length 0) (IntKind.i64.wrap ((ns.length : Int) - 1))).bind _) _ = _
      rw [brkT hlim, wrap64 _ (by omega) (by omega), h20, Option.bind_some]
      show (spec_TreeOk_l28 (S.tab n) (0, 0, ()) (dall ns ns.length (List.replicate ns.length 0)) ((dall ns ns.length (List.replicate ns.length 0)).length : Int) 0).bind _ = _
      rw [hdl, h28, Option.bind_some]
      cases decide (stop (dq100 (dall ns ns.length (List.replicate ns.length 0))) ns.length 0 < ns.length) <;> rfl
end
end Go.Abs.D
end

section

end

section
namespace Go.Abs.D
def dgs : Nat → Int → List Int → List Int
  | 0, _, o => o
  | k + 1, v, o => bif decide (0 < v) then dgs k (v / 10) ((48 + v % 10) :: o) else o
theorem markText_l4_ok : ∀ (k : Nat) (v : Int) (o : List Int), 0 ≤ v → v < 10 ^ k → k ≤ 18 → o.length + k ≤ 100 → Evt fun n => laws_markText_l4 (S.tab n) v o = some (Sum.inl (dgs k v o, ()))
  | 0, v, o, h0, h1, _, _ => base2.up fun n _ => by
    show laws_markText_l4 (S.step (S.tab n)) _ _ = _
    rw [laws_markText_l4_eq, brkF (by simp only [decide_eq_false_iff_not]; simp at h1; omega)]; rfl
  | k + 1, v, o, h0, h1, hk, ho => by
    by_cases hv : 0 < v
    · have hp : (10 : Int) ^ (k + 1) = 10 ^ k * 10 := Int.pow_succ ..
      have hk' : (10 : Int) ^ (k + 1) ≤ 10 ^ 18 := by
        have : ∀ j : Fin 19, (10 : Int) ^ j.1 ≤ 10 ^ 18 := by decide
        exact this ⟨k + 1, by omega⟩
      have em : v.tmod 10 = v % 10 := Int.tmod_eq_emod_of_nonneg h0
      have ed : v.tdiv 10 = v / 10 := Int.tdiv_eq_ediv_of_nonneg h0
      have w1 : IntKind.i64.wrap (48 + v % 10) = 48 + v % 10 := wrap64 _ (by omega) (by omega)
      have w2 : IntKind.u8.wrap (48 + v % 10) = 48 + v % 10 := wrap8 _ (by omega) (by omega)
      have w3 : IntKind.i64.wrap (v / 10) = v / 10 := wrap64 _ (by omega) (by omega)
      have wb : ([48 + v % 10] : List Int).map byte = [48 + v % 10] := map_byte fun c hc => by
        have : c = 48 + v % 10 := by simpa using hc
        subst this; exact ⟨by omega, by omega⟩
      refine (markText_l4_ok k (v / 10) ((48 + v % 10) :: o) (by omega) (by omega) (by omega) (by simp; omega)).up fun n h => ?_
      show laws_markText_l4 (S.step (S.tab n)) _ _ = _
      rw [laws_markText_l4_eq, brkT (decide_eq_true hv), em, ed, w1, w2, w3, wb, brkT (fits_of (by unfold lim; simp only [List.length_singleton]; omega))]
      unfold dgs
      rw [decide_eq_true hv]
      exact h
    · refine base2.up fun n _ => ?_
      show laws_markText_l4 (S.step (S.tab n)) _ _ = _
      unfold dgs
      rw [laws_markText_l4_eq, brkF (decide_eq_false hv), decide_eq_false hv]; rfl
def markT (v : Int) : List Int := 109 :: dgs 18 v []
theorem dgs_len : ∀ (k : Nat) (v : Int) (o : List Int), (dgs k v o).length ≤ o.length + k
  | 0, _, _ => Nat.le_refl _
  | k + 1, v, o => by
    unfold dgs
    cases decide (0 < v) with
    | true => have := dgs_len k (v / 10) ((48 + v % 10) :: o); simp at this ⊢; omega
    | false => simp
theorem markText_ok (v : Int) (h0 : 0 < v) (h1 : v < 1000000000000000000) : Evt fun n => laws_markText (S.tab n) v = some (markT v, o_laws_markText) := (markText_l4_ok 18 v [] (by omega) h1 (by omega) (by simp)).up fun n h => by
  show laws_markText (S.step (S.tab n)) _ = _
  have := dgs_len 18 v []
  rw [laws_markText_eq, brkF (decide_eq_false (by omega)), h]
  simp only [Option.bind_some, out1, Sum.elim_inl]
  rw [brkT (fits_of (by unfold lim; simp at this; omega))]; rfl
theorem set_mid {α : Type} (pre : List α) (x y : α) (r : List α) : (pre ++ x :: r).set pre.length y = pre ++ y :: r := by
  rw [List.set_append_right _ _ (Nat.le_refl _), Nat.sub_self]; rfl
theorem w6 {k : Int} (h0 : 0 < k) (h1 : k < 1000000000000) : IntKind.i64.wrap (k + 1) = k + 1 ∧ IntKind.i64.wrap (k + 1 + 1) = k + 2 ∧ IntKind.i64.wrap (k + 2 + 1) = k + 3 ∧ IntKind.i64.wrap (k + 3 + 1) = k + 4 ∧ IntKind.i64.wrap (k + 4 + 1) = k + 5 ∧ IntKind.i64.wrap (k + 5 + 1) = k + 6 := by
  refine ⟨?_, ?_, ?_, ?_, ?_, ?_⟩ <;> rw [wrap64 _ (by omega) (by omega)] <;> omega
end Go.Abs.D
end

section

end

section
namespace Go.Abs.D
def szL : List (List Int) → Int → Int
  | [], l => l
  | m :: r, l => bif decide (l - (m.length : Int) < 0) then -1 else szL r (l - (m.length : Int))
def szSt (names : List (List Int)) (l : Int) : Int := bif decide (l - (names.length : Int) < 0) then -1 else szL names (l - (names.length : Int))
def szIn (kids : List Int) (l : Int) : Int := bif decide (l - (kids.length : Int) < 0) then -1 else l - (kids.length : Int)
def szNd (x : tyNode.den) (l : Int) : Int :=
  bif decide (l - (List.length (α := Int) x.2.2.2.2.2.2.1 : Int) < 0) then -1 else
  bif decide (szSt (namesOf x) (l - (List.length (α := Int) x.2.2.2.2.2.2.1 : Int)) < 0) then -1 else
  bif decide (szIn (kidsOf x) (szSt (namesOf x) (l - (List.length (α := Int) x.2.2.2.2.2.2.1 : Int))) < 0) then -1 else szIn (kidsOf x) (szSt (namesOf x) (l - (List.length (α := Int) x.2.2.2.2.2.2.1 : Int)))
def szNs : List tyNode.den → Int → Int
  | [], l => l
  | x :: r, l => bif decide (szNd x l < 0) then -1 else szNs r (szNd x l)
def szTr (ns : List tyNode.den) (l : Int) : Int := bif decide (l - (ns.length : Int) < 0) then -1 else szNs ns (l - (ns.length : Int))
def big : Int := 9223372036854775807
theorem wrapL {l : Int} {n : Nat} (h0 : 0 ≤ l) (h1 : l ≤ 1048576) (hn : n ≤ maxLen) : IntKind.i64.wrap (l - (n : Int)) = l - (n : Int) := by
  unfold maxLen at hn
  exact wrap64 _ (by omega) (by omega)
theorem szL_bd : ∀ (r : List (List Int)) (l : Int), szL r l ≤ l ∨ szL r l = -1
  | [], l => .inl (Int.le_refl _)
  | m :: r, l => by
    unfold szL
    by_cases h : l - (m.length : Int) < 0
    · rw [decide_eq_true h]; exact .inr rfl
    · rw [decide_eq_false h]
      rcases szL_bd r (l - (m.length : Int)) with h | h
      · left; simp only [cond_false]; omega
      · right; exact h
theorem szStr_l5_ok : ∀ (r pre : List (List Int)) (l : Int), 0 ≤ l → l ≤ 1048576 → (∀ m ∈ r, m.length ≤ maxLen) → (pre ++ r).length ≤ 2097152 →
    Evt fun n => ∃ y, laws_szStringS_l5 (S.tab n) (pre ++ r) l (pre.length : Int) = some y ∧ (y = .inl (szL r l, ()) ∨ y = .inr (.inl (szL r l, ())))
  | [], pre, l, _, _, _, _ => base2.up fun n _ => by
    show ∃ y, laws_szStringS_l5 (S.step (S.tab n)) _ _ _ = _ ∧ _
    rw [laws_szStringS_l5_eq, brkF (by simp)]
    exact ⟨_, rfl, .inr rfl⟩
  | m :: r, pre, l, h0, h1, hm, hl => by
    have hlen : (pre ++ m :: r).length = pre.length + (r.length + 1) := by simp
    have hg : (pre ++ m :: r).getD (pre.length : Int).toNat [] = m := getD_cut pre m r []
    have w := wrapL h0 h1 (hm m (List.mem_cons_self ..))
    have start : ∀ n, laws_szStringS_l5 (S.step (S.tab n)) (pre ++ m :: r) l (pre.length : Int) = _ := fun n => by
      rw [laws_szStringS_l5_eq, brkT (by simp only [decide_eq_true_eq]; omega), brkT (inb_nat (by omega)), hg, w, wrap1 (by omega)]
    unfold szL
    by_cases h : l - (m.length : Int) < 0
    · refine base2.up fun n _ => ?_
      show ∃ y, laws_szStringS_l5 (S.step (S.tab n)) _ _ _ = _ ∧ _
      rw [start, brkT (decide_eq_true h), decide_eq_true h]
      exact ⟨_, rfl, .inl rfl⟩
    · have ih := szStr_l5_ok r (pre ++ [m]) (l - (m.length : Int)) (by omega) (by omega) (fun x hx => hm x (List.mem_cons_of_mem _ hx)) (by simpa using hl)
      refine ih.up fun n ih => ?_
      show ∃ y, laws_szStringS_l5 (S.step (S.tab n)) _ _ _ = _ ∧ _
      rw [start, brkF (decide_eq_false h), decide_eq_false h]
      have e1 : (pre ++ [m]) ++ r = pre ++ m :: r := by simp
      have e2 : (pre ++ [m]).length = pre.length + 1 := by simp
      rw [e1, e2] at ih
      exact ih
theorem szStr_ok (names : List (List Int)) (l : Int) (h0 : 0 ≤ l) (h1 : l ≤ 1048576) (hm : ∀ m ∈ names, m.length ≤ maxLen) (hn : names.length ≤ maxLen) : Evt fun n => laws_szStringS (S.tab n) names l = some (szSt names l, o_laws_szStringS) := by
  have w := wrapL h0 h1 hn
  unfold szSt
  by_cases h : l - (names.length : Int) < 0
  · refine base2.up fun n _ => ?_
    show laws_szStringS (S.step (S.tab n)) _ _ = _
    rw [laws_szStringS_eq, w, brkT (decide_eq_true h), decide_eq_true h]; rfl
  · refine (szStr_l5_ok names [] (l - (names.length : Int)) (by omega) (by omega) hm (by simp only [List.nil_append]; omega)).up fun n ⟨y, h', hy⟩ => ?_
    show laws_szStringS (S.step (S.tab n)) _ _ = _
    have h' : laws_szStringS_l5 (S.tab n) names (l - (names.length : Int)) 0 = some y := h'
    rw [laws_szStringS_eq, w, brkF (decide_eq_false h), decide_eq_false h, h', Option.bind_some]
    rcases hy with rfl | rfl <;> rfl
theorem szInt_ok (kids : List Int) (l : Int) (h0 : 0 ≤ l) (h1 : l ≤ 1048576) (hn : kids.length ≤ maxLen) : Evt fun n => laws_szIntS (S.tab n) kids l = some (szIn kids l, o_laws_szIntS) := base2.up fun n _ => by
  show laws_szIntS (S.step (S.tab n)) _ _ = _
  unfold szIn
  rw [laws_szIntS_eq, wrapL h0 h1 hn]
  by_cases h : l - (kids.length : Int) < 0
  · rw [brkT (decide_eq_true h), decide_eq_true h]; rfl
  · rw [brkF (decide_eq_false h), decide_eq_false h]; rfl
structure Read (x : tyNode.den) : Prop where
  text : (∀ c ∈ x.2.2.2.2.2.2.1, isByte c) ∧ List.length (α := Int) x.2.2.2.2.2.2.1 ≤ maxLen
  names : (∀ m ∈ namesOf x, (∀ c ∈ m, isByte c) ∧ m.length ≤ maxLen) ∧ (namesOf x).length ≤ maxLen
  kids : (kidsOf x).length ≤ maxLen
theorem szSt_le {names : List (List Int)} {l : Int} (h : 0 ≤ szSt names l) : szSt names l ≤ l ∧ (names.length : Int) ≤ l := by
  unfold szSt at h ⊢
  by_cases hd : l - (names.length : Int) < 0
  · rw [decide_eq_true hd] at h; exact absurd (show (0 : Int) ≤ -1 from h) (by decide)
  · rw [decide_eq_false hd] at h ⊢
    simp only [cond_false] at h ⊢
    rcases szL_bd names (l - (names.length : Int)) with h' | h'
    · omega
    · rw [h'] at h; exact absurd (show (0 : Int) ≤ -1 from h) (by decide)
theorem szIn_le {kids : List Int} {l : Int} (h : 0 ≤ szIn kids l) : szIn kids l ≤ l ∧ (kids.length : Int) ≤ l := by
  unfold szIn at h ⊢
  by_cases hd : l - (kids.length : Int) < 0
  · rw [decide_eq_true hd] at h; exact absurd (show (0 : Int) ≤ -1 from h) (by decide)
  · rw [decide_eq_false hd] at h ⊢
    simp only [cond_false] at h ⊢
    omega
theorem szNd_le {x : tyNode.den} {l : Int} (h : 0 ≤ szNd x l) : szNd x l ≤ l ∧ ((namesOf x).length : Int) ≤ l ∧ ((kidsOf x).length : Int) ≤ l ∧ (List.length (α := Int) x.2.2.2.2.2.2.1 : Int) ≤ l := by
  unfold szNd at h ⊢
  by_cases h1 : l - (List.length (α := Int) x.2.2.2.2.2.2.1 : Int) < 0
  · rw [decide_eq_true h1] at h; exact absurd (show (0 : Int) ≤ -1 from h) (by decide)
  rw [decide_eq_false h1] at h ⊢
  by_cases h2 : szSt (namesOf x) (l - (List.length (α := Int) x.2.2.2.2.2.2.1 : Int)) < 0
  · rw [decide_eq_true h2] at h; exact absurd (show (0 : Int) ≤ -1 from h) (by decide)
  rw [decide_eq_false h2] at h ⊢
  by_cases h3 : szIn (kidsOf x) (szSt (namesOf x) (l - (List.length (α := Int) x.2.2.2.2.2.2.1 : Int))) < 0
  · rw [decide_eq_true h3] at h; exact absurd (show (0 : Int) ≤ -1 from h) (by decide)
  rw [decide_eq_false h3] at h ⊢
  simp only [cond_false] at h ⊢
  have a := szSt_le (show 0 ≤ szSt (namesOf x) (l - (List.length (α := Int) x.2.2.2.2.2.2.1 : Int)) by omega)
  have b := szIn_le (show 0 ≤ szIn (kidsOf x) (szSt (namesOf x) (l - (List.length (α := Int) x.2.2.2.2.2.2.1 : Int))) by omega)
  omega
theorem szNode_ok {x : tyNode.den} (hx : Read x) (l : Int) (h0 : 0 ≤ l) (h1 : l ≤ 1048576) : Evt fun n => laws_szNode (S.tab n) x l = some (szNd x l, o_laws_szNode) := by
  have w := wrapL h0 h1 hx.text.2
  unfold szNd
  by_cases c1 : l - (List.length (α := Int) x.2.2.2.2.2.2.1 : Int) < 0
  · refine base2.up fun n _ => ?_
    show laws_szNode (S.step (S.tab n)) _ _ = _
    rw [laws_szNode_eq, w, brkT (decide_eq_true c1), decide_eq_true c1]; rfl
  have hs := szStr_ok (namesOf x) (l - (List.length (α := Int) x.2.2.2.2.2.2.1 : Int)) (by omega) (by omega) (fun m hm => (hx.names.1 m hm).2) hx.names.2
  rw [decide_eq_false c1]
  by_cases c2 : szSt (namesOf x) (l - (List.length (α := Int) x.2.2.2.2.2.2.1 : Int)) < 0
  · refine hs.up fun n hs => ?_
    show laws_szNode (S.step (S.tab n)) _ _ = _
    rw [laws_szNode_eq, w, brkF (decide_eq_false c1)]
    show (laws_szStringS (S.tab n) (namesOf x) _).bind _ = _
    rw [hs, Option.bind_some, brkT (decide_eq_true c2), decide_eq_true c2]; rfl
  have a := szSt_le (show 0 ≤ szSt (namesOf x) (l - (List.length (α := Int) x.2.2.2.2.2.2.1 : Int)) by omega)
  have hi := szInt_ok (kidsOf x) (szSt (namesOf x) (l - (List.length (α := Int) x.2.2.2.2.2.2.1 : Int))) (by omega) (by omega) hx.kids
  rw [decide_eq_false c2]
  refine (hs.and hi).up fun n ⟨hs, hi⟩ => ?_
  show laws_szNode (S.step (S.tab n)) _ _ = _
  rw [laws_szNode_eq, w, brkF (decide_eq_false c1)]
  show (laws_szStringS (S.tab n) (namesOf x) _).bind _ = _
  rw [hs, Option.bind_some, brkF (decide_eq_false c2)]
  show (laws_szIntS (S.tab n) (kidsOf x) _).bind _ = _
  rw [hi, Option.bind_some]
  by_cases c3 : szIn (kidsOf x) (szSt (namesOf x) (l - (List.length (α := Int) x.2.2.2.2.2.2.1 : Int))) < 0
  · rw [brkT (decide_eq_true c3), decide_eq_true c3]; rfl
  · rw [brkF (decide_eq_false c3), decide_eq_false c3]; rfl
theorem szNs_l5_ok : ∀ (r pre : List tyNode.den) (l : Int), 0 ≤ l → l ≤ 1048576 → (∀ x ∈ r, Read x) → (pre ++ r).length ≤ 2097152 →
    Evt fun n => ∃ y, laws_szNodeS_l5 (S.tab n) (pre ++ r) l (pre.length : Int) = some y ∧ (y = .inl (szNs r l, ()) ∨ y = .inr (.inl (szNs r l, ())))
  | [], pre, l, _, _, _, _ => base2.up fun n _ => by
    show ∃ y, laws_szNodeS_l5 (S.step (S.tab n)) _ _ _ = _ ∧ _
    rw [laws_szNodeS_l5_eq, brkF (by simp)]
    exact ⟨_, rfl, .inr rfl⟩
  | x :: r, pre, l, h0, h1, hm, hl => by
    have hlen : (pre ++ x :: r).length = pre.length + (r.length + 1) := by simp
    have hg : at_ (τ := tyNode) (pre ++ x :: r) (pre.length : Int) = x := by rw [at_node _ _ (by omega)]; simp
    have hz := szNode_ok (hm x (List.mem_cons_self ..)) l h0 h1
    have start : ∀ n, laws_szNode (S.tab n) x l = some (szNd x l, o_laws_szNode) → laws_szNodeS_l5 (S.step (S.tab n)) (pre ++ x :: r) l (pre.length : Int) = _ := fun n hz => by
      rw [laws_szNodeS_l5_eq, brkT (by simp only [decide_eq_true_eq]; omega), brkT (inb_nat (by omega)), hg, hz, Option.bind_some, wrap1 (by omega)]
    unfold szNs
    by_cases h : szNd x l < 0
    · refine hz.up fun n hz => ?_
      show ∃ y, laws_szNodeS_l5 (S.step (S.tab n)) _ _ _ = _ ∧ _
      rw [start n hz, brkT (decide_eq_true h), decide_eq_true h]
      exact ⟨_, rfl, .inl rfl⟩
    · have hle := szNd_le (show 0 ≤ szNd x l by omega)
      have ih := szNs_l5_ok r (pre ++ [x]) (szNd x l) (by omega) (by omega) (fun y hy => hm y (List.mem_cons_of_mem _ hy)) (by simpa using hl)
      refine (hz.and ih).up fun n ⟨hz, ih⟩ => ?_
      show ∃ y, laws_szNodeS_l5 (S.step (S.tab n)) _ _ _ = _ ∧ _
      rw [start n hz, brkF (decide_eq_false h), decide_eq_false h]
      have e1 : (pre ++ [x]) ++ r = pre ++ x :: r := by simp
      have e2 : (pre ++ [x]).length = pre.length + 1 := by simp
      rw [e1, e2] at ih
      exact ih
theorem szNs_all : ∀ (r : List tyNode.den) (l : Int), 0 ≤ szNs r l → l ≤ 1048576 → ∀ x ∈ r, ((namesOf x).length : Int) ≤ 1048576 ∧ ((kidsOf x).length : Int) ≤ 1048576 ∧ (List.length (α := Int) x.2.2.2.2.2.2.1 : Int) ≤ 1048576
  | [], l, _, _, x, hx => by cases hx
  | y :: r, l, h, h1, x, hx => by
    unfold szNs at h
    by_cases hd : szNd y l < 0
    · rw [decide_eq_true hd] at h; exact absurd (show (0 : Int) ≤ -1 from h) (by decide)
    rw [decide_eq_false hd] at h
    have hle := szNd_le (show 0 ≤ szNd y l by omega)
    rcases List.mem_cons.1 hx with rfl | hx
    · omega
    · exact szNs_all r _ h (by omega) x hx
theorem szTree_ok (ns : List tyNode.den) (hN : ∀ x ∈ ns, Read x) (hn : ns.length ≤ maxLen) : Evt fun n => laws_szTree (S.tab n) (ns, ()) 1048576 = some (bif decide (szTr ns 1048576 < 0) then -1 else szTr ns 1048576, o_laws_szTree) := by
  have w := wrapL (l := 1048576) (by decide) (by decide) hn
  have hS : Evt fun n => laws_szNodeS (S.tab n) ns 1048576 = some (szTr ns 1048576, o_laws_szNodeS) := by
    unfold szTr
    by_cases h : 1048576 - (ns.length : Int) < 0
    · refine base2.up fun n _ => ?_
      show laws_szNodeS (S.step (S.tab n)) _ _ = _
      rw [laws_szNodeS_eq, w, brkT (decide_eq_true h), decide_eq_true h]; rfl
    · refine (szNs_l5_ok ns [] (1048576 - (ns.length : Int)) (by omega) (by omega) hN (by simp only [List.nil_append]; omega)).up fun n ⟨y, h', hy⟩ => ?_
      show laws_szNodeS (S.step (S.tab n)) _ _ = _
      have h' : laws_szNodeS_l5 (S.tab n) ns (1048576 - (ns.length : Int)) 0 = some y := h'
      rw [laws_szNodeS_eq, w, brkF (decide_eq_false h), decide_eq_false h, h', Option.bind_some]
      rcases hy with rfl | rfl <;> rfl
  refine hS.up fun n h => ?_
  show laws_szTree (S.step (S.tab n)) _ _ = _
  rw [laws_szTree_eq]
  show (laws_szNodeS (S.tab n) ns 1048576).bind _ = _
  rw [h, Option.bind_some]
  by_cases hd : szTr ns 1048576 < 0
  · rw [brkT (decide_eq_true hd), decide_eq_true hd]; rfl
  · rw [brkF (decide_eq_false hd), decide_eq_false hd]; rfl
theorem toStr_l3_ok : ∀ (r pre : List (List Int)), (pre ++ r).length ≤ 2097152 → Evt fun n => laws_toStringS_l3 (S.tab n) (pre ++ r) (pre ++ List.replicate r.length []) (pre.length : Int) = some (Sum.inl (pre ++ r, ()))
  | [], pre, hl => base2.up fun n _ => by
    show laws_toStringS_l3 (S.step (S.tab n)) _ _ _ = _
    rw [laws_toStringS_l3_eq, brkF (by simp)]
    simp
  | m :: r, pre, hl => by
    have hlen : (pre ++ m :: r).length = pre.length + (r.length + 1) := by simp
    have ih := toStr_l3_ok r (pre ++ [m]) (by simpa using hl)
    refine ih.up fun n h => ?_
    show laws_toStringS_l3 (S.step (S.tab n)) _ _ _ = _
    have hg : (pre ++ m :: r).getD (pre.length : Int).toNat [] = m := getD_cut pre m r []
    have e1 : (pre ++ [m]) ++ r = pre ++ m :: r := by simp
    have e2 : (pre ++ [m]).length = pre.length + 1 := by simp
    have e3 : (pre ++ [m]) ++ List.replicate r.length [] = pre ++ m :: List.replicate r.length [] := by simp
    rw [e1, e2, e3] at h
    rw [laws_toStringS_l3_eq, brkT (by simp only [decide_eq_true_eq]; omega), brkT (inb_nat (by omega)), List.length_cons, List.replicate_succ, brkT (inb_nat (by simp)), hg, Int.toNat_natCast, set_mid, wrap1 (by omega)]
    exact h
theorem limOk {k : Nat} (h : k ≤ 2097152) : (decide ((0 : Int) ≤ (k : Int)) && decide ((k : Int) ≤ (k : Int)) && decide ((k : Int) ≤ (lim : Int))) = true := by
  rw [decide_eq_true (show (0 : Int) ≤ (k : Int) by omega), decide_eq_true (show (k : Int) ≤ (k : Int) by omega), decide_eq_true (show (k : Int) ≤ (lim : Int) by unfold lim; omega)]; rfl
theorem toStr_ok (l : List (List Int)) (hl : l.length ≤ 2097152) : Evt fun n => laws_toStringS (S.tab n) l = some (l, o_laws_toStringS) := (toStr_l3_ok l [] (by simpa using hl)).up fun n h => by
  show laws_toStringS (S.step (S.tab n)) _ = _
  have h : laws_toStringS_l3 (S.tab n) l (List.replicate l.length []) 0 = some (Sum.inl (l, ())) := h
  rw [laws_toStringS_eq, brkT (limOk hl), Int.toNat_natCast, h]; rfl
theorem toInt_l3_ok : ∀ (r pre : List Int), (pre ++ r).length ≤ 2097152 → Evt fun n => laws_toIntS_l3 (S.tab n) (pre ++ r) (pre ++ List.replicate r.length 0) (pre.length : Int) = some (Sum.inl (pre ++ r, ()))
  | [], pre, hl => base2.up fun n _ => by
    show laws_toIntS_l3 (S.step (S.tab n)) _ _ _ = _
    rw [laws_toIntS_l3_eq, brkF (by simp)]
    simp
  | m :: r, pre, hl => by
    have hlen : (pre ++ m :: r).length = pre.length + (r.length + 1) := by simp
    have ih := toInt_l3_ok r (pre ++ [m]) (by simpa using hl)
    refine ih.up fun n h => ?_
    show laws_toIntS_l3 (S.step (S.tab n)) _ _ _ = _
    have hg : (pre ++ m :: r).getD (pre.length : Int).toNat 0 = m := getD_cut pre m r 0
    have e1 : (pre ++ [m]) ++ r = pre ++ m :: r := by simp
    have e2 : (pre ++ [m]).length = pre.length + 1 := by simp
    have e3 : (pre ++ [m]) ++ List.replicate r.length 0 = pre ++ m :: List.replicate r.length 0 := by simp
    rw [e1, e2, e3] at h
    rw [laws_toIntS_l3_eq, brkT (by simp only [decide_eq_true_eq]; omega), brkT (inb_nat (by omega)), List.length_cons, List.replicate_succ, brkT (inb_nat (by simp)), hg, Int.toNat_natCast, set_mid, wrap1 (by omega)]
    exact h
theorem toInt_ok (l : List Int) (hl : l.length ≤ 2097152) : Evt fun n => laws_toIntS (S.tab n) l = some (l, o_laws_toIntS) := (toInt_l3_ok l [] (by simpa using hl)).up fun n h => by
  show laws_toIntS (S.step (S.tab n)) _ = _
  have h : laws_toIntS_l3 (S.tab n) l (List.replicate l.length 0) 0 = some (Sum.inl (l, ())) := h
  rw [laws_toIntS_eq, brkT (limOk hl), Int.toNat_natCast, h]; rfl
theorem toNode_ok {x : tyNode.den} (hx : NodeOk x) : Evt fun n => laws_toNode (S.tab n) x = some (x, o_laws_toNode) := ((toStr_ok (namesOf x) hx.nn).and (toInt_ok (kidsOf x) hx.nk)).up fun n ⟨h1, h2⟩ => by
  show laws_toNode (S.step (S.tab n)) _ = _
  rw [laws_toNode_eq]
  show (laws_toStringS (S.tab n) (namesOf x)).bind _ = _
  rw [h1, Option.bind_some]
  show (laws_toIntS (S.tab n) (kidsOf x)).bind _ = _
  rw [h2]; rfl
theorem toNodes_l3_ok (d : tyNode.den) : ∀ (r pre : List tyNode.den), (∀ x ∈ r, NodeOk x) → (pre ++ r).length ≤ 2097152 → Evt fun n => laws_toNodeS_l3 (S.tab n) (pre ++ r) (pre ++ List.replicate r.length d) (pre.length : Int) = some (Sum.inl (pre ++ r, ()))
  | [], pre, _, hl => base2.up fun n _ => by
    show laws_toNodeS_l3 (S.step (S.tab n)) _ _ _ = _
    rw [laws_toNodeS_l3_eq, brkF (by simp)]
    simp
  | x :: r, pre, hN, hl => by
    have hlen : (pre ++ x :: r).length = pre.length + (r.length + 1) := by simp
    have ih := toNodes_l3_ok d r (pre ++ [x]) (fun y hy => hN y (List.mem_cons_of_mem _ hy)) (by simpa using hl)
    refine (ih.and (toNode_ok (hN x (List.mem_cons_self ..)))).up fun n ⟨h, hx⟩ => ?_
    show laws_toNodeS_l3 (S.step (S.tab n)) _ _ _ = _
    have hg : at_ (τ := tyNode) (pre ++ x :: r) (pre.length : Int) = x := by rw [at_node _ _ (by omega)]; simp
    have e1 : (pre ++ [x]) ++ r = pre ++ x :: r := by simp
    have e2 : (pre ++ [x]).length = pre.length + 1 := by simp
    have e3 : (pre ++ [x]) ++ List.replicate r.length d = pre ++ x :: List.replicate r.length d := by simp
    rw [e1, e2, e3] at h
    rw [laws_toNodeS_l3_eq, brkT (by simp only [decide_eq_true_eq]; omega), brkT (inb_nat (by omega)), hg, hx, Option.bind_some, List.length_cons, List.replicate_succ, brkT (inb_nat (by simp)), Int.toNat_natCast, set_mid, wrap1 (by omega)]
    exact h
theorem toTree_ok (ns : List tyNode.den) (hN : ∀ x ∈ ns, NodeOk x) (hl : ns.length ≤ 2097152) : Evt fun n => laws_toTree (S.tab n) (ns, ()) = some ((ns, ()), o_laws_toTree) := by
  have h1 : Evt fun n => laws_toNodeS (S.tab n) ns = some (ns, o_laws_toNodeS) := (toNodes_l3_ok _ ns [] hN (by simpa using hl)).up fun n h => by
    show laws_toNodeS (S.step (S.tab n)) _ = _
    rw [laws_toNodeS_eq, brkT (limOk hl), Int.toNat_natCast]
    have h : laws_toNodeS_l3 (S.tab n) ns (List.replicate ns.length ((0 : Int), (0 : Int), (0 : Int), (0 : Int), (0 : Int), (0 : Int), ([] : List Int), [], [], ())) 0 = some (Sum.inl (ns, ())) := h
    rw [h]; rfl
  exact h1.up fun n h => by
    show laws_toTree (S.step (S.tab n)) _ = _
    rw [laws_toTree_eq]
    show (laws_toNodeS (S.tab n) ns).bind _ = _
    rw [h]; rfl
theorem eqStr_refl (l : List (List Int)) (hl : l.length ≤ 2097152) : Evt fun n => laws_eqStringS (S.tab n) l l = some (true, o_laws_eqStringS) := by
  have := allL (F := fun T j => laws_eqStringS_l4 T l l (j : Int)) (P := fun _ => true) (l := l) (yes := Sum.inr (Sum.inl ())) (no := Sum.inl (false, ())) (q := Base2) base2
    (fun T j h hT => by
      show laws_eqStringS_l4 (S.step T) _ _ _ = bif true then laws_eqStringS_l4 T l l ((j + 1 : Nat) : Int) else _
      rw [laws_eqStringS_l4_eq, brkT (by simp only [decide_eq_true_eq]; omega), brkT (inb_nat h), brkT (inb_nat h), brkF (by simp), wrap1 (by omega)]; rfl)
    (fun T hT => by
      show laws_eqStringS_l4 (S.step T) _ _ _ = _
      rw [laws_eqStringS_l4_eq, brkF (by simp)]) l.length 0 (by omega)
  refine this.up fun n h => ?_
  show laws_eqStringS (S.step (S.tab n)) _ _ = _
  have e : (l.drop 0).all (fun _ => true) = true := by simp
  rw [e] at h
  have h : laws_eqStringS_l4 (S.tab n) l l 0 = _ := h
  rw [laws_eqStringS_eq, brkF (by simp), h]; rfl
theorem eqInt_refl (l : List Int) (hl : l.length ≤ 2097152) : Evt fun n => laws_eqIntS (S.tab n) l l = some (true, o_laws_eqIntS) := by
  have := allL (F := fun T j => laws_eqIntS_l4 T l l (j : Int)) (P := fun _ => true) (l := l) (yes := Sum.inr (Sum.inl ())) (no := Sum.inl (false, ())) (q := Base2) base2
    (fun T j h hT => by
      show laws_eqIntS_l4 (S.step T) _ _ _ = bif true then laws_eqIntS_l4 T l l ((j + 1 : Nat) : Int) else _
      rw [laws_eqIntS_l4_eq, brkT (by simp only [decide_eq_true_eq]; omega), brkT (inb_nat h), brkT (inb_nat h), brkF (by simp), wrap1 (by omega)]; rfl)
    (fun T hT => by
      show laws_eqIntS_l4 (S.step T) _ _ _ = _
      rw [laws_eqIntS_l4_eq, brkF (by simp)]) l.length 0 (by omega)
  refine this.up fun n h => ?_
  show laws_eqIntS (S.step (S.tab n)) _ _ = _
  have e : (l.drop 0).all (fun _ => true) = true := by simp
  rw [e] at h
  have h : laws_eqIntS_l4 (S.tab n) l l 0 = _ := h
  rw [laws_eqIntS_eq, brkF (by simp), h]; rfl
theorem eqNode_refl {x : tyNode.den} (hx : NodeOk x) : Evt fun n => laws_eqNode (S.tab n) x x = some (true, o_laws_eqNode) := ((eqStr_refl (namesOf x) hx.nn).and (eqInt_refl (kidsOf x) hx.nk)).up fun n ⟨h1, h2⟩ => by
  show laws_eqNode (S.step (S.tab n)) _ _ = _
  have d : ∀ (x : Int), (!decide (x = x)) = false := fun x => by simp
  have d' : ∀ (x : List Int), (!decide (x = x)) = false := fun x => by simp
  have h1 : laws_eqStringS (S.tab n) x.2.2.2.2.2.2.2.1 x.2.2.2.2.2.2.2.1 = _ := h1
  have h2 : laws_eqIntS (S.tab n) x.2.2.2.2.2.2.2.2.1 x.2.2.2.2.2.2.2.2.1 = _ := h2
  rw [laws_eqNode_eq, brkF (d _), brkF (d _), brkF (d _), brkF (d _), brkF (d _), brkF (d _), brkF (d' _), h1, Option.bind_some, brkF (by rfl), h2, Option.bind_some, brkF (by rfl)]
theorem eqTree_refl (ns : List tyNode.den) (hN : ∀ x ∈ ns, NodeOk x) (hl : ns.length ≤ 2097152) : Evt fun n => laws_eqTree (S.tab n) (ns, ()) (ns, ()) = some (true, o_laws_eqTree) := by
  have hall : ∀ (l : List tyNode.den), (∀ x ∈ l, NodeOk x) → Evt fun n => ∀ x ∈ l, laws_eqNode (S.tab n) x x = some (true, o_laws_eqNode) := by
    intro l
    induction l with
    | nil => intro _; exact Evt.of fun _ j h => by cases h
    | cons a l ih =>
      intro h
      refine ((eqNode_refl (h a (List.mem_cons_self ..))).and (ih fun j hj => h j (List.mem_cons_of_mem _ hj))).mono fun n ⟨h1, h2⟩ j hj => ?_
      rcases List.mem_cons.1 hj with rfl | hj
      · exact h1
      · exact h2 j hj
  have := allL (F := fun T j => laws_eqNodeS_l4 T ns ns (j : Int)) (P := fun _ => true) (l := ns) (yes := Sum.inr (Sum.inl ())) (no := Sum.inl (false, ())) (q := fun T => ∀ x ∈ ns, laws_eqNode T x x = some (true, o_laws_eqNode)) (hall ns hN)
    (fun T j h hT => by
      show laws_eqNodeS_l4 (S.step T) _ _ _ = bif true then laws_eqNodeS_l4 T ns ns ((j + 1 : Nat) : Int) else _
      rw [laws_eqNodeS_l4_eq, brkT (by simp only [decide_eq_true_eq]; omega), brkT (inb_nat h), brkT (inb_nat h), at_node _ _ h, hT _ (List.getElem_mem h), Option.bind_some, brkF (by rfl), wrap1 (by omega)]; rfl)
    (fun T hT => by
      show laws_eqNodeS_l4 (S.step T) _ _ _ = _
      rw [laws_eqNodeS_l4_eq, brkF (by simp)]) ns.length 0 (by omega)
  have h2 : Evt fun n => laws_eqNodeS (S.tab n) ns ns = some (true, o_laws_eqNodeS) := this.up fun n h => by
    show laws_eqNodeS (S.step (S.tab n)) _ _ = _
    have e : (ns.drop 0).all (fun _ => true) = true := by simp
    rw [e] at h
    have h : laws_eqNodeS_l4 (S.tab n) ns ns 0 = _ := h
    rw [laws_eqNodeS_eq, brkF (by simp), h]; rfl
  exact h2.up fun n h => by
    show laws_eqTree (S.step (S.tab n)) _ _ = _
    rw [laws_eqTree_eq]
    show (laws_eqNodeS (S.tab n) ns ns).bind _ = _
    rw [h, Option.bind_some, brkF (by rfl)]
theorem guard (ns : List tyNode.den) (hN : ∀ x ∈ ns, Read x) (h : ¬ szTr ns 1048576 < 0) : (∀ x ∈ ns, NodeOk x) ∧ ns.length ≤ 2097152 := by
  unfold szTr at h
  by_cases hd : 1048576 - (ns.length : Int) < 0
  · rw [decide_eq_true hd] at h; exact absurd (show (-1 : Int) < 0 by decide) h
  rw [decide_eq_false hd] at h
  have h : ¬ szNs ns (1048576 - (ns.length : Int)) < 0 := h
  refine ⟨fun x hx => ?_, by omega⟩
  obtain ⟨h1, h2, h3⟩ := szNs_all ns (1048576 - (ns.length : Int)) (by omega) (by omega) x hx
  have hr := hN x hx
  exact ⟨hr.text.1, fun m hm => (hr.names.1 m hm).1, by omega, by omega⟩
end Go.Abs.D
end

section
namespace Go.Abs.D
theorem at_mid {τ : Ty} (pre : List τ.den) (x : τ.den) (r : List τ.den) : at_ (pre ++ x :: r) (pre.length : Int) = x := by
  unfold at_
  rw [Int.toNat_natCast]
  exact getD_cut pre x r _
theorem upN_mid {τ : Ty} (pre : List τ.den) (x : τ.den) (r : List τ.den) (f : τ.den → τ.den) : updAt (pre ++ x :: r) (pre.length : Int) f = pre ++ f x :: r := by
  unfold updAt
  rw [at_mid, Int.toNat_natCast]
  exact set_mid pre x (f x) r
theorem upn (pre : List tyNode.den) (x : tyNode.den) (r : List tyNode.den) (f : tyNode.den → tyNode.den) : updAt (τ := tyNode) (pre ++ x :: r) (pre.length : Int) f = pre ++ f x :: r := upN_mid (τ := tyNode) pre x r f
theorem atn (pre : List tyNode.den) (x : tyNode.den) (r : List tyNode.den) : at_ (τ := tyNode) (pre ++ x :: r) (pre.length : Int) = x := at_mid (τ := tyNode) pre x r
theorem upup {τ : Ty} (xs : List τ.den) (i : Int) (f g : τ.den → τ.den) : updAt (updAt xs i f) i g = updAt xs i (fun e => g (f e)) := by
  unfold updAt
  rw [List.set_set]
  by_cases h : i.toNat < xs.length
  · have : at_ (xs.set i.toNat (f (at_ xs i))) i = f (at_ xs i) := by
      unfold at_
      rw [List.getD_eq_getElem?_getD, List.getElem?_set_self h]; rfl
    rw [this]
  · rw [List.set_eq_of_length_le (by omega), List.set_eq_of_length_le (by omega)]
theorem in_mid {α : Type} (pre : List α) (x : α) (r : List α) : (decide ((0 : Int) ≤ (pre.length : Int)) && decide ((pre.length : Int) < ((pre ++ x :: r).length : Int))) = true := inb_nat (by simp)
def mkS : Int → List (List Int) → List (List Int)
  | _, [] => []
  | k, _ :: r => markT k :: mkS (k + 1) r
def mkI : Int → List Int → List Int
  | _, [] => []
  | k, _ :: r => k :: mkI (k + 1) r
theorem mkS_len : ∀ (l : List (List Int)) (k : Int), (mkS k l).length = l.length
  | [], _ => rfl
  | _ :: r, k => by simp [mkS, mkS_len r (k + 1)]
theorem mkI_len : ∀ (l : List Int) (k : Int), (mkI k l).length = l.length
  | [], _ => rfl
  | _ :: r, k => by simp [mkI, mkI_len r (k + 1)]
theorem markS_l2 : ∀ (r pre : List (List Int)) (k : Int), 0 < k → k + r.length < 1000000000000000 → (pre ++ r).length ≤ 2097152 →
    Evt fun n => laws_markStringS_l2 (S.tab n) (pre ++ r) k (pre.length : Int) = some (Sum.inl (pre ++ mkS k r, k + (r.length : Int), ()))
  | [], pre, k, _, _, _ => base2.up fun n _ => by
    show laws_markStringS_l2 (S.step (S.tab n)) _ _ _ = _
    rw [laws_markStringS_l2_eq, brkF (by simp)]
    simp [mkS]
  | m :: r, pre, k, h0, h1, hl => by
    have hlen : (pre ++ m :: r).length = pre.length + (r.length + 1) := by simp
    simp only [List.length_cons] at h1
    have ih := markS_l2 r (pre ++ [markT k]) (k + 1) (by omega) (by omega) (by simpa using hl)
    refine (ih.and (markText_ok k h0 (by omega))).up fun n ⟨ih, hm⟩ => ?_
    show laws_markStringS_l2 (S.step (S.tab n)) _ _ _ = _
    rw [laws_markStringS_l2_eq, brkT (by simp only [decide_eq_true_eq]; omega), hm, Option.bind_some, brkT (in_mid pre m r), Int.toNat_natCast, set_mid, wrap1 (by omega), wrap64 (k + 1) (by omega) (by omega)]
    have e1 : (pre ++ [markT k]) ++ r = pre ++ markT k :: r := by simp
    have e2 : (pre ++ [markT k]).length = pre.length + 1 := by simp
    rw [e1, e2] at ih
    rw [ih]
    simp [mkS]
    omega
theorem markS_ok (l : List (List Int)) (k : Int) (h0 : 0 < k) (h1 : k + l.length < 1000000000000000) (hl : l.length ≤ 2097152) : Evt fun n => laws_markStringS (S.tab n) l k = some (k + (l.length : Int), mkS k l, (), ()) :=
  (markS_l2 l [] k h0 h1 (by simpa using hl)).up fun n h => by
    show laws_markStringS (S.step (S.tab n)) _ _ = _
    have h : laws_markStringS_l2 (S.tab n) l k 0 = some (Sum.inl (mkS k l, k + (l.length : Int), ())) := h
    rw [laws_markStringS_eq, h]; rfl
theorem markI_l2 : ∀ (r pre : List Int) (k : Int), 0 < k → k + r.length < 1000000000000000 → (pre ++ r).length ≤ 2097152 →
    Evt fun n => laws_markIntS_l2 (S.tab n) (pre ++ r) k (pre.length : Int) = some (Sum.inl (pre ++ mkI k r, k + (r.length : Int), ()))
  | [], pre, k, _, _, _ => base2.up fun n _ => by
    show laws_markIntS_l2 (S.step (S.tab n)) _ _ _ = _
    rw [laws_markIntS_l2_eq, brkF (by simp)]
    simp [mkI]
  | m :: r, pre, k, h0, h1, hl => by
    have hlen : (pre ++ m :: r).length = pre.length + (r.length + 1) := by simp
    simp only [List.length_cons] at h1
    have ih := markI_l2 r (pre ++ [k]) (k + 1) (by omega) (by omega) (by simpa using hl)
    refine ih.up fun n ih => ?_
    show laws_markIntS_l2 (S.step (S.tab n)) _ _ _ = _
    rw [laws_markIntS_l2_eq, brkT (by simp only [decide_eq_true_eq]; omega), brkT (in_mid pre m r), Int.toNat_natCast, set_mid, wrap1 (by omega), wrap64 (k + 1) (by omega) (by omega)]
    have e1 : (pre ++ [k]) ++ r = pre ++ k :: r := by simp
    have e2 : (pre ++ [k]).length = pre.length + 1 := by simp
    rw [e1, e2] at ih
    rw [ih]
    simp [mkI]
    omega
theorem markI_ok (l : List Int) (k : Int) (h0 : 0 < k) (h1 : k + l.length < 1000000000000000) (hl : l.length ≤ 2097152) : Evt fun n => laws_markIntS (S.tab n) l k = some (k + (l.length : Int), mkI k l, (), ()) :=
  (markI_l2 l [] k h0 h1 (by simpa using hl)).up fun n h => by
    show laws_markIntS (S.step (S.tab n)) _ _ = _
    have h : laws_markIntS_l2 (S.tab n) l k 0 = some (Sum.inl (mkI k l, k + (l.length : Int), ())) := h
    rw [laws_markIntS_eq, h]; rfl
theorem heldI_l2 : ∀ (r pre : List Int) (k : Int), 0 < k → k + r.length < 1000000000000000 → (pre ++ r).length ≤ 2097152 →
    Evt fun n => laws_heldIntS_l2 (S.tab n) (pre ++ mkI k r) k (pre.length : Int) = some (Sum.inr (Sum.inl (k + (r.length : Int), ())))
  | [], pre, k, _, _, _ => base2.up fun n _ => by
    show laws_heldIntS_l2 (S.step (S.tab n)) _ _ _ = _
    rw [laws_heldIntS_l2_eq, brkF (by simp [mkI])]
    simp
  | m :: r, pre, k, h0, h1, hl => by
    have hlen : (pre ++ m :: r).length = pre.length + (r.length + 1) := by simp
    have hlen2 : (pre ++ mkI k (m :: r)).length = pre.length + (r.length + 1) := by simp [mkI, mkI_len]
    simp only [List.length_cons] at h1
    have ih := heldI_l2 r (pre ++ [k]) (k + 1) (by omega) (by omega) (by simpa using hl)
    refine ih.up fun n ih => ?_
    show laws_heldIntS_l2 (S.step (S.tab n)) _ _ _ = _
    rw [laws_heldIntS_l2_eq, brkT (by simp only [decide_eq_true_eq]; omega)]
    unfold mkI
    have hg : (pre ++ k :: mkI (k + 1) r).getD (pre.length : Int).toNat 0 = k := getD_cut pre _ _ 0
    rw [brkT (in_mid pre _ _), hg, brkF (by simp), wrap1 (by omega), wrap64 (k + 1) (by omega) (by omega)]
    have e1 : (pre ++ [k]) ++ mkI (k + 1) r = pre ++ k :: mkI (k + 1) r := by simp
    have e2 : (pre ++ [k]).length = pre.length + 1 := by simp
    rw [e1, e2] at ih
    rw [ih]
    simp
    omega
theorem heldI_ok (l : List Int) (k : Int) (h0 : 0 < k) (h1 : k + l.length < 1000000000000000) (hl : l.length ≤ 2097152) : Evt fun n => laws_heldIntS (S.tab n) (mkI k l) k = some (k + (l.length : Int), o_laws_heldIntS) :=
  (heldI_l2 l [] k h0 h1 (by simpa using hl)).up fun n h => by
    show laws_heldIntS (S.step (S.tab n)) _ _ = _
    have h : laws_heldIntS_l2 (S.tab n) (mkI k l) k 0 = some (Sum.inr (Sum.inl (k + (l.length : Int), ()))) := h
    rw [laws_heldIntS_eq, h]; rfl
def nd (k : Int) (x : tyNode.den) : tyNode.den := (k, k + 1, k + 2, k + 3, k + 4, k + 5, markT (k + 6), mkS (k + 7) (namesOf x), mkI (k + 7 + ((namesOf x).length : Int)) (kidsOf x), ())
def nx (k : Int) (x : tyNode.den) : Int := k + 7 + ((namesOf x).length : Int) + ((kidsOf x).length : Int)
def mkN : Int → List tyNode.den → List tyNode.den
  | _, [] => []
  | k, x :: r => nd k x :: mkN (nx k x) r
def kN : Int → List tyNode.den → Int
  | k, [] => k
  | k, x :: r => kN (nx k x) r
theorem mkN_len : ∀ (l : List tyNode.den) (k : Int), (mkN k l).length = l.length
  | [], _ => rfl
  | x :: r, k => by simp [mkN, mkN_len r (nx k x)]
theorem kN_le : ∀ (l : List tyNode.den) (k : Int), k ≤ kN k l
  | [], k => Int.le_refl _
  | x :: r, k => by
    have := kN_le r (nx k x)
    unfold kN
    unfold nx at this ⊢
    omega
theorem kN_bd : ∀ (l : List tyNode.den) (k : Int), (∀ x ∈ l, NodeOk x) → kN k l ≤ k + (l.length : Int) * 4194311
  | [], k, _ => by unfold kN; simp
  | x :: r, k, h => by
    have ih := kN_bd r (nx k x) (fun y hy => h y (List.mem_cons_of_mem _ hy))
    have hx := h x (List.mem_cons_self ..)
    have a := hx.nn
    have b := hx.nk
    unfold kN
    have e : nx k x ≤ k + 4194311 := by unfold nx; omega
    simp only [List.length_cons]
    omega
theorem w7 {k : Int} (h0 : 0 < k) (h1 : k < 1000000000000000) : IntKind.i64.wrap (k + 1) = k + 1 ∧ IntKind.i64.wrap (k + 1 + 1) = k + 2 ∧ IntKind.i64.wrap (k + 2 + 1) = k + 3 ∧ IntKind.i64.wrap (k + 3 + 1) = k + 4 ∧ IntKind.i64.wrap (k + 4 + 1) = k + 5 ∧ IntKind.i64.wrap (k + 5 + 1) = k + 6 ∧ IntKind.i64.wrap (k + 6 + 1) = k + 7 := by
  refine ⟨?_, ?_, ?_, ?_, ?_, ?_, ?_⟩ <;> rw [wrap64 _ (by omega) (by omega)] <;> omega
theorem markN_step {T : S.Tab} (pre : List tyNode.den) (x : tyNode.den) (r : List tyNode.den) (k : Int) (h0 : 0 < k) (hk : nx k x < 1000000000000000) (hl : (pre ++ x :: r).length ≤ 2097152)
    (hm : laws_markText T (k + 6) = some (markT (k + 6), o_laws_markText)) (hs : laws_markStringS T (namesOf x) (k + 7) = some (k + 7 + ((namesOf x).length : Int), mkS (k + 7) (namesOf x), (), ()))
    (hi : laws_markIntS T (kidsOf x) (k + 7 + ((namesOf x).length : Int)) = some (k + 7 + ((namesOf x).length : Int) + ((kidsOf x).length : Int), mkI (k + 7 + ((namesOf x).length : Int)) (kidsOf x), (), ())) :
    laws_markNodeS_l2 (S.step T) (pre ++ x :: r) k (pre.length : Int) = laws_markNodeS_l2 T (pre ++ nd k x :: r) (nx k x) ((pre.length + 1 : Nat) : Int) := by
  have hlen : (pre ++ x :: r).length = pre.length + (r.length + 1) := by simp
  have hk' := hk
  unfold nx at hk'
  obtain ⟨w1, w2, w3, w4, w5, w6, w7⟩ := w7 h0 (show k < 1000000000000000 by omega)
  rw [laws_markNodeS_l2_eq, brkT (by simp only [decide_eq_true_eq]; omega)]
  simp only [w1, w2, w3, w4, w5, w6, w7]
  obtain ⟨x1, x2, x3, x4, x5, x6, x7, x8, x9, _⟩ := x
  have hs : laws_markStringS T x8 (k + 7) = some (k + 7 + (x8.length : Int), mkS (k + 7) x8, (), ()) := hs
  have hi : laws_markIntS T x9 (k + 7 + (x8.length : Int)) = some (k + 7 + (x8.length : Int) + (x9.length : Int), mkI (k + 7 + (x8.length : Int)) x9, (), ()) := hi
  rw [upn]; dsimp only
  rw [upn]; dsimp only
  rw [upn]; dsimp only
  rw [upn]; dsimp only
  rw [upn]; dsimp only
  rw [upn]; dsimp only
  rw [brkT (in_mid pre _ _), brkT (in_mid pre _ _), brkT (in_mid pre _ _), brkT (in_mid pre _ _), brkT (in_mid pre _ _), brkT (in_mid pre _ _), hm, Option.bind_some, upn]
  dsimp only
  rw [brkT (in_mid pre _ _), brkT (in_mid pre _ _), atn]
  dsimp only
  rw [hs, Option.bind_some, upn]
  dsimp only
  rw [brkT (in_mid pre _ _), atn]
  dsimp only
  rw [hi, Option.bind_some, upn, wrap1 (by omega)]
  rfl
theorem markN_l2 : ∀ (r pre : List tyNode.den) (k : Int), 0 < k → kN k r < 1000000000000000 → (∀ x ∈ r, NodeOk x) → (pre ++ r).length ≤ 2097152 →
    Evt fun n => laws_markNodeS_l2 (S.tab n) (pre ++ r) k (pre.length : Int) = some (Sum.inl (pre ++ mkN k r, kN k r, ()))
  | [], pre, k, _, _, _, _ => base2.up fun n _ => by
    show laws_markNodeS_l2 (S.step (S.tab n)) _ _ _ = _
    rw [laws_markNodeS_l2_eq, brkF (by simp)]
    simp [mkN, kN]
  | x :: r, pre, k, h0, h1, hN, hl => by
    have hx := hN x (List.mem_cons_self ..)
    have hk : nx k x < 1000000000000000 := by
      have := kN_le r (nx k x)
      unfold kN at h1
      omega
    have hk' := hk
    unfold nx at hk'
    have ih := markN_l2 r (pre ++ [nd k x]) (nx k x) (by unfold nx; omega) h1 (fun y hy => hN y (List.mem_cons_of_mem _ hy)) (by simpa using hl)
    have e1 : (pre ++ [nd k x]) ++ r = pre ++ nd k x :: r := by simp
    have e2 : (pre ++ [nd k x]).length = pre.length + 1 := by simp
    have e3 : (pre ++ [nd k x]) ++ mkN (nx k x) r = pre ++ mkN k (x :: r) := by simp [mkN]
    rw [e1, e2, e3] at ih
    have hs := markS_ok (namesOf x) (k + 7) (by omega) (by omega) hx.nn
    have hi := markI_ok (kidsOf x) (k + 7 + ((namesOf x).length : Int)) (by omega) (by omega) hx.nk
    exact (ih.and ((markText_ok (k + 6) (by omega) (by omega)).and (hs.and hi))).up fun n ⟨ih, hm, hs, hi⟩ => (markN_step pre x r k h0 hk hl hm hs hi).trans ih
theorem markTree_ok (l : List tyNode.den) (hN : ∀ x ∈ l, NodeOk x) (hl : l.length ≤ 2097152) : Evt fun n => laws_markTree (S.tab n) (l, ()) 1 = some (kN 1 l, (mkN 1 l, ()), (), ()) := by
  have hk : kN 1 l < 1000000000000000 := by
    have := kN_bd l 1 hN
    have : (l.length : Int) * 4194311 ≤ 2097152 * 4194311 := Int.mul_le_mul_of_nonneg_right (by omega) (by decide)
    omega
  have h1 : Evt fun n => laws_markNodeS (S.tab n) l 1 = some (kN 1 l, mkN 1 l, (), ()) := (markN_l2 l [] 1 (by decide) hk hN (by simpa using hl)).up fun n h => by
    show laws_markNodeS (S.step (S.tab n)) _ _ = _
    have h : laws_markNodeS_l2 (S.tab n) l 1 0 = some (Sum.inl (mkN 1 l, kN 1 l, ())) := h
    rw [laws_markNodeS_eq, h]; rfl
  exact h1.up fun n h => by
    show laws_markTree (S.step (S.tab n)) _ _ = _
    rw [laws_markTree_eq]
    show (laws_markNodeS (S.tab n) l 1).bind _ = _
    rw [h]; rfl
end Go.Abs.D
end

section
namespace Go.Abs.D
theorem sound_of {ns : List tyNode.den} (h : (treeM ns).1 = 0) : treeM ns = (0, 0, ()) ∧ 0 < ns.length ∧ ns.length ≤ 3000 ∧ ∀ (j : Nat) (hj : j < ns.length), ∀ k ∈ kidsOf ns[j], 0 ≤ k ∧ k < (j : Int) := by
  unfold treeM at h ⊢
  by_cases c0 : ns.length = 0
  · rw [decide_eq_true c0] at h; exact absurd (show (1 : Int) = 0 from h) (by decide)
  rw [decide_eq_false c0] at h ⊢
  by_cases c1 : 3000 < ns.length
  · rw [decide_eq_true c1] at h; exact absurd (show (1 : Int) = 0 from h) (by decide)
  rw [decide_eq_false c1] at h ⊢
  by_cases c2 : kindAt ns ((ns.length - 1 : Nat) : Int) = 1
  · rw [decide_eq_true c2] at h ⊢
    by_cases c3 : badN ns < ns.length
    · rw [decide_eq_true c3] at h; exact absurd (show (2 : Int) = 0 from h) (by decide)
    rw [decide_eq_false c3] at h ⊢
    refine ⟨?_, by omega, by omega, fun j hj => kids_lt c3 j hj⟩
    simp only [Bool.not_true, cond_false] at h ⊢
    cases hi : imS ns ns.length (List.replicate ns.length 0) with
    | inl j => rw [hi] at h; exact absurd (show (3 : Int) = 0 from h) (by decide)
    | inr _ =>
      rw [hi] at h
      simp only at h ⊢
      cases hd : decide (stop (dq100 (dall ns ns.length (List.replicate ns.length 0))) ns.length 0 < ns.length) with
      | true => rw [hd] at h; exact absurd (show (4 : Int) = 0 from h) (by decide)
      | false => rfl
  · rw [decide_eq_false c2] at h; exact absurd (show (1 : Int) = 0 from h) (by decide)
theorem impl_sound_ok {ns : List tyNode.den} (hN : ∀ x ∈ ns, NodeOk x) : Evt fun n => impl_sound (S.tab n) (ns, ()) = some (decide ((treeM ns).1 = 0), o_impl_sound) := (impl_TreeOk_ok hN).up fun n h => by
  show impl_sound (S.step (S.tab n)) _ = _
  rw [impl_sound_eq, h, Option.bind_some]
  by_cases c : (treeM ns).1 = 0
  · have := (sound_of c).1
    rw [this]; rfl
  · simp only [decide_eq_false c, Bool.false_and]
section
variable {ns : List tyNode.den} (hN : ∀ x ∈ ns, NodeOk x) (a : Int)
def hasB (a : Int) (x : tyNode.den) : Bool := decide (x.2.1 ≤ a) && decide (a < x.2.2.1)
def fk (ns : List tyNode.den) (a : Int) : List Int → Int
  | [] => -1
  | k :: r => bif hasB a (at_ (τ := tyNode) ns k) then k else fk ns a r
def kidsI (ns : List tyNode.den) (i : Int) : List Int := kidsOf (at_ (τ := tyNode) ns i)
def pathN (ns : List tyNode.den) (a : Int) : Nat → Int → List Int
  | 0, _ => []
  | n + 1, i => bif decide (fk ns a (kidsI ns i) < 0) then [] else fk ns a (kidsI ns i) :: pathN ns a n (fk ns a (kidsI ns i))
theorem fk_mem (ns : List tyNode.den) (a : Int) : ∀ (l : List Int), (∀ k ∈ l, 0 ≤ k) → fk ns a l = -1 ∨ (fk ns a l ∈ l ∧ 0 ≤ fk ns a l ∧ hasB a (at_ (τ := tyNode) ns (fk ns a l)) = true)
  | [], _ => .inl rfl
  | k :: r, h => by
    unfold fk
    cases hb : hasB a (at_ (τ := tyNode) ns k) with
    | true => exact .inr ⟨List.mem_cons_self .., h k (List.mem_cons_self ..), hb⟩
    | false =>
      rcases fk_mem ns a r (fun x hx => h x (List.mem_cons_of_mem _ hx)) with e | ⟨e1, e2, e3⟩
      · exact .inl e
      · exact .inr ⟨List.mem_cons_of_mem _ e1, e2, e3⟩
theorem path1_ok (ns : List tyNode.den) (a : Int) : Evt fun n => ∀ k : Int, 0 ≤ k → k < (ns.length : Int) → impl_Path_1 (S.tab n) k (ns, ()) a = some (hasB a (at_ (τ := tyNode) ns k), (), (ns, ()), a, ()) := base2.up fun n _ k h0 h1 => by
  show impl_Path_1 (S.step (S.tab n)) _ _ _ = _
  have hin : (decide ((0 : Int) ≤ k) && decide (k < (ns.length : Int))) = true := by rw [decide_eq_true h0, decide_eq_true h1]; rfl
  rw [impl_Path_1_eq, brkT hin]
  unfold hasB
  dsimp only
  by_cases c : (at_ (τ := tyNode) ns k).2.1 ≤ a
  · rw [brkT (decide_eq_true c), brkT hin, decide_eq_true c, Bool.true_and]
  · rw [brkF (decide_eq_false c), decide_eq_false c, Bool.false_and]
theorem l10_ok (ns : List tyNode.den) (a : Int) (out : List Int) : ∀ (r pre : List Int), (∀ k ∈ r, 0 ≤ k ∧ k < (ns.length : Int)) → (pre ++ r).length ≤ 2097152 →
    Evt fun n => impl_Path_l10 (S.tab n) (ns, ()) a out (-1) (pre ++ r) ((pre ++ r).length : Int) (pre.length : Int) = some (Sum.inl ((ns, ()), a, out, fk ns a r, ()))
  | [], pre, _, hl => base2.up fun n _ => by
    show impl_Path_l10 (S.step (S.tab n)) _ _ _ _ _ _ _ = _
    rw [impl_Path_l10_eq, brkF (by simp)]; rfl
  | k :: r, pre, hk, hl => by
    have hlen : (pre ++ k :: r).length = pre.length + (r.length + 1) := by simp
    have ih := l10_ok ns a out r (pre ++ [k]) (fun x hx => hk x (List.mem_cons_of_mem _ hx)) (by simpa using hl)
    have e1 : (pre ++ [k]) ++ r = pre ++ k :: r := by simp
    have e2 : (pre ++ [k]).length = pre.length + 1 := by simp
    rw [e1, e2] at ih
    have hg : (pre ++ k :: r).getD (pre.length : Int).toNat 0 = k := getD_cut pre k r 0
    obtain ⟨k0, k1⟩ := hk k (List.mem_cons_self ..)
    refine (ih.and (path1_ok ns a)).up fun n ⟨ih, h1⟩ => ?_
    show impl_Path_l10 (S.step (S.tab n)) _ _ _ _ _ _ _ = _
    rw [impl_Path_l10_eq, brkT (by simp only [decide_eq_true_eq]; omega), brkT (inb_nat (by omega)), hg, h1 k k0 k1, Option.bind_some]
    unfold fk
    cases hb : hasB a (at_ (τ := tyNode) ns k) with
    | true => rw [brkT (by rfl)]; rfl
    | false => rw [brkF (by rfl), wrap1 (by omega)]; exact ih
theorem l13_ok (ns : List tyNode.den) (a : Int) (out : List Int) : ∀ (r pre : List Int) (v : Int), (∀ k ∈ r, 0 ≤ k ∧ k < (ns.length : Int)) → (pre ++ r).length ≤ 2097152 →
    Evt fun n => spec_Path_l13 (S.tab n) a (ns, ()) out v (pre ++ r) ((pre ++ r).length : Int) (pre.length : Int) = some (Sum.inl (a, (ns, ()), out, (bif decide (v < 0) then bif decide (fk ns a r < 0) then v else fk ns a r else v), ()))
  | [], pre, v, _, hl => base2.up fun n _ => by
    show spec_Path_l13 (S.step (S.tab n)) _ _ _ _ _ _ _ = _
    rw [spec_Path_l13_eq, brkF (by simp)]
    cases decide (v < 0) <;> rfl
  | k :: r, pre, v, hk, hl => by
    have hlen : (pre ++ k :: r).length = pre.length + (r.length + 1) := by simp
    have ih := fun v => l13_ok ns a out r (pre ++ [k]) v (fun x hx => hk x (List.mem_cons_of_mem _ hx)) (by simpa using hl)
    have e1 : (pre ++ [k]) ++ r = pre ++ k :: r := by simp
    have e2 : (pre ++ [k]).length = pre.length + 1 := by simp
    rw [e1, e2] at ih
    have hg : (pre ++ k :: r).getD (pre.length : Int).toNat 0 = k := getD_cut pre k r 0
    obtain ⟨k0, k1⟩ := hk k (List.mem_cons_self ..)
    have hin : (decide ((0 : Int) ≤ k) && decide (k < (ns.length : Int))) = true := by rw [decide_eq_true k0, decide_eq_true k1]; rfl
    refine ((ih v).and (ih k)).up fun n ⟨ihv, ihk⟩ => ?_
    show spec_Path_l13 (S.step (S.tab n)) _ _ _ _ _ _ _ = _
    rw [spec_Path_l13_eq, brkT (by simp only [decide_eq_true_eq]; omega), brkT (inb_nat (by omega)), hg, wrap1 (by omega)]
    by_cases hv : v < 0
    · rw [brkT (decide_eq_true hv), brkT hin, decide_eq_true hv, cond_true]
      rw [decide_eq_true hv, cond_true] at ihv
      rw [decide_eq_false (show ¬ k < 0 by omega), cond_false] at ihk
      unfold fk hasB
      by_cases c1 : (at_ (τ := tyNode) ns k).2.1 ≤ a
      · rw [brkT (decide_eq_true c1), brkT hin]
        by_cases c2 : a < (at_ (τ := tyNode) ns k).2.2.1
        · rw [brkT (decide_eq_true c2), decide_eq_true c1, decide_eq_true c2, ihk]
          simp only [Bool.and_self, cond_true, decide_eq_false (show ¬ k < 0 by omega), cond_false]
        · rw [brkF (decide_eq_false c2), decide_eq_true c1, decide_eq_false c2, ihv]; rfl
      · rw [brkF (decide_eq_false c1), decide_eq_false c1, ihv]; rfl
    · rw [brkF (decide_eq_false hv), decide_eq_false hv, cond_false]
      rw [decide_eq_false hv, cond_false] at ihv
      exact ihv
theorem kidsI_ok (hk : ∀ (j : Nat) (hj : j < ns.length), ∀ k ∈ kidsOf ns[j], 0 ≤ k ∧ k < (j : Int)) (i : Nat) (hi : i < ns.length) : kidsI ns (i : Int) = kidsOf ns[i] ∧ ∀ k ∈ kidsI ns (i : Int), 0 ≤ k ∧ k < (i : Int) := by
  have e : kidsI ns (i : Int) = kidsOf ns[i] := by unfold kidsI; rw [at_node _ _ hi]
  exact ⟨e, by rw [e]; exact hk i hi⟩
theorem pathN_len (ns : List tyNode.den) (a : Int) : ∀ (n : Nat) (i : Int), (pathN ns a n i).length ≤ n
  | 0, _ => Nat.le_refl _
  | n + 1, i => by
    unfold pathN
    cases decide (fk ns a (kidsI ns i) < 0)
    · have := pathN_len ns a n (fk ns a (kidsI ns i)); simp only [cond_false, List.length_cons]; omega
    · simp
include hN in
theorem l8_ok (hk : ∀ (j : Nat) (hj : j < ns.length), ∀ k ∈ kidsOf ns[j], 0 ≤ k ∧ k < (j : Int)) (hl : ns.length ≤ 3000) : ∀ (m i : Nat) (out : List Int), i < m → i < ns.length → out.length + m ≤ 10000 →
    Evt fun n => impl_Path_l8 (S.tab n) (ns, ()) a (i : Int) out = some (Sum.inl (out ++ pathN ns a m (i : Int), ()))
  | 0, i, out, h, _, _ => absurd h (by omega)
  | m + 1, i, out, h, hi, ho => by
    obtain ⟨e1, e2⟩ := kidsI_ok hk i hi
    have hx := hN ns[i] (List.getElem_mem hi)
    have hkl : (kidsI ns (i : Int)).length ≤ 2097152 := by rw [e1]; exact hx.nk
    have h10 := l10_ok ns a out (kidsI ns (i : Int)) [] (fun k hk' => by have := e2 k hk'; omega) (by simpa using hkl)
    have main : ∀ n, impl_Path_l10 (S.tab n) (ns, ()) a out (-1) (kidsI ns (i : Int)) ((kidsI ns (i : Int)).length : Int) 0 = some (Sum.inl ((ns, ()), a, out, fk ns a (kidsI ns (i : Int)), ())) → impl_Path_l8 (S.step (S.tab n)) (ns, ()) a (i : Int) out =
        brk (decide (fk ns a (kidsI ns (i : Int)) < 0)) (some (Sum.inl (out, ()))) (brk (fits (out.length + ([fk ns a (kidsI ns (i : Int))] : List Int).length)) (impl_Path_l8 (S.tab n) (ns, ()) a (fk ns a (kidsI ns (i : Int))) (out ++ [fk ns a (kidsI ns (i : Int))])) none) := fun n h => by
      rw [impl_Path_l8_eq, brkT (inb_nat hi)]
      show (impl_Path_l10 (S.tab n) (ns, ()) a out (-1) (kidsI ns (i : Int)) ((kidsI ns (i : Int)).length : Int) 0).bind _ = _
      rw [h]; rfl
    unfold pathN
    rcases fk_mem ns a (kidsI ns (i : Int)) (fun k hk' => (e2 k hk').1) with c | ⟨c1, c2, c3⟩
    · refine h10.up fun n h => ?_
      show impl_Path_l8 (S.step (S.tab n)) _ _ _ _ = _
      rw [main n h, c, brkT (by rfl)]
      show some (Sum.inl (out, ())) = some (Sum.inl (out ++ [], ()))
      rw [List.append_nil]
    · have hlt := e2 _ c1
      obtain ⟨k, hkk⟩ : ∃ k : Nat, fk ns a (kidsI ns (i : Int)) = (k : Int) := ⟨(fk ns a (kidsI ns (i : Int))).toNat, by omega⟩
      rw [hkk] at c2 hlt main ⊢
      have ih := l8_ok hk hl m k (out ++ [(k : Int)]) (by omega) (by omega) (by simp; omega)
      refine (h10.and ih).up fun n ⟨h, ih⟩ => ?_
      show impl_Path_l8 (S.step (S.tab n)) _ _ _ _ = _
      rw [main n (by rw [← hkk]; exact h), brkF (by simp only [decide_eq_false_iff_not]; omega), brkT (fits_of (by unfold lim; simp only [List.length_singleton]; omega)), ih, decide_eq_false (show ¬ (k : Int) < 0 by omega)]
      simp
include hN in
theorem l6_ok (hk : ∀ (j : Nat) (hj : j < ns.length), ∀ k ∈ kidsOf ns[j], 0 ≤ k ∧ k < (j : Int)) (hl : ns.length ≤ 3000) : ∀ (m i : Nat) (out : List Int), i < m → i < ns.length → out.length + m ≤ 10000 → hasB a (at_ (τ := tyNode) ns (i : Int)) = true →
    Evt fun n => ∃ y, spec_Path_l6 (S.tab n) a (ns, ()) out (i : Int) = some y ∧ (y = Sum.inl (out ++ (i : Int) :: pathN ns a m (i : Int), ()) ∨ y = Sum.inr (Sum.inl (out ++ (i : Int) :: pathN ns a m (i : Int), ())))
  | 0, i, out, h, _, _, _ => absurd h (by omega)
  | m + 1, i, out, h, hi, ho, hb => by
    obtain ⟨e1, e2⟩ := kidsI_ok hk i hi
    have hx := hN ns[i] (List.getElem_mem hi)
    have hkl : (kidsI ns (i : Int)).length ≤ 2097152 := by rw [e1]; exact hx.nk
    have h13 := l13_ok ns a (out ++ [(i : Int)]) (kidsI ns (i : Int)) [] (-1) (fun k hk' => by have := e2 k hk'; omega) (by simpa using hkl)
    have hb' := hb
    unfold hasB at hb'
    simp only [Bool.and_eq_true, decide_eq_true_eq] at hb'
    have main : ∀ n (v : Int), spec_Path_l13 (S.tab n) a (ns, ()) (out ++ [(i : Int)]) (-1) (kidsI ns (i : Int)) ((kidsI ns (i : Int)).length : Int) 0 = some (Sum.inl (a, (ns, ()), out ++ [(i : Int)], v, ())) → spec_Path_l6 (S.step (S.tab n)) a (ns, ()) out (i : Int) = spec_Path_l6 (S.tab n) a (ns, ()) (out ++ [(i : Int)]) v := fun n v h => by
      rw [spec_Path_l6_eq, brkT (by simp only [decide_eq_true_eq]; omega), brkT (inb_nat hi), brkF (decide_eq_false (show ¬ (a < (at_ (τ := tyNode) ns (i : Int)).2.1) from Int.not_lt.2 hb'.1)), brkF (decide_eq_false (show ¬ ((at_ (τ := tyNode) ns (i : Int)).2.2.1 ≤ a) from Int.not_le.2 hb'.2)), brkT (fits_of (by unfold lim; simp only [List.length_singleton]; omega))]
      show (spec_Path_l13 (S.tab n) a (ns, ()) (out ++ [(i : Int)]) (-1) (kidsI ns (i : Int)) ((kidsI ns (i : Int)).length : Int) 0).bind _ = _
      rw [h]; rfl
    unfold pathN
    rcases fk_mem ns a (kidsI ns (i : Int)) (fun k hk' => (e2 k hk').1) with c | ⟨c1, c2, c3⟩
    · have stop : Evt fun n => spec_Path_l6 (S.tab n) a (ns, ()) (out ++ [(i : Int)]) (-1) = some (Sum.inr (Sum.inl (out ++ [(i : Int)], ()))) := base2.up fun n _ => by
        show spec_Path_l6 (S.step (S.tab n)) _ _ _ _ = _
        rw [spec_Path_l6_eq, brkF (by rfl)]
      refine (h13.and stop).up fun n ⟨h, hst⟩ => ?_
      rw [c] at h ⊢
      exact ⟨_, (main n _ h).trans hst, .inr rfl⟩
    · have hlt := e2 _ c1
      obtain ⟨k, hkk⟩ : ∃ k : Nat, fk ns a (kidsI ns (i : Int)) = (k : Int) := ⟨(fk ns a (kidsI ns (i : Int))).toNat, by omega⟩
      rw [hkk] at c2 hlt c3 h13 ⊢
      have ih := l6_ok hk hl m k (out ++ [(i : Int)]) (by omega) (by omega) (by simp; omega) c3
      rw [decide_eq_false (show ¬ (k : Int) < 0 by omega)] at h13 ⊢
      refine (h13.and ih).up fun n ⟨h, y, hy, hh⟩ => ⟨y, (main n _ h).trans hy, ?_⟩
      rcases hh with rfl | rfl
      · left; simp
      · right; simp
def pathM (ns : List tyNode.den) (a : Int) : List Int :=
  bif decide ((treeM ns).1 = 0) && hasB a (at_ (τ := tyNode) ns ((ns.length - 1 : Nat) : Int)) then ((ns.length - 1 : Nat) : Int) :: pathN ns a ns.length ((ns.length - 1 : Nat) : Int) else []
include hN in
theorem impl_Path_ok (hl : ns.length ≤ 2097152) : Evt fun n => impl_Path (S.tab n) (ns, ()) a = some (pathM ns a, o_impl_Path) := by
  have hs := impl_sound_ok hN
  unfold pathM
  by_cases c : (treeM ns).1 = 0
  · obtain ⟨_, h0, h3, hk⟩ := sound_of c
    rw [decide_eq_true c] at hs ⊢
    have w : IntKind.i64.wrap ((ns.length : Int) - 1) = ((ns.length - 1 : Nat) : Int) := by rw [wrap64 _ (by omega) (by omega)]; omega
    have h8 := l8_ok hN a hk h3 ns.length (ns.length - 1) [((ns.length - 1 : Nat) : Int)] (by omega) (by omega) (by simp; omega)
    refine ((hs.and (path1_ok ns a)).and h8).up fun n ⟨⟨hs, h1⟩, h8⟩ => ?_
    show impl_Path (S.step (S.tab n)) _ _ = _
    rw [impl_Path_eq, hs, Option.bind_some, brkF (by rfl), w, h1 _ (by omega) (by omega), Option.bind_some]
    cases hb : hasB a (at_ (τ := tyNode) ns ((ns.length - 1 : Nat) : Int)) with
    | false => rw [brkT (by rfl)]; rfl
    | true =>
      rw [brkF (by rfl)]
      dsimp only
      rw [h8]; rfl
  · rw [decide_eq_false c] at hs ⊢
    refine hs.up fun n hs => ?_
    show impl_Path (S.step (S.tab n)) _ _ = _
    rw [impl_Path_eq, hs, Option.bind_some, brkT (by rfl)]; rfl
include hN in
theorem spec_Path_ok (hl : ns.length ≤ 2097152) : Evt fun n => spec_Path (S.tab n) (ns, ()) a = some (pathM ns a, o_spec_Path) := by
  have hs := spec_TreeOk_ok hN
  unfold pathM
  by_cases c : (treeM ns).1 = 0
  · obtain ⟨et, h0, h3, hk⟩ := sound_of c
    rw [decide_eq_true c]
    have w : IntKind.i64.wrap ((ns.length : Int) - 1) = ((ns.length - 1 : Nat) : Int) := by rw [wrap64 _ (by omega) (by omega)]; omega
    cases hb : hasB a (at_ (τ := tyNode) ns ((ns.length - 1 : Nat) : Int)) with
    | false =>
      have h6 : Evt fun n => spec_Path_l6 (S.tab n) a (ns, ()) [] ((ns.length - 1 : Nat) : Int) = some (Sum.inl ([], ())) := base2.up fun n _ => by
        show spec_Path_l6 (S.step (S.tab n)) _ _ _ _ = _
        rw [spec_Path_l6_eq, brkT (by simp only [decide_eq_true_eq]; omega), brkT (inb_nat (show ns.length - 1 < ns.length by omega))]
        unfold hasB at hb
        dsimp only
        by_cases c1 : a < (at_ (τ := tyNode) ns ((ns.length - 1 : Nat) : Int)).2.1
        · rw [brkT (decide_eq_true c1)]
        · rw [brkF (decide_eq_false c1)]
          have c2 : (at_ (τ := tyNode) ns ((ns.length - 1 : Nat) : Int)).2.2.1 ≤ a := by
            rw [decide_eq_true (show (at_ (τ := tyNode) ns ((ns.length - 1 : Nat) : Int)).2.1 ≤ a from Int.not_lt.1 c1), Bool.true_and, decide_eq_false_iff_not] at hb
            exact Int.not_lt.1 hb
          rw [brkT (decide_eq_true c2)]
      refine (hs.and h6).up fun n ⟨hs, h6⟩ => ?_
      show spec_Path (S.step (S.tab n)) _ _ = _
      rw [spec_Path_eq, hs, Option.bind_some, brkF (by rw [et]; rfl), w, h6]; rfl
    | true =>
      refine (hs.and (l6_ok hN a hk h3 ns.length (ns.length - 1) [] (by omega) (by omega) (by simp; omega) hb)).up fun n ⟨hs, y, hy, hh⟩ => ?_
      show spec_Path (S.step (S.tab n)) _ _ = _
      rw [spec_Path_eq, hs, Option.bind_some, brkF (by rw [et]; rfl), w, hy]
      rcases hh with rfl | rfl <;> rfl
  · rw [decide_eq_false c]
    refine hs.up fun n hs => ?_
    show spec_Path (S.step (S.tab n)) _ _ = _
    rw [spec_Path_eq, hs, Option.bind_some, brkT (by rw [decide_eq_false c]; rfl)]; rfl
theorem pathM_len (h : ns.length ≤ 2097152) : (pathM ns a).length ≤ 2097152 := by
  unfold pathM
  by_cases c : (treeM ns).1 = 0
  · obtain ⟨_, h0, h3, _⟩ := sound_of c
    have := pathN_len ns a ns.length ((ns.length - 1 : Nat) : Int)
    cases decide ((treeM ns).1 = 0) && hasB a (at_ (τ := tyNode) ns ((ns.length - 1 : Nat) : Int)) with
    | true => simp only [cond_true, List.length_cons]; omega
    | false => simp
  · rw [decide_eq_false c]; simp
end
theorem law_path (ns : List tyNode.den) (hN : ∀ x ∈ ns, Read x) (hn : ns.length ≤ maxLen) (a : Int) (ha : IntKind.i64.min ≤ a ∧ a ≤ IntKind.i64.max) : Evt fun n => laws_FnExactPath (S.tab n) (ns, ()) a = some (true, o_laws_FnExactPath) := by
  have hsz := szTree_ok ns hN hn
  by_cases hd : szTr ns 1048576 < 0
  · refine hsz.up fun n h => ?_
    show laws_FnExactPath (S.step (S.tab n)) _ _ = _
    rw [decide_eq_true hd] at h
    rw [laws_FnExactPath_eq, h, Option.bind_some, brkT (by rfl)]
  · obtain ⟨hO, hl⟩ := guard ns hN hd
    have hp := pathM_len (ns := ns) a hl
    have k1 := kN_le ns 1
    refine ((hsz.and (toTree_ok ns hO hl)).and (((spec_Path_ok hO a hl).and (impl_Path_ok hO a hl)).and (((eqTree_refl ns hO hl).and (eqInt_refl (pathM ns a) hp)).and (((markTree_ok ns hO hl).and (markI_ok (pathM ns a) 1 (by decide) (by omega) hp)).and (heldI_ok (pathM ns a) 1 (by decide) (by omega) hp))))).up fun n ⟨⟨h, ht⟩, ⟨hs, hi⟩, ⟨e1, e2⟩, ⟨m1, m2⟩, hh⟩ => ?_
    show laws_FnExactPath (S.step (S.tab n)) _ _ = _
    rw [decide_eq_false hd, cond_false] at h
    rw [laws_FnExactPath_eq, h, Option.bind_some, brkF (decide_eq_false hd), ht, Option.bind_some]
    dsimp only
    rw [hs, Option.bind_some, Option.bind_some]
    dsimp only
    rw [hi, Option.map_some, Option.bind_some]
    dsimp only
    rw [e2, Option.map_some, Option.bind_some, brkF (by rfl), Option.bind_some]
    dsimp only
    rw [e1, Option.map_some, Option.bind_some, brkF (by rfl)]
    dsimp only
    rw [m1, Option.bind_some, brkF (by simp only [decide_eq_false_iff_not]; omega), e2, Option.map_some, Option.bind_some, brkF (by rfl)]
    dsimp only
    rw [m2, Option.bind_some]
    dsimp only
    rw [hh, Option.map_some, Option.bind_some, brkF (by simp only [decide_eq_false_iff_not]; omega), brkF (by simp), Option.bind_some]
    dsimp only
    rw [hi, Option.map_some, Option.bind_some]
    dsimp only
    rw [e2, Option.map_some, Option.bind_some, brkF (by rfl)]
    try dsimp only
    rw [hh, Option.map_some, Option.bind_some, brkF (by simp only [decide_eq_false_iff_not]; omega), brkF (by simp)]
end Go.Abs.D
end

section
namespace Go.Abs.D
theorem read_of {x : tyNode.den} (h : Good tyNode x) : Read x := by
  obtain ⟨_, _, _, _, _, _, h7, h8, h9, _⟩ := h
  exact ⟨h7, ⟨h8.1, h8.2⟩, h9.2⟩
end Go.Abs.D
namespace Go.Proofs.YtnoddjddkbhnbaaGreatDoor
open Go.ChangeShapes Go.WideShapes Go.ChangeAt Go.RowKit
theorem one_of {r : Abs.Rd} {τ : Abs.Ty} {x : τ.den} {u : Value} (h : Abs.Rc r τ x [u]) (h1 : τ.one = true) : Abs.oc u = true := Abs.CellRel.oneCell (g := ⟨r, fun _ => 0, fun _ _ => .nilIface, fun _ => none, fun _ => none, fun _ => []⟩) (c := .v τ x) ⟨h1, h⟩
set_option maxRecDepth 100000 in
theorem walk_it (W : World) (hL : laidMetH Tryz.prog Rows.fnExactPathRow.laid W) (v0 : Value) (x0 : List Abs.D.tyNode.den) (hR0 : Abs.Rc (Abs.snap W) (.sl Abs.D.tyNode) x0 [v0]) (hG0 : Abs.Good (.pr (.sl Abs.D.tyNode) .un) (x0, ())) (v1 : Value) (x1 : Int) (hR1 : Abs.Rc (Abs.snap W) (.int .i64) x1 [v1]) (hG1 : Abs.Good (.int .i64) x1) : Calls Tryz.prog 3 #[.agg #[v0], v1] W fun e w' => e = .returned (.bool true) ∧ Below W.heap.size W w' := by
  obtain ⟨N, h⟩ := Abs.D.law_path x0 (fun x hx => Abs.D.read_of (hG0.1.1 x hx)) hG0.1.2 x1 hG1
  have hok := (sys N).fn 3 (by kernel_rfl) ((x0, ()), x1, ()) (true, (((), ()), (), ())) (h N (Nat.le_refl N)) (Abs.snap W) W [.agg #[v0], v1] [] (of_laid hL) (fun b L hb => Abs.snap_heap hb)
    ⟨_, _, [], [], rfl, rfl, ⟨[v0], rfl, [v0], [], [], [], rfl, rfl, ⟨rfl, rfl, _, rfl, hR0⟩, rfl, rfl⟩, ⟨_, _, [], [], rfl, rfl, ⟨one_of hR1 rfl, rfl, rfl, _, rfl, hR1⟩, ⟨rfl, rfl⟩⟩⟩ List.nodup_nil (fun b hb => by simp at hb)
  refine (Abs.calls_of_invokes Tryz.func3 rfl (by kernel_rfl) hok).mono ?_
  rintro e w' ⟨v, rfl, imm', n1, n2, A, ⟨_, h1, _, u, e2, h2⟩, h3⟩
  injection e2 with e2 _
  subst e2
  have h2 : [v] = [Value.bool true] := h2
  injection h2 with h2 _
  subst h2
  exact ⟨rfl, A.below⟩
set_option maxRecDepth 100000 in
theorem lifted_it (os : Os) (started : os.Started) (H : Type) (enc : TypeId × Value → H) :
    ReturnsInHanded {} Tryz.checked os 3 .any (fun w args => (Rows.fnExactPathSpec.pre enc Tryz.prog Tryz.f3 Rows.fnExactPathRow.domain false w args ∧ laidMetH Tryz.prog Rows.fnExactPathRow.laid w) ∧ sizedMet enc Tryz.prog Tryz.f3 (OpenSpec.ofChange Rows.fnExactPathSpec) false w args)
      (Rows.fnExactPathSpec.post enc Tryz.prog Tryz.f3 false true false false) := by
  refine returnsInHanded_of_change_and (C := Tryz.checked) (X := fun w _ => laidMetH Tryz.prog Rows.fnExactPathRow.laid w) (fun _ _ _ hh h => h.of_heap hh) own started (by kernel_rfl) Tryz.func3
    (ChangeSpec.witness_shaped (enc := enc) (C := Tryz.checked) (os := os) (X := fun w _ => laidMetH Tryz.prog Rows.fnExactPathRow.laid w) false (World.laidAll Tryz.prog os Rows.fnExactPathRow.laid) #[.agg #[.slice none 0 0], .int .i64 0] 8 (World.laidAll_os _ _ _)
      (World.shaped_of_ZipB (by kernel_rfl) (by kernel_rfl)) (by kernel_rfl) (by kernel_rfl) (by kernel_rfl)
      (by rw [MakeChecks.laidMetH_plain _ _ _ (by kernel_rfl)]; exact laidMet_laidAll _ (by kernel_rfl) (by kernel_rfl))) ?_
  intro W base args ds gs before hval0 hW _ _ hL _
  have hval : ∀ (j : Nat) t v, Tryz.f3.params[j]? = some t → args[j]? = some v → Value.okWide Tryz.prog W .any base t v := hval0
  have hW' := hW
  obtain ⟨p, q, hA0, hV, rfl, hfz, hnd⟩ := hW
  have hA : DataW.TrodAll enc Tryz.prog W 0 (fun _ => true) true Tryz.f3.params.toList args.toList ds p := hA0
  rw [Tryz.params3] at hA hval
  obtain ⟨v0, vs0, d0, ds0, p0, q0, hargs0, rfl, rfl, h0, r0⟩ := trodAll_cons hA
  obtain ⟨v1, vs1, d1, ds1, p1, q1, hargs1, rfl, rfl, h1, r1⟩ := trodAll_cons r0
  obtain ⟨rfl, rfl, rfl⟩ := trodAll_nil r1
  subst hargs1
  obtain rfl : args = #[v0, v1] := by cases args; simp_all
  have h0k := h0
  obtain ⟨fuel0, hf0⟩ := h0
  obtain ⟨cs0, rfl⟩ := agg_of_wide Tryz.underlying24 (hval 0 24 v0 rfl rfl)
  obtain ⟨hR0, hG0⟩ := Abs.trod_in 5 fuel0 24 (.pr (.sl Abs.D.tyNode) .un) _ _ (by kernel_rfl) hf0
  have hR20 : ∃ v, cs0 = #[v] ∧ Abs.Rc (Abs.snap W) (.sl Abs.D.tyNode) (Abs.ofD (.pr (.sl Abs.D.tyNode) .un) d0).1 [v] := by
    obtain ⟨c1, c2, e, h1, h2⟩ := hR0
    have h2 : c2 = [] := h2
    subst h2
    obtain ⟨A, c, rfl, h3⟩ := h1
    have e : cs0.toList = _ := e
    exact ⟨_, by apply Array.ext'; rw [e]; rfl, A, c, rfl, h3⟩
  obtain ⟨w0, rfl, hw0⟩ := hR20
  obtain ⟨z1, rfl, rfl, rfl, y1⟩ := open_int Tryz.underlying3 (hval 1 3 v1 rfl rfl) h1
  have hG1 : Abs.Good (.int .i64) z1 := by simp only [Lit.wf, Bool.and_eq_true, decide_eq_true_eq] at y1; exact y1
  have hlt0 : ∀ x ∈ p0, x.block < W.heap.size := fun x hx => by simpa using hW'.lt x (List.mem_append_left _ (List.mem_append_left _ hx))
  have hV3 := trodVars_len hV
  match gs, hV3, hV, hW' with
  | [g1, g2, g3], _, hV, hW' =>
    clear hA0 hval0
    refine (walk_it W hL w0 _ hw0 hG0 _ z1 rfl hG1).mono fun e W' ⟨he, bel⟩ => ?_
    subst he
    exact ⟨_, rfl, _, _, _, [], _, _, hW', trodAll_mk1 (shut_bool Tryz.underlying4 _), (trodAll_cons_mk (Below.trod laidOut (by kernel_rfl) (of_decide_eq_true (by kernel_rfl)) h0k bel hlt0) (trodAll_cons_mk (shut_int Tryz.underlying3 y1) trodAll_mk0)), Below.trodVars laidOut bel (by kernel_rfl) hV, bel.frame _, fun h => by cases h⟩
theorem row_it : Rows.FnExactPathSaid :=
  OpenClaim.holds_of_wide 3 Tryz.f3 rfl rfl rfl rfl rfl rfl rfl ⟨rfl, rfl, rfl, rfl, rfl⟩ rfl rfl rfl rfl rfl (by kernel_rfl) Tryz.func3 (by kernel_rfl)
    (of_decide_eq_true (by kernel_rfl)) (by unfold Func.isWrapper; first | (rw [if_pos (by decide +kernel)]; kernel_rfl) | (rw [if_neg (by decide +kernel)]; exact ⟨rfl, rfl⟩))
    (fun os started H enc _ => lifted_it os started H enc)
theorem fnExactPath_holds : Rows.FnExactPathCardSaid :=
  Claim7.holds_tied_plain_at .later [] [.data, .data, .data, .sentinel, .sentinel, .data, .data, .data] true (true, "4e3d85be510023ad1ea55354940b0eda3824eb405225e0444297d2af1764754c") true
    row_it (fun _ h => by cases h) (by kernel_rfl) (fun _ h => by cases h) fnExactPath_row_tie rfl ⟨rfl, rfl⟩ (by kernel_rfl) rfl
    (fun f fn hf hfn => by
      obtain rfl : f = 3 := Option.some.inj ((show Tryz.prog.funcNamed "loop.example/warp/laws.FnExactPath" = some 3 by kernel_rfl).symm.trans hf) |>.symm
      obtain rfl : fn = Tryz.f3 := (Option.some.inj (Tryz.func3.symm.trans hfn)).symm
      exact ⟨by kernel_rfl, fun j t ht => by
        rw [Tryz.params3] at ht
        have hm : t ∈ [24, 3] := by simpa using Array.mem_of_getElem? ht
        have hall : ([24, 3].all fun u => !Tryz.prog.wantsStandIn u) = true := by kernel_rfl
        exact (show Tryz.prog.wantsStandIn t = false by simpa using List.all_eq_true.1 hall t hm)⟩)
    (by kernel_rfl)
end Go.Proofs.YtnoddjddkbhnbaaGreatDoor
#print axioms Go.Proofs.YtnoddjddkbhnbaaGreatDoor.fnExactPath_holds
end
