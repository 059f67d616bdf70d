/- What is here: append. What is here: append, its two arms. What is here: append, whole. What is here: what is handed over at a call, told by the world and what is immutable alone. What is here: the arguments of a call are read and handed over. What is here: behind a call: what came back is taken over. What is here: what a call gives back is laid into the objects. What is here: the contract of a function, told by what the evaluator says it computes; a call keeps it. What is here: a call, whole. What is here: one operation, whatever it is, does what the evaluator says. What is here: a region, its operations in the order of the text. What is here: a region whose order is drawn does what it does in the order of the text, where the evaluator found its operations apart. What is here: a region whose order is drawn, whole. What is here: where a body or a piece begins: the state that holds just the data. What is here: code, pieces and loops do what the evaluator says. What is here: a whole body keeps the contract that the evaluator tells. What is here: a function that only reads its slices, and gives back nothing that leads to them, may be lent what its caller owns. -/
import Derived.Test.YtgmponnjageaiaaDoorN1
import Derived.Deep.Upon
import Derived.Scope
set_option linter.unusedVariables false
set_option linter.unusedSimpArgs false
set_option maxRecDepth 100000
section
namespace Go.Abs
theorem HRel.bC4 {B : Base} {g : Gh} {hp : List (Nat × Obj)} {w : World} (R : HRel B g hp w) {id gen : Nat} {τ : Ty} {deep : Bool} {xs : List τ.den}
  (h : look hp id = some (.own gen τ deep xs)) : ∃ g' nb, Lk g g' ∧ HRel B g' ((id, .dead gen) :: hp) w ∧ (∀ b ∈ nb, g.lab b ≠ some 0) ∧
   ((g'.cv id gen = .slice none 0 0 ∧ xs = [] ∧ nb = []) ∨ ∃ b cap arr ty, g'.cv id gen = .slice (some ⟨b, 0, none⟩) xs.length cap ∧ Free g' ((id, .dead gen) :: hp) w b ∧ b ∉ nb ∧ b < w.heap.size ∧ w.heap[b]? = some (.cells arr ty (0, 0)) ∧
    xs.length ≤ cap ∧ arr.size = cap * τ.size ∧ T9 g' (deep && !τ.flat) τ xs arr.toList nb) := by
 have hdead : ∀ i, i = id → ∀ o, look ((id, Obj.dead gen) :: hp) i = some o → ∃ gn, o = .dead gn := by
  rintro i rfl o ho
  rw [l9] at ho
  injection ho with ho
  exact ⟨gen, ho.symm⟩
 rcases R.objs _ _ h with ⟨h1, h2⟩ | ⟨b, cap, arr, ty, h1, h2, h3, h4, h5, h6, h7⟩
 ·exact ⟨g, [], Lk.refl g, R.put h rfl trivial, fun b hb => by simp at hb, .inl ⟨h1, h2, rfl⟩⟩
 ·have hbl : b < w.heap.size := R.labsz b (by rw [h2]; simp)
  have hbi : g.imm b = none := by
   cases hi : g.imm b with
   | none => rfl
   | some L => have := (R.imm b L hi).1; rw [h2] at this; cases this
  unfold E9 at h7
  split at h7
  ·rename_i hd
   obtain ⟨nb, k1, k2, k3⟩ := h7
   have hbn : b ∉ nb := fun hm => k1.X9 b hm h3
   let g' : Gh := { g with lab := open Classical in fun x => if x ∈ nb then some 0 else g.lab x }
   have hle : Le g g' := ⟨fun _ _ h => h, fun _ => Nat.le_refl _, fun _ _ _ => rfl⟩
   have hR : HRel B g' ((id, .dead gen) :: hp) w := by
    refine ⟨fun i => ?_, fun i oi hi => ?_, fun x L hx => ?_, fun x L hx => ?_, fun x hx => ?_, R.imm0, fun x hx hl hi => ?_, R.size, R.os, R.tape, R.output, R.fix⟩
    ·show g.top i = _
     rw [R.top i]
     by_cases e : id = i
     ·subst e; rw [l9, h]; rfl
     ·rw [j6 _ _ e]
    ·by_cases e : id = i
     ·subst e; rw [l9] at hi; injection hi with hi; subst hi; trivial
     ·rw [j6 _ _ e] at hi
      refine (R.objs i oi hi).tr hle (fun x hx => ?_) rfl (by rw [R.top i, hi]; exact Nat.lt_succ_self _)
      have hxn : x ∉ nb := fun hm => by rw [k3 x hm] at hx; simp at hx; exact e hx
      simp [g', hxn, hx]
    ·obtain ⟨a1, a2, a3⟩ := R.imm x L hx
     have hxn : x ∉ nb := fun hm => by rw [k3 x hm] at a1; cases a1
     exact ⟨by simp [g', hxn, a1], a2, a3⟩
    ·obtain ⟨a1, a2⟩ := R.nst x L hx
     refine ⟨?_, a2⟩
     by_cases hxn : x ∈ nb
     ·simp [g', hxn]
     ·simpa [g', hxn] using a1
    ·by_cases hxn : x ∈ nb
     ·exact R.labsz x (by rw [k3 x hxn]; simp)
     ·exact R.labsz x (by simpa [g', hxn] using hx)
    ·obtain ⟨f1, f2, f3⟩ := R.frame x hx hl hi
     have hxn : x ∉ nb := fun hm => by rw [k3 x hm] at f1; cases f1
     exact ⟨by simp [g', hxn, f1], f2, f3⟩
   refine ⟨g', nb, ⟨hle, fun x hx => ?_, rfl⟩, hR, fun x hx => by rw [k3 x hx]; simp, .inr ⟨b, cap, arr, ty, h1, ⟨fun i hi o ho => ?_, ?_, hbi, h3, fun hn => ?_⟩, hbn, hbl, h4, h5, h6, ?_⟩⟩
   ·have hxn : x ∉ nb := fun hm => by rw [k3 x hm] at hx; simp at hx
    simp [g', hxn, hx]
   ·have hi' : g.lab b = some (i + 1) := by simpa [g', hbn] using hi
    rw [h2] at hi'
    simp at hi'
    exact hdead i hi'.symm o ho
   ·simp [g', hbn, h2]
   ·simp [g', hbn, h2] at hn
   ·unfold T9
    rw [if_pos hd]
    exact ⟨k1, k2, fun x hx => by simp [g', hx]⟩
  ·rename_i hd
   refine ⟨g, [], Lk.refl g, R.put h rfl trivial, fun x hx => by simp at hx, .inr ⟨b, cap, arr, ty, h1, ⟨fun i hi o ho => ?_, by rw [h2]; simp, hbi, h3, fun hn => by rw [h2] at hn; cases hn⟩, by simp, hbl, h4, h5, h6, ?_⟩⟩
   ·rw [h2] at hi
    simp at hi
    exact hdead i hi.symm o ho
   ·unfold T9
    rw [if_neg hd]
    exact ⟨h7, rfl⟩
theorem HRel.settle {B : Base} {g : Gh} {hp : List (Nat × Obj)} {w : World} (R : HRel B g hp w) {nb : List Nat} (h0 : ∀ x ∈ nb, g.lab x = some 0) : Le g (g.au4 (nbS g nb)) ∧ HRel B (g.au4 (nbS g nb)) hp w := by
 have hS : ∀ x L, nbS g nb x = some L → g.lab x = some 0 ∧ ∃ arr ty fr, w.heap[x]? = some (.cells arr ty fr) ∧ arr.toList = L := by
  intro x L hx
  unfold nbS at hx
  split at hx
  ·rename_i hm
   obtain ⟨_, arr, ty, a, b⟩ := R.nst x L hx
   exact ⟨h0 x hm, arr, ty, (0, 0), a, b⟩
  ·cases hx
 have hle : Le g (g.au4 (nbS g nb)) := by
  refine ⟨fun b L h => ?_, fun _ => Nat.le_refl _, fun _ _ _ => rfl⟩
  show (match nbS g nb b with | some L => some L | none => g.imm b) = some L
  cases hs : nbS g nb b with
  | none => exact h
  | some L' => exact absurd (hS b L' hs).1 (by rw [(R.imm b L h).1]; simp)
 refine ⟨hle, fun i => R.top i, fun i oi hi => ?_, fun b L h => ?_, fun b L h => ?_, fun b h => ?_, fun b L h => hle.imm _ _ (R.imm0 b L h), fun b hb hl hi => ?_, R.size, R.os, R.tape, R.output, R.fix⟩
 ·refine (R.objs i oi hi).tr hle (fun b hb => ?_) rfl (by rw [R.top i, hi]; exact Nat.lt_succ_self _)
  have hn : nbS g nb b = none := by
   cases hs : nbS g nb b with
   | none => rfl
   | some L => exact absurd ((hS b L hs).1.symm.trans hb) (by simp)
  simp [Gh.au4, hn, hb]
 ·simp only [Gh.au4] at h ⊢
  cases hs : nbS g nb b with
  | some L' =>
   rw [hs] at h
   injection h with h; subst h
   obtain ⟨arr, ty, fr, h1, h2⟩ := (hS b L' hs).2
   exact ⟨rfl, rfl, arr, ty, fr, h1, h2⟩
  | none => rw [hs] at h; exact R.imm b L h
 ·simp only [Gh.au4] at h ⊢
  cases hs : nbS g nb b with
  | some L' => rw [hs] at h; cases h
  | none => rw [hs] at h; exact R.nst b L h
 ·simp only [Gh.au4] at h
  cases hs : nbS g nb b with
  | some L' => rw [hs] at h; exact absurd rfl h
  | none => rw [hs] at h; exact R.labsz b h
 ·obtain ⟨f1, f2, f3⟩ := R.frame b hb hl hi
  have hn : nbS g nb b = none := by
   cases hs : nbS g nb b with
   | none => rfl
   | some L => exact absurd (hS b L hs).1 (by rw [f1]; simp)
  simp [Gh.au4, hn, f1, f2, f3]
theorem T9.loose {B : Base} {g : Gh} {hp : List (Nat × Obj)} {w : World} (R : HRel B g hp w) {mv : Bool} {τ : Ty} {xs : List τ.den} {L : List Value} {nb : List Nat} (h : T9 g mv τ xs L nb) :
  ∃ g', Le g g' ∧ HRel B g' hp w ∧ T9 g' false τ xs L [] ∧ (∀ b, b ∉ nb → Free g hp w b → Free g' hp w b) := by
 cases mv with
 | false =>
  unfold T9 at h
  simp only [Bool.false_eq_true, if_false] at h
  refine ⟨g, Le.refl g, R, ?_, fun _ _ h => h⟩
  unfold T9
  simp only [Bool.false_eq_true, if_false]
  exact ⟨h.1, trivial⟩
 | true =>
  unfold T9 at h
  simp only [if_true] at h
  obtain ⟨hle, R'⟩ := R.settle h.2.2
  refine ⟨_, hle, R', ?_, fun b hb hf => ?_⟩
  ·unfold T9
   simp only [Bool.false_eq_true, if_false]
   exact ⟨I2.els (nb := nb) (h.1.mono fun x hx L hL => by simp [Gh.au4, nbS, hx, hL]), trivial⟩
  ·have hn : nbS g nb b = none := by simp [nbS, hb]
   exact ⟨fun i hi => hf.obj i (by simpa [Gh.au4, hn] using hi), by simpa [Gh.au4, hn] using hf.bK6, by simpa [Gh.au4, hn] using hf.imm, by simpa [Gh.au4, hn] using hf.nst, fun h => hf.new (by simpa [Gh.au4, hn] using h)⟩
theorem T9.aS3 {g g' : Gh} (l : Le g g') {τ : Ty} {xs : List τ.den} {L : List Value} {nb : List Nat} (h : T9 g false τ xs L nb) : T9 g' false τ xs L nb := by
 unfold T9 at h ⊢
 simp only [Bool.false_eq_true, if_false] at h ⊢
 exact ⟨h.1.mono l.imm, h.2⟩
theorem bH1 {r : Rd} {τ : Ty} {x : τ.den} {us : List Value} (h : Rc r τ x us) : ∀ u ∈ us, u.oneCell' = true :=
 (U1 (g := { imm := r, top := fun _ => 0, cv := fun _ _ => .tuple #[], lab := fun _ => none, nst := fun _ => none, outer := fun _ => [] }) h).bN7
theorem aJ1 {r : Rd} {τ : Ty} : ∀ {xs : List τ.den} {L : List Value}, Els r τ xs L 0 → L.length = xs.length * τ.size → ∀ u ∈ L, u.oneCell' = true
 | [], L, _, hl, u, hu => by
  have : L = [] := List.eq_nil_of_length_eq_zero (by simpa using hl)
  subst this
  simp at hu
 | x :: xs, L, h, hl, u, hu => by
  obtain ⟨h1, h2⟩ := Els.head.1 h
  rw [← List.take_append_drop τ.size L] at hu
  rcases List.mem_append.1 hu with hu | hu
  ·exact bH1 h1 u hu
  ·exact aJ1 h2 (by simp only [List.length_drop, hl, List.length_cons, Nat.add_mul]; omega) u hu
theorem T9.els {g : Gh} {mv : Bool} {τ : Ty} {xs : List τ.den} {L : List Value} {nb : List Nat} (h : T9 g mv τ xs L nb) : ∃ r, Els r τ xs L 0 := by
 unfold T9 at h
 split at h
 ·exact ⟨_, h.1.els⟩
 ·exact ⟨_, h.1⟩
theorem T9.pre {g : Gh} {mv : Bool} {τ : Ty} {xs : List τ.den} {L M : List Value} {nb : List Nat} (hp : L.take (xs.length * τ.size) = M.take (xs.length * τ.size)) (h : T9 g mv τ xs L nb) : T9 g mv τ xs M nb := by
 unfold T9 at h ⊢
 split
 ·rename_i e; rw [if_pos e] at h
  exact ⟨h.1.pre (fun k hk => by subst hk; exact hp), h.2⟩
 ·rename_i e; rw [if_neg e] at h
  exact ⟨h.1.pre (fun k hk => by subst hk; exact hp), h.2⟩
theorem T9.append {g : Gh} {mv : Bool} {τ : Ty} {xs ys : List τ.den} {L M : List Value} {n m : List Nat} (h : T9 g mv τ xs L n) (k : T9 g mv τ ys M m) (hl : L.length = xs.length * τ.size) (hd : ∀ x ∈ n, x ∉ m) :
  T9 g mv τ (xs ++ ys) (L ++ M) (n ++ m) := by
 unfold T9 at h k ⊢
 split
 ·rename_i e; rw [if_pos e] at h k
  refine ⟨h.1.append k.1 hl, ?_, fun b hb => ?_⟩
  ·rw [List.nodup_append]
   exact ⟨h.2.1, k.2.1, fun x hx y hy e => hd x hx (e ▸ hy)⟩
  ·rcases List.mem_append.1 hb with hb | hb
   ·exact h.2.2 b hb
   ·exact k.2.2 b hb
 ·rename_i e; rw [if_neg e] at h k
  exact ⟨h.1.append k.1 hl, by rw [h.2, k.2]; rfl⟩
end Go.Abs
end

section
namespace Go.Abs
theorem bE3 {r : Rd} {e : Ty} {xs : List e.den} {L : List Value} {o : Nat} (h : Els r e xs L o) : Els r e xs (L.drop o) 0 := by
 intro i hi
 have := h i hi
 rw [Nat.zero_add, List.drop_drop]
 exact this
theorem bq6 {r : Rd} {e : Ty} {xs : List e.den} {L : List Value} {o : Nat} (h : Els r e xs L o) : Els r e xs ((L.drop o).take (xs.length * e.size)) 0 ∧ ((L.drop o).take (xs.length * e.size)).length = xs.length * e.size := by
 have h' := bE3 h
 refine ⟨h'.pre (fun k hk => by subst hk; rw [List.take_take, Nat.min_self]), ?_⟩
 have := h'.len
 rw [List.length_take]
 omega
theorem T9.cut {g : Gh} {mv : Bool} {τ : Ty} {xs : List τ.den} {L : List Value} {nb : List Nat} (h : T9 g mv τ xs L nb) : T9 g mv τ xs (L.take (xs.length * τ.size)) nb ∧ (L.take (xs.length * τ.size)).length = xs.length * τ.size := by
 obtain ⟨r, he⟩ := h.els
 refine ⟨h.pre (by rw [List.take_take, Nat.min_self]), ?_⟩
 have := he.len
 rw [List.length_take]
 omega
theorem T9.nil {g : Gh} {mv : Bool} {τ : Ty} {L : List Value} : T9 g mv τ [] L [] := by
 unfold T9
 split
 ·exact ⟨rfl, List.nodup_nil, fun b hb => by simp at hb⟩
 ·exact ⟨Els.nil, rfl⟩
theorem bM7 {P : Program} {B : Base} {g : Gh} {hp : List (Nat × Obj)} {w : World} (R : HRel B g hp w) {e : Ty} {xs : List e.den} {u : Value} {tx e' : TypeId} (hk : P.underlying tx = some (.slice e')) (h : Rc g.imm (.sl e) xs [u]) :
  ∃ news, Src P e.size tx u xs.length news w ∧ T9 g false e xs news [] := by
 obtain ⟨A, c, eu, hc, he⟩ := h
 injection eu with eu
 subst eu
 by_cases hx : xs = []
 ·subst hx
  refine ⟨[], ?_, T9.nil⟩
  cases A with
  | none => exact Src.ofNil w hk c
  | some a => exact Src.ofSlice w hk a 0 c [] (by simp) (fun j u hj => by simp at hj) (fun u hu => by simp at hu)
 ·rcases he with he | ⟨b, o, L, rfl, hL, hi⟩
  ·exact absurd he hx
  ·obtain ⟨_, _, arr, ty, fr, k1, k2⟩ := R.imm _ _ hL
   subst k2
   have hE : Els g.imm e xs arr.toList o := hi
   obtain ⟨hc1, hc2⟩ := bq6 hE
   refine ⟨_, Src.ofSlice w hk _ _ c _ hc2 (fun j u hj => ?_) (aJ1 hc1 hc2), ?_⟩
   ·rw [Addr.add_lit]
    exact K2 k1 _ j u hj
   ·unfold T9
    simp only [Bool.false_eq_true, if_false]
    exact ⟨hc1, trivial⟩
theorem az9 {E : Env} {t : TypeId} {c : Cell} (h : E.fit t c = true) (hs : c.isStr = false) : ∃ e, E.P.underlying t = some (.slice e) := by
 unfold Env.fit at h
 split at h
 ·rw [hs] at h; cases h
 ·exact ⟨_, by assumption⟩
 ·cases h
theorem ba0 {E : Env} {e : Ty} {c : Cell} {tx : TypeId} {s s' : St} {dq : Bool} {ys : List e.den} (h : (source e c).run s = some ((dq, ys), s')) (hf : E.fit tx c = true) :
  s'.env = s.env ∧ ∀ B g w, HRel B g s.hp w → ∃ g1, Lk g g1 ∧ HRel B g1 s'.hp w ∧ ∀ u, s6 g c u →
   ∃ news nb, Src E.P e.size tx u ys.length news w ∧ T9 g1 (dq && !e.flat) e ys news nb ∧ ∀ b ∈ nb, g.lab b ≠ some 0 := by
 have shared : ∀ {B : Base} {g : Gh} {hp : List (Nat × Obj)} {w : World} {u : Value} {dq : Bool}, HRel B g hp w → c.isStr = false → (dq && !e.flat) = false → Rc g.imm (.sl e) ys [u] →
   ∃ news nb, Src E.P e.size tx u ys.length news w ∧ T9 g (dq && !e.flat) e ys news nb ∧ ∀ b ∈ nb, g.lab b ≠ some 0 := by
  intro B g hp w u dq R hs hd hr
  obtain ⟨e', hk⟩ := az9 hf hs
  obtain ⟨news, k1, k2⟩ := bM7 R hk hr
  exact ⟨news, [], k1, by rw [hd]; exact k2, fun b hb => by simp at hb⟩
 unfold source at h
 split at h
 ·obtain ⟨h1, rfl⟩ := j0 h
  injection h1 with h1 h2
  subst h1; subst h2
  refine ⟨rfl, fun B g w R => ⟨g, Lk.refl g, R, fun u hu => ?_⟩⟩
  have hu : _ = _ := hu
  subst hu
  obtain ⟨e', hk⟩ := az9 hf rfl
  exact ⟨[], [], Src.ofNil w hk 0, T9.nil, fun b hb => by simp at hb⟩
 ·rename_i τ xs
  obtain ⟨zs, t, h1, h2⟩ := AM.c8 h
  obtain ⟨h3, rfl⟩ := j0 h2
  injection h3 with h3 h4
  subst h3; subst h4
  obtain ⟨ee, hx, rfl⟩ := O6 h1
  subst ee; subst hx
  refine ⟨rfl, fun B g w R => ⟨g, Lk.refl g, R, fun u hu => ?_⟩⟩
  exact shared R rfl (by simp) hu.2
 ·rename_i l
  split at h
  ·obtain ⟨h1, rfl⟩ := j0 h
   injection h1 with h1 h2
   subst h1; subst h2
   refine ⟨rfl, fun B g w R => ⟨g, Lk.refl g, R, fun u hu => ?_⟩⟩
   obtain ⟨st, rfl, hst⟩ := ad1 hu
   have hk : E.P.underlying tx = some .string := by
    unfold Env.fit at hf
    split at hf
    ·assumption
    ·simp [Cell.isStr] at hf
    ·cases hf
   have hl : List.length ys = st.size := by rw [hst]; exact G1 st
   have hb : byteCells st = ys.map (Value.int .u8) := by
    rw [hst]
    unfold byteCells bytesOf
    rw [List.map_map]
    rfl
   refine ⟨byteCells st, [], by rw [hl]; exact Src.ofString w hk st, ?_, fun b hb => by simp at hb⟩
   unfold T9
   simp only [Ty.flat, Bool.not_true, Bool.and_false, Bool.false_eq_true, if_false]
   refine ⟨fun i hi => ?_, trivial⟩
   show List.take 1 (List.drop (0 + i * 1) (byteCells st)) = [Value.int .u8 ys[i]]
   rw [hb, Nat.zero_add, Nat.mul_one]
   have : i < (ys.map (Value.int .u8)).length := by simpa using hi
   rw [List.drop_eq_getElem_cons this]
   simp
  ·cases h
 ·rename_i id gen
  simp only [AM.run] at h
  split at h
  ·rename_i g0 τ deep xs heq
   obtain ⟨hb, h'⟩ := s7 h
   obtain rfl := beq_eq hb
   cases hfl : τ.flat with
   | true =>
    rw [hfl] at h'
    obtain ⟨zs, t, h1, h2⟩ := AM.c8 h'
    obtain ⟨h3, rfl⟩ := j0 h2
    injection h3 with h3 h4
    subst h3; subst h4
    obtain ⟨ee, hx, rfl⟩ := O6 h1
    subst ee; subst hx
    refine ⟨rfl, fun B g w R => ⟨g, Lk.refl g, R, fun u hu => ?_⟩⟩
    obtain ⟨e', hk⟩ := az9 hf rfl
    rcases R.objs _ _ heq with ⟨k1, k2⟩ | ⟨b, cap, arr, ty, k1, k2, k3, k4, k5, k6, k7⟩
    ·have k2 : ys = [] := k2
     subst k2
     rw [hu.2.1, k1]
     exact ⟨[], [], Src.ofNil w hk 0, T9.nil, fun b hb => by simp at hb⟩
    ·rw [hu.2.1, k1]
     unfold E9 at k7
     rw [if_neg (by simp [hfl])] at k7
     obtain ⟨hc1, hc2⟩ := bq6 k7
     refine ⟨_, [], Src.ofSlice w hk _ _ cap _ hc2 (fun j u hj => ?_) (aJ1 hc1 hc2), ?_, fun b hb => by simp at hb⟩
     ·rw [Addr.add_lit]
      exact K2 k4 _ j u hj
     ·unfold T9
      simp only [hfl, Bool.not_true, Bool.and_false, Bool.false_eq_true, if_false]
      exact ⟨hc1, trivial⟩
   | false =>
    rw [hfl] at h'
    simp only [cond_false, AM.run] at h'
    obtain ⟨zs, t, h1, h2⟩ := AM.c8 h'
    obtain ⟨h3, rfl⟩ := j0 h2
    injection h3 with h3 h4
    subst h3; subst h4
    obtain ⟨ee, hx, rfl⟩ := O6 h1
    subst ee; subst hx
    refine ⟨rfl, fun B g w R => ?_⟩
    cases dq with
    | true =>
     obtain ⟨g1, nb, l, R1, hn, hO⟩ := R.bC4 heq
     refine ⟨g1, l, R1, fun u hu => ?_⟩
     obtain ⟨e', hk⟩ := az9 hf rfl
     have hcv : g1.cv id g0 = g.cv id g0 := l.le.cv _ _ (J4 R heq)
     rw [hcv, ← hu.2.1] at hO
     rcases hO with ⟨k1, k2, k3⟩ | ⟨b, cap, arr, ty, k1, k2, k3, k3', k4, k5, k6, k7⟩
     ·have k2 : ys = [] := k2
      subst k2; subst k3
      rw [k1]
      exact ⟨[], [], Src.ofNil w hk 0, T9.nil, fun b hb => by simp at hb⟩
     ·rw [k1]
      obtain ⟨hc1, hc2⟩ := k7.cut
      obtain ⟨r, he⟩ := hc1.els
      refine ⟨_, nb, Src.ofSlice w hk _ _ cap _ hc2 (fun j u hj => ?_) (aJ1 he hc2), hc1, hn⟩
      rw [Addr.add_lit]
      exact K2 k4 (o := 0) _ j u (by simpa using hj)
    | false =>
     obtain ⟨g1, l, R1⟩ := R.aY2 heq
     refine ⟨g1, l, R1, fun u hu => ?_⟩
     have hP : Rc _ _ _ _ := R1.objs _ _ (l9 _ _ _)
     rw [show g1.cv id g0 = g.cv id g0 from l.le.cv _ _ (J4 R heq), ← hu.2.1] at hP
     obtain ⟨news, nb, a1, a2, a3⟩ := shared (dq := false) R1 rfl (by simp) hP
     refine ⟨news, [], a1, ?_, fun b hb => by simp at hb⟩
     unfold T9 at a2 ⊢
     simp only [Bool.false_and, Bool.false_eq_true, if_false] at a2 ⊢
     exact ⟨a2.1, trivial⟩
  ·rename_i g0 τ xs heq
   obtain ⟨hb, h'⟩ := s7 h
   obtain rfl := beq_eq hb
   obtain ⟨zs, t, h1, h2⟩ := AM.c8 h'
   obtain ⟨h3, rfl⟩ := j0 h2
   injection h3 with h3 h4
   subst h3; subst h4
   obtain ⟨ee, hx, rfl⟩ := O6 h1
   subst ee; subst hx
   refine ⟨rfl, fun B g w R => ⟨g, Lk.refl g, R, fun u hu => ?_⟩⟩
   have hP : Rc _ _ _ _ := R.objs _ _ heq
   rw [← hu.2.1] at hP
   exact shared R rfl (by simp) hP
  ·cases h
 ·cases h
def Tgt (g : Gh) (hp : List (Nat × Obj)) (w : World) (mv : Bool) (e : Ty) (xs : List e.den) (u : Value) (nb : List Nat) : Prop :=
 (u = .slice none 0 0 ∧ xs = [] ∧ nb = []) ∨ ∃ b cap arr ty, u = .slice (some ⟨b, 0, none⟩) xs.length cap ∧ Free g hp w b ∧ b ∉ nb ∧ b < w.heap.size ∧ w.heap[b]? = some (.cells arr ty (0, 0)) ∧
  xs.length ≤ cap ∧ arr.size = cap * e.size ∧ T9 g mv e xs arr.toList nb
theorem a94 {e : Ty} {c : Cell} {s s' : St} {dp : Bool} {xs : List e.den} (h : (target e c).run s = some ((dp, xs), s')) :
  s'.env = s.env ∧ ∀ B g w, HRel B g s.hp w → ∃ g1, Lk g g1 ∧ HRel B g1 s'.hp w ∧ ∀ u, s6 g c u → ∃ nb, Tgt g1 s'.hp w (dp && !e.flat) e xs u nb ∧ ∀ b ∈ nb, g.lab b ≠ some 0 := by
 unfold target at h
 split at h
 ·obtain ⟨h1, rfl⟩ := j0 h
  injection h1 with h1 h2
  subst h1; subst h2
  refine ⟨rfl, fun B g w R => ⟨g, Lk.refl g, R, fun u hu => ⟨[], .inl ⟨hu, rfl, rfl⟩, fun b hb => by simp at hb⟩⟩⟩
 ·rename_i id gen
  simp only [AM.run] at h
  split at h
  ·rename_i g0 τ deep zs heq
   obtain ⟨hb, h'⟩ := s7 h
   obtain rfl := beq_eq hb
   simp only [AM.run] at h'
   obtain ⟨ys, t, h1, h2⟩ := AM.c8 h'
   obtain ⟨h3, rfl⟩ := j0 h2
   injection h3 with h3 h4
   subst h3; subst h4
   obtain ⟨ee, hx, rfl⟩ := O6 h1
   subst ee; subst hx
   refine ⟨rfl, fun B g w R => ?_⟩
   obtain ⟨g1, nb, l, R1, hn, hO⟩ := R.bC4 heq
   refine ⟨g1, l, R1, fun u hu => ⟨nb, ?_, hn⟩⟩
   rw [show g1.cv id g0 = g.cv id g0 from l.le.cv _ _ (J4 R heq), ← hu.2.1] at hO
   exact hO
  ·cases h
 ·cases h
end Go.Abs
end

section
namespace Go.Abs
theorem bj6 {α : Type} (A R : List α) {k : Nat} (h : A.length = k) : A.take k = (A ++ R).take k := by subst h; simp
theorem aV6 {P : Program} {B : Base} {g : Gh} {hp : List (Nat × Obj)} {w : World} {t tx ty e : TypeId} {i : TypeInfo} {z : Value} {τ : Ty} (ht : P.underlying t = some (.slice e)) (hi : P.info? e = some i) (hz : i.zero = some z)
  (hsz : i.size = τ.size) (hby : i.bytes ≤ 128) (hzl : z.cells.size = τ.size) (R : HRel B g hp w) {deep : Bool} {xs ys : List τ.den} {base : Option Addr} {sCap : Nat} {olds news : List Value} {u : Value} {nbp nbq : List Nat}
  (hold : (Builtin.firstCells i.size xs.length (.slice base xs.length sCap)).run P w.drew = .ok olds.toArray w.drew) (hol : olds.length = xs.length * τ.size) (hP : T9 g (deep && !τ.flat) τ xs olds nbp)
  (hS : Src P τ.size tx u ys.length news w) (hQ : T9 g (deep && !τ.flat) τ ys news nbq) (hd : ∀ x ∈ nbp, x ∉ nbq) (hg : sCap < xs.length + ys.length) (hfit : xs.length + ys.length ≤ 1099511627776) (id : Nat) :
  ∃ v w' g', (Builtin.append_ #[t, tx] ty #[.slice base xs.length sCap, u]).run P w = .ok v w' ∧ Le g g' ∧ HRel B g' ((id, .own (g.top id) τ deep (xs ++ ys)) :: hp) w' ∧ s6 g' (.own id (g.top id)) v := by
 rw [← hsz] at hS
 have hb : (xs.length + ys.length) * i.bytes ≤ 140737488355328 := by
  have : (xs.length + ys.length) * i.bytes ≤ 1099511627776 * 128 := Nat.mul_le_mul hfit hby
  omega
 have hr := run_append_grow_src (P := P) w t tx ty e i z ht hi hz base xs.length sCap olds hold u ys.length news hS hg (by omega) (growslice_fits hg hb)
 have hnl := hS.newsLen
 have hge := grownCap_ge w (xs.length + ys.length) sCap e
 generalize hc : grownCap w (xs.length + ys.length) sCap e = c at hr hge
 have hTurn : Turned w (w.drew.alloc (.cells ((olds ++ news).toArray ++ Builtin.zeroCells z.cells (c - (xs.length + ys.length))) e)) w.heap.size := by
  refine ⟨fun x hx => ?_, ?_, ?_, rfl, rfl, rfl⟩
  ·show (w.heap.push _)[x]? = _
   rw [Array.getElem?_push, if_neg hx]
  ·show _ ≤ (w.heap.push _).size
   simp
  ·show _ < (w.heap.push _).size
   simp
 obtain ⟨g', l, R', hcell⟩ := R.own (id := id) (cap := c) (ty := e) (τ := τ) (deep := deep) (xs := xs ++ ys) (nb := nbp ++ nbq) R.aq2 hTurn (by show (w.heap.push _)[w.heap.size]? = _; rw [Array.getElem?_push, if_pos rfl]) (by
   have hA := hP.append hQ hol hd
   refine hA.pre ?_
   rw [Array.toList_append]
   exact bj6 _ _ (by simp [hol, hnl, hsz, Nat.add_mul])) (by simpa using hge) (by
   simp only [Array.size_append, List.size_toArray, size_zeroCells, List.length_append, hol, hnl, hzl, hsz, ← Nat.add_mul]
   congr 1
   omega)
 refine ⟨_, _, g', hr, l, R', ?_⟩
 rw [List.length_append] at hcell
 exact hcell
theorem bf2 {P : Program} {w : World} {b o : Nat} {arr : Array Value} {ty : TypeId} {us : List Value} (h : w.heap[b]? = some (.cells arr ty (0, 0))) (hle : o + us.length ≤ arr.size) (h1 : ∀ u ∈ us, u.oneCell' = true) :
  (∀ j, j < us.length → (w.cell? ⟨b, o + j, none⟩).isSome = true) ∧ (∀ j, j < us.length → w.frozen? ⟨b, o + j, none⟩ = false) ∧ w.setCells b o us = w.setRow b (U7 arr o us) := by
 have a1 : ∀ j, j < us.length → (w.cell? ⟨b, o + j, none⟩).isSome = true := by
  intro j hj
  have : o + j < arr.size := by omega
  simp [World.cell?, h, this]
 have a2 : ∀ j, j < us.length → w.frozen? ⟨b, o + j, none⟩ = false := by
  intro j hj
  simp [World.frozen?, h]
 have r1 := run_storeCells_cells (P := P) b o us 0 w (by simpa using a1) (by simpa using a2) h1
 have r2 := run_storeCells_at (P := P) b o ty us 0 arr w h (by simpa using hle) h1
 rw [r1] at r2
 injection r2 with _ r2
 exact ⟨a1, a2, by simpa [U7] using r2⟩
theorem bl6 {P : Program} {B : Base} {g : Gh} {hp : List (Nat × Obj)} {w : World} {t tx ty e : TypeId} {i : TypeInfo} {z : Value} {τ : Ty} (ht : P.underlying t = some (.slice e)) (hi : P.info? e = some i) (hz : i.zero = some z)
  (hsz : i.size = τ.size) (hby : i.bytes ≤ 128) (hzl : z.cells.size = τ.size) (R : HRel B g hp w) {deep : Bool} {xs ys : List τ.den} {us u : Value} {news : List Value} {nbp nbq : List Nat}
  (hT : Tgt g hp w (deep && !τ.flat) τ xs us nbp) (hS : Src P τ.size tx u ys.length news w) (hQ : T9 g (deep && !τ.flat) τ ys news nbq) (hd : ∀ x ∈ nbp, x ∉ nbq) (hfit : xs.length + ys.length ≤ 1099511627776) (hbq : ∀ b, Free g hp w b → b ∉ nbq) (id : Nat) :
  ∃ v w' g', (Builtin.append_ #[t, tx] ty #[us, u]).run P w = .ok v w' ∧ Le g g' ∧ HRel B g' ((id, .own (g.top id) τ deep (xs ++ ys)) :: hp) w' ∧ s6 g' (.own id (g.top id)) v := by
 rcases hT with ⟨rfl, rfl, rfl⟩ | ⟨b, cap, arr, ty', rfl, hf, hbn, hbl, ha, hcap, hsize, hP⟩
 ·by_cases h0 : ys = []
  ·subst h0
   have hn : news = [] := List.eq_nil_of_length_eq_zero (by simpa using hS.newsLen)
   subst hn
   rw [← hsz] at hS
   obtain ⟨g', l, R', hc⟩ := R.bL4 id τ deep
   exact ⟨_, w, g', run_append_nothing w t tx ty e i ht hi none 0 0 (Nat.le_refl _) u hS, l.le, R', hc⟩
  ·have hpos : 0 < ys.length := List.length_pos_iff.2 h0
   exact aV6 ht hi hz hsz hby hzl R (xs := []) (sCap := 0) (olds := []) (by simp [run_firstCells_none]) (by simp) T9.nil hS hQ hd (by simpa using hpos) (by simpa using hfit) id
 ·by_cases hroom : xs.length + ys.length ≤ cap
  ·have hnl := hS.newsLen
   have hle : xs.length * τ.size + news.length ≤ arr.size := by
    rw [hnl, ← Nat.add_mul, hsize]
    exact Nat.mul_le_mul_right _ hroom
   obtain ⟨a1, a2, a3⟩ := bf2 (P := P) ha hle hS.one
   have hS' := hS
   rw [← hsz] at hS'
   have hr := run_append_room_src (P := P) w t tx ty e i ht hi b 0 xs.length cap u ys.length news hS' hroom (by simpa [hsz] using a1) (by simpa [hsz] using a2)
   rw [hsz, Nat.zero_add, a3] at hr
   have hrow := setRow_heap w b arr (U7 arr (xs.length * τ.size) news) ty' (0, 0) ha
   obtain ⟨g', l, R', hcell⟩ := R.own (id := id) (cap := cap) (ty := ty') (τ := τ) (deep := deep) (xs := xs ++ ys) (nb := nbp ++ nbq) hf (ab4 ha _) hrow (by
     obtain ⟨hc1, hc2⟩ := hP.cut
     have hA := hc1.append (M := news ++ arr.toList.drop (xs.length * τ.size + news.length)) (hQ.pre (bj6 _ _ (by rw [hnl]))) hc2 hd
     have e : (U7 arr (xs.length * τ.size) news).toList = List.take (xs.length * τ.size) arr.toList ++ (news ++ List.drop (xs.length * τ.size + news.length) arr.toList) := by
      simp [U7]
     rw [e]
     exact hA) (by simpa using hroom) (by
     have hl2 : (U7 arr (xs.length * τ.size) news).size = arr.size := by
      simp [U7]
      omega
     rw [hl2, hsize])
   refine ⟨_, _, g', hr, l, R', ?_⟩
   rw [List.length_append] at hcell
   exact hcell
  ·obtain ⟨hc1, hc2⟩ := hP.cut
   refine aV6 ht hi hz hsz hby hzl R (sCap := cap) ?_ hc2 hc1 hS hQ hd (by omega) hfit id
   rw [hsz]
   refine run_firstCells_some (P := P) w.drew τ.size xs.length _ xs.length cap _ hc2 (fun j v hj => ?_)
   rw [Addr.add_lit, World.cell?_drew]
   exact K2 ha (o := 0) _ j v (by simpa using hj)
theorem a30 {E : Env} {c : Call} (hc : c.callee = .builtin .append) {s s' : St} {sl : Slot} {d : Nat} (h : (I1 E d (.call c)).run s = some (sl, s')) : Yld E (.call c) s sl s' := by
 unfold I1 at h
 simp only [hc] at h
 split at h
 ·rename_i t tx hts
  obtain ⟨e, t1, h1, h2⟩ := AM.c8 h
  obtain ⟨τ, t2, h3, h4⟩ := AM.c8 h2
  obtain ⟨vs, t3, h5, h6⟩ := AM.c8 h4
  obtain ⟨he, rfl⟩ := A7 h1
  obtain rfl := aX6 h3
  obtain ⟨rfl, r1⟩ := U4 h5
  split at h6
  ·rename_i sc xc
   obtain ⟨hb, h7⟩ := s7 h6
   simp only [Bool.and_eq_true] at hb
   obtain ⟨i, z, hi, hz, hsz, hby, _, hzl⟩ := au8 hb.1
   unfold append at h7
   obtain ⟨⟨dq, ys⟩, t4, h8, h9⟩ := AM.c8 h7
   obtain ⟨⟨dp, xs⟩, t5, h10, h11⟩ := AM.c8 h9
   obtain ⟨hfit, h12⟩ := V6 h11
   obtain ⟨cell, t6, h13, h14⟩ := AM.c8 h12
   obtain ⟨rfl, rfl⟩ := j0 h14
   obtain ⟨e1, k1⟩ := ba0 h8 hb.2
   obtain ⟨e2, k2⟩ := a94 h10
   obtain ⟨gen, hg1, rfl, rfl⟩ := aq1 h13
   refine ⟨e2.trans e1, fun o ho B g a w R V => ?_⟩
   obtain ⟨u1, u2, ea, hu1, hu2⟩ := bk6 (r1 V) rfl
   obtain ⟨g1, l1, R1, c1⟩ := k1 B g w R
   obtain ⟨news, nbq, hS, hQ, fq⟩ := c1 u2 hu2
   obtain ⟨g2, l2, R2, c2⟩ := k2 B g1 w R1
   obtain ⟨nbp, hT, fp⟩ := c2 u1 (s6.mono l1.le hu1)
   have hQ2 := hQ.mono l2
   have hn : xs.length + ys.length ≤ 1099511627776 := Nat.le_of_ble_eq_true hfit
   have hdis : ∀ x ∈ nbp, x ∉ nbq := by
    intro x hx hy
    unfold T9 at hQ
    split at hQ
    ·exact fp x hx (hQ.2.2 x hy)
    ·rw [hQ.2] at hy; simp at hy
   have hpq : ∀ {g : Gh} {mv : Bool} {zs : List τ.den} {L : List Value} {nb : List Nat} {b : Nat} {hp : List (Nat × Obj)}, T9 g mv τ zs L nb → Free g hp w b → b ∉ nb := by
    intro g mv zs L nb b hp hh hf hm
    unfold T9 at hh
    split at hh
    ·exact hf.bK6 (hh.2.2 b hm)
    ·rw [hh.2] at hm; simp at hm
   have main : ∃ g3 nbp' nbq', Le g2 g3 ∧ HRel B g3 t5.hp w ∧ Tgt g3 t5.hp w ((dp && dq) && !τ.flat) τ xs u1 nbp' ∧ T9 g3 ((dp && dq) && !τ.flat) τ ys news nbq' ∧ ∀ x ∈ nbp', x ∉ nbq' := by
    by_cases hm : ((dp && dq) && !τ.flat) = true
    ·simp only [Bool.and_eq_true] at hm
     obtain ⟨⟨rfl, rfl⟩, hfl⟩ := hm
     exact ⟨g2, nbp, nbq, Le.refl g2, R2, hT, hQ2, hdis⟩
    ·have hmf : ((dp && dq) && !τ.flat) = false := by simpa using hm
     rw [hmf]
     by_cases hq : (dq && !τ.flat) = true
     ·have hp0 : (dp && !τ.flat) = false := by
       revert hmf hq
       cases dp <;> cases dq <;> cases τ.flat <;> simp
      rw [hp0] at hT
      obtain ⟨g3, l3, R3, q3, f3⟩ := hQ2.loose R2
      refine ⟨g3, nbp, [], l3, R3, ?_, q3, fun x _ hx => by simp at hx⟩
      rcases hT with ⟨a1, a2, a3⟩ | ⟨b, cap, arr, ty', a1, a2, a3, a4, a5, a6, a7, a8⟩
      ·exact .inl ⟨a1, a2, a3⟩
      ·exact .inr ⟨b, cap, arr, ty', a1, f3 b (hpq hQ2 a2) a2, a3, a4, a5, a6, a7, a8.aS3 l3⟩
     ·have hq0 : (dq && !τ.flat) = false := by simpa using hq
      rw [hq0] at hQ2
      have hnq : nbq = [] := hQ2.2
      subst hnq
      rcases hT with ⟨a1, a2, a3⟩ | ⟨b, cap, arr, ty', a1, a2, a3, a4, a5, a6, a7, a8⟩
      ·exact ⟨g2, [], [], Le.refl g2, R2, .inl ⟨a1, a2, rfl⟩, hQ2, fun x hx => by simp at hx⟩
      ·obtain ⟨g3, l3, R3, q3, f3⟩ := a8.loose R2
       exact ⟨g3, [], [], l3, R3, .inr ⟨b, cap, arr, ty', a1, f3 b a3 a2, by simp, a4, a5, a6, a7, q3⟩, hQ2.aS3 l3, fun x hx => by simp at hx⟩
   obtain ⟨g3, nbp', nbq', l3, R3, T3, Q3, d3⟩ := main
   obtain ⟨rfl, _⟩ := P5 R3 hg1
   obtain ⟨v, w', g4, k5, l4, R4, k6⟩ := bl6 (ty := o.type) (aD0 he) hi hz hsz hby hzl R3 (deep := dp && dq) T3 hS Q3 d3 hn (fun b hf => hpq Q3 hf) d
   refine ⟨v, w', g4, ?_, ((l1.le.trans l2.le).trans l3).trans l4, R4, k6⟩
   unfold execOp; rw [ho]
   have e3 : c.args.map a.eval = #[u1, u2] := by
    apply Array.ext'
    simpa using ea
   have e4 : c.argTypes = #[t, tx] := by
    apply Array.ext'
    simpa using hts
   simp [resolve, hc, invoke, builtin, e3, e4, k5]
  ·cases h6
 ·cases h
end Go.Abs
end

section
namespace Go.Abs
def rdW (w : World) : Rd := fun b => match w.heap[b]? with
 | some (.cells arr _ (0, 0)) => some arr.toList
 | _ => none
def Q9 (imm : Rd) (w : World) (mv : Bool) (τ : Ty) (xs : List τ.den) (L : List Value) (nb : List Nat) : Prop :=
 if mv then I2 (rdW w) τ xs L nb else Els imm τ xs L 0 ∧ nb = []
def OwnAt (imm : Rd) (w : World) (mv : Bool) (τ : Ty) (xs : List τ.den) (us : List Value) (nb : List Nat) : Prop :=
 (us = [.slice none 0 0] ∧ xs = [] ∧ nb = []) ∨ ∃ b cap arr ty nb', us = [.slice (some ⟨b, 0, none⟩) xs.length cap] ∧ nb = b :: nb' ∧ w.heap[b]? = some (.cells arr ty (0, 0)) ∧
   xs.length ≤ cap ∧ arr.size = cap * τ.size ∧ Q9 imm w mv τ xs arr.toList nb'
def aD8 (imm : Rd) (w : World) (pl : Nat × Nat) (xs : List Int) (us : List Value) (nb : List Nat) : Prop :=
 (us = [.pointer none, .slice none 0 0] ∧ xs = [] ∧ nb = []) ∨ ∃ u2, us = [.pointer (some ⟨pl.1, pl.2, none⟩), u2] ∧ OwnAt imm w false (.int .u8) xs [u2] nb ∧ ∀ b ∈ nb, ∃ arr, w.heap[b]? = some (.cells arr aV5 (0, 0))
def Pass (imm : Rd) (w : World) : (s : Sp) → s.ty.den → Nat × Nat → List Value → List Nat → Prop
 | .un, _, _, us, nb => us = [] ∧ nb = []
 | .pr a b, x, pl, us, nb => ∃ u1 u2 n1 n2, us = u1 ++ u2 ∧ nb = n1 ++ n2 ∧ Pass imm w a x.1 pl u1 n1 ∧ Pass imm w b x.2 (pl.1, pl.2 + a.size) u2 n2
 | .pub τ, x, _, us, nb => nb = [] ∧ τ.one = true ∧ ∃ u, us = [u] ∧ Rc imm τ x [u]
 | .own τ dp, xs, _, us, nb => OwnAt imm w (dp && !τ.flat) τ xs us nb
 | .lnd τ dp, xs, _, us, nb => OwnAt imm w (dp && !τ.flat) τ xs us nb
 | .ptr wh st s, x, _, us, nb => ∃ b o arr ty nb', us = [.pointer (some ⟨b, o, none⟩)] ∧ nb = b :: nb' ∧ w.heap[b]? = some (.cells arr ty (0, 0)) ∧ ((wh = true → o = 0 ∧ arr.size = s.size ∧ ty = st.1) ∧ (wh = false → bM8 st.2 ty o arr.size = true)) ∧ o + s.size ≤ arr.size ∧
   Pass imm w s x (b, o) ((arr.toList.drop o).take s.size) nb'
 | .tak ok, x, _, us, nb => ∃ b o arr ty, us = [.pointer (some ⟨b, o, none⟩)] ∧ w.heap[b]? = some (.cells arr ty (0, 0)) ∧ bM8 ok ty o arr.size = true ∧ o + 2 ≤ arr.size ∧ aD8 imm w (b, o) x ((arr.toList.drop o).take 2) nb
 | .bld, x, pl, us, nb => aD8 imm w pl x us nb
 | .err, b, _, us, nb => nb = [] ∧ ∃ u, us = [u] ∧ ((b = true ∧ u = .nilIface) ∨ (b = false ∧ ∃ t v, u = .iface t v))
 | .np, _, _, us, nb => nb = [] ∧ us = [.pointer none]
 | .slf _ _, _, _, us, nb => nb = [] ∧ ∃ b o, us = [.pointer (some ⟨b, o, none⟩)]
theorem Q9.mono {imm imm' : Rd} (h : ∀ b L, imm b = some L → imm' b = some L) {w : World} {mv : Bool} {τ : Ty} {xs : List τ.den} {L : List Value} {nb : List Nat} (k : Q9 imm w mv τ xs L nb) : Q9 imm' w mv τ xs L nb := by
 unfold Q9 at k ⊢
 split
 ·rename_i e; rw [if_pos e] at k; exact k
 ·rename_i e; rw [if_neg e] at k; exact ⟨k.1.mono h, k.2⟩
theorem OwnAt.mono {imm imm' : Rd} (h : ∀ b L, imm b = some L → imm' b = some L) {w : World} {mv : Bool} {τ : Ty} {xs : List τ.den} {us : List Value} {nb : List Nat} (k : OwnAt imm w mv τ xs us nb) : OwnAt imm' w mv τ xs us nb := by
 rcases k with k | ⟨b, cap, arr, ty, nb', e, e', ha, hl, hs, k⟩
 ·exact .inl k
 ·exact .inr ⟨b, cap, arr, ty, nb', e, e', ha, hl, hs, k.mono h⟩
theorem OwnAt.length {imm : Rd} {w : World} {mv : Bool} {τ : Ty} {xs : List τ.den} {us : List Value} {nb : List Nat} (k : OwnAt imm w mv τ xs us nb) : us.length = 1 := by
 rcases k with k | ⟨b, cap, arr, ty, nb', e, _⟩
 ·rw [k.1]; rfl
 ·rw [e]; rfl
theorem aD8.mono {imm imm' : Rd} (h : ∀ b L, imm b = some L → imm' b = some L) {w : World} {pl : Nat × Nat} {xs : List Int} {us : List Value} {nb : List Nat} (k : aD8 imm w pl xs us nb) : aD8 imm' w pl xs us nb := by
 rcases k with k | ⟨u2, e, k⟩
 ·exact .inl k
 ·exact .inr ⟨u2, e, k.1.mono h, k.2⟩
theorem aD8.length {imm : Rd} {w : World} {pl : Nat × Nat} {xs : List Int} {us : List Value} {nb : List Nat} (k : aD8 imm w pl xs us nb) : us.length = 2 := by
 rcases k with k | ⟨u2, e, _⟩
 ·rw [k.1]; rfl
 ·rw [e]; rfl
theorem Pass.mono {imm imm' : Rd} (h : ∀ b L, imm b = some L → imm' b = some L) {w : World} : ∀ {s : Sp} {x : s.ty.den} {pl : Nat × Nat} {us : List Value} {nb : List Nat}, Pass imm w s x pl us nb → Pass imm' w s x pl us nb
 | .un, _, _, _, _, k => k
 | .pr _ _, _, _, _, _, ⟨u1, u2, n1, n2, e, e', k1, k2⟩ => ⟨u1, u2, n1, n2, e, e', Pass.mono h k1, Pass.mono h k2⟩
 | .pub _, _, _, _, _, ⟨e, h1, u, e', k⟩ => ⟨e, h1, u, e', k.mono h⟩
 | .own _ _, _, _, _, _, k => OwnAt.mono h k
 | .lnd _ _, _, _, _, _, k => OwnAt.mono h k
 | .ptr _ _ _, _, _, _, _, ⟨b, o, arr, ty, nb', e, e', ha, hw, hl, k⟩ => ⟨b, o, arr, ty, nb', e, e', ha, hw, hl, Pass.mono h k⟩
 | .tak _, _, _, _, _, ⟨b, o, arr, ty, e, ha, hk, hl, k⟩ => ⟨b, o, arr, ty, e, ha, hk, hl, aD8.mono h k⟩
 | .bld, _, _, _, _, k => aD8.mono h k
 | .err, _, _, _, _, k => k
 | .np, _, _, _, _, k => k
 | .slf _ _, _, _, _, _, k => k
theorem Pass.length {imm : Rd} {w : World} : ∀ {s : Sp} {x : s.ty.den} {pl : Nat × Nat} {us : List Value} {nb : List Nat}, Pass imm w s x pl us nb → us.length = s.size
 | .un, _, _, _, _, k => by rw [k.1]; rfl
 | .pr _ _, _, _, _, _, ⟨u1, u2, n1, n2, e, e', k1, k2⟩ => by subst e; simp [Sp.size, k1.length, k2.length]
 | .pub _, _, _, _, _, ⟨e, h1, u, e', k⟩ => by subst e'; rfl
 | .own _ _, _, _, _, _, k => OwnAt.length k
 | .lnd _ _, _, _, _, _, k => OwnAt.length k
 | .ptr _ _ _, _, _, _, _, ⟨b, o, arr, ty, nb', e, _⟩ => by rw [e]; rfl
 | .tak _, _, _, _, _, ⟨b, o, arr, ty, e, _⟩ => by rw [e]; rfl
 | .bld, _, _, _, _, k => aD8.length k
 | .err, _, _, _, _, ⟨_, u, e, _⟩ => by rw [e]; rfl
 | .np, _, _, _, _, k => by rw [k.2]; rfl
 | .slf _ _, _, _, _, _, ⟨_, b, o, e⟩ => by rw [e]; rfl
theorem HRel.congr {B : Base} {g : Gh} {hp hp' : List (Nat × Obj)} {w : World} (e : ∀ i, look hp' i = look hp i) (R : HRel B g hp w) : HRel B g hp' w :=
 ⟨fun i => by rw [e i]; exact R.top i, fun i o h => R.objs i o (by rw [← e i]; exact h), R.imm, R.nst, R.labsz, R.imm0, R.frame, R.size, R.os, R.tape, R.output, R.fix⟩
theorem aV1 {β : Type} (l : List (Nat × β)) (n : Nat) (a b : β) (i : Nat) : look ((n, a) :: l) i = look ((n, a) :: (n, b) :: l) i := by
 by_cases e : n = i
 ·subst e; rw [l9, l9]
 ·rw [j6 _ _ e, j6 _ _ e, j6 _ _ e]
theorem HRel.bI2 {B : Base} {g : Gh} {hp : List (Nat × Obj)} {w : World} (R : HRel B g hp w) {id b : Nat} (hl : g.lab b = some (id + 1)) (hn : g.nst b = none)
  (ho : ∀ o, look hp id = some o → (∃ gn, o = .dead gn) ∨ ∃ gn cs, o = .lent gn cs) :
  ∃ g', Lk g g' ∧ g'.outer = g.outer ∧ g'.imm = g.imm ∧ g'.nst = g.nst ∧ (∀ x, x ≠ b → g'.lab x = g.lab x) ∧ g'.lab b = some 0 ∧ HRel B g' hp w := by
 let g' : Gh := { g with lab := fun x => if x = b then some 0 else g.lab x }
 have hle : Le g g' := ⟨fun _ _ h => h, fun _ => Nat.le_refl _, fun _ _ _ => rfl⟩
 refine ⟨g', ⟨hle, fun x hx => ?_, rfl⟩, rfl, rfl, rfl, fun x hx => by simp [g', hx], by simp [g'], ?_⟩
 ·have : x ≠ b := fun e => by subst e; rw [hl] at hx; simp at hx
  simp [g', this, hx]
 ·refine ⟨R.top, fun i oi hi => ?_, fun x L hx => ?_, fun x L hx => ?_, fun x hx => ?_, R.imm0, fun x hx hl' hi => ?_, R.size, R.os, R.tape, R.output, R.fix⟩
  ·by_cases e : i = id
   ·subst e
    rcases ho oi hi with ⟨gn, rfl⟩ | ⟨gn, cs, rfl⟩ <;> trivial
   ·refine (R.objs i oi hi).tr hle (fun x hx => ?_) rfl (J4 R hi)
    have hxb : x ≠ b := fun e' => by subst e'; rw [hl] at hx; simp at hx; exact e hx.symm
    exact ⟨by simp [g', hxb, hx], rfl, rfl⟩
  ·obtain ⟨a1, a2, a3⟩ := R.imm x L hx
   have hxb : x ≠ b := fun e' => by subst e'; rw [hl] at a1; cases a1
   exact ⟨by simp [g', hxb, a1], a2, a3⟩
  ·obtain ⟨a1, a2⟩ := R.nst x L hx
   refine ⟨?_, a2⟩
   by_cases hxb : x = b
   ·simp [g', hxb]
   ·simpa [g', hxb] using a1
  ·by_cases hxb : x = b
   ·subst hxb; exact R.labsz x (by rw [hl]; simp)
   ·exact R.labsz x (by simpa [g', hxb] using hx)
  ·obtain ⟨f1, f2, f3⟩ := R.frame x hx hl' hi
   have hxb : x ≠ b := fun e' => by subst e'; rw [hl] at f1; cases f1
   exact ⟨by simp [g', hxb, f1], f2, f3⟩
theorem HRel.bE1 {B : Base} {g : Gh} {hp : List (Nat × Obj)} {w : World} (R : HRel B g hp w) {b : Nat} {L : List Value} (h : g.nst b = some L) : rdW w b = some L := by
 obtain ⟨_, arr, ty, a, e⟩ := R.nst b L h
 unfold rdW
 rw [a]
 simpa using e
theorem HRel.bR7 {B : Base} {g : Gh} {hp : List (Nat × Obj)} {w : World} (R : HRel B g hp w) {id gen : Nat} {τ : Ty} {deep dp : Bool} {xs : List τ.den}
  (h : look hp id = some (.own gen τ deep xs)) (hd : (deep || !dp || τ.flat) = true) : ∃ g' nb, Lk g g' ∧ g'.outer = g.outer ∧ HRel B g' ((id, .dead gen) :: hp) w ∧ nb.Nodup ∧ (∀ b ∈ nb, g'.lab b = some 0 ∧ g.lab b ≠ some 0) ∧
   OwnAt g'.imm w (dp && !τ.flat) τ xs [g.cv id gen] nb := by
 have step1 : ∃ g1, Lk g g1 ∧ g1.outer = g.outer ∧ HRel B g1 ((id, .own gen τ (deep && dp) xs) :: hp) w := by
  by_cases e : (deep && dp) = deep
  ·rw [e]
   exact ⟨g, Lk.refl g, rfl, R.put h rfl (R.objs _ _ h)⟩
  ·have e' : (deep && dp) = false := by cases deep <;> cases dp <;> simp_all
   rw [e']
   have : ∃ g', Lk g g' ∧ g'.outer = g.outer ∧ HRel B g' ((id, .own gen τ false xs) :: hp) w := by
    have hO := R.objs _ _ h
    rcases hO with ⟨h1, h2⟩ | ⟨b, cap, arr, ty, h1, h2, h3, h4, h5, h6, h7⟩
    ·exact ⟨g, Lk.refl g, rfl, R.put h rfl (.inl ⟨h1, h2⟩)⟩
    ·by_cases hd : (deep && !τ.flat) = true
     ·unfold E9 at h7
      rw [if_pos hd] at h7
      obtain ⟨nb, k1, k2, k3⟩ := h7
      have hS : ∀ x L, nbS g nb x = some L → g.lab x = some (id + 1) ∧ ∃ arr ty fr, w.heap[x]? = some (.cells arr ty fr) ∧ arr.toList = L := by
       intro x L hx
       unfold nbS at hx
       split at hx
       ·rename_i hm
        obtain ⟨_, arr, ty, a, b⟩ := R.nst x L hx
        exact ⟨k3 x hm, arr, ty, (0, 0), a, b⟩
       ·cases hx
      have hbn : b ∉ nb := fun hm => k1.X9 b hm h3
      have hnb : nbS g nb b = none := by simp [nbS, hbn]
      refine ⟨_, R.a13 (fun x L hx => (hS x L hx).1), rfl, R.bg4 hS h rfl (.inr ⟨b, cap, arr, ty, h1, by simp [Gh.au4, hnb, h2], by simp [Gh.au4, hnb, h3], h4, h5, h6, ?_⟩)⟩
      show E9 _ _ _ false _ _
      unfold E9
      simp only [Bool.false_and, Bool.false_eq_true, if_false]
      refine I2.els (nb := nb) (k1.mono fun x hx L hL => ?_)
      simp [Gh.au4, nbS, hx, hL]
     ·refine ⟨g, Lk.refl g, rfl, R.put h rfl (.inr ⟨b, cap, arr, ty, h1, h2, h3, h4, h5, h6, ?_⟩)⟩
      unfold E9 at h7 ⊢
      rw [if_neg hd] at h7
      simpa using h7
   exact this
 obtain ⟨g1, l1, o1, R1⟩ := step1
 have ht := J4 R h
 have hO := R1.objs _ _ (l9 _ _ _)
 have hcv1 : g1.cv id gen = g.cv id gen := l1.le.cv _ _ ht
 have Rd : HRel B g1 ((id, .dead gen) :: hp) w := (R1.put (l9 _ _ _) (o' := .dead gen) rfl trivial).congr fun i => aV1 _ _ _ _ i
 rcases hO with ⟨h1, h2⟩ | ⟨b, cap, arr, ty, h1, h2, h3, h4, h5, h6, h7⟩
 ·refine ⟨g1, [], l1, o1, Rd, List.nodup_nil, fun b hb => by simp at hb, .inl ⟨?_, h2, rfl⟩⟩
  rw [← hcv1, h1]
 ·rw [hcv1] at h1
  have nest : ∃ g2 nb', Lk g1 g2 ∧ g2.outer = g1.outer ∧ g2.imm = g1.imm ∧ HRel B g2 ((id, .dead gen) :: hp) w ∧ nb'.Nodup ∧ (∀ x ∈ nb', g2.lab x = some 0 ∧ g1.lab x ≠ some 0) ∧ b ∉ nb' ∧ g2.lab b = some (id + 1) ∧ g2.nst b = none ∧
    Q9 g2.imm w (dp && !τ.flat) τ xs arr.toList nb' := by
   unfold E9 at h7
   by_cases hc : ((deep && dp) && !τ.flat) = true
   ·rw [if_pos hc] at h7
    obtain ⟨nb, k1, k2, k3⟩ := h7
    have hbn : b ∉ nb := fun hm => k1.X9 b hm h3
    let g' : Gh := { g1 with lab := open Classical in fun x => if x ∈ nb then some 0 else g1.lab x }
    have hle : Le g1 g' := ⟨fun _ _ h => h, fun _ => Nat.le_refl _, fun _ _ _ => rfl⟩
    have hR : HRel B g' ((id, .dead gen) :: hp) w := by
     refine ⟨Rd.top, fun i oi hi => ?_, fun x L hx => ?_, fun x L hx => ?_, fun x hx => ?_, Rd.imm0, fun x hx hl hi => ?_, Rd.size, Rd.os, Rd.tape, Rd.output, Rd.fix⟩
     ·by_cases e : id = i
      ·subst e; rw [l9] at hi; injection hi with hi; subst hi; trivial
      ·refine (Rd.objs i oi hi).tr hle (fun x hx => ?_) rfl (J4 Rd hi)
       have hxn : x ∉ nb := fun hm => by rw [k3 x hm] at hx; simp at hx; exact e hx
       simp [g', hxn, hx]
     ·obtain ⟨a1, a2, a3⟩ := Rd.imm x L hx
      have hxn : x ∉ nb := fun hm => by rw [k3 x hm] at a1; cases a1
      exact ⟨by simp [g', hxn, a1], a2, a3⟩
     ·obtain ⟨a1, a2⟩ := Rd.nst x L hx
      refine ⟨?_, a2⟩
      by_cases hxn : x ∈ nb
      ·simp [g', hxn]
      ·simpa [g', hxn] using a1
     ·by_cases hxn : x ∈ nb
      ·exact Rd.labsz x (by rw [k3 x hxn]; simp)
      ·exact Rd.labsz x (by simpa [g', hxn] using hx)
     ·obtain ⟨f1, f2, f3⟩ := Rd.frame x hx hl hi
      have hxn : x ∉ nb := fun hm => by rw [k3 x hm] at f1; cases f1
      exact ⟨by simp [g', hxn, f1], f2, f3⟩
    refine ⟨g', nb, ⟨hle, fun x hx => ?_, rfl⟩, rfl, rfl, hR, k2, fun x hx => ⟨by simp [g', hx], by rw [k3 x hx]; simp⟩, hbn, by simp [g', hbn, h2], h3, ?_⟩
    ·have hxn : x ∉ nb := fun hm => by rw [k3 x hm] at hx; simp at hx
     simp [g', hxn, hx]
    ·have hc' : (dp && !τ.flat) = true := by
      simp only [Bool.and_eq_true] at hc ⊢
      exact ⟨hc.1.2, hc.2⟩
     unfold Q9
     rw [if_pos hc']
     exact k1.mono fun x hx L hL => Rd.bE1 hL
   ·rw [if_neg hc] at h7
    have hc' : (dp && !τ.flat) = false := by
     revert hc hd
     cases deep <;> cases dp <;> cases τ.flat <;> simp
    refine ⟨g1, [], Lk.refl g1, rfl, rfl, Rd, List.nodup_nil, fun x hx => by simp at hx, by simp, h2, h3, ?_⟩
    unfold Q9
    rw [hc']
    simp only [Bool.false_eq_true, if_false]
    exact ⟨h7, trivial⟩
  obtain ⟨g2, nb', l2, o2, i2, R2, n1, n2, n3, n4, n5, n6⟩ := nest
  obtain ⟨g3, l3, o3, i3, s3, f3, z3, R3⟩ := R2.bI2 n4 n5 (fun o ho => by rw [l9] at ho; injection ho with ho; exact .inl ⟨gen, ho.symm⟩)
  refine ⟨g3, b :: nb', (l1.trans l2).trans l3, (o3.trans o2).trans o1, R3, List.nodup_cons.2 ⟨n3, n1⟩, fun x hx => ?_, .inr ⟨b, cap, arr, ty, nb', by rw [h1], rfl, h4, h5, h6, by rw [i3]; exact n6⟩⟩
  rcases List.mem_cons.1 hx with rfl | hy
  ·refine ⟨z3, fun e => ?_⟩
   have := (l1.kp x e).1
   rw [h2] at this
   simp at this
  ·have hxb : x ≠ b := fun e => n3 (e ▸ hy)
   refine ⟨by rw [f3 x hxb]; exact (n2 x hy).1, fun e => (n2 x hy).2 (l1.kp x e).1⟩
def aq7 (hp : List (Nat × Obj)) (g : Gh) (w : World) : (s : Sp) → List Cell → List Value → Prop
 | .pr a b, cs, us => aq7 hp g w a (cs.take a.size) (us.take a.size) ∧ aq7 hp g w b (cs.drop a.size) (us.drop a.size)
 | .lnd _ _, cs, us => (cs = [.nil] ∧ us = [.slice none 0 0]) ∨ ∃ id gen, cs = [.own id gen] ∧ us = [g.cv id gen] ∧ gen < g.top id ∧ oc (g.cv id gen) = true
 | .ptr _ _ s, cs, us => ∃ id gen off bs b o arr ty L, cs = [.ptr id gen off] ∧ us = [.pointer (some ⟨b, o + off, none⟩)] ∧ look hp id = some (.lent gen (ty, bs)) ∧ g.cv id gen = .pointer (some ⟨b, o, none⟩) ∧
   w.heap[b]? = some (.cells arr ty (0, 0)) ∧ arr.toList = (g.outer id).take o ++ L ++ (g.outer id).drop (o + L.length) ∧ o + L.length ≤ (g.outer id).length ∧ (o = 0 ∧ (g.outer id).length = bs.length) ∧
   off + s.size ≤ bs.length ∧ n7 g bs L ∧ aq7 hp g w s (cut off s.size bs) ((L.drop off).take s.size)
 | _, _, _ => True
theorem aq7.mono {hp hp' : List (Nat × Obj)} {g g' : Gh} {w : World} (l : Le g g') (ho : ∀ id gn cs, look hp id = some (.lent gn cs) → look hp' id = some (.lent gn cs) ∧ g'.outer id = g.outer id) (ht : ∀ id gn cs, look hp id = some (.lent gn cs) → gn < g.top id) :
  ∀ {s : Sp} {cs : List Cell} {us : List Value}, aq7 hp g w s cs us → aq7 hp' g' w s cs us
 | .un, _, _, _ => trivial
 | .pub _, _, _, _ => trivial
 | .own _ _, _, _, _ => trivial
 | .bld, _, _, _ => trivial
 | .tak _, _, _, _ => trivial
 | .err, _, _, _ => trivial
 | .np, _, _, _ => trivial
 | .slf _ _, _, _, _ => trivial
 | .lnd _ _, _, _, .inl h => .inl h
 | .lnd _ _, _, _, .inr ⟨id, gen, e, e', h, hoc⟩ => .inr ⟨id, gen, e, by rw [l.cv _ _ h]; exact e', Nat.lt_of_lt_of_le h (l.top _), by rw [l.cv _ _ h]; exact hoc⟩
 | .pr _ _, _, _, ⟨h1, h2⟩ => ⟨aq7.mono l ho ht h1, aq7.mono l ho ht h2⟩
 | .ptr _ _ _, _, _, ⟨id, gen, off, bs, b, o, arr, ty, L, e1, e2, hl, hcv, ha, hL, hle, hid, hoff, hc, hr⟩ => by
  obtain ⟨k1, k2⟩ := ho _ _ _ hl
  exact ⟨id, gen, off, bs, b, o, arr, ty, L, e1, e2, k1, (l.cv _ _ (ht _ _ _ hl)).trans hcv, ha, by rw [k2]; exact hL, by rw [k2]; exact hle, by rw [k2]; exact hid, hoff, hc.mono l, aq7.mono l ho ht hr⟩
def F5 (g : Gh) (nb : List Nat) : Prop := nb.Nodup ∧ ∀ b ∈ nb, g.lab b = some 0
theorem F5.mono {g g' : Gh} (l : Lk g g') {nb : List Nat} (h : F5 g nb) : F5 g' nb := ⟨h.1, fun b hb => (l.kp b (h.2 b hb)).1⟩
theorem F5.append {g g' : Gh} {n1 n2 : List Nat} (l : Lk g g') (h1 : F5 g n1) (h2 : F5 g' n2) (hf : ∀ b ∈ n2, g.lab b ≠ some 0) : F5 g' (n1 ++ n2) := by
 refine ⟨?_, fun b hb => ?_⟩
 ·rw [List.nodup_append]
  exact ⟨h1.1, h2.1, fun x hx y hy e => by subst e; exact hf x hy (h1.2 x hx)⟩
 ·rcases List.mem_append.1 hb with hb | hb
  ·exact (h1.mono l).2 b hb
  ·exact h2.2 b hb
def R5 (s s' : St) : Prop := s'.env = s.env ∧ ∀ id gn cs, look s.hp id = some (.lent gn cs) → look s'.hp id = some (.lent gn cs)
theorem R5.refl (s : St) : R5 s s := ⟨rfl, fun _ _ _ h => h⟩
theorem R5.trans {a b c : St} (h : R5 a b) (k : R5 b c) : R5 a c := ⟨k.1.trans h.1, fun i g cs hl => k.2 i g cs (h.2 i g cs hl)⟩
theorem ab9 {s : St} {id : Nat} {o : Obj} (h : ∀ gn cs, look s.hp id ≠ some (.lent gn cs)) : R5 s { s with hp := (id, o) :: s.hp } :=
 ⟨rfl, fun i gn cs hl => by
  by_cases e : id = i
  ·subst e; exact absurd hl (h gn cs)
  ·show look ((id, o) :: s.hp) i = _
   rw [j6 _ _ e]; exact hl⟩
end Go.Abs
end

section
namespace Go.Abs
theorem bl2 : ∀ (k : Nat) (c : Cell) (s : St) (xs : List Int) (s' : St), (bI8 k c).run s = some (xs, s') → R5 s s' := by
 intro k
 induction k with
 | zero =>
  intro c s xs s' h
  cases c with
  | v τ x => cases τ <;> first | (obtain ⟨rfl, rfl⟩ := j0 h; exact R5.refl _) | exact nomatch h
  | np => obtain ⟨rfl, rfl⟩ := j0 h; exact R5.refl _
  | nf => exact nomatch h
  | nil => exact nomatch h
  | own _ _ => exact nomatch h
  | ptr _ _ off => cases off <;> exact nomatch h
  | fn _ _ => exact nomatch h
  | err _ => exact nomatch h
 | succ k ih =>
  intro c s xs s' h
  cases c with
  | v τ x => cases τ <;> first | (obtain ⟨rfl, rfl⟩ := j0 h; exact R5.refl _) | exact nomatch h
  | np => obtain ⟨rfl, rfl⟩ := j0 h; exact R5.refl _
  | nf => exact nomatch h
  | nil => exact nomatch h
  | own _ _ => exact nomatch h
  | fn _ _ => exact nomatch h
  | err _ => exact nomatch h
  | ptr id gen off =>
   cases off with
   | succ n => exact nomatch h
   | zero =>
    simp only [bI8, AM.run] at h
    split at h
    ·obtain ⟨hb, h'⟩ := s7 h
     obtain ⟨ys, t, h1, h2⟩ := AM.c8 h'
     have k1 := ih _ _ _ _ h1
     simp only [AM.run] at h2
     split at h2
     ·rename_i heq
      simp only [AM.run, Option.some.injEq, Prod.mk.injEq] at h2
      obtain ⟨rfl, rfl⟩ := h2
      exact k1.trans (ab9 fun gn cs hl => by rw [heq] at hl; cases hl)
     ·exact nomatch h2
    ·obtain ⟨hb, h'⟩ := s7 h
     obtain ⟨rfl, rfl⟩ := j0 h'
     exact R5.refl _
    ·exact nomatch h
theorem bd8 {τ : Ty} {c : Cell} {s s' : St} {x : τ.den} (h : (datum τ c).run s = some (x, s')) : R5 s s' := by
 cases τ with
 | int k =>
  cases c with
  | v τ' x' =>
   cases τ' with
   | int k' =>
    simp only [datum] at h
    split at h
    ·obtain ⟨rfl, rfl⟩ := j0 h; exact R5.refl _
    ·exact nomatch h
   | _ => exact nomatch h
  | _ => exact nomatch h
 | bool =>
  cases c with
  | v τ' x' => cases τ' <;> first | (obtain ⟨rfl, rfl⟩ := j0 h; exact R5.refl _) | exact nomatch h
  | _ => exact nomatch h
 | str =>
  cases c with
  | v τ' x' => cases τ' <;> first | (obtain ⟨rfl, rfl⟩ := j0 h; exact R5.refl _) | exact nomatch h
  | _ => exact nomatch h
 | un => cases c <;> exact nomatch h
 | pr a b => cases c <;> exact nomatch h
 | cl => exact bl2 4 c s x s' h
 | sl e =>
  cases c with
  | v τ' x' =>
   cases τ' with
   | sl e' =>
    simp only [datum] at h
    obtain ⟨_, _, rfl⟩ := O6 h
    exact R5.refl _
   | _ => exact nomatch h
  | nil => obtain ⟨rfl, rfl⟩ := j0 h; exact R5.refl _
  | own id gen =>
   simp only [datum, AM.run] at h
   split at h
   ·rename_i heq
    obtain ⟨hb, h'⟩ := s7 h
    simp only [AM.run] at h'
    obtain ⟨_, _, rfl⟩ := O6 h'
    exact ab9 fun gn cs hl => by rw [heq] at hl; cases hl
   ·obtain ⟨hb, h'⟩ := s7 h
    obtain ⟨_, _, rfl⟩ := O6 h'
    exact R5.refl _
   ·exact nomatch h
  | ptr _ _ _ => exact nomatch h
  | np => exact nomatch h
  | nf => exact nomatch h
  | fn _ _ => exact nomatch h
  | err _ => exact nomatch h
def M1 (g : Gh) (pl : Plc) (rp : Nat × Nat) : Prop := ∀ id gen off, pl = some (id, gen, off) → gen < g.top id ∧ ∃ b o, g.cv id gen = .pointer (some ⟨b, o, none⟩) ∧ rp = (b, o + off)
theorem M1.mono {g g' : Gh} (l : Le g g') {pl : Plc} {rp : Nat × Nat} (h : M1 g pl rp) : M1 g' pl rp := fun id gen off e => by
 obtain ⟨h1, b, o, h2, h3⟩ := h id gen off e
 exact ⟨Nat.lt_of_lt_of_le h1 (l.top _), b, o, (l.cv _ _ h1).trans h2, h3⟩
theorem M1.on {g : Gh} {pl : Plc} {rp : Nat × Nat} (h : M1 g pl rp) (n : Nat) : M1 g (pl.on n) (rp.1, rp.2 + n) := fun id gen off e => by
 unfold Plc.on at e
 split at e
 ·rename_i id' g' o'
  injection e with e; injection e with e1 e; injection e with e2 e3
  subst e1; subst e2; subst e3
  obtain ⟨h1, b, o, h2, h3⟩ := h _ _ _ rfl
  refine ⟨h1, b, o, h2, ?_⟩
  rw [h3]
  simp [Nat.add_assoc]
 ·cases e
theorem M1.none (g : Gh) (rp : Nat × Nat) : M1 g none rp := fun id gen off e => by cases e
def aS8 (sp : Sp) (pl : Plc) (cells : List Cell) (s : St) (x : sp.ty.den) (rest : List Cell) (s' : St) : Prop :=
 R5 s s' ∧ (∃ used, cells = used ++ rest ∧ used.length = sp.size) ∧ ∀ B g w, HRel B g s.hp w → ∃ g', Lk g g' ∧ HRel B g' s'.hp w ∧ ∀ us rp, n7 g cells us → M1 g pl rp →
  ∃ us1 us2 nb, us = us1 ++ us2 ∧ Pass g'.imm w sp x rp us1 nb ∧ F5 g' nb ∧ n7 g' rest us2 ∧ (∀ b ∈ nb, g.lab b ≠ some 0) ∧ aq7 s'.hp g' w sp (cells.take sp.size) us1
theorem HRel.bt0 {B : Base} {g : Gh} {hp : List (Nat × Obj)} {w : World} (R : HRel B g hp w) {id gen : Nat} {xs : List Int} {a ag bid bg off : Nat} (h : look hp id = some (.bld gen xs a ag bid bg off)) :
  ∃ g' nb, Lk g g' ∧ HRel B g' ((id, .dead gen) :: hp) w ∧ nb.Nodup ∧ (∀ b ∈ nb, g'.lab b = some 0 ∧ g.lab b ≠ some 0) ∧
   ((g.cv a ag = .pointer none ∧ g.cv id gen = .slice none 0 0 ∧ xs = [] ∧ nb = []) ∨ ∃ bb oo, g.cv bid bg = .pointer (some ⟨bb, oo, none⟩) ∧ g.cv a ag = .pointer (some ⟨bb, oo + off, none⟩) ∧ OwnAt g'.imm w false (.int .u8) xs [g.cv id gen] nb ∧ ∀ b ∈ nb, ∃ arr, w.heap[b]? = some (.cells arr aV5 (0, 0))) := by
 obtain ⟨h1, h2, h3, h4⟩ := R.objs _ _ h
 have R1 : HRel B g ((id, .dead gen) :: hp) w := R.put h rfl trivial
 rcases h4 with ⟨k1, k2, k3⟩ | ⟨bb, oo, k1, k2, ⟨k3, k4⟩ | ⟨b, cap, arr, ty, e1, e2, e3, e4, e5, e6, e7, rfl⟩⟩
 ·exact ⟨g, [], Lk.refl g, R1, List.nodup_nil, fun b hb => by simp at hb, .inl ⟨k1, k2, k3, rfl⟩⟩
 ·exact ⟨g, [], Lk.refl g, R1, List.nodup_nil, fun b hb => by simp at hb, .inr ⟨bb, oo, k1, k2, .inl ⟨by rw [k3], k4, rfl⟩, fun b hb => by simp at hb⟩⟩
 ·obtain ⟨g2, l2, o2, i2, s2, f2, z2, R2⟩ := R1.bI2 e2 e3 (fun o ho => by rw [l9] at ho; injection ho with ho; exact .inl ⟨gen, ho.symm⟩)
  refine ⟨g2, [b], l2, R2, by simp, fun x hx => ?_, .inr ⟨bb, oo, k1, k2, .inr ⟨b, cap, arr, aV5, [], by rw [e1], rfl, e4, e5, by simpa [Ty.size] using e6, ?_⟩, fun x hx => ?_⟩⟩
  ·simp only [List.mem_singleton] at hx
   subst hx
   exact ⟨z2, by rw [e2]; simp⟩
  ·unfold Q9
   simp only [Bool.false_eq_true, if_false]
   exact ⟨e7.flat rfl, trivial⟩
  ·simp only [List.mem_singleton] at hx
   subst hx
   exact ⟨arr, e4⟩
theorem HRel.as9 {B : Base} {g : Gh} {hp : List (Nat × Obj)} {w : World} (R : HRel B g hp w) : ∀ id gn cs, look hp id = some (.lent gn cs) → gn < g.top id := fun _ _ _ h => J4 R h
theorem bs6 {α : Type} {arr O L : List α} {o off n : Nat} (h : arr = O.take o ++ L ++ O.drop (o + L.length)) (ho : o + L.length ≤ O.length) (hn : off + n ≤ L.length) : (L.drop off).take n = (arr.drop (o + off)).take n := by
 subst h
 apply List.ext_getElem?
 intro j
 simp only [List.getElem?_take, List.getElem?_drop]
 split
 ·rw [List.append_assoc, List.getElem?_append_right (by simp; omega), List.getElem?_append_left (by simp; omega)]
  congr 1
  simp
  omega
 ·rfl
theorem aS8.close {sp : Sp} {pl : Plc} {cells : List Cell} {s t : St} {x : sp.ty.den} {rest : List Cell} {s' : St} {id gen : Nat} (h : (af2 id gen).run s = some ((), t)) (k : aS8 sp pl cells t x rest s') : aS8 sp pl cells s x rest s' := by
 obtain ⟨e1, e2, e3⟩ := at3 h
 obtain ⟨k1, k2, k3⟩ := k
 refine ⟨⟨k1.1.trans e1, fun i gn cs hl => k1.2 i gn cs (e2 i gn cs hl)⟩, k2, fun B g w R => ?_⟩
 obtain ⟨g1, l1, R1⟩ := e3 R
 obtain ⟨g2, l2, R2, c⟩ := k3 B g1 w R1
 refine ⟨g2, l1.trans l2, R2, fun us rp hu hpl => ?_⟩
 obtain ⟨u1, u2, nb, a1, a2, a3, a4, a5, a6⟩ := c us rp (hu.mono l1.le) (hpl.mono l1.le)
 exact ⟨u1, u2, nb, a1, a2, a3, a4, fun b hb e => a5 b hb (l1.kp b e).1, a6⟩
theorem aq9 : ∀ (sp : Sp) (pl : Plc) (cells : List Cell) (s : St) (x : sp.ty.den) (rest : List Cell) (s' : St), (bp4 sp pl cells).run s = some ((x, rest), s') → aS8 sp pl cells s x rest s' := by
 intro sp
 induction sp with
 | un =>
  intro pl cells s x rest s' h
  obtain ⟨h1, rfl⟩ := j0 h
  injection h1 with h1 h2
  subst h2
  exact ⟨R5.refl _, ⟨[], rfl, rfl⟩, fun B g w R => ⟨g, Lk.refl g, R, fun us rp hu _ => ⟨[], us, [], rfl, ⟨rfl, rfl⟩, ⟨List.nodup_nil, fun b hb => by simp at hb⟩, hu, fun b hb => by simp at hb, trivial⟩⟩⟩
 | pr a b iha ihb =>
  intro pl cells s x rest s' h
  obtain ⟨⟨p1, p2⟩, t, h1, h2⟩ := AM.c8 h
  obtain ⟨⟨q1, q2⟩, t2, h3, h4⟩ := AM.c8 h2
  obtain ⟨h5, rfl⟩ := j0 h4
  injection h5 with h5 h6
  subst h5; subst h6
  obtain ⟨ka, ⟨ca, ea, la⟩, sa⟩ := iha _ _ _ _ _ _ h1
  obtain ⟨kb, ⟨cb, eb, lb⟩, sb⟩ := ihb _ _ _ _ _ _ h3
  have eb : p2 = cb ++ rest := eb
  refine ⟨ka.trans kb, ⟨ca ++ cb, by rw [ea, eb, List.append_assoc], by simp [la, lb, Sp.size]⟩, fun B g w R => ?_⟩
  obtain ⟨g1, l1, R1, c1⟩ := sa B g w R
  obtain ⟨g2, l2, R2, c2⟩ := sb B g1 w R1
  refine ⟨g2, l1.trans l2, R2, fun us rp hu hpl => ?_⟩
  obtain ⟨u1, u2, n1, rfl, P1, O1, r1, f1, L1⟩ := c1 us rp hu hpl
  obtain ⟨u3, u4, n2, rfl, P2, O2, r2, f2, L2⟩ := c2 u2 (rp.1, rp.2 + a.size) r1 ((hpl.mono l1.le).on a.size)
  have hl1 := P1.length
  have hl2 := P2.length
  refine ⟨u1 ++ u3, u4, n1 ++ n2, by simp, ⟨u1, u3, n1, n2, rfl, rfl, P1.mono l2.le.imm, P2⟩, F5.append l2 O1 O2 f2, r2, fun b hb => ?_, ?_⟩
  ·rcases List.mem_append.1 hb with hb | hb
   ·exact f1 b hb
   ·exact fun e => f2 b hb (l1.kp b e).1
  ·have e1 : ((cells.take (a.size + b.size)).take a.size) = cells.take a.size := by rw [List.take_take]; congr 1; omega
   have e2 : ((cells.take (a.size + b.size)).drop a.size) = p2.take b.size := by
    rw [ea, ← la, List.drop_take, List.drop_left]
    congr 1
    omega
   have e3 : (u1 ++ u3).take a.size = u1 := by rw [← hl1]; simp
   have e4 : (u1 ++ u3).drop a.size = u3 := by rw [← hl1]; simp
   show aq7 _ _ _ a ((cells.take (a.size + b.size)).take a.size) ((u1 ++ u3).take a.size) ∧ aq7 _ _ _ b ((cells.take (a.size + b.size)).drop a.size) ((u1 ++ u3).drop a.size)
   rw [e1, e2, e3, e4]
   exact ⟨L1.mono l2.le (fun id gn cs hl => ⟨kb.2 id gn cs hl, by rw [l2.out]⟩) R1.as9, L2⟩
 | pub τ =>
  intro pl cells s x rest s' h
  cases cells with
  | nil => exact nomatch h
  | cons c cs =>
   obtain ⟨y, t, h1, h2⟩ := AM.c8 h
   obtain ⟨h3, rfl⟩ := j0 h2
   injection h3 with h3 h4
   subst h3; subst h4
   refine ⟨bd8 h1, ⟨[c], rfl, rfl⟩, fun B g w R => ?_⟩
   obtain ⟨g', l, R', hd⟩ := (aM2 τ c _ _ _ h1).2 B g w R
   refine ⟨g', l, R', fun us rp hu _ => ?_⟩
   obtain ⟨u, r, rfl, hu1, hr⟩ := hu
   obtain ⟨o1, o2⟩ := hd u hu1
   exact ⟨[u], r, [], rfl, ⟨rfl, o1, u, rfl, o2⟩, ⟨List.nodup_nil, fun b hb => by simp at hb⟩, hr.mono l.le, fun b hb => by simp at hb, trivial⟩
 | own τ dp =>
  intro pl cells s x rest s' h
  cases cells with
  | nil => exact nomatch h
  | cons c cs =>
   cases c with
   | nil =>
    obtain ⟨h3, rfl⟩ := j0 h
    injection h3 with h3 h4
    subst h3; subst h4
    refine ⟨R5.refl _, ⟨[.nil], rfl, rfl⟩, fun B g w R => ⟨g, Lk.refl g, R, fun us rp hu _ => ?_⟩⟩
    obtain ⟨u, r, rfl, hu1, hr⟩ := hu
    have hu1 : _ = _ := hu1
    subst hu1
    exact ⟨_, r, [], rfl, .inl ⟨rfl, rfl, rfl⟩, ⟨List.nodup_nil, fun b hb => by simp at hb⟩, hr, fun b hb => by simp at hb, trivial⟩
   | own id gen =>
    obtain ⟨u0, s0, hcl, h⟩ := AM.c8 h
    refine aS8.close hcl ?_
    simp only [AM.run] at h
    split at h
    ·rename_i g0 τ' deep xs heq
     obtain ⟨hb, h'⟩ := s7 h
     simp only [Bool.and_eq_true] at hb
     obtain rfl := beq_eq hb.1
     simp only [AM.run] at h'
     obtain ⟨ys, t, h1, h2⟩ := AM.c8 h'
     obtain ⟨h3, rfl⟩ := j0 h2
     injection h3 with h3 h4
     subst h3; subst h4
     obtain ⟨ee, hx, rfl⟩ := O6 h1
     subst ee; subst hx
     refine ⟨ab9 (fun gn cs hl => by rw [heq] at hl; cases hl), ⟨[.own id g0], rfl, rfl⟩, fun B g w R => ?_⟩
     obtain ⟨g', nb, l, _, R', hn, hp, hP⟩ := R.bR7 heq hb.2
     refine ⟨g', l, R', fun us rp hu _ => ?_⟩
     obtain ⟨u, r, rfl, hu1, hr⟩ := hu
     exact ⟨[u], r, nb, rfl, by rw [hu1.2.1]; exact hP, ⟨hn, fun b hb => (hp b hb).1⟩, hr.mono l.le, fun b hb => (hp b hb).2, trivial⟩
    ·cases h
   | _ => exact nomatch h
 | lnd τ dp =>
  intro pl cells s x rest s' h
  cases cells with
  | nil => exact nomatch h
  | cons c cs =>
   cases c with
   | nil =>
    obtain ⟨h3, rfl⟩ := j0 h
    injection h3 with h3 h4
    subst h3; subst h4
    refine ⟨R5.refl _, ⟨[.nil], rfl, rfl⟩, fun B g w R => ⟨g, Lk.refl g, R, fun us rp hu _ => ?_⟩⟩
    obtain ⟨u, r, rfl, hu1, hr⟩ := hu
    have hu1 : _ = _ := hu1
    subst hu1
    exact ⟨_, r, [], rfl, .inl ⟨rfl, rfl, rfl⟩, ⟨List.nodup_nil, fun b hb => by simp at hb⟩, hr, fun b hb => by simp at hb, .inl ⟨rfl, rfl⟩⟩
   | own id gen =>
    obtain ⟨u0, s0, hcl, h⟩ := AM.c8 h
    refine aS8.close hcl ?_
    simp only [AM.run] at h
    split at h
    ·rename_i g0 τ' deep xs heq
     obtain ⟨hb, h'⟩ := s7 h
     simp only [Bool.and_eq_true] at hb
     obtain rfl := beq_eq hb.1
     simp only [AM.run] at h'
     obtain ⟨ys, t, h1, h2⟩ := AM.c8 h'
     obtain ⟨h3, rfl⟩ := j0 h2
     injection h3 with h3 h4
     subst h3; subst h4
     obtain ⟨ee, hx, rfl⟩ := O6 h1
     subst ee; subst hx
     refine ⟨ab9 (fun gn cs hl => by rw [heq] at hl; cases hl), ⟨[.own id g0], rfl, rfl⟩, fun B g w R => ?_⟩
     obtain ⟨g', nb, l, _, R', hn, hp, hP⟩ := R.bR7 heq hb.2
     have R2 : HRel B g' ((id, .lent g0 (0, [])) :: s0.hp) w := (R'.put (l9 _ _ _) (o' := .lent g0 (0, [])) rfl trivial).congr fun i => aV1 _ _ _ _ i
     refine ⟨g', l, R2, fun us rp hu _ => ?_⟩
     obtain ⟨u, r, rfl, hu1, hr⟩ := hu
     refine ⟨[u], r, nb, rfl, by rw [hu1.2.1]; exact hP, ⟨hn, fun b hb => (hp b hb).1⟩, hr.mono l.le, fun b hb => (hp b hb).2, .inr ⟨id, g0, rfl, ?_, Nat.lt_of_lt_of_le hu1.1 (l.le.top _), ?_⟩⟩
     ·rw [hu1.2.1, show g'.cv id g0 = g.cv id g0 from l.le.cv _ _ hu1.1]
     ·rw [show g'.cv id g0 = g.cv id g0 from l.le.cv _ _ hu1.1, ← hu1.2.1]; exact hu1.2.2
    ·cases h
   | _ => exact nomatch h
 | ptr wh st sp ih =>
  intro pl cells s x rest s' h
  cases cells with
  | nil => exact nomatch h
  | cons c cs =>
   cases c with
   | ptr id gen off =>
    simp only [bp4, AM.run] at h
    split at h
    ·rename_i g0 bt bs heq
     obtain ⟨hb, h'⟩ := s7 h
     simp only [Bool.and_eq_true] at hb
     obtain rfl := beq_eq hb.1.1
     have hoff := Nat.le_of_ble_eq_true hb.2
     simp only [AM.run] at h'
     obtain ⟨⟨y, rst⟩, t, h1, h2⟩ := AM.c8 h'
     obtain ⟨h3, rfl⟩ := j0 h2
     injection h3 with h3 h4
     subst h3; subst h4
     obtain ⟨k1, ⟨used, eu, lu⟩, hs⟩ := ih _ _ _ _ _ _ h1
     have hk0 : R5 s { s with hp := (id, .lent g0 (bt, bs)) :: s.hp } := ab9 fun gn cs hl => by rw [heq] at hl; cases hl
     refine ⟨hk0.trans k1, ⟨[.ptr id g0 off], rfl, rfl⟩, fun B g w R => ?_⟩
     have hO := R.objs _ _ heq
     obtain ⟨b, o, arr, ty, L, h1', h2', h3', h4', h5', h6', h7', h8', h9'⟩ := hO
     have h9' : ty = bt := h9'
     subst h9'
     have ht := J4 R heq
     have R1 : HRel B g ((id, .lent g0 (ty, bs)) :: s.hp) w := R.put heq rfl trivial
     obtain ⟨g2, l2, o2, i2, s2, f2, z2, R2⟩ := R1.bI2 h2'.1 h2'.2 (fun o ho => by rw [l9] at ho; injection ho with ho; exact .inr ⟨g0, (ty, bs), ho.symm⟩)
     obtain ⟨g3, l3, R3, c3⟩ := hs B g2 w R2
     have l23 := l2.trans l3
     refine ⟨g3, l23, R3, fun us rp hu _ => ?_⟩
     obtain ⟨u, r, rfl, hu1, hr⟩ := hu
     obtain ⟨_, b1, o1, e1, rfl⟩ := hu1
     rw [h1'] at e1
     injection e1 with e1; injection e1 with e1; injection e1 with e1 e2
     subst e1; subst e2
     have hLl : L.length = bs.length := h4'.length
     have hcut : n7 g2 (cut off sp.size bs) ((L.drop off).take sp.size) := ((h4'.mono l2.le).drop off).take sp.size
     have hplace : M1 g2 (some (id, g0, off)) (b, o + off) := fun id' gen' off' e => by
      injection e with e; injection e with e1 e; injection e with e2 e3
      subst e1; subst e2; subst e3
      exact ⟨Nat.lt_of_lt_of_le ht (l2.le.top _), b, o, (l2.le.cv _ _ ht).trans h1', rfl⟩
     obtain ⟨u1, u2, n1, eu1, P1, O1, r1, f1, Lt1⟩ := c3 _ (b, o + off) hcut hplace
     have hP1 := P1.length
     have hu2 : u2 = [] := by
      have := congrArg List.length eu1
      simp only [List.length_take, List.length_drop, List.length_append, hP1] at this
      exact List.eq_nil_of_length_eq_zero (by omega)
     subst hu2
     rw [List.append_nil] at eu1
     have hseg : (L.drop off).take sp.size = (arr.toList.drop (o + off)).take sp.size := bs6 h5' h6' (by omega)
     have hbl : g3.lab b = some 0 := (l3.kp b z2).1
     have hal : arr.size = (g.outer id).length := by
      have : arr.toList.length = (g.outer id).length := by
       rw [h5']
       simp only [List.length_append, List.length_take, List.length_drop]
       omega
      simpa using this
     have h70 := h7'
     have h71 : (g.outer id).length = bs.length := h8'
     refine ⟨[_], r, b :: n1, rfl, ⟨b, o + off, arr, ty, n1, rfl, rfl, h3', ⟨fun hw => ?_, fun hw => ?_⟩, ?_, ?_⟩, ⟨List.nodup_cons.2 ⟨fun hm => f1 b hm z2, O1.1⟩, fun x hx => ?_⟩, hr.mono l23.le, fun x hx => ?_, ?_⟩
     ·subst hw
      have := hb.1.2.1
      simp only [Bool.not_true, Bool.false_or, Bool.and_eq_true] at this
      have a1 := beq_eq this.1.1
      have a2 := beq_eq this.1.2
      have a3 := beq_eq this.2
      exact ⟨by omega, by omega, a3⟩
     ·subst hw
      have := hb.1.2.2
      rw [Bool.false_or] at this
      rw [show o + off = off by omega, show arr.size = bs.length by omega]
      exact this
     ·omega
     ·rw [← hseg, eu1]; exact P1
     ·rcases List.mem_cons.1 hx with rfl | hy
      ·exact hbl
      ·exact O1.2 x hy
     ·rcases List.mem_cons.1 hx with rfl | hy
      ·rw [h2'.1]; simp
      ·exact fun e => f1 x hy (l2.kp x e).1
     ·refine ⟨id, g0, off, bs, b, o, arr, ty, L, rfl, rfl, k1.2 id g0 (ty, bs) (l9 _ _ _), (l23.le.cv _ _ ht).trans h1', h3', by rw [l23.out]; exact h5', by rw [l23.out]; exact h6', by rw [l23.out]; exact ⟨h70, h71⟩, hoff, h4'.mono l23.le, ?_⟩
      have hcl : cut off sp.size bs = (cut off sp.size bs).take sp.size := by unfold cut; rw [List.take_take, Nat.min_self]
      rw [hcl, eu1]
      exact Lt1
    ·cases h
   | _ => exact nomatch h
 | tak ok =>
  intro pl cells s x rest s' h
  cases cells with
  | nil => exact nomatch h
  | cons c cs =>
   cases c with
   | ptr id gen off =>
    simp only [bp4, AM.run] at h
    split at h
    ·rename_i g0 bt bs heq
     obtain ⟨hb, h'⟩ := s7 h
     simp only [Bool.and_eq_true] at hb
     obtain rfl := beq_eq hb.1.1
     have hoff := Nat.le_of_ble_eq_true hb.2
     have hok := hb.1.2
     have place : ∀ {B g w}, HRel B g s.hp w → ∀ {u}, s6 g (.ptr id g0 off) u → ∃ b arr, u = .pointer (some ⟨b, off, none⟩) ∧ g.cv id g0 = .pointer (some ⟨b, 0, none⟩) ∧ w.heap[b]? = some (.cells arr bt (0, 0)) ∧ arr.size = bs.length ∧
       n7 g (cut off 2 bs) ((arr.toList.drop off).take 2) := by
      intro B g w R u hu
      obtain ⟨b, o, arr, ty, L, h1', h2', h3', h4', h5', h6', h7', h8', h9'⟩ := R.objs _ _ heq
      have h9' : ty = bt := h9'
      subst h9'
      have h8' : (g.outer id).length = bs.length := h8'
      subst h7'
      have hLl : L.length = bs.length := h4'.length
      have e5 : arr.toList = L := by
       rw [h5', List.take_zero, List.nil_append, List.drop_eq_nil_of_le (by omega), List.append_nil]
      obtain ⟨_, b1, o1, e1, rfl⟩ := hu
      rw [h1'] at e1
      injection e1 with e1; injection e1 with e1; injection e1 with e1 e2
      subst e1; subst e2
      refine ⟨b, arr, by rw [Nat.zero_add], h1', h3', by rw [← Array.length_toList, e5, hLl], ?_⟩
      rw [e5]
      exact (h4'.drop off).take 2
     split at h'
     ·rename_i hc
      obtain ⟨h3, rfl⟩ := j0 h'
      injection h3 with h3 h4
      subst h3; subst h4
      refine ⟨R5.refl _, ⟨[_], rfl, rfl⟩, fun B g w R => ⟨g, Lk.refl g, R, fun us rp hu _ => ?_⟩⟩
      obtain ⟨u, r, rfl, hu1, hr⟩ := hu
      obtain ⟨b, arr, rfl, hcv, ha, hs, hcs⟩ := place R hu1
      rw [hc] at hcs
      obtain ⟨u1, r1, e1, k1, u2, r2, e2, k2, e3⟩ := hcs
      have k1 : _ = _ := k1
      have k2 : _ = _ := k2
      have e3 : _ = _ := e3
      subst k1; subst k2; subst e3; subst e2
      refine ⟨[_], r, [], rfl, ⟨b, off, arr, bt, rfl, ha, by rw [hs]; exact hok, by omega, ?_⟩, ⟨List.nodup_nil, fun b hb => by simp at hb⟩, hr, fun b hb => by simp at hb, trivial⟩
      rw [e1]
      exact .inl ⟨rfl, rfl, rfl⟩
     ·rename_i a ag id2 gen2 hc
      simp only [AM.run] at h'
      split at h'
      ·rename_i g2 xs a' ag' bid bg off2 heq2
       obtain ⟨hb2, h''⟩ := s7 h'
       simp only [Bool.and_eq_true] at hb2
       obtain rfl := beq_eq hb2.1.1.1
       obtain rfl := beq_eq hb2.1.1.2
       obtain rfl := beq_eq hb2.1.2
       obtain rfl := beq_eq hb2.2.1.1
       obtain rfl := beq_eq hb2.2.1.2
       obtain rfl := beq_eq hb2.2.2
       simp only [AM.run, Option.some.injEq, Prod.mk.injEq] at h''
       obtain ⟨⟨rfl, rfl⟩, rfl⟩ := h''
       refine ⟨ab9 (fun gn cs hl => by rw [heq2] at hl; cases hl), ⟨[_], rfl, rfl⟩, fun B g w R => ?_⟩
       obtain ⟨g', nb, l, R', hn, hp, hP⟩ := R.bt0 heq2
       refine ⟨g', l, R', fun us rp hu hpl => ?_⟩
       obtain ⟨u, r, rfl, hu1, hr⟩ := hu
       obtain ⟨b, arr, rfl, hcv, ha, hs, hcs⟩ := place R hu1
       rw [hc] at hcs
       obtain ⟨u1, r1, e1, k1, u2, r2, e2, k2, e3⟩ := hcs
       have e3 : _ = _ := e3
       subst e3; subst e2
       refine ⟨[_], r, nb, rfl, ⟨b, _, arr, bt, rfl, ha, by rw [hs]; exact hok, by omega, ?_⟩, ⟨hn, fun b hb => (hp b hb).1⟩, hr.mono l.le, fun b hb => (hp b hb).2, trivial⟩
       rw [e1]
       rcases hP with ⟨q1, q2, q3, q4⟩ | ⟨bb, oo, q1, q2, q3⟩
       ·exact .inl ⟨by rw [k1.2.1, k2.2.1, q1, q2], q3, q4⟩
       ·rw [hcv] at q1
        injection q1 with q1; injection q1 with q1; injection q1 with q1 q4
        subst q1; subst q4
        exact .inr ⟨u2, by rw [k1.2.1, q2, Nat.zero_add], by rw [k2.2.1]; exact q3⟩
      ·cases h'
     ·cases h'
    ·cases h
   | _ => exact nomatch h
 | bld =>
  intro pl cells s x rest s' h
  cases cells with
  | nil => exact nomatch h
  | cons c cs =>
   cases cs with
   | nil => cases c <;> exact nomatch h
   | cons c2 cs =>
    cases c with
    | np =>
     cases c2 with
     | nil =>
      obtain ⟨h3, rfl⟩ := j0 h
      injection h3 with h3 h4
      subst h3; subst h4
      refine ⟨R5.refl _, ⟨[.np, .nil], rfl, rfl⟩, fun B g w R => ⟨g, Lk.refl g, R, fun us rp hu _ => ?_⟩⟩
      obtain ⟨u, r, rfl, hu1, u', r', rfl, hu2, hr⟩ := hu
      have hu1 : _ = _ := hu1
      have hu2 : _ = _ := hu2
      subst hu1; subst hu2
      exact ⟨[_, _], r', [], rfl, .inl ⟨rfl, rfl, rfl⟩, ⟨List.nodup_nil, fun b hb => by simp at hb⟩, hr, fun b hb => by simp at hb, trivial⟩
     | _ => exact nomatch h
    | own a ag =>
     cases c2 with
     | own id gen =>
      simp only [bp4, AM.run] at h
      split at h
      ·rename_i g0 xs a' ag' bid bg off heq
       obtain ⟨hb, h'⟩ := s7 h
       simp only [Bool.and_eq_true] at hb
       obtain rfl := beq_eq hb.1.1.1
       obtain rfl := beq_eq hb.1.1.2
       obtain rfl := beq_eq hb.1.2
       simp only [AM.run, Option.some.injEq, Prod.mk.injEq] at h'
       obtain ⟨⟨rfl, rfl⟩, rfl⟩ := h'
       refine ⟨ab9 (fun gn cs hl => by rw [heq] at hl; cases hl), ⟨[_, _], rfl, rfl⟩, fun B g w R => ?_⟩
       obtain ⟨g', nb, l, R', hn, hp, hP⟩ := R.bt0 heq
       refine ⟨g', l, R', fun us rp hu hpl => ?_⟩
       obtain ⟨u, r, rfl, hu1, u', r', rfl, hu2, hr⟩ := hu
       refine ⟨[u, u'], r', nb, rfl, ?_, ⟨hn, fun b hb => (hp b hb).1⟩, hr.mono l.le, fun b hb => (hp b hb).2, trivial⟩
       rcases hP with ⟨k1, k2, k3, k4⟩ | ⟨bb, oo, k1, k2, k3⟩
       ·exact .inl ⟨by rw [hu1.2.1, hu2.2.1, k1, k2], k3, k4⟩
       ·have hpe : pl = some (bid, bg, off) := by
         have := hb.2
         unfold Plc.is at this
         split at this
         ·simp only [Bool.and_eq_true] at this
          rw [beq_eq this.1.1, beq_eq this.1.2, beq_eq this.2]
         ·cases this
        obtain ⟨_, b', o', q1, q2⟩ := hpl _ _ _ hpe
        rw [k1] at q1
        injection q1 with q1; injection q1 with q1; injection q1 with q1 q3
        subst q1; subst q3
        refine .inr ⟨u', ?_, by rw [hu2.2.1]; exact k3⟩
        rw [hu1.2.1, k2, q2]
      ·cases h
     | _ => exact nomatch h
    | _ => exact nomatch h
 | err =>
  intro pl cells s x rest s' h
  cases cells with
  | nil => exact nomatch h
  | cons c cs =>
   cases c with
   | err b =>
    obtain ⟨h3, rfl⟩ := j0 h
    injection h3 with h3 h4
    subst h3; subst h4
    refine ⟨R5.refl _, ⟨[_], rfl, rfl⟩, fun B g w R => ⟨g, Lk.refl g, R, fun us rp hu _ => ?_⟩⟩
    obtain ⟨u, r, rfl, hu1, hr⟩ := hu
    exact ⟨[u], r, [], rfl, ⟨rfl, u, rfl, hu1⟩, ⟨List.nodup_nil, fun b hb => by simp at hb⟩, hr, fun b hb => by simp at hb, trivial⟩
   | _ => exact nomatch h
 | np =>
  intro pl cells s x rest s' h
  cases cells with
  | nil => exact nomatch h
  | cons c cs =>
   cases c with
   | np =>
    obtain ⟨h3, rfl⟩ := j0 h
    injection h3 with h3 h4
    subst h4
    refine ⟨R5.refl _, ⟨[_], rfl, rfl⟩, fun B g w R => ⟨g, Lk.refl g, R, fun us rp hu _ => ?_⟩⟩
    obtain ⟨u, r, rfl, hu1, hr⟩ := hu
    have hu1 : _ = _ := hu1
    subst hu1
    exact ⟨_, r, [], rfl, ⟨rfl, rfl⟩, ⟨List.nodup_nil, fun b hb => by simp at hb⟩, hr, fun b hb => by simp at hb, trivial⟩
   | _ => exact nomatch h
 | slf f m =>
  intro pl cells s x rest s' h
  cases cells with
  | nil => exact nomatch h
  | cons c cs =>
   cases c with
   | ptr id gen off =>
    obtain ⟨_, h⟩ := s7 h
    obtain ⟨h3, rfl⟩ := j0 h
    injection h3 with h3 h4
    subst h4
    refine ⟨R5.refl _, ⟨[_], rfl, rfl⟩, fun B g w R => ⟨g, Lk.refl g, R, fun us rp hu _ => ?_⟩⟩
    obtain ⟨u, r, rfl, hu1, hr⟩ := hu
    obtain ⟨_, b, o, _, rfl⟩ := hu1
    exact ⟨_, r, [], rfl, ⟨rfl, _, _, rfl⟩, ⟨List.nodup_nil, fun b hb => by simp at hb⟩, hr, fun b hb => by simp at hb, trivial⟩
   | _ => exact nomatch h
end Go.Abs
end

section
namespace Go.Abs
def aB3 (imm : Rd) (w0 w : World) : (s : Sp) → s.ty.den → Nat × Nat → List Value → List Value → List Nat → Prop
 | .pr a b, x, pl, old, new, nb => ∃ u1 u2 n1 n2, new = u1 ++ u2 ∧ nb = n1 ++ n2 ∧ aB3 imm w0 w a x.1 pl (old.take a.size) u1 n1 ∧ aB3 imm w0 w b x.2 (pl.1, pl.2 + a.size) (old.drop a.size) u2 n2
 | .lnd τ dp, xs, _, old, new, nb => new = old ∧ OwnAt imm w (dp && !τ.flat) τ xs new nb
 | .ptr _ _ s, x, _, old, new, nb => ∃ b o arr0 ty0 arr L nb', old = [.pointer (some ⟨b, o, none⟩)] ∧ new = old ∧ nb = b :: nb' ∧ w0.heap[b]? = some (.cells arr0 ty0 (0, 0)) ∧ w.heap[b]? = some (.cells arr ty0 (0, 0)) ∧
   arr.toList = arr0.toList.take o ++ L ++ arr0.toList.drop (o + L.length) ∧ o + L.length ≤ arr0.toList.length ∧ L.length = s.size ∧ aB3 imm w0 w s x (b, o) ((arr0.toList.drop o).take s.size) L nb'
 | s, x, pl, _, new, nb => Pass imm w s x pl new nb
theorem aB3.length {imm : Rd} {w0 w : World} : ∀ {s : Sp} {x : s.ty.den} {pl : Nat × Nat} {old new : List Value} {nb : List Nat}, aB3 imm w0 w s x pl old new nb → new.length = s.size
 | .un, _, pl, _, _, _, k => Pass.length (s := .un) (x := ()) (pl := pl) k
 | .pr _ _, _, _, _, _, _, ⟨u1, u2, n1, n2, e, _, k1, k2⟩ => by subst e; simp [Sp.size, aB3.length k1, aB3.length k2]
 | .pub _, x, pl, _, _, _, k => Pass.length (s := .pub _) (x := x) (pl := pl) k
 | .own _ _, x, pl, _, _, _, k => Pass.length (s := .own _ _) (x := x) (pl := pl) k
 | .lnd _ _, x, _, _, _, _, k => OwnAt.length k.2
 | .bld, x, pl, _, _, _, k => Pass.length (s := .bld) (x := x) (pl := pl) k
 | .tak _, x, pl, _, _, _, k => Pass.length (s := .tak _) (x := x) (pl := pl) k
 | .ptr _ _ _, _, _, _, _, _, ⟨b, o, arr0, ty0, arr, L, nb', e, e', _⟩ => by rw [e', e]; rfl
 | .err, x, pl, _, _, _, k => Pass.length (s := .err) (x := x) (pl := pl) k
 | .np, _, pl, _, _, _, k => Pass.length (s := .np) (x := ()) (pl := pl) k
 | .slf f m, _, pl, _, _, _, k => Pass.length (s := .slf f m) (x := ()) (pl := pl) k
theorem aB3.mono {imm imm' : Rd} (h : ∀ b L, imm b = some L → imm' b = some L) {w0 w : World} : ∀ {s : Sp} {x : s.ty.den} {pl : Nat × Nat} {old new : List Value} {nb : List Nat}, aB3 imm w0 w s x pl old new nb → aB3 imm' w0 w s x pl old new nb
 | .un, _, _, _, _, _, k => k
 | .pr _ _, _, _, _, _, _, ⟨u1, u2, n1, n2, e, e', k1, k2⟩ => ⟨u1, u2, n1, n2, e, e', aB3.mono h k1, aB3.mono h k2⟩
 | .pub _, x, pl, _, _, _, k => Pass.mono h (s := .pub _) (x := x) (pl := pl) k
 | .own _ _, x, pl, _, _, _, k => Pass.mono h (s := .own _ _) (x := x) (pl := pl) k
 | .lnd _ _, _, _, _, _, _, k => ⟨k.1, OwnAt.mono h k.2⟩
 | .bld, x, pl, _, _, _, k => Pass.mono h (s := .bld) (x := x) (pl := pl) k
 | .tak _, x, pl, _, _, _, k => Pass.mono h (s := .tak _) (x := x) (pl := pl) k
 | .ptr _ _ _, _, _, _, _, _, ⟨b, o, arr0, ty0, arr, L, nb', e, e', e2, a0, a1, hL, hl, hs, k⟩ => ⟨b, o, arr0, ty0, arr, L, nb', e, e', e2, a0, a1, hL, hl, hs, aB3.mono h k⟩
 | .err, _, _, _, _, _, k => k
 | .np, _, _, _, _, _, k => k
 | .slf _ _, _, _, _, _, _, k => k
structure After (imm : Rd) (w : World) (nb : List Nat) (imm' : Rd) (w' : World) (nb' : List Nat) : Prop where
 mono : ∀ b L, imm b = some L → imm' b = some L
 cells : ∀ b L, imm' b = some L → ∃ arr ty fr, w'.heap[b]? = some (.cells arr ty fr) ∧ arr.toList = L
 same : ∀ b, b < w.heap.size → b ∉ nb → imm b = none → w'.heap[b]? = w.heap[b]? ∧ imm' b = none
 nodup : nb'.Nodup
 frm : ∀ b ∈ nb', imm' b = none ∧ (b ∈ nb ∨ w.heap.size ≤ b) ∧ b < w'.heap.size
 size : w.heap.size ≤ w'.heap.size
 os : w'.os = w.os
 tape : w'.tape = w.tape
 output : w'.output = w.output
 fix : ∀ b L, imm b = some L → w'.heap[b]? = w.heap[b]?
open Classical in
noncomputable def Gh.after (g : Gh) (nb : List Nat) (imm' : Rd) (nb' : List Nat) : Gh :=
 { g with imm := imm', lab := fun x => if x ∈ nb' then some 0 else if x ∈ nb then none else g.lab x, nst := fun x => if x ∈ nb' ∨ x ∈ nb then none else g.nst x }
theorem HRel.after {B : Base} {g : Gh} {hp : List (Nat × Obj)} {w w' : World} (R : HRel B g hp w) {nb nb' : List Nat} {imm' : Rd} (hp0 : F5 g nb) (A : After g.imm w nb imm' w' nb') :
  Le g (g.after nb imm' nb') ∧ HRel B (g.after nb imm' nb') hp w' ∧ F5 (g.after nb imm' nb') nb' ∧ ∀ b ∈ nb', (g.after nb imm' nb').nst b = none := by
 have hle : Le g (g.after nb imm' nb') := ⟨A.mono, fun _ => Nat.le_refl _, fun _ _ _ => rfl⟩
 have old : ∀ b, b < w.heap.size → b ∉ nb → b ∉ nb' := fun b h1 h2 h3 => by
  rcases (A.frm b h3).2.1 with h | h
  ·exact h2 h
  ·omega
 refine ⟨hle, ⟨R.top, fun i o hi => ?_, fun b L h => ?_, fun b L h => ?_, fun b h => ?_, fun b L h => A.mono _ _ (R.imm0 b L h), fun b hb hl hi => ?_, Nat.le_trans R.size A.size, A.os.trans R.os, A.tape.trans R.tape, A.output.trans R.output, fun b L h => (A.fix b L (R.imm0 b L h)).trans (R.fix b L h)⟩, ⟨A.nodup, fun b hb => by simp [Gh.after, hb]⟩, fun b hb => by simp [Gh.after, hb]⟩
 ·refine (R.objs i o hi).tr hle (fun b hb => ?_) rfl (J4 R hi)
  have h1 := R.labsz b (by rw [hb]; simp)
  have h2 : b ∉ nb := fun hm => by rw [hp0.2 b hm] at hb; simp at hb
  have h3 := old b h1 h2
  have h4 : g.imm b = none := by
   cases hi : g.imm b with
   | none => rfl
   | some L => have := (R.imm b L hi).1; rw [hb] at this; cases this
  exact ⟨by simp [Gh.after, h2, h3, hb], by simp [Gh.after, h2, h3], (A.same b h1 h2 h4).1⟩
 ·have h' : imm' b = some L := h
  have h3 : b ∉ nb' := fun hm => by rw [(A.frm b hm).1] at h'; cases h'
  refine ⟨?_, ?_, A.cells b L h'⟩
  ·by_cases h2 : b ∈ nb
   ·simp [Gh.after, h3, h2]
   ·simp only [Gh.after, h3, h2, if_false]
    by_cases h1 : b < w.heap.size
    ·cases hi : g.imm b with
     | none => rw [(A.same b h1 h2 hi).2] at h'; cases h'
     | some L' => exact (R.imm b L' hi).1
    ·cases hl : g.lab b with
     | none => rfl
     | some x => exact absurd (R.labsz b (by rw [hl]; simp)) h1
  ·by_cases h2 : b ∈ nb
   ·simp [Gh.after, h2]
   ·simp only [Gh.after, h3, h2, or_self, if_false]
    by_cases h1 : b < w.heap.size
    ·cases hi : g.imm b with
     | none => rw [(A.same b h1 h2 hi).2] at h'; cases h'
     | some L' => exact (R.imm b L' hi).2.1
    ·cases hl : g.nst b with
     | none => rfl
     | some x => exact absurd (R.labsz b (R.nst b x hl).1) h1
 ·by_cases h23 : b ∈ nb' ∨ b ∈ nb
  ·simp [Gh.after, h23] at h
  ·have hn : g.nst b = some L := by simpa [Gh.after, h23] using h
   rw [not_or] at h23
   obtain ⟨a1, arr, ty, a2, a3⟩ := R.nst b L hn
   have h4 : g.imm b = none := by
    cases hi : g.imm b with
    | none => rfl
    | some L => exact absurd (R.imm b L hi).1 a1
   exact ⟨by simp [Gh.after, h23.1, h23.2, a1], arr, ty, ((A.same b (R.labsz b a1) h23.2 h4).1).trans a2, a3⟩
 ·by_cases h3 : b ∈ nb'
  ·exact (A.frm b h3).2.2
  ·by_cases h2 : b ∈ nb
   ·simp [Gh.after, h3, h2] at h
   ·exact Nat.lt_of_lt_of_le (R.labsz b (by simpa [Gh.after, h3, h2] using h)) A.size
 ·obtain ⟨f1, f2, f3⟩ := R.frame b hb hl hi
  have h2 : b ∉ nb := fun hm => by rw [hp0.2 b hm] at f1; cases f1
  have h1 : b < w.heap.size := Nat.lt_of_lt_of_le hb R.size
  have h3 := old b h1 h2
  obtain ⟨s1, s2⟩ := A.same b h1 h2 f2
  exact ⟨by simp [Gh.after, h2, h3, f1], s2, s1.trans f3⟩
theorem HRel.bC8 {B : Base} {g : Gh} {hp : List (Nat × Obj)} {w : World} (R : HRel B g hp w) {id gen b : Nat} {bs : Nat × List Cell} (hb : g.lab b = some 0) (hn : g.nst b = none) (hl : look hp id = some (.lent gen bs))
  {ob : Obj} (hgen : ob.gen = gen) (hobj : aa4 { g with lab := open Classical in fun x => if x = b then some (id + 1) else g.lab x } w id ob) :
  HRel B { g with lab := open Classical in fun x => if x = b then some (id + 1) else g.lab x } ((id, ob) :: hp) w := by
 have hle : Le g { g with lab := open Classical in fun x => if x = b then some (id + 1) else g.lab x } := ⟨fun _ _ h => h, fun _ => Nat.le_refl _, fun _ _ _ => rfl⟩
 refine ⟨fun i => ?_, fun i oi hi => ?_, fun x L hx => ?_, fun x L hx => ?_, fun x hx => ?_, R.imm0, fun x hx hl' hi => ?_, R.size, R.os, R.tape, R.output, R.fix⟩
 ·show g.top i = _
  rw [R.top i]
  by_cases e : id = i
  ·subst e; rw [l9, hl]; show (Obj.lent gen bs).gen + 1 = ob.gen + 1; rw [hgen]; rfl
  ·rw [j6 _ _ e]
 ·by_cases e : id = i
  ·subst e; rw [l9] at hi; injection hi with hi; subst hi; exact hobj
  ·rw [j6 _ _ e] at hi
   refine (R.objs i oi hi).tr hle (fun x hx => ?_) rfl (J4 R hi)
   have hxb : x ≠ b := fun e' => by subst e'; rw [hb] at hx; simp at hx
   exact ⟨by simp [hxb, hx], rfl, rfl⟩
 ·obtain ⟨a1, a2, a3⟩ := R.imm x L hx
  have hxb : x ≠ b := fun e' => by subst e'; rw [hb] at a1; cases a1
  exact ⟨by simp [hxb, a1], a2, a3⟩
 ·obtain ⟨a1, a2⟩ := R.nst x L hx
  refine ⟨?_, a2⟩
  by_cases hxb : x = b
  ·simp [hxb]
  ·simpa [hxb] using a1
 ·by_cases hxb : x = b
  ·subst hxb; exact R.labsz x (by rw [hb]; simp)
  ·exact R.labsz x (by simpa [hxb] using hx)
 ·obtain ⟨f1, f2, f3⟩ := R.frame x hx hl' hi
  have hxb : x ≠ b := fun e' => by subst e'; rw [hb] at f1; cases f1
  exact ⟨by simp [hxb, f1], f2, f3⟩
open Classical in
noncomputable def Gh.Z4 (g : Gh) (w : World) (id gen b : Nat) (u : Value) (nb : List Nat) : Gh :=
  { g with top := fun i => if i = id then gen + 1 else g.top i
           cv := fun i k => if i = id ∧ k = gen then u else g.cv i k
           lab := fun x => if x = b ∨ x ∈ nb then some (id + 1) else g.lab x
           nst := fun x => if x ∈ nb then rdW w x else g.nst x
           outer := fun i => if i = id then [] else g.outer i }
theorem HRel.Z4 {B : Base} {g : Gh} {hp : List (Nat × Obj)} {w : World} (R : HRel B g hp w) {id b cap : Nat} {arr : Array Value} {ty : TypeId} {τ : Ty} {deep : Bool} {xs : List τ.den} {nb : List Nat}
  (hb : g.lab b = some 0) (hn : g.nst b = none) (hbn : b ∉ nb) (ha : w.heap[b]? = some (.cells arr ty (0, 0))) (hl : xs.length ≤ cap) (hs : arr.size = cap * τ.size) (hnd : nb.Nodup) (hnb : ∀ x ∈ nb, g.lab x = some 0 ∧ rdW w x ≠ none)
  (hh : Q9 g.imm w (deep && !τ.flat) τ xs arr.toList nb) :
  ∃ g', Le g g' ∧ (∀ x, x ≠ b → x ∉ nb → g'.lab x = g.lab x ∧ g'.nst x = g.nst x) ∧ (∀ i, i ≠ id → g'.outer i = g.outer i) ∧ HRel B g' ((id, .own (g.top id) τ deep xs) :: hp) w ∧ s6 g' (.own id (g.top id)) (.slice (some ⟨b, 0, none⟩) xs.length cap) := by
 have hle : Le g (g.Z4 w id (g.top id) b (.slice (some ⟨b, 0, none⟩) xs.length cap) nb) := by
  refine ⟨fun _ _ h => h, fun i => ?_, fun i k hk => ?_⟩
  ·show g.top i ≤ if i = id then g.top id + 1 else g.top i
   split
   ·rename_i e; subst e; omega
   ·exact Nat.le_refl _
  ·show (if i = id ∧ k = g.top id then _ else g.cv i k) = g.cv i k
   rw [if_neg]
   rintro ⟨rfl, rfl⟩
   omega
 refine ⟨_, hle, fun x h1 h2 => ⟨by simp [Gh.Z4, h1, h2], by simp [Gh.Z4, h2]⟩, fun i hi => by simp [Gh.Z4, hi], ⟨fun i => ?_, fun i oi hi => ?_, fun x L hx => ?_, fun x L hx => ?_, fun x hx => ?_, R.imm0, fun x hx hl' hi => ?_, R.size, R.os, R.tape, R.output, R.fix⟩,
  ⟨by simp [Gh.Z4], by simp [Gh.Z4], rfl⟩⟩
 ·show (if i = id then g.top id + 1 else g.top i) = _
  by_cases e : id = i
  ·subst e; rw [l9, if_pos rfl]; rfl
  ·rw [j6 _ _ e, if_neg (fun h => e h.symm)]; exact R.top i
 ·by_cases e : id = i
  ·subst e; rw [l9] at hi; injection hi with hi; subst hi
   refine .inr ⟨b, cap, arr, ty, by simp [Gh.Z4], by simp [Gh.Z4], by simp [Gh.Z4, hbn, hn], ha, hl, hs, ?_⟩
   unfold Q9 at hh
   unfold E9
   split
   ·rename_i ec
    rw [if_pos ec] at hh
    exact ⟨nb, hh.mono (fun x hx L hL => by simp [Gh.Z4, hx, hL]), hnd, fun x hx => by simp [Gh.Z4, hx]⟩
   ·rename_i ec
    rw [if_neg ec] at hh
    exact hh.1
  ·rw [j6 _ _ e] at hi
   refine (R.objs i oi hi).tr hle (fun x hx => ?_) (by simp only [Gh.Z4]; rw [if_neg (fun h => e h.symm)]) (J4 R hi)
   have hxb : x ≠ b := fun e' => by subst e'; rw [hb] at hx; simp at hx
   have hxn : x ∉ nb := fun hm => by rw [(hnb x hm).1] at hx; simp at hx
   exact ⟨by simp [Gh.Z4, hxb, hxn, hx], by simp [Gh.Z4, hxn], rfl⟩
 ·have hy : g.imm x = some L := hx
  obtain ⟨a1, a2, a3⟩ := R.imm x L hy
  have hxb : x ≠ b := fun e' => by subst e'; rw [hb] at a1; cases a1
  have hxn : x ∉ nb := fun hm => by rw [(hnb x hm).1] at a1; cases a1
  exact ⟨by simp [Gh.Z4, hxb, hxn, a1], by simp [Gh.Z4, hxn, a2], a3⟩
 ·by_cases hxn : x ∈ nb
  ·have hy : rdW w x = some L := by simpa [Gh.Z4, hxn] using hx
   refine ⟨by simp [Gh.Z4, hxn], ?_⟩
   unfold rdW at hy
   split at hy
   ·rename_i arr' ty' hh'
    injection hy with hy
    exact ⟨arr', ty', hh', hy⟩
   ·cases hy
  ·have hy : g.nst x = some L := by simpa [Gh.Z4, hxn] using hx
   obtain ⟨a1, a2⟩ := R.nst x L hy
   refine ⟨?_, a2⟩
   have hxb : x ≠ b := fun e' => by subst e'; rw [hn] at hy; cases hy
   simp [Gh.Z4, hxb, hxn, a1]
 ·by_cases hxb : x = b
  ·subst hxb; exact R.labsz x (by rw [hb]; simp)
  ·by_cases hxn : x ∈ nb
   ·exact R.labsz x (by rw [(hnb x hxn).1]; simp)
   ·exact R.labsz x (by simpa [Gh.Z4, hxb, hxn] using hx)
 ·obtain ⟨f1, f2, f3⟩ := R.frame x hx hl' hi
  have hxb : x ≠ b := fun e' => by subst e'; rw [hb] at f1; cases f1
  have hxn : x ∉ nb := fun hm => by rw [(hnb x hm).1] at f1; cases f1
  exact ⟨by simp [Gh.Z4, hxb, hxn, f1], f2, f3⟩
open Classical in
noncomputable def Gh.N8 (g : Gh) (w : World) (id b : Nat) (nb : List Nat) : Gh :=
  { g with lab := fun x => if x = b ∨ x ∈ nb then some (id + 1) else g.lab x
           nst := fun x => if x ∈ nb then rdW w x else g.nst x }
theorem HRel.N8 {B : Base} {g : Gh} {hp : List (Nat × Obj)} {w : World} (R : HRel B g hp w) {id gen b cap : Nat} {arr : Array Value} {ty : TypeId} {τ : Ty} {deep : Bool} {xs : List τ.den} {nb : List Nat} {bs : Nat × List Cell}
  (hlk : look hp id = some (.lent gen bs)) (hcv : g.cv id gen = .slice (some ⟨b, 0, none⟩) xs.length cap)
  (hb : g.lab b = some 0) (hn : g.nst b = none) (hbn : b ∉ nb) (ha : w.heap[b]? = some (.cells arr ty (0, 0))) (hl : xs.length ≤ cap) (hs : arr.size = cap * τ.size) (hnd : nb.Nodup) (hnb : ∀ x ∈ nb, g.lab x = some 0 ∧ rdW w x ≠ none)
  (hh : Q9 g.imm w (deep && !τ.flat) τ xs arr.toList nb) :
  ∃ g', Le g g' ∧ (∀ x, x ≠ b → x ∉ nb → g'.lab x = g.lab x ∧ g'.nst x = g.nst x) ∧ g'.outer = g.outer ∧ HRel B g' ((id, .own gen τ deep xs) :: hp) w := by
 have hle : Le g (g.N8 w id b nb) := ⟨fun _ _ h => h, fun _ => Nat.le_refl _, fun _ _ _ => rfl⟩
 refine ⟨_, hle, fun x h1 h2 => ⟨by simp [Gh.N8, h1, h2], by simp [Gh.N8, h2]⟩, rfl, ⟨fun i => ?_, fun i oi hi => ?_, fun x L hx => ?_, fun x L hx => ?_, fun x hx => ?_, R.imm0, fun x hx hl' hi => ?_, R.size, R.os, R.tape, R.output, R.fix⟩⟩
 ·show g.top i = _
  rw [R.top i]
  by_cases e : id = i
  ·subst e; rw [l9, hlk]; rfl
  ·rw [j6 _ _ e]
 ·by_cases e : id = i
  ·subst e; rw [l9] at hi; injection hi with hi; subst hi
   refine .inr ⟨b, cap, arr, ty, hcv, by simp [Gh.N8], by simp [Gh.N8, hbn, hn], ha, hl, hs, ?_⟩
   unfold Q9 at hh
   unfold E9
   split
   ·rename_i ec
    rw [if_pos ec] at hh
    exact ⟨nb, hh.mono (fun x hx L hL => by simp [Gh.N8, hx, hL]), hnd, fun x hx => by simp [Gh.N8, hx]⟩
   ·rename_i ec
    rw [if_neg ec] at hh
    exact hh.1
  ·rw [j6 _ _ e] at hi
   refine (R.objs i oi hi).tr hle (fun x hx => ?_) rfl (J4 R hi)
   have hxb : x ≠ b := fun e' => by subst e'; rw [hb] at hx; simp at hx
   have hxn : x ∉ nb := fun hm => by rw [(hnb x hm).1] at hx; simp at hx
   exact ⟨by simp [Gh.N8, hxb, hxn, hx], by simp [Gh.N8, hxn], rfl⟩
 ·have hy : g.imm x = some L := hx
  obtain ⟨a1, a2, a3⟩ := R.imm x L hy
  have hxb : x ≠ b := fun e' => by subst e'; rw [hb] at a1; cases a1
  have hxn : x ∉ nb := fun hm => by rw [(hnb x hm).1] at a1; cases a1
  exact ⟨by simp [Gh.N8, hxb, hxn, a1], by simp [Gh.N8, hxn, a2], a3⟩
 ·by_cases hxn : x ∈ nb
  ·have hy : rdW w x = some L := by simpa [Gh.N8, hxn] using hx
   refine ⟨by simp [Gh.N8, hxn], ?_⟩
   unfold rdW at hy
   split at hy
   ·rename_i arr' ty' hh'
    injection hy with hy
    exact ⟨arr', ty', hh', hy⟩
   ·cases hy
  ·have hy : g.nst x = some L := by simpa [Gh.N8, hxn] using hx
   obtain ⟨a1, a2⟩ := R.nst x L hy
   refine ⟨?_, a2⟩
   have hxb : x ≠ b := fun e' => by subst e'; rw [hn] at hy; cases hy
   simp [Gh.N8, hxb, hxn, a1]
 ·by_cases hxb : x = b
  ·subst hxb; exact R.labsz x (by rw [hb]; simp)
  ·by_cases hxn : x ∈ nb
   ·exact R.labsz x (by rw [(hnb x hxn).1]; simp)
   ·exact R.labsz x (by simpa [Gh.N8, hxb, hxn] using hx)
 ·obtain ⟨f1, f2, f3⟩ := R.frame x hx hl' hi
  have hxb : x ≠ b := fun e' => by subst e'; rw [hb] at f1; cases f1
  have hxn : x ∉ nb := fun hm => by rw [(hnb x hm).1] at f1; cases f1
  exact ⟨by simp [Gh.N8, hxb, hxn, f1], f2, f3⟩
open Classical in
noncomputable def Gh.an0 (g : Gh) (id gen : Nat) (u : Value) (bo : Option Nat) : Gh :=
  { g with top := fun i => if i = id then gen + 1 else g.top i
           cv := fun i k => if i = id ∧ k = gen then u else g.cv i k
           lab := fun x => if bo = some x then some (id + 1) else g.lab x }
theorem HRel.bj9 {B : Base} {g : Gh} {hp : List (Nat × Obj)} {w : World} (R : HRel B g hp w) {id a ag bid bg off : Nat} {xs : List Int} {u2 : Value} {nb : List Nat} {bb oo : Nat}
  (hag : ag < g.top a) (hbg : bg < g.top bid) (hne : a ≠ id) (hO : F5 g nb) (hn : ∀ b ∈ nb, g.nst b = none) (hcv : g.cv bid bg = .pointer (some ⟨bb, oo, none⟩)) (hb : aD8 g.imm w (bb, oo + off) xs [g.cv a ag, u2] nb) :
  ∃ g', Le g g' ∧ (∀ x, x ∉ nb → g'.lab x = g.lab x ∧ g'.nst x = g.nst x) ∧ g'.outer = g.outer ∧ HRel B g' ((id, .bld (g.top id) xs a ag bid bg off) :: hp) w ∧ s6 g' (.own id (g.top id)) u2 := by
 have hoa : oc (g.cv a ag) = true := by
  rcases hb with ⟨e, _⟩ | ⟨v, e, _⟩
  ·injection e with e; rw [e]; rfl
  ·injection e with e; rw [e]; rfl
 have key : ∀ bo : Option Nat, (∀ x, bo = some x → x ∈ nb) → (∀ x ∈ nb, bo = some x) → oc u2 = true →
   ((g.cv a ag = .pointer none ∧ u2 = .slice none 0 0 ∧ xs = []) ∨ (g.cv a ag = .pointer (some ⟨bb, oo + off, none⟩) ∧ ((u2 = .slice none 0 0 ∧ xs = []) ∨
    ∃ b cap arr ty, bo = some b ∧ u2 = .slice (some ⟨b, 0, none⟩) xs.length cap ∧ w.heap[b]? = some (.cells arr ty (0, 0)) ∧ xs.length ≤ cap ∧ arr.size = cap ∧ Els g.imm (.int .u8) xs arr.toList 0 ∧ ty = aV5))) →
   ∃ g', Le g g' ∧ (∀ x, x ∉ nb → g'.lab x = g.lab x ∧ g'.nst x = g.nst x) ∧ g'.outer = g.outer ∧ HRel B g' ((id, .bld (g.top id) xs a ag bid bg off) :: hp) w ∧ s6 g' (.own id (g.top id)) u2 := by
  intro bo hbo hbo' hoc hd
  have hle : Le g (g.an0 id (g.top id) u2 bo) := by
   refine ⟨fun _ _ h => h, fun i => ?_, fun i k hk => ?_⟩
   ·show g.top i ≤ if i = id then g.top id + 1 else g.top i
    split
    ·rename_i e; subst e; omega
    ·exact Nat.le_refl _
   ·show (if i = id ∧ k = g.top id then _ else g.cv i k) = g.cv i k
    rw [if_neg]
    rintro ⟨rfl, rfl⟩
    omega
  have hlab : ∀ x, bo = some x → g.lab x = some 0 := fun x hx => hO.2 x (hbo x hx)
  have hcvn : (g.an0 id (g.top id) u2 bo).cv id (g.top id) = u2 := by simp [Gh.an0]
  refine ⟨_, hle, fun x hx => ⟨?_, rfl⟩, rfl, ⟨fun i => ?_, fun i oi hi => ?_, fun x L hx => ?_, fun x L hx => ?_, fun x hx => ?_, R.imm0, fun x hx hl' hi => ?_, R.size, R.os, R.tape, R.output, R.fix⟩, ⟨by simp [Gh.an0], hcvn.symm, hoc⟩⟩
  ·have : bo ≠ some x := fun e => hx (hbo x e)
   simp [Gh.an0, this]
  ·show (if i = id then g.top id + 1 else g.top i) = _
   by_cases e : id = i
   ·subst e; rw [l9, if_pos rfl]; rfl
   ·rw [j6 _ _ e, if_neg (fun h => e h.symm)]; exact R.top i
  ·by_cases e : id = i
   ·subst e; rw [l9] at hi; injection hi with hi; subst hi
    refine ⟨Nat.lt_of_lt_of_le hag (hle.top _), Nat.lt_of_lt_of_le hbg (hle.top _), by rw [hle.cv _ _ hag]; exact hoa, ?_⟩
    rw [hle.cv _ _ hag, hle.cv _ _ hbg, hcvn]
    rcases hd with hd | ⟨d1, d2⟩
    ·exact .inl hd
    ·refine .inr ⟨bb, oo, hcv, d1, ?_⟩
     rcases d2 with d2 | ⟨b, cap, arr, ty, e0, e1, e2, e3, e4, e5⟩
     ·exact .inl d2
     ·exact .inr ⟨b, cap, arr, ty, e1, by simp [Gh.an0, e0], hn b (hbo b e0), e2, e3, e4, e5⟩
   ·rw [j6 _ _ e] at hi
    refine (R.objs i oi hi).tr hle (fun x hx => ?_) rfl (J4 R hi)
    have : bo ≠ some x := fun e' => by rw [hlab x e'] at hx; simp at hx
    exact ⟨by simp [Gh.an0, this, hx], rfl, rfl⟩
  ·have hy : g.imm x = some L := hx
   obtain ⟨a1, a2, a3⟩ := R.imm x L hy
   have : bo ≠ some x := fun e' => by rw [hlab x e'] at a1; cases a1
   exact ⟨by simp [Gh.an0, this, a1], a2, a3⟩
  ·have hy : g.nst x = some L := hx
   obtain ⟨a1, a2⟩ := R.nst x L hy
   refine ⟨?_, a2⟩
   by_cases e : bo = some x
   ·simp [Gh.an0, e]
   ·simp [Gh.an0, e, a1]
  ·by_cases e : bo = some x
   ·exact R.labsz x (by rw [hlab x e]; simp)
   ·exact R.labsz x (by simpa [Gh.an0, e] using hx)
  ·obtain ⟨f1, f2, f3⟩ := R.frame x hx hl' hi
   have : bo ≠ some x := fun e' => by rw [hlab x e'] at f1; cases f1
   exact ⟨by simp [Gh.an0, this, f1], f2, f3⟩
 rcases hb with ⟨e, hx, rfl⟩ | ⟨v, e, hr, hty⟩
 ·injection e with e1 e2; injection e2 with e2 _
  refine key none (fun x h => by cases h) (fun x h => by simp at h) (by rw [e2]; rfl) (.inl ⟨e1, e2, hx⟩)
 ·injection e with e1 e2; injection e2 with e2 _
  subst e2
  rcases hr with ⟨k1, k2, rfl⟩ | ⟨b, cap, arr, ty, nb', k1, rfl, ha, hl, hs, hE⟩
  ·injection k1 with k1 _
   exact key none (fun x h => by cases h) (fun x h => by simp at h) (by rw [k1]; rfl) (.inr ⟨e1, .inl ⟨k1, k2⟩⟩)
  ·injection k1 with k1 _
   have hnb : nb' = [] := by
    unfold Q9 at hE
    simpa using hE.2
   subst hnb
   unfold Q9 at hE
   have hbt : ty = aV5 := by
    obtain ⟨arr', h'⟩ := hty b (by simp)
    rw [ha] at h'
    injection h' with h'; injection h' with _ h'
   exact key (some b) (fun x h => by injection h with h; subst h; simp) (fun x h => by simp only [List.mem_singleton] at h; rw [h]) (by rw [k1]; rfl) (.inr ⟨e1, .inr ⟨b, cap, arr, ty, rfl, k1, ha, hl, by simpa [Ty.size] using hs, by simpa using hE.1, hbt⟩⟩)
end Go.Abs
end

section
namespace Go.Abs
theorem aq7.bl7 {hp hp' : List (Nat × Obj)} {g g' : Gh} {imm : Rd} {w0 w : World} (l : Le g g') (ht : ∀ id gn cs, look hp id = some (.lent gn cs) → gn < g.top id) :
  ∀ {s : Sp} {x : s.ty.den} {pl : Nat × Nat} {cs : List Cell} {us news : List Value} {nb : List Nat}, (∀ i gn cs b o, look hp i = some (.lent gn cs) → g.cv i gn = .pointer (some ⟨b, o, none⟩) → b ∈ nb → look hp' i = some (.lent gn cs) ∧ g'.outer i = g.outer i) →
   aB3 imm w0 w s x pl us news nb → aq7 hp g w0 s cs us → aq7 hp' g' w0 s cs us
 | .un, _, _, _, _, _, _, _, _, _ => trivial
 | .pub _, _, _, _, _, _, _, _, _, _ => trivial
 | .own _ _, _, _, _, _, _, _, _, _, _ => trivial
 | .bld, _, _, _, _, _, _, _, _, _ => trivial
 | .tak _, _, _, _, _, _, _, _, _, _ => trivial
 | .err, _, _, _, _, _, _, _, _, _ => trivial
 | .np, _, _, _, _, _, _, _, _, _ => trivial
 | .slf _ _, _, _, _, _, _, _, _, _, _ => trivial
 | .lnd _ _, _, _, _, _, _, _, _, _, .inl h => .inl h
 | .lnd _ _, _, _, _, _, _, _, _, _, .inr ⟨id, gen, e, e', h, hoc⟩ => .inr ⟨id, gen, e, by rw [l.cv _ _ h]; exact e', Nat.lt_of_lt_of_le h (l.top _), by rw [l.cv _ _ h]; exact hoc⟩
 | .pr _ _, _, _, _, _, _, _, ho, ⟨u1, u2, n1, n2, e, e', k1, k2⟩, ⟨h1, h2⟩ => by
  subst e'
  exact ⟨aq7.bl7 l ht (fun i gn cs b o a1 a2 a3 => ho i gn cs b o a1 a2 (List.mem_append_left _ a3)) k1 h1, aq7.bl7 l ht (fun i gn cs b o a1 a2 a3 => ho i gn cs b o a1 a2 (List.mem_append_right _ a3)) k2 h2⟩
 | .ptr _ _ _, _, _, _, _, _, _, ho, ⟨b1, o1, arr0, ty0, arr', L', nb', e, e', e2, a0, a1, hL', hl', hs, k⟩, ⟨id, gen, off, bs, b, o, arr, ty, L, e1, e3, hl, hcv, ha, hL, hle, hid, hoff, hc, hr⟩ => by
  subst e2
  rw [e] at e3
  injection e3 with e3; injection e3 with e3; injection e3 with e3; injection e3 with e3 e4
  subst e3; subst e4
  obtain ⟨k1, k2⟩ := ho _ _ _ _ _ hl hcv (List.mem_cons_self ..)
  rw [ha] at a0
  injection a0 with a0; injection a0 with a0
  subst a0
  have hseg := bs6 (n := _) hL hle (show off + _ ≤ L.length by rw [hc.length]; exact hoff)
  rw [← hseg] at k
  exact ⟨id, gen, off, bs, b1, o, arr, ty, L, e1, e, k1, (l.cv _ _ (ht _ _ _ hl)).trans hcv, ha, by rw [k2]; exact hL, by rw [k2]; exact hle, by rw [k2]; exact hid, hoff, hc.mono l,
   aq7.bl7 l ht (fun i gn cs b o a1 a2 a3 => ho i gn cs b o a1 a2 (List.mem_cons_of_mem _ a3)) k hr⟩
theorem bm0 {α : Type} {O L N arr0 arr : List α} {o off : Nat} (h0 : arr0 = O.take o ++ L ++ O.drop (o + L.length)) (ho : o + L.length ≤ O.length) (hn : off + N.length ≤ L.length)
  (h1 : arr = arr0.take (o + off) ++ N ++ arr0.drop (o + off + N.length)) :
  arr = O.take o ++ (L.take off ++ N ++ L.drop (off + N.length)) ++ O.drop (o + (L.take off ++ N ++ L.drop (off + N.length)).length) := by
 have hlen : (L.take off ++ N ++ L.drop (off + N.length)).length = L.length := by simp; omega
 have hot : (O.take o).length = o := by simp; omega
 rw [hlen]
 subst h1; subst h0
 have e1 : (O.take o ++ L ++ O.drop (o + L.length)).take (o + off) = O.take o ++ L.take off := by
  rw [List.append_assoc, List.take_append, hot, List.take_of_length_le (by omega), List.take_append]
  rw [show o + off - o - L.length = 0 by omega, List.take_zero, List.append_nil]
  congr 2
  omega
 have e2 : (O.take o ++ L ++ O.drop (o + L.length)).drop (o + off + N.length) = L.drop (off + N.length) ++ O.drop (o + L.length) := by
  rw [List.append_assoc, List.drop_append, hot, List.drop_of_length_le (by omega), List.nil_append, List.drop_append]
  rw [show o + off + N.length - o = off + N.length by omega, show off + N.length - L.length = 0 by omega, List.drop_zero]
 rw [e1, e2]
 simp [List.append_assoc]
def bQ9 (sp : Sp) (x : sp.ty.den) (pl : Plc) (old : List Cell) (s : St) (cells rest : List Cell) (s' : St) : Prop :=
 s'.env = s.env ∧ rest = old.drop sp.size ∧ ∀ B g w0 w, HRel B g s.hp w → ∀ rp olds news nb, M1 g pl rp → aq7 s.hp g w0 sp (old.take sp.size) olds → aB3 g.imm w0 w sp x rp olds news nb → F5 g nb → (∀ b ∈ nb, g.nst b = none) →
  ∃ g', Le g g' ∧ (∀ x, x ∉ nb → g'.lab x = g.lab x ∧ g'.nst x = g.nst x) ∧ HRel B g' s'.hp w ∧ n7 g' cells news ∧
   ∀ i gn cs b o, look s.hp i = some (.lent gn cs) → g.cv i gn = .pointer (some ⟨b, o, none⟩) → b ∉ nb → look s'.hp i = some (.lent gn cs) ∧ g'.outer i = g.outer i
theorem al9 : ∀ (sp : Sp) (x : sp.ty.den) (pl : Plc) (old : List Cell) (n : Nat) (s : St) (cells rest : List Cell) (n' : Nat) (s' : St), (aP7 sp x pl old n).run s = some ((cells, rest, n'), s') → bQ9 sp x pl old s cells rest s' := by
 intro sp
 induction sp with
 | un =>
  intro x pl old n s cells rest n' s' h
  obtain ⟨h1, rfl⟩ := j0 h
  injection h1 with h1 h2; injection h2 with h2 h3
  subst h1; subst h2
  exact ⟨rfl, rfl, fun B g w0 w R rp olds news nb hpl hL hB hp hn => ⟨g, Le.refl g, fun _ _ => ⟨rfl, rfl⟩, R, hB.1, fun i gn cs b o h _ _ => ⟨h, rfl⟩⟩⟩
 | pub τ =>
  intro x pl old n s cells rest n' s' h
  obtain ⟨h1, rfl⟩ := j0 h
  injection h1 with h1 h2; injection h2 with h2 h3
  subst h1; subst h2
  refine ⟨rfl, by simp [Sp.size], fun B g w0 w R rp olds news nb hpl hL hB hp hn => ⟨g, Le.refl g, fun _ _ => ⟨rfl, rfl⟩, R, ?_, fun i gn cs b o h _ _ => ⟨h, rfl⟩⟩⟩
  obtain ⟨_, h1, u, rfl, hr⟩ := hB
  exact ⟨u, [], rfl, ⟨h1, hr⟩, rfl⟩
 | err =>
  intro x pl old n s cells rest n' s' h
  obtain ⟨h1, rfl⟩ := j0 h
  injection h1 with h1 h2; injection h2 with h2 h3
  subst h1; subst h2
  refine ⟨rfl, by simp [Sp.size], fun B g w0 w R rp olds news nb hpl hL hB hp hn => ⟨g, Le.refl g, fun _ _ => ⟨rfl, rfl⟩, R, ?_, fun i gn cs b o h _ _ => ⟨h, rfl⟩⟩⟩
  obtain ⟨_, u, rfl, hr⟩ := hB
  exact ⟨u, [], rfl, hr, rfl⟩
 | np =>
  intro x pl old n s cells rest n' s' h
  obtain ⟨h1, rfl⟩ := j0 h
  injection h1 with h1 h2; injection h2 with h2 h3
  subst h1; subst h2
  refine ⟨rfl, by simp [Sp.size], fun B g w0 w R rp olds news nb hpl hL hB hp hn => ⟨g, Le.refl g, fun _ _ => ⟨rfl, rfl⟩, R, ?_, fun i gn cs b o h _ _ => ⟨h, rfl⟩⟩⟩
  obtain ⟨_, rfl⟩ := hB
  exact ⟨_, [], rfl, rfl, rfl⟩
 | slf f m => intro x pl old n s cells rest n' s' h; exact nomatch h
 | own τ dp =>
  intro x pl old n s cells rest n' s' h
  obtain ⟨c, t, h1, h2⟩ := AM.c8 h
  obtain ⟨h3, rfl⟩ := j0 h2
  injection h3 with h3 h4; injection h4 with h4 h5
  subst h3; subst h4
  obtain ⟨gen, hg, rfl, rfl⟩ := aq1 h1
  have hnl := (ab7 hg).2
  have hlk : ∀ i gn cs, look s.hp i = some (.lent gn cs) → i ≠ n := fun i gn cs hi e => by subst e; exact hnl gn cs hi
  refine ⟨rfl, by simp [Sp.size], fun B g w0 w R rp olds news nb hpl hL hB hp hn => ?_⟩
  obtain ⟨rfl, _⟩ := P5 R hg
  rcases hB with ⟨rfl, hx, rfl⟩ | ⟨b, cap, arr, ty, nb', rfl, rfl, ha, hl, hs, hE⟩
  ·have hx : x = [] := hx
   subst hx
   obtain ⟨l, R'⟩ := R.named (id := n) (u := .slice none 0 0) (o' := .own (g.top n) τ (dp || τ.flat) []) rfl (.inl ⟨by simp [Gh.name], rfl⟩)
   refine ⟨_, l.le, fun x _ => ⟨rfl, rfl⟩, R', ⟨_, [], rfl, ⟨by simp [Gh.name], by simp [Gh.name], rfl⟩, rfl⟩, fun i gn cs b o hi _ _ => ⟨?_, by rw [l.out]⟩⟩
   ·show look ((n, _) :: s.hp) i = _
    rw [j6 _ _ (Ne.symm (hlk i gn cs hi))]; exact hi
  ·have hb0 := hp.2 b (List.mem_cons_self ..)
   have hnd := List.nodup_cons.1 hp.1
   have hflag : ((dp || τ.flat) && !τ.flat) = (dp && !τ.flat) := by cases dp <;> cases τ.flat <;> rfl
   obtain ⟨g', l, hk, ho, R', hc⟩ := R.Z4 (id := n) (deep := dp || τ.flat) (τ := τ) (xs := x) (nb := nb') hb0 (hn b (List.mem_cons_self ..)) hnd.1 ha hl hs hnd.2 (fun y hy => ⟨hp.2 y (List.mem_cons_of_mem _ hy), by
    unfold Q9 at hE
    split at hE
    ·exact hE.X9 y hy
    ·rw [hE.2] at hy; simp at hy⟩) (by rw [hflag]; exact hE)
   refine ⟨g', l, fun y hy => ?_, R', ⟨_, [], rfl, hc, rfl⟩, fun i gn cs b o hi _ _ => ⟨?_, ho i (hlk i gn cs hi)⟩⟩
   ·rw [List.mem_cons, not_or] at hy
    exact hk y hy.1 hy.2
   ·show look ((n, _) :: s.hp) i = _
    rw [j6 _ _ (Ne.symm (hlk i gn cs hi))]; exact hi
 | lnd τ dp =>
  intro x pl old n s cells rest n' s' h
  cases old with
  | nil => exact nomatch h
  | cons c cs =>
   cases c with
   | nil =>
    obtain ⟨h1, rfl⟩ := j0 h
    injection h1 with h1 h2; injection h2 with h2 h3
    subst h1; subst h2
    refine ⟨rfl, by simp [Sp.size], fun B g w0 w R rp olds news nb hpl hL hB hp hn => ?_⟩
    obtain ⟨rfl, hO⟩ := hB
    rcases hL with ⟨_, rfl⟩ | ⟨id, gen, e, _⟩
    ·have hnb : nb = [] := by
      rcases hO with ⟨_, _, h⟩ | ⟨b, cap, arr, ty, nb', e, _⟩
      ·exact h
      ·cases e
     subst hnb
     exact ⟨g, Le.refl g, fun _ _ => ⟨rfl, rfl⟩, R, ⟨_, [], rfl, rfl, rfl⟩, fun i gn cs b o h _ _ => ⟨h, rfl⟩⟩
    ·simp [Sp.size] at e
   | own id gen =>
    simp only [aP7, AM.run] at h
    split at h
    ·rename_i g0 bs heq
     obtain ⟨hb, h'⟩ := s7 h
     obtain rfl := beq_eq hb
     simp only [AM.run, Option.some.injEq, Prod.mk.injEq] at h'
     obtain ⟨⟨rfl, rfl, rfl⟩, rfl⟩ := h'
     refine ⟨rfl, by simp [Sp.size], fun B g w0 w R rp olds news nb hpl hL hB hp hn => ?_⟩
     obtain ⟨rfl, hO⟩ := hB
     rcases hL with ⟨e, _⟩ | ⟨id', gen', e, rfl, ht, hoc⟩
     ·simp [Sp.size] at e
     ·have e : [Cell.own id g0] = [Cell.own id' gen'] := by simpa [Sp.size] using e
      injection e with e _; injection e with e1 e2
      subst e1; subst e2
      have hflag : ((dp || τ.flat) && !τ.flat) = (dp && !τ.flat) := by cases dp <;> cases τ.flat <;> rfl
      rcases hO with ⟨k1, k2, rfl⟩ | ⟨b, cap, arr, ty, nb', k1, rfl, ha, hl, hs, hE⟩
      ·have k2 : x = [] := k2
       subst k2
       injection k1 with k1 _
       have R' : HRel B g ((id, .own g0 τ (dp || τ.flat) []) :: s.hp) w := R.put heq rfl (.inl ⟨k1, rfl⟩)
       refine ⟨g, Le.refl g, fun _ _ => ⟨rfl, rfl⟩, R', ⟨_, [], rfl, ⟨ht, rfl, hoc⟩, rfl⟩, fun i gn cs b o hi hcv _ => ⟨?_, rfl⟩⟩
       have hne : id ≠ i := fun e => by
        subst e
        rw [heq] at hi
        injection hi with hi; injection hi with hi _
        subst hi
        rw [k1] at hcv; cases hcv
       show look ((id, _) :: s.hp) i = _
       rw [j6 _ _ hne]; exact hi
      ·injection k1 with k1 _
       have hnd := List.nodup_cons.1 hp.1
       obtain ⟨g', l, hk, ho, R'⟩ := R.N8 (deep := dp || τ.flat) (τ := τ) (xs := x) (nb := nb') heq k1 (hp.2 b (List.mem_cons_self ..)) (hn b (List.mem_cons_self ..)) hnd.1 ha hl hs hnd.2 (fun y hy => ⟨hp.2 y (List.mem_cons_of_mem _ hy), by
        unfold Q9 at hE
        split at hE
        ·exact hE.X9 y hy
        ·rw [hE.2] at hy; simp at hy⟩) (by rw [hflag]; exact hE)
       refine ⟨g', l, fun y hy => ?_, R', ⟨_, [], rfl, ⟨Nat.lt_of_lt_of_le ht (l.top _), (l.cv _ _ ht).symm, hoc⟩, rfl⟩, fun i gn cs b' o hi hcv _ => ⟨?_, by rw [ho]⟩⟩
       ·rw [List.mem_cons, not_or] at hy
        exact hk y hy.1 hy.2
       ·have hne : id ≠ i := fun e => by
         subst e
         rw [heq] at hi
         injection hi with hi; injection hi with hi _
         subst hi
         rw [k1] at hcv; cases hcv
        show look ((id, _) :: s.hp) i = _
        rw [j6 _ _ hne]; exact hi
    ·cases h
   | _ => exact nomatch h
 | tak ok => intro x pl old n s cells rest n' s' h; exact nomatch h
 | bld =>
  intro x pl old n s cells rest n' s' h
  obtain ⟨c, t, h1, h2⟩ := AM.c8 h
  obtain ⟨h3, rfl⟩ := j0 h2
  injection h3 with h3 h4; injection h4 with h4 h5
  subst h3; subst h4
  cases pl with
  | none => cases h1
  | some q =>
   obtain ⟨id, bg, off⟩ := q
   obtain ⟨gn1, t1, h6, h7⟩ := AM.c8 h1
   obtain ⟨rfl, hnl1⟩ := ab7 h6
   simp only [AM.run] at h7
   obtain ⟨gn2, t2, h8, h9⟩ := AM.c8 h7
   obtain ⟨rfl, hnl2⟩ := ab7 h8
   simp only [AM.run, Option.some.injEq, Prod.mk.injEq] at h9
   obtain ⟨rfl, rfl⟩ := h9
   refine ⟨rfl, by simp [Sp.size], fun B g w0 w R rp olds news nb hpl hL hB hp hn => ?_⟩
   have hB : aD8 g.imm w rp x news nb := hB
   obtain ⟨hbg, bb, oo, hcv, rfl⟩ := hpl id bg off rfl
   obtain ⟨rfl, _⟩ := P5 R h6
   have two : ∃ u1 u2, news = [u1, u2] ∧ oc u1 = true := by
    rcases hB with ⟨e, _⟩ | ⟨u2, e, _⟩
    ·exact ⟨_, _, e, rfl⟩
    ·exact ⟨_, _, e, rfl⟩
   obtain ⟨u1, u2, rfl, ho1⟩ := two
   obtain ⟨l1, R1⟩ := R.named (id := n) (u := u1) (o' := .dead (g.top n)) rfl trivial
   have hcv1 : (g.name n (g.top n) u1).cv n (g.top n) = u1 := by simp [Gh.name]
   have ht1 : g.top n < (g.name n (g.top n) u1).top n := by simp [Gh.name]
   obtain ⟨rfl, _⟩ := P5 (s := ⟨t1.env, (n, .dead (g.top n)) :: t1.hp⟩) R1 h8
   obtain ⟨g2, l2, k2, o2, R2, c2⟩ := R1.bj9 (id := n + 1) (a := n) (ag := g.top n) (bid := id) (bg := bg) (off := off) (xs := x) (u2 := u2) (nb := nb) ht1 (Nat.lt_of_lt_of_le hbg (l1.le.top _)) (by omega) (hp.mono l1) hn ((l1.le.cv _ _ hbg).trans hcv) (by rw [hcv1]; exact hB)
   refine ⟨g2, l1.le.trans l2, k2, R2, ⟨u1, [u2], rfl, ⟨Nat.lt_of_lt_of_le ht1 (l2.top _), ?_, ho1⟩, u2, [], rfl, c2, rfl⟩, fun i gn cs b o hi _ _ => ⟨?_, by rw [o2, l1.out]⟩⟩
   ·rw [l2.cv _ _ ht1, hcv1]
   ·have e1 : n ≠ i := fun e => by subst e; exact hnl1 gn cs hi
    have e2 : n + 1 ≠ i := fun e => by
     subst e
     exact hnl2 gn cs (by show look ((n, _) :: t1.hp) (n + 1) = _; rw [j6 _ _ e1]; exact hi)
    show look ((n + 1, _) :: (n, _) :: t1.hp) i = _
    rw [j6 _ _ e2, j6 _ _ e1]; exact hi
 | pr a b iha ihb =>
  intro x pl old n s cells rest n' s' h
  obtain ⟨⟨p1, p2, p3⟩, t, h1, h2⟩ := AM.c8 h
  obtain ⟨⟨q1, q2, q3⟩, t2, h3, h4⟩ := AM.c8 h2
  obtain ⟨h5, rfl⟩ := j0 h4
  injection h5 with h5 h6; injection h6 with h6 h7
  subst h5; subst h6
  obtain ⟨ea, ra, sa⟩ := iha _ _ _ _ _ _ _ _ _ h1
  obtain ⟨eb, rb, sb⟩ := ihb _ _ _ _ _ _ _ _ _ h3
  have ra : p2 = old.drop a.size := ra
  have rb : rest = p2.drop b.size := rb
  refine ⟨eb.trans ea, by rw [rb, ra, List.drop_drop], fun B g w0 w R rp olds news nb hpl hL hB hp hn => ?_⟩
  obtain ⟨u1, u2, n1, n2, rfl, rfl, B1, B2⟩ := hB
  obtain ⟨L1, L2⟩ := hL
  have hnd := List.nodup_append.1 hp.1
  have hd : ∀ y ∈ n2, y ∉ n1 := fun y h2 h1 => hnd.2.2 y h1 y h2 rfl
  have e1 : ((old.take (a.size + b.size)).take a.size) = old.take a.size := by rw [List.take_take]; congr 1; omega
  have e2 : ((old.take (a.size + b.size)).drop a.size) = p2.take b.size := by rw [ra, List.drop_take]; congr 1; omega
  have L1' : aq7 s.hp g w0 a (old.take a.size) (olds.take a.size) := by rw [← e1]; exact L1
  have L2' : aq7 s.hp g w0 b (p2.take b.size) (olds.drop a.size) := by rw [← e2]; exact L2
  obtain ⟨g1, l1, k1, R1, c1, t1⟩ := sa B g w0 w R rp _ _ _ hpl L1' B1 ⟨hnd.1, fun y hy => hp.2 y (List.mem_append_left _ hy)⟩ (fun y hy => hn y (List.mem_append_left _ hy))
  have L3 : aq7 t.hp g1 w0 b (p2.take b.size) (olds.drop a.size) := aq7.bl7 l1 R.as9 (fun i gn cs b' o a1 a2 a3 => t1 i gn cs b' o a1 a2 (hd b' a3)) B2 L2'
  obtain ⟨g2, l2, k2, R2, c2, t2'⟩ := sb B g1 w0 w R1 (rp.1, rp.2 + a.size) _ _ _ ((hpl.mono l1).on a.size) L3 (B2.mono l1.imm) ⟨hnd.2.1, fun y hy => by rw [(k1 y (hd y hy)).1]; exact hp.2 y (List.mem_append_right _ hy)⟩
   (fun y hy => by rw [(k1 y (hd y hy)).2]; exact hn y (List.mem_append_right _ hy))
  refine ⟨g2, l1.trans l2, fun y hy => ?_, R2, (c1.mono l2).append c2, fun i gn cs b' o hi hcv hb => ?_⟩
  ·rw [List.mem_append, not_or] at hy
   obtain ⟨a1, a2⟩ := k1 y hy.1
   obtain ⟨b1, b2⟩ := k2 y hy.2
   exact ⟨b1.trans a1, b2.trans a2⟩
  ·rw [List.mem_append, not_or] at hb
   obtain ⟨a1, a2⟩ := t1 i gn cs b' o hi hcv hb.1
   obtain ⟨b1, b2⟩ := t2' i gn cs b' o a1 ((l1.cv _ _ (R.as9 _ _ _ hi)).trans hcv) hb.2
   exact ⟨b1, b2.trans a2⟩
 | ptr wh st sp ih =>
  intro x pl old n s cells rest n' s' h
  cases old with
  | nil => exact nomatch h
  | cons c cs =>
   cases c with
   | ptr id gen off =>
    simp only [aP7, AM.run] at h
    split at h
    ·rename_i g0 bt bs heq
     obtain ⟨hb, h'⟩ := s7 h
     obtain rfl := beq_eq hb
     obtain ⟨⟨p1, p2, p3⟩, t, h1, h2⟩ := AM.c8 h'
     simp only [AM.run, Option.some.injEq, Prod.mk.injEq] at h2
     obtain ⟨⟨rfl, rfl, rfl⟩, rfl⟩ := h2
     obtain ⟨e1, r1, s1⟩ := ih _ _ _ _ _ _ _ _ _ h1
     refine ⟨e1, by simp [Sp.size], fun B g w0 w R rp olds news nb hpl hL hB hp hn => ?_⟩
     obtain ⟨id', gen', off', bs', b, o, arr0, ty0, L, ec, eo, hlk, hcv, ha0, hL0, hle, hid, hoff, hbs, hLi⟩ := hL
     have ec : [Cell.ptr id g0 off] = [Cell.ptr id' gen' off'] := by simpa [Sp.size] using ec
     injection ec with ec _; injection ec with ec1 ec2 ec3
     subst ec1; subst ec2; subst ec3
     rw [heq] at hlk
     injection hlk with hlk; injection hlk with _ hlk; injection hlk with hlk1 hlk
     subst hlk; subst hlk1
     obtain ⟨b1, o1, arr1, ty1, arr, N, nb', f1, f2, f3, f4, f5, f6, f7, f8, f9⟩ := hB
     rw [f1] at eo
     injection eo with eo; injection eo with eo; injection eo with eo; injection eo with eo1 eo2
     subst eo1; subst eo2
     rw [ha0] at f4
     injection f4 with f4; injection f4 with f4 f4t
     subst f4
     subst f4t
     subst f3
     have hnd := List.nodup_cons.1 hp.1
     have hbl := hbs.length
     have hseg := bs6 (n := sp.size) hL0 hle (show off + sp.size ≤ L.length by rw [hbl]; exact hoff)
     rw [← hseg] at f9
     have hcl : (cut off sp.size bs).take sp.size = cut off sp.size bs := by unfold cut; rw [List.take_take, Nat.min_self]
     obtain ⟨g1, l1, k1, R1, c1, t1⟩ := s1 B g w0 w R (b1, o + off) _ _ _ (fun id' gen' off' e => by
      injection e with e; injection e with e1 e; injection e with e2 e3
      subst e1; subst e2; subst e3
      exact ⟨R.as9 _ _ _ heq, b1, o, hcv, rfl⟩) (by rw [hcl]; exact hLi) f9 ⟨hnd.2, fun y hy => hp.2 y (List.mem_cons_of_mem _ hy)⟩ (fun y hy => hn y (List.mem_cons_of_mem _ hy))
     obtain ⟨q1, q2⟩ := k1 b1 hnd.1
     obtain ⟨w1, w2⟩ := t1 id g0 (_, bs) b1 o heq hcv hnd.1
     have hcv1 : g1.cv id g0 = .pointer (some ⟨b1, o, none⟩) := (l1.cv _ _ (R.as9 _ _ _ heq)).trans hcv
     have hN := c1.length
     let g2 : Gh := { g1 with lab := open Classical in fun x => if x = b1 then some (id + 1) else g1.lab x }
     have hle2 : Le g1 g2 := ⟨fun _ _ h => h, fun _ => Nat.le_refl _, fun _ _ _ => rfl⟩
     have hsp := bm0 (off := off) hL0 hle (by rw [f8, hbl]; exact hoff) f6
     have hlen : (L.take off ++ N ++ L.drop (off + N.length)).length = L.length := by simp; omega
     have hset : n7 g2 (setCells off p1 bs) (L.take off ++ N ++ L.drop (off + N.length)) := n7.set (c1.mono hle2) off (hbs.mono (l1.trans hle2))
     have R2 : HRel B g2 ((id, .box g0 (bt, setCells off p1 bs)) :: t.hp) w := by
      refine R1.bC8 (q1.trans (hp.2 b1 (List.mem_cons_self ..))) (q2.trans (hn b1 (List.mem_cons_self ..))) w1 rfl ?_
      refine ⟨b1, o, arr, _, _, hcv1, ⟨by simp, q2.trans (hn b1 (List.mem_cons_self ..))⟩, f5, hset, ?_, ?_, ?_⟩
      ·show arr.toList = (g1.outer id).take o ++ _ ++ (g1.outer id).drop _
       rw [w2]
       exact hsp
      ·show _ ≤ (g1.outer id).length
       rw [w2, hlen]
       exact hle
      ·refine ⟨hid.1, ?_, rfl⟩
       show (g1.outer id).length = (setCells off p1 bs).length
       rw [w2, ← hset.length, hlen, hbl]
       exact hid.2
     refine ⟨g2, l1.trans hle2, fun y hy => ?_, R2, ⟨_, [], by rw [f2, f1], ⟨R2.top id ▸ by rw [l9]; exact Nat.lt_succ_self _, b1, o, hcv1, rfl⟩, rfl⟩, fun i gn cs b' o' hi hcv' hb' => ?_⟩
     ·rw [List.mem_cons, not_or] at hy
      obtain ⟨a1, a2⟩ := k1 y hy.2
      exact ⟨by simp [g2, hy.1, a1], a2⟩
     ·rw [List.mem_cons, not_or] at hb'
      obtain ⟨a1, a2⟩ := t1 i gn cs b' o' hi hcv' hb'.2
      refine ⟨?_, a2⟩
      have hne : id ≠ i := fun e => by
       subst e
       rw [heq] at hi
       injection hi with hi; injection hi with hi _
       subst hi
       rw [hcv] at hcv'
       injection hcv' with hcv'; injection hcv' with hcv'; injection hcv' with hcv' _
       exact hb'.1 hcv'.symm
      show look ((id, _) :: t.hp) i = _
      rw [j6 _ _ hne]; exact a1
    ·cases h
   | _ => exact nomatch h
end Go.Abs
end

section
namespace Go.Abs
def al0 (imm : Rd) (w : World) : (a : VSp) → a.sp.ty.den → Value → List Nat → Prop
 | .one s, x, u, nb => oc u = true ∧ Pass imm w s x (0, 0) [u] nb
 | .agg s, x, u, nb => ∃ us : List Value, u = .agg us.toArray ∧ Pass imm w s x (0, 0) us nb
def I7 (imm : Rd) (w : World) : (as : List VSp) → (A6 as).den → List Value → List Nat → Prop
 | [], _, us, nb => us = [] ∧ nb = []
 | a :: as, x, us, nb => ∃ u r n1 n2, us = u :: r ∧ nb = n1 ++ n2 ∧ al0 imm w a x.1 u n1 ∧ I7 imm w as x.2 r n2
def bh9 (imm : Rd) (w0 w : World) : (s : Sp) → s.an5.den → List Value → List Nat → Prop
 | .pr a b, x, us, nb => ∃ n1 n2, nb = n1 ++ n2 ∧ bh9 imm w0 w a x.1 (us.take a.size) n1 ∧ bh9 imm w0 w b x.2 (us.drop a.size) n2
 | .ptr wh st s, x, us, nb => aB3 imm w0 w (.ptr wh st s) x (0, 0) us us nb
 | .lnd τ dp, x, us, nb => aB3 imm w0 w (.lnd τ dp) x (0, 0) us us nb
 | _, _, _, nb => nb = []
def P9 (imm : Rd) (w0 w : World) : (as : List VSp) → (aj1 as).den → List Value → List Nat → Prop
 | [], _, us, nb => us = [] ∧ nb = []
 | a :: as, x, us, nb => ∃ u r n1 n2, us = u :: r ∧ nb = n1 ++ n2 ∧ bh9 imm w0 w a.sp x.1 u.cells.toList n1 ∧ P9 imm w0 w as x.2 r n2
def aF6 (imm : Rd) (w : World) : (a : VSp) → a.sp.ty.den → Value → List Nat → Prop
 | .one s, x, u, nb => oc u = true ∧ aB3 imm w w s x (0, 0) [] [u] nb
 | .agg s, x, u, nb => ∃ us : List Value, u = .agg us.toArray ∧ aB3 imm w w s x (0, 0) [] us nb
def al2 (imm : Rd) (w : World) : (as : List VSp) → (A6 as).den → List Value → List Nat → Prop
 | [], _, us, nb => us = [] ∧ nb = []
 | a :: as, x, us, nb => ∃ u r n1 n2, us = u :: r ∧ nb = n1 ++ n2 ∧ aF6 imm w a x.1 u n1 ∧ al2 imm w as x.2 r n2
def aJ7 (imm : Rd) (w : World) : (r : RSp) → r.ty.den → Value → List Nat → Prop
 | .val a, x, v, nb => aF6 imm w a x v nb
 | .tup as, x, v, nb => ∃ vs : List Value, v = .tuple vs.toArray ∧ al2 imm w as x vs nb
 | .none, _, v, nb => v = .tuple #[] ∧ nb = []
def N2 (glob : Nat → Option (List Cell)) (imm : Rd) : Prop := ∀ k cs, glob k = some cs → ∃ us, imm k = some us ∧ ∀ g : Gh, (∀ b L, imm b = some L → g.imm b = some L) → n7 g cs us
theorem N2.mono {glob : Nat → Option (List Cell)} {imm imm' : Rd} (h : ∀ b L, imm b = some L → imm' b = some L) (k : N2 glob imm) : N2 glob imm' := fun i c hi => by
 obtain ⟨u, h1, h2⟩ := k i c hi
 exact ⟨u, h _ _ h1, fun g hg => h2 g fun b L hb => hg b L (h b L hb)⟩
theorem N2.one {glob : Nat → Option (List Cell)} {g : Gh} (h : N2 glob g.imm) : ∀ k c, glob k = some [c] → ∃ u, g.imm k = some [u] ∧ s6 g c u := fun k c hk => by
 obtain ⟨us, h1, h2⟩ := h k [c] hk
 obtain ⟨u, r, rfl, hu, hr⟩ := h2 g fun _ _ hb => hb
 have hr : r = [] := hr
 subst hr
 exact ⟨u, h1, hu⟩
def M7 (P : Program) (f : FuncId) (args : Array Value) (w : World) (R : Value → World → Prop) : Prop :=
 match (callFunc f args).run P w with
 | .ok (.enter f' a') w1 => Calls P f' a' w1 fun e w' => ∃ v, e = .returned v ∧ R v w'
 | .ok (.value v) w1 => R v w1
 | _ => False
def an9 (P : Program) (glob : Nat → Option (List Cell)) (f : FuncId) (c : Callee) : Prop :=
 ∀ x y, c.F x = some y → ∀ (imm : Rd) (w : World) (args : List Value) (nb : List Nat), N2 glob imm → (∀ b L, imm b = some L → ∃ arr ty fr, w.heap[b]? = some (.cells arr ty fr) ∧ arr.toList = L) →
  I7 imm w c.sig.args x args nb → nb.Nodup → (∀ b ∈ nb, imm b = none ∧ b < w.heap.size) →
  M7 P f args.toArray w fun v w' => ∃ imm' n1 n2, After imm w nb imm' w' (n1 ++ n2) ∧ aJ7 imm' w' c.sig.res y.1 v n1 ∧ P9 imm' w w' c.sig.args y.2 args n2
def a36 (as : List VSp) (imm : Rd) (w : World) (nb : List Nat) (args : List Value) : Prop := ∀ f m, aG8 as = some (f, m) →
 ∃ b ty, args.getLast? = some (.pointer (some ⟨b, 0, none⟩)) ∧ w.heap[b]? = some (.cells #[.func (.func f) #[] (args.drop m).toArray] ty (0, 0)) ∧ b ∉ nb ∧ imm b = none
def au9 (P : Program) (glob : Nat → Option (List Cell)) (f : FuncId) (c : Callee) : Prop :=
 ∀ x y, c.F x = some y → ∀ (imm : Rd) (w : World) (args : List Value) (nb : List Nat), N2 glob imm → (∀ b L, imm b = some L → ∃ arr ty fr, w.heap[b]? = some (.cells arr ty fr) ∧ arr.toList = L) →
  I7 imm w c.sig.args x args nb → nb.Nodup → (∀ b ∈ nb, imm b = none ∧ b < w.heap.size) → a36 c.sig.args imm w nb args →
  M7 P f args.toArray w fun v w' => ∃ imm' n1 n2, After imm w nb imm' w' (n1 ++ n2) ∧ aJ7 imm' w' c.sig.res y.1 v n1 ∧ P9 imm' w w' c.sig.args y.2 args n2
theorem an9.slf {P : Program} {glob : Nat → Option (List Cell)} {f : FuncId} {c : Callee} (h : an9 P glob f c) : au9 P glob f c := fun x y k imm w args nb a b c d e _ => h x y k imm w args nb a b c d e
theorem a36.none {as : List VSp} (h : aG8 as = none) {imm : Rd} {w : World} {nb : List Nat} {args : List Value} : a36 as imm w nb args := fun f m k => by rw [h] at k; cases k
theorem au9.plain {P : Program} {glob : Nat → Option (List Cell)} {f : FuncId} {c : Callee} (hn : aG8 c.sig.args = .none) (h : au9 P glob f c) : an9 P glob f c := fun x y k imm w args nb a b c d e => h x y k imm w args nb a b c d e (a36.none hn)
theorem aO1 {u : Value} (h : oc u = true) : u.cells.toList = [u] := by rw [aE4 h]
def X6 (hp : List (Nat × Obj)) (g : Gh) (w : World) : List VSp → List Val → List Value → Prop
 | [], vs, us => vs = [] ∧ us = []
 | a :: as, vs, us => ∃ v r u q, vs = v :: r ∧ us = u :: q ∧ v.cells.length = a.sp.size ∧ aq7 hp g w a.sp v.cells u.cells.toList ∧ X6 hp g w as r q
theorem X6.mono {hp hp' : List (Nat × Obj)} {g g' : Gh} {w : World} (l : Le g g') (ho : ∀ id gn cs, look hp id = some (.lent gn cs) → look hp' id = some (.lent gn cs) ∧ g'.outer id = g.outer id) (ht : ∀ id gn cs, look hp id = some (.lent gn cs) → gn < g.top id) :
  ∀ {as : List VSp} {vs : List Val} {us : List Value}, X6 hp g w as vs us → X6 hp' g' w as vs us
 | [], _, _, h => h
 | _ :: _, _, _, ⟨v, r, u, q, e, e', hl, h1, h2⟩ => ⟨v, r, u, q, e, e', hl, h1.mono l ho ht, X6.mono l ho ht h2⟩
theorem aM0 {a : VSp} {v : Val} {s s' : St} {x : a.sp.ty.den} (h : (bG3 a v).run s = some (x, s')) : R5 s s' ∧ ∀ B g w, HRel B g s.hp w → ∃ g', Lk g g' ∧ HRel B g' s'.hp w ∧ ∀ u, F4 g v u →
  ∃ nb, al0 g'.imm w a x u nb ∧ F5 g' nb ∧ (∀ b ∈ nb, g.lab b ≠ some 0) ∧ v.cells.length = a.sp.size ∧ aq7 s'.hp g' w a.sp v.cells u.cells.toList := by
 cases a with
 | one sp =>
  cases v with
  | agg cs => exact nomatch h
  | one c =>
   obtain ⟨⟨p1, p2⟩, t, h1, h2⟩ := AM.c8 h
   simp only at h2
   split at h2
   ·obtain ⟨rfl, rfl⟩ := j0 h2
    obtain ⟨k, ⟨used, eu, lu⟩, hs⟩ := aq9 _ _ _ _ _ _ _ h1
    have hsz : sp.size = 1 := by rw [← lu, ← List.append_nil used, ← eu]; rfl
    refine ⟨k, fun B g w R => ?_⟩
    obtain ⟨g', l, R', hc⟩ := hs B g w R
    refine ⟨g', l, R', fun u hu => ?_⟩
    have hu : s6 g c u := hu
    have hoc := hu.aX1
    obtain ⟨u1, u2, nb, e, hP, hO, hr, hf, hL⟩ := hc [u] (0, 0) ⟨u, [], rfl, hu, rfl⟩ (M1.none _ _)
    have hu2 : u2 = [] := hr
    subst hu2
    rw [List.append_nil] at e
    subst e
    refine ⟨nb, ⟨hoc, hP⟩, hO, hf, hsz.symm, ?_⟩
    rw [aO1 hoc]
    rw [hsz] at hL
    exact hL
   ·cases h2
 | agg sp =>
  cases v with
  | one c => exact nomatch h
  | agg cs =>
   obtain ⟨⟨p1, p2⟩, t, h1, h2⟩ := AM.c8 h
   simp only at h2
   split at h2
   ·obtain ⟨rfl, rfl⟩ := j0 h2
    obtain ⟨k, ⟨used, eu, lu⟩, hs⟩ := aq9 _ _ _ _ _ _ _ h1
    rw [List.append_nil] at eu
    subst eu
    refine ⟨k, fun B g w R => ?_⟩
    obtain ⟨g', l, R', hc⟩ := hs B g w R
    refine ⟨g', l, R', fun u hu => ?_⟩
    obtain ⟨us, rfl, hu⟩ := hu
    obtain ⟨u1, u2, nb, e, hP, hO, hr, hf, hL⟩ := hc us (0, 0) hu (M1.none _ _)
    have hu2 : u2 = [] := hr
    subst hu2
    rw [List.append_nil] at e
    subst e
    refine ⟨nb, ⟨us, rfl, hP⟩, hO, hf, lu, ?_⟩
    have : cs.take sp.size = cs := by rw [← lu, List.take_length]
    rw [this] at hL
    exact hL
   ·cases h2
theorem al0.mono {imm imm' : Rd} (h : ∀ b L, imm b = some L → imm' b = some L) {w : World} {a : VSp} {x : a.sp.ty.den} {u : Value} {nb : List Nat} (k : al0 imm w a x u nb) : al0 imm' w a x u nb := by
 cases a with
 | one s => exact ⟨k.1, Pass.mono h k.2⟩
 | agg s => obtain ⟨us, e, k⟩ := k; exact ⟨us, e, Pass.mono h k⟩
theorem ag7 : ∀ {as : List VSp} {vs : List Val} {s s' : St} {x : (A6 as).den}, (aS6 as vs).run s = some (x, s') → R5 s s' ∧ ∀ B g w, HRel B g s.hp w → ∃ g', Lk g g' ∧ HRel B g' s'.hp w ∧ ∀ us, F8 g vs us →
  ∃ nb, I7 g'.imm w as x us nb ∧ F5 g' nb ∧ (∀ b ∈ nb, g.lab b ≠ some 0) ∧ X6 s'.hp g' w as vs us
 | [], vs, s, s', x, h => by
  cases vs with
  | nil =>
   obtain ⟨rfl, rfl⟩ := j0 h
   exact ⟨R5.refl _, fun B g w R => ⟨g, Lk.refl g, R, fun us hu => ⟨[], ⟨hu, rfl⟩, ⟨List.nodup_nil, fun b hb => by simp at hb⟩, fun b hb => by simp at hb, rfl, hu⟩⟩⟩
  | cons v r => exact nomatch h
 | a :: as, vs, s, s', x, h => by
  cases vs with
  | nil => exact nomatch h
  | cons v r =>
   obtain ⟨p, t, h1, h2⟩ := AM.c8 h
   obtain ⟨q, t2, h3, h4⟩ := AM.c8 h2
   obtain ⟨rfl, rfl⟩ := j0 h4
   obtain ⟨k1, s1⟩ := aM0 h1
   obtain ⟨k2, s2⟩ := ag7 h3
   refine ⟨k1.trans k2, fun B g w R => ?_⟩
   obtain ⟨g1, l1, R1, c1⟩ := s1 B g w R
   obtain ⟨g2, l2, R2, c2⟩ := s2 B g1 w R1
   refine ⟨g2, l1.trans l2, R2, fun us hu => ?_⟩
   obtain ⟨u, us', rfl, hu1, hu2⟩ := hu
   obtain ⟨n1, P1, O1, f1, z1, L1⟩ := c1 u hu1
   obtain ⟨n2, P2, O2, f2, L2⟩ := c2 us' (hu2.mono l1.le)
   refine ⟨n1 ++ n2, ⟨u, us', n1, n2, rfl, rfl, P1.mono l2.le.imm, P2⟩, F5.append l2 O1 O2 f2, fun b hb => ?_, v, r, u, us', rfl, rfl, z1, L1.mono l2.le (fun id gn cs hl => ⟨k2.2 id gn cs hl, by rw [l2.out]⟩) R1.as9, L2⟩
   rcases List.mem_append.1 hb with hb | hb
   ·exact f1 b hb
   ·exact fun e => f2 b hb (l1.kp b e).1
def bL1 (sp : Sp) (x : sp.an5.den) (cells : List Cell) (s : St) (rest : List Cell) (s' : St) : Prop :=
 s'.env = s.env ∧ rest = cells.drop sp.size ∧ ∀ B g w0 w, HRel B g s.hp w → ∀ us nb, aq7 s.hp g w0 sp (cells.take sp.size) us → bh9 g.imm w0 w sp x us nb → F5 g nb → (∀ b ∈ nb, g.nst b = none) →
  ∃ g', Le g g' ∧ (∀ x, x ∉ nb → g'.lab x = g.lab x ∧ g'.nst x = g.nst x) ∧ HRel B g' s'.hp w ∧
   ∀ i gn cs b o, look s.hp i = some (.lent gn cs) → g.cv i gn = .pointer (some ⟨b, o, none⟩) → b ∉ nb → look s'.hp i = some (.lent gn cs) ∧ g'.outer i = g.outer i
theorem ai3 {imm imm' : Rd} (h : ∀ b L, imm b = some L → imm' b = some L) {w0 w : World} : ∀ {s : Sp} {x : s.an5.den} {us : List Value} {nb : List Nat}, bh9 imm w0 w s x us nb → bh9 imm' w0 w s x us nb
 | .un, _, _, _, k => k
 | .pr _ _, _, _, _, ⟨n1, n2, e, k1, k2⟩ => ⟨n1, n2, e, ai3 h k1, ai3 h k2⟩
 | .pub _, _, _, _, k => k
 | .own _ _, _, _, _, k => k
 | .ptr _ _ _, x, _, _, k => aB3.mono h (s := .ptr _ _ _) (x := x) k
 | .lnd _ _, x, _, _, k => aB3.mono h (s := .lnd _ _) (x := x) (pl := (0, 0)) k
 | .bld, _, _, _, k => k
 | .tak _, _, _, _, k => k
 | .err, _, _, _, k => k
 | .np, _, _, _, k => k
 | .slf _ _, _, _, _, k => k
theorem aA6 {hp hp' : List (Nat × Obj)} {g g' : Gh} {imm : Rd} {w0 w : World} (l : Le g g') (ht : ∀ id gn cs, look hp id = some (.lent gn cs) → gn < g.top id) :
  ∀ {s : Sp} {x : s.an5.den} {cs : List Cell} {us : List Value} {nb : List Nat}, (∀ i gn cs b o, look hp i = some (.lent gn cs) → g.cv i gn = .pointer (some ⟨b, o, none⟩) → b ∈ nb → look hp' i = some (.lent gn cs) ∧ g'.outer i = g.outer i) →
   bh9 imm w0 w s x us nb → aq7 hp g w0 s cs us → aq7 hp' g' w0 s cs us
 | .un, _, _, _, _, _, _, _ => trivial
 | .pub _, _, _, _, _, _, _, _ => trivial
 | .own _ _, _, _, _, _, _, _, _ => trivial
 | .err, _, _, _, _, _, _, _ => trivial
 | .np, _, _, _, _, _, _, _ => trivial
 | .slf _ _, _, _, _, _, _, _, _ => trivial
 | .pr _ _, _, _, _, _, ho, ⟨n1, n2, e', k1, k2⟩, ⟨h1, h2⟩ => by
  subst e'
  exact ⟨aA6 l ht (fun i gn cs b o a1 a2 a3 => ho i gn cs b o a1 a2 (List.mem_append_left _ a3)) k1 h1, aA6 l ht (fun i gn cs b o a1 a2 a3 => ho i gn cs b o a1 a2 (List.mem_append_right _ a3)) k2 h2⟩
 | .bld, _, _, _, _, _, _, _ => trivial
 | .tak _, _, _, _, _, _, _, _ => trivial
 | .ptr _ _ _, x, _, _, _, ho, k, h => aq7.bl7 (s := .ptr _ _ _) (x := x) l ht ho k h
 | .lnd _ _, x, _, _, _, ho, k, h => aq7.bl7 (s := .lnd _ _) (x := x) (pl := (0, 0)) l ht ho k h
theorem be3 : ∀ (sp : Sp) (x : sp.an5.den) (cells : List Cell) (s : St) (rest : List Cell) (s' : St), (bx2 sp x cells).run s = some (rest, s') → bL1 sp x cells s rest s' := by
 intro sp
 have one : ∀ (sp : Sp) (x : sp.an5.den) (c : Cell) (cs : List Cell) (s : St) (rest : List Cell) (s' : St), sp.size = 1 → (∀ imm w0 w us nb, bh9 imm w0 w sp x us nb → nb = []) → (AM.ret cs).run s = some (rest, s') → bL1 sp x (c :: cs) s rest s' := by
  intro sp x c cs s rest s' hs ho h
  obtain ⟨rfl, rfl⟩ := j0 h
  refine ⟨rfl, by rw [hs]; rfl, fun B g w0 w R us nb hL hO hp hn => ?_⟩
  obtain rfl := ho _ _ _ _ _ hO
  exact ⟨g, Le.refl g, fun _ _ => ⟨rfl, rfl⟩, R, fun i gn cs b o h _ _ => ⟨h, rfl⟩⟩
 induction sp with
 | un =>
  intro x cells s rest s' h
  obtain ⟨rfl, rfl⟩ := j0 h
  refine ⟨rfl, rfl, fun B g w0 w R us nb hL hO hp hn => ?_⟩
  have hO : nb = [] := hO
  subst hO
  exact ⟨g, Le.refl g, fun _ _ => ⟨rfl, rfl⟩, R, fun i gn cs b o h _ _ => ⟨h, rfl⟩⟩
 | pub τ => intro x cells s rest s' h; cases cells with | nil => exact nomatch h | cons c cs => exact one _ x c cs s rest s' rfl (fun _ _ _ _ _ h => h) h
 | own τ dp => intro x cells s rest s' h; cases cells with | nil => exact nomatch h | cons c cs => exact one _ x c cs s rest s' rfl (fun _ _ _ _ _ h => h) h
 | err => intro x cells s rest s' h; cases cells with | nil => exact nomatch h | cons c cs => exact one _ x c cs s rest s' rfl (fun _ _ _ _ _ h => h) h
 | np => intro x cells s rest s' h; cases cells with | nil => exact nomatch h | cons c cs => exact one _ x c cs s rest s' rfl (fun _ _ _ _ _ h => h) h
 | slf f m => intro x cells s rest s' h; cases cells with | nil => exact nomatch h | cons c cs => exact one _ x c cs s rest s' rfl (fun _ _ _ _ _ h => h) h
 | pr a b iha ihb =>
  intro x cells s rest s' h
  obtain ⟨r, t, h1, h2⟩ := AM.c8 h
  obtain ⟨ea, ra, sa⟩ := iha _ _ _ _ _ h1
  obtain ⟨eb, rb, sb⟩ := ihb _ _ _ _ _ h2
  refine ⟨eb.trans ea, by rw [rb, ra, List.drop_drop], fun B g w0 w R us nb hL hO hp hn => ?_⟩
  obtain ⟨n1, n2, rfl, B1, B2⟩ := hO
  obtain ⟨L1, L2⟩ := hL
  have hnd := List.nodup_append.1 hp.1
  have hd : ∀ y ∈ n2, y ∉ n1 := fun y h2 h1 => hnd.2.2 y h1 y h2 rfl
  have e1 : ((cells.take (a.size + b.size)).take a.size) = cells.take a.size := by rw [List.take_take]; congr 1; omega
  have e2 : ((cells.take (a.size + b.size)).drop a.size) = r.take b.size := by rw [ra, List.drop_take]; congr 1; omega
  have L1' : aq7 s.hp g w0 a (cells.take a.size) (us.take a.size) := by rw [← e1]; exact L1
  have L2' : aq7 s.hp g w0 b (r.take b.size) (us.drop a.size) := by rw [← e2]; exact L2
  obtain ⟨g1, l1, k1, R1, t1⟩ := sa B g w0 w R _ _ L1' B1 ⟨hnd.1, fun y hy => hp.2 y (List.mem_append_left _ hy)⟩ (fun y hy => hn y (List.mem_append_left _ hy))
  have L3 : aq7 t.hp g1 w0 b (r.take b.size) (us.drop a.size) := aA6 l1 R.as9 (fun i gn cs b' o a1 a2 a3 => t1 i gn cs b' o a1 a2 (hd b' a3)) B2 L2'
  obtain ⟨g2, l2, k2, R2, t2'⟩ := sb B g1 w0 w R1 _ _ L3 (ai3 l1.imm B2) ⟨hnd.2.1, fun y hy => by rw [(k1 y (hd y hy)).1]; exact hp.2 y (List.mem_append_right _ hy)⟩
   (fun y hy => by rw [(k1 y (hd y hy)).2]; exact hn y (List.mem_append_right _ hy))
  refine ⟨g2, l1.trans l2, fun y hy => ?_, R2, fun i gn cs b' o hi hcv hb => ?_⟩
  ·rw [List.mem_append, not_or] at hy
   obtain ⟨a1, a2⟩ := k1 y hy.1
   obtain ⟨b1, b2⟩ := k2 y hy.2
   exact ⟨b1.trans a1, b2.trans a2⟩
  ·rw [List.mem_append, not_or] at hb
   obtain ⟨a1, a2⟩ := t1 i gn cs b' o hi hcv hb.1
   obtain ⟨b1, b2⟩ := t2' i gn cs b' o a1 ((l1.cv _ _ (R.as9 _ _ _ hi)).trans hcv) hb.2
   exact ⟨b1, b2.trans a2⟩
 | tak ok =>
  intro x cells s rest s' h
  cases cells with
  | nil => exact nomatch h
  | cons c cs => exact one (.tak ok) x c cs s rest s' rfl (fun _ _ _ _ _ k => k) h
 | bld =>
  intro x cells s rest s' h
  cases cells with
  | nil => exact nomatch h
  | cons c cs =>
   cases cs with
   | nil => exact nomatch h
   | cons c2 cs =>
    obtain ⟨rfl, rfl⟩ := j0 h
    refine ⟨rfl, rfl, fun B g w0 w R us nb hL hO hp hn => ?_⟩
    have hO : nb = [] := hO
    subst hO
    exact ⟨g, Le.refl g, fun _ _ => ⟨rfl, rfl⟩, R, fun i gn cs b o h _ _ => ⟨h, rfl⟩⟩
 | ptr wh st sp _ =>
  intro x cells s rest s' h
  cases cells with
  | nil => exact nomatch h
  | cons c cs =>
   obtain ⟨⟨p1, p2, p3⟩, t, h1, h2⟩ := AM.c8 h
   obtain ⟨rfl, rfl⟩ := j0 h2
   obtain ⟨e1, _, s1⟩ := al9 (.ptr wh st sp) x _ _ _ _ _ _ _ _ h1
   refine ⟨e1, rfl, fun B g w0 w R us nb hL hO hp hn => ?_⟩
   obtain ⟨g', l, k, R', _, t'⟩ := s1 B g w0 w R (0, 0) us us nb (M1.none _ _) hL hO hp hn
   exact ⟨g', l, k, R', t'⟩
 | lnd τ dp =>
  intro x cells s rest s' h
  cases cells with
  | nil => exact nomatch h
  | cons c cs =>
   obtain ⟨⟨p1, p2, p3⟩, t, h1, h2⟩ := AM.c8 h
   obtain ⟨rfl, rfl⟩ := j0 h2
   obtain ⟨e1, _, s1⟩ := al9 (.lnd τ dp) x _ _ _ _ _ _ _ _ h1
   refine ⟨e1, rfl, fun B g w0 w R us nb hL hO hp hn => ?_⟩
   obtain ⟨g', l, k, R', _, t'⟩ := s1 B g w0 w R (0, 0) us us nb (M1.none _ _) hL hO hp hn
   exact ⟨g', l, k, R', t'⟩
end Go.Abs
end

section
namespace Go.Abs
theorem az8 {hp hp' : List (Nat × Obj)} {g g' : Gh} {imm : Rd} {w0 w : World} (l : Le g g') (ht : ∀ id gn cs, look hp id = some (.lent gn cs) → gn < g.top id) :
  ∀ {as : List VSp} {x : (aj1 as).den} {vs : List Val} {us : List Value} {nb : List Nat}, (∀ i gn cs b o, look hp i = some (.lent gn cs) → g.cv i gn = .pointer (some ⟨b, o, none⟩) → b ∈ nb → look hp' i = some (.lent gn cs) ∧ g'.outer i = g.outer i) →
   P9 imm w0 w as x us nb → X6 hp g w0 as vs us → X6 hp' g' w0 as vs us
 | [], _, _, _, _, _, _, h => h
 | _ :: _, x, _, _, _, ho, ⟨u, r, n1, n2, e, e', k1, k2⟩, ⟨v, q, u', r', e1, e2, hl, h1, h2⟩ => by
  subst e'
  rw [e] at e2
  injection e2 with e2 e3
  subst e2; subst e3
  exact ⟨v, q, u, r, e1, e, hl, aA6 l ht (fun i gn cs b o a1 a2 a3 => ho i gn cs b o a1 a2 (List.mem_append_left _ a3)) k1 h1, az8 l ht (fun i gn cs b o a1 a2 a3 => ho i gn cs b o a1 a2 (List.mem_append_right _ a3)) k2 h2⟩
theorem aA7 {imm imm' : Rd} (h : ∀ b L, imm b = some L → imm' b = some L) {w0 w : World} : ∀ {as : List VSp} {x : (aj1 as).den} {us : List Value} {nb : List Nat}, P9 imm w0 w as x us nb → P9 imm' w0 w as x us nb
 | [], _, _, _, k => k
 | _ :: _, _, _, _, ⟨u, r, n1, n2, e, e', k1, k2⟩ => ⟨u, r, n1, n2, e, e', ai3 h k1, aA7 h k2⟩
theorem aA8 : ∀ {as : List VSp} {x : (aj1 as).den} {vs : List Val} {s s' : St}, (a00 as x vs).run s = some ((), s') → s'.env = s.env ∧ ∀ B g w0 w, HRel B g s.hp w → ∀ us nb, X6 s.hp g w0 as vs us → P9 g.imm w0 w as x us nb → F5 g nb → (∀ b ∈ nb, g.nst b = none) →
  ∃ g', Le g g' ∧ (∀ x, x ∉ nb → g'.lab x = g.lab x ∧ g'.nst x = g.nst x) ∧ HRel B g' s'.hp w
 | [], x, vs, s, s', h => by
  cases vs with
  | nil =>
   obtain ⟨_, rfl⟩ := j0 h
   exact ⟨rfl, fun B g w0 w R us nb _ _ _ _ => ⟨g, Le.refl g, fun _ _ => ⟨rfl, rfl⟩, R⟩⟩
  | cons v r => exact nomatch h
 | a :: as, x, vs, s, s', h => by
  cases vs with
  | nil => exact nomatch h
  | cons v r =>
   obtain ⟨rest, t, h1, h2⟩ := AM.c8 h
   obtain ⟨e1, _, s1⟩ := be3 _ _ _ _ _ _ h1
   obtain ⟨e2, s2⟩ := aA8 h2
   refine ⟨e2.trans e1, fun B g w0 w R us nb hL hO hp hn => ?_⟩
   obtain ⟨v', r', u, q, ev, eu, hl, L1, L2⟩ := hL
   injection ev with ev1 ev2
   subst ev1; subst ev2
   obtain ⟨u', q', n1, n2, eu', rfl, O1, O2⟩ := hO
   rw [eu] at eu'
   injection eu' with eu1 eu2
   subst eu1; subst eu2
   have hnd := List.nodup_append.1 hp.1
   have hd : ∀ y ∈ n2, y ∉ n1 := fun y h2 h1 => hnd.2.2 y h1 y h2 rfl
   have ht : v.cells.take a.sp.size = v.cells := by rw [← hl, List.take_length]
   obtain ⟨g1, l1, k1, R1, t1⟩ := s1 B g w0 w R _ n1 (by rw [ht]; exact L1) O1 ⟨hnd.1, fun y hy => hp.2 y (List.mem_append_left _ hy)⟩ (fun y hy => hn y (List.mem_append_left _ hy))
   have L3 := az8 l1 R.as9 (fun i gn cs b' o a1 a2 a3 => t1 i gn cs b' o a1 a2 (hd b' a3)) O2 L2
   obtain ⟨g2, l2, k2, R2⟩ := s2 B g1 w0 w R1 _ n2 L3 (aA7 l1.imm O2) ⟨hnd.2.1, fun y hy => by rw [(k1 y (hd y hy)).1]; exact hp.2 y (List.mem_append_right _ hy)⟩
    (fun y hy => by rw [(k1 y (hd y hy)).2]; exact hn y (List.mem_append_right _ hy))
   refine ⟨g2, l1.trans l2, fun y hy => ?_, R2⟩
   rw [List.mem_append, not_or] at hy
   obtain ⟨a1, a2⟩ := k1 y hy.1
   obtain ⟨b1, b2⟩ := k2 y hy.2
   exact ⟨b1.trans a1, b2.trans a2⟩
theorem ay5 {imm : Rd} {hp : List (Nat × Obj)} {g : Gh} {w0 w1 w : World} : ∀ {s : Sp} {x : s.ty.den} {pl : Nat × Nat} {new : List Value} {nb : List Nat}, aB3 imm w0 w s x pl [] new nb → aq7 hp g w1 s [] []
 | .un, _, _, _, _, _ => trivial
 | .pub _, _, _, _, _, _ => trivial
 | .own _ _, _, _, _, _, _ => trivial
 | .bld, _, _, _, _, _ => trivial
 | .tak _, _, _, _, _, _ => trivial
 | .err, _, _, _, _, _ => trivial
 | .np, _, _, _, _, _ => trivial
 | .slf _ _, _, _, _, _, _ => trivial
 | .lnd _ _, _, _, _, _, k => by
  obtain ⟨rfl, k⟩ := k
  have := k.length
  simp at this
 | .pr _ _, _, _, _, _, ⟨u1, u2, n1, n2, e, e', k1, k2⟩ => by
  rw [List.take_nil] at k1
  rw [List.drop_nil] at k2
  refine ⟨?_, ?_⟩
  ·rw [List.take_nil, List.take_nil]; exact ay5 k1
  ·rw [List.drop_nil, List.drop_nil]; exact ay5 k2
 | .ptr _ _ _, _, _, _, _, ⟨b, o, arr0, ty0, arr, L, nb', e, _⟩ => by cases e
theorem aF8 {a : VSp} {x : a.sp.ty.den} {n n' : Nat} {v : Val} {s s' : St} (h : (bq2 a x n).run s = some ((v, n'), s')) : s'.env = s.env ∧ ∀ B g w, HRel B g s.hp w → ∀ u nb, aF6 g.imm w a x u nb → F5 g nb → (∀ b ∈ nb, g.nst b = none) →
  ∃ g', Le g g' ∧ (∀ x, x ∉ nb → g'.lab x = g.lab x ∧ g'.nst x = g.nst x) ∧ HRel B g' s'.hp w ∧ F4 g' v u := by
 cases a with
 | one sp =>
  obtain ⟨⟨p1, p2, p3⟩, t, h1, h2⟩ := AM.c8 h
  simp only at h2
  split at h2
  ·obtain ⟨h3, rfl⟩ := j0 h2
   injection h3 with h3 h4
   subst h3
   obtain ⟨e1, _, s1⟩ := al9 sp x _ _ _ _ _ _ _ _ h1
   refine ⟨e1, fun B g w R u nb hR hp hn => ?_⟩
   obtain ⟨g', l, k, R', hc, _⟩ := s1 B g w w R (0, 0) [] [u] nb (M1.none _ _) (by rw [List.take_nil]; exact ay5 hR.2) hR.2 hp hn
   obtain ⟨u', r, e, hu, hr⟩ := hc
   injection e with e _
   subst e
   exact ⟨g', l, k, R', hu⟩
  ·cases h2
 | agg sp =>
  obtain ⟨⟨p1, p2, p3⟩, t, h1, h2⟩ := AM.c8 h
  obtain ⟨h3, rfl⟩ := j0 h2
  injection h3 with h3 h4
  subst h3
  obtain ⟨e1, _, s1⟩ := al9 sp x _ _ _ _ _ _ _ _ h1
  refine ⟨e1, fun B g w R u nb hR hp hn => ?_⟩
  obtain ⟨us, rfl, hB⟩ := hR
  obtain ⟨g', l, k, R', hc, _⟩ := s1 B g w w R (0, 0) [] us nb (M1.none _ _) (by rw [List.take_nil]; exact ay5 hB) hB hp hn
  exact ⟨g', l, k, R', us, rfl, hc⟩
theorem aO5 {imm imm' : Rd} (h : ∀ b L, imm b = some L → imm' b = some L) {w : World} {a : VSp} {x : a.sp.ty.den} {u : Value} {nb : List Nat} (k : aF6 imm w a x u nb) : aF6 imm' w a x u nb := by
 cases a with
 | one s => exact ⟨k.1, aB3.mono h k.2⟩
 | agg s => obtain ⟨us, e, k⟩ := k; exact ⟨us, e, aB3.mono h k⟩
theorem an6 {imm imm' : Rd} (h : ∀ b L, imm b = some L → imm' b = some L) {w : World} : ∀ {as : List VSp} {x : (A6 as).den} {us : List Value} {nb : List Nat}, al2 imm w as x us nb → al2 imm' w as x us nb
 | [], _, _, _, k => k
 | _ :: _, _, _, _, ⟨u, r, n1, n2, e, e', k1, k2⟩ => ⟨u, r, n1, n2, e, e', aO5 h k1, an6 h k2⟩
theorem ay9 : ∀ {as : List VSp} {x : (A6 as).den} {n : Nat} {vs : List Val} {s s' : St}, (bc0 as x n).run s = some (vs, s') → s'.env = s.env ∧ ∀ B g w, HRel B g s.hp w → ∀ us nb, al2 g.imm w as x us nb → F5 g nb → (∀ b ∈ nb, g.nst b = none) →
  ∃ g', Le g g' ∧ HRel B g' s'.hp w ∧ F8 g' vs us
 | [], x, n, vs, s, s', h => by
  obtain ⟨rfl, rfl⟩ := j0 h
  exact ⟨rfl, fun B g w R us nb hR _ _ => ⟨g, Le.refl g, R, hR.1⟩⟩
 | a :: as, x, n, vs, s, s', h => by
  obtain ⟨⟨p1, p2⟩, t, h1, h2⟩ := AM.c8 h
  obtain ⟨q, t2, h3, h4⟩ := AM.c8 h2
  obtain ⟨rfl, rfl⟩ := j0 h4
  obtain ⟨e1, s1⟩ := aF8 h1
  obtain ⟨e2, s2⟩ := ay9 h3
  refine ⟨e2.trans e1, fun B g w R us nb hR hp hn => ?_⟩
  obtain ⟨u, r, n1, n2, rfl, rfl, k1, k2⟩ := hR
  have hnd := List.nodup_append.1 hp.1
  have hd : ∀ y ∈ n2, y ∉ n1 := fun y h2 h1 => hnd.2.2 y h1 y h2 rfl
  obtain ⟨g1, l1, t1, R1, c1⟩ := s1 B g w R u n1 k1 ⟨hnd.1, fun y hy => hp.2 y (List.mem_append_left _ hy)⟩ (fun y hy => hn y (List.mem_append_left _ hy))
  obtain ⟨g2, l2, R2, c2⟩ := s2 B g1 w R1 r n2 (an6 l1.imm k2) ⟨hnd.2.1, fun y hy => by rw [(t1 y (hd y hy)).1]; exact hp.2 y (List.mem_append_right _ hy)⟩
   (fun y hy => by rw [(t1 y (hd y hy)).2]; exact hn y (List.mem_append_right _ hy))
  exact ⟨g2, l1.trans l2, R2, u, r, rfl, c1.mono l2, c2⟩
theorem aS9 {imm imm' : Rd} (h : ∀ b L, imm b = some L → imm' b = some L) {w : World} {r : RSp} {x : r.ty.den} {v : Value} {nb : List Nat} (k : aJ7 imm w r x v nb) : aJ7 imm' w r x v nb := by
 cases r with
 | val a => exact aO5 h k
 | tup as => obtain ⟨us, e, k⟩ := k; exact ⟨us, e, an6 h k⟩
 | none => exact k
theorem aY3 {r : RSp} {x : r.ty.den} {n : Nat} {sl : Slot} {s s' : St} (h : (bb2 r x n).run s = some (sl, s')) : s'.env = s.env ∧ ∀ B g w, HRel B g s.hp w → ∀ v nb, aJ7 g.imm w r x v nb → F5 g nb → (∀ b ∈ nb, g.nst b = none) →
  ∃ g', Le g g' ∧ HRel B g' s'.hp w ∧ D0 g' sl v := by
 cases r with
 | val a =>
  obtain ⟨⟨p1, p2⟩, t, h1, h2⟩ := AM.c8 h
  obtain ⟨rfl, rfl⟩ := j0 h2
  obtain ⟨e1, s1⟩ := aF8 h1
  refine ⟨e1, fun B g w R v nb hR hp hn => ?_⟩
  obtain ⟨g', l, _, R', hv⟩ := s1 B g w R v nb hR hp hn
  exact ⟨g', l, R', hv⟩
 | tup as =>
  obtain ⟨p, t, h1, h2⟩ := AM.c8 h
  obtain ⟨rfl, rfl⟩ := j0 h2
  obtain ⟨e1, s1⟩ := ay9 h1
  refine ⟨e1, fun B g w R v nb hR hp hn => ?_⟩
  obtain ⟨us, rfl, hR⟩ := hR
  obtain ⟨g', l, R', hv⟩ := s1 B g w R us nb hR hp hn
  exact ⟨g', l, R', us, rfl, hv⟩
 | none =>
  obtain ⟨rfl, rfl⟩ := j0 h
  exact ⟨rfl, fun B g w R v nb hR hp hn => ⟨g, Le.refl g, R, [], by rw [hR.1], rfl⟩⟩
theorem M7.mono {P : Program} {f : FuncId} {args : Array Value} {w : World} {R R' : Value → World → Prop} (h : ∀ v w', R v w' → R' v w') (k : M7 P f args w R) : M7 P f args w R' := by
 unfold M7 at k ⊢
 split
 ·rename_i he
  rw [he] at k
  exact Calls.mono k fun e w' ⟨v, e1, hr⟩ => ⟨v, e1, h _ _ hr⟩
 ·rename_i he
  rw [he] at k
  exact h _ _ k
 ·rename_i h1 h2
  split at k
  ·rename_i he; exact h1 _ _ _ he
  ·rename_i he; exact h2 _ _ he
  ·exact k
theorem bH0 {α : Type} (c : Ty) (x : Option c.den) (k : c.den → AM α) (s : St) : (AM.opt c x k).run s = x.bind fun d => (k d).run s := by cases x <;> rfl
theorem aO2 {P : Program} {glob : Nat → Option (List Cell)} {f : FuncId} {c : Callee} {dd : Nat} {vs : List Val} {s s' : St} {sl : Slot} {chk : AM Unit} (hchk : ∀ t t', chk.run t = some ((), t') → t' = t) (hc : au9 P glob f c) (h : (bK7 chk c dd vs).run s = some (sl, s')) :
  s'.env = s.env ∧ ∃ t1 : St, t1.env = s.env ∧ chk.run t1 = some ((), t1) ∧ ∀ B g w, N2 glob g.imm → HRel B g s.hp w → ∀ us, F8 g vs us → (∀ g1 nb, Le g g1 → HRel B g1 t1.hp w → F5 g1 nb → a36 c.sig.args g1.imm w nb us) → M7 P f us.toArray w fun v w' => ∃ g', Le g g' ∧ HRel B g' s'.hp w' ∧ D0 g' sl v := by
 obtain ⟨x, t1, h1, h2⟩ := AM.c8 h
 obtain ⟨⟨⟩, t1', h1a, h2a⟩ := AM.c8 h2
 obtain rfl := hchk _ _ h1a
 have h2 := (bH0 _ _ _ _).symm.trans h2a
 cases hF : c.F x with
 | none => rw [hF] at h2; cases h2
 | some y =>
  rw [hF] at h2
  obtain ⟨⟨⟩, t2, h3, h4⟩ := AM.c8 h2
  obtain ⟨k1, s1⟩ := ag7 h1
  obtain ⟨e2, s2⟩ := aA8 h3
  obtain ⟨e3, s3⟩ := aY3 h4
  refine ⟨(e3.trans e2).trans k1.1, _, k1.1, h1a, fun B g w hG R us hu hS => ?_⟩
  obtain ⟨g1, l1, R1, c1⟩ := s1 B g w R
  obtain ⟨nb, hP, hO, hf, hL⟩ := c1 us hu
  have hcells : ∀ b L, g1.imm b = some L → ∃ arr ty fr, w.heap[b]? = some (.cells arr ty fr) ∧ arr.toList = L := fun b L hb => (R1.imm b L hb).2.2
  have hnb : ∀ b ∈ nb, g1.imm b = none ∧ b < w.heap.size := fun b hb => by
   have hl := hO.2 b hb
   refine ⟨?_, R1.labsz b (by rw [hl]; simp)⟩
   cases hi : g1.imm b with
   | none => rfl
   | some L => have := (R1.imm b L hi).1; rw [hl] at this; cases this
  refine M7.mono ?_ (hc x y hF g1.imm w us nb (hG.mono l1.le.imm) hcells hP hO.1 hnb (hS g1 nb l1.le R1 hO))
  rintro v w' ⟨imm', n1, n2, A, hR, hOut⟩
  obtain ⟨l2, R2, hO2, hn2⟩ := R1.after hO A
  have hL2 : X6 t1'.hp (g1.after nb imm' (n1 ++ n2)) w c.sig.args vs us := hL.mono l2 (fun id gn cs hl => ⟨hl, rfl⟩) R1.as9
  have hnd := List.nodup_append.1 hO2.1
  have hd : ∀ y ∈ n1, y ∉ n2 := fun y h1 h2 => hnd.2.2 y h1 y h2 rfl
  obtain ⟨g3, l3, k3, R3⟩ := s2 B _ w w' R2 us n2 hL2 hOut ⟨hnd.2.1, fun y hy => hO2.2 y (List.mem_append_right _ hy)⟩ (fun y hy => hn2 y (List.mem_append_right _ hy))
  have hR3 : aJ7 g3.imm w' c.sig.res y.1 v n1 := aS9 l3.imm hR
  obtain ⟨g4, l4, R4, hs⟩ := s3 B g3 w' R3 v n1 hR3 ⟨hnd.1, fun y hy => by rw [(k3 y (hd y hy)).1]; exact hO2.2 y (List.mem_append_left _ hy)⟩ (fun y hy => by rw [(k3 y (hd y hy)).2]; exact hn2 y (List.mem_append_left _ hy))
  exact ⟨g4, ((l1.le.trans l2).trans l3).trans l4, R4, hs⟩
theorem bn1 {P : Program} {glob : Nat → Option (List Cell)} {f : FuncId} {c : Callee} {dd : Nat} {vs : List Val} {s s' : St} {sl : Slot} (hc : an9 P glob f c) (hn : aG8 c.sig.args = none) (h : (call c dd vs).run s = some (sl, s')) :
  s'.env = s.env ∧ ∀ B g w, N2 glob g.imm → HRel B g s.hp w → ∀ us, F8 g vs us → M7 P f us.toArray w fun v w' => ∃ g', Le g g' ∧ HRel B g' s'.hp w' ∧ D0 g' sl v := by
 obtain ⟨e, t1, _, _, hs⟩ := aO2 (chk := .ret ()) (fun t t' k => (j0 k).2) hc.slf h
 exact ⟨e, fun B g w hG R us hu => hs B g w hG R us hu fun _ _ _ _ _ => a36.none hn⟩
end Go.Abs
end

section
namespace Go.Abs
structure EnvOk (E : Env) : Prop where
 calls : ∀ f c, E.callee f = some c → au9 E.P E.glob f c
def bR4 (E : Env) (B : Base) : Prop := ∀ f ts, E.slf = some (f, ts) → ts ≠ [] →
 ∃ b ty, B.arg (ts.getLastD 0) = .pointer (some ⟨b, 0, none⟩) ∧ B.w.heap[b]? = some (.cells #[.func (.func f) #[] (ts.map B.arg).toArray] ty (0, 0)) ∧ B.lab b = none ∧ B.imm b = none
structure ActRel (E : Env) (B : Base) (g : Gh) (env : List (Nat × Slot)) (a : Act) : Prop where
 env : O0 g env a
 size : a.tmps.size = E.nt
 defers : a.defers = []
 kept : ∀ t ∈ E.av4, a.tmps.getD t undef = B.arg t
 slf : bR4 E B
theorem ActRel.mono {E : Env} {B : Base} {g g' : Gh} (h : Le g g') {env : List (Nat × Slot)} {a : Act} (H : ActRel E B g env a) : ActRel E B g' env a := ⟨H.env.mono h, H.size, H.defers, H.kept, H.slf⟩
def bP2 (E : Env) (op : Op) (s : St) (sl : Slot) (s' : St) : Prop :=
 s'.env = s.env ∧ ∀ (o : Oper), o.op = op → ∀ B g a w, N2 E.glob g.imm → HRel B g s.hp w → ActRel E B g s.env a → ∀ (next : Act → World → Prop) (Q : Exit → Act → World → Prop),
  (∀ v w' g', Le g g' → HRel B g' s'.hp w' → D0 g' sl v → next (a.put o.dst v) w') → o.wp E.P a w next Q
theorem Yld.ok {E : Env} {op : Op} {s s' : St} {sl : Slot} (h : Yld E op s sl s') : bP2 E op s sl s' := by
 refine ⟨h.1, fun o ho B g a w _ R V next Q hn => ?_⟩
 obtain ⟨v, w', g', e, l, R', hs⟩ := h.2 o ho B g a w R V.env
 unfold Oper.wp
 rw [e]
 exact hn v w' g' l R' hs
theorem av9 {g : Gh} : ∀ {caps : List (Nat × Nat)} {us : List Value}, aP1 g caps us → F8 g (caps.map fun p => .one (.ptr p.1 p.2 0)) us
 | [], _, h => h
 | p :: r, us, ⟨b, o, v, e, h1, h2, h3⟩ => ⟨_, _, e, ⟨h1, b, o, h2, rfl⟩, av9 h3⟩
theorem F8.append {g : Gh} : ∀ {a b : List Val} {us vs : List Value}, F8 g a us → F8 g b vs → F8 g (a ++ b) (us ++ vs)
 | [], _, _, _, h, k => by have h : _ = _ := h; subst h; exact k
 | _ :: _, _, _, _, ⟨u, r, e, hu, hr⟩, k => by subst e; exact ⟨u, _, rfl, hu, hr.append k⟩
theorem aP1.eq {g : Gh} : ∀ {caps : List (Nat × Nat)} {us vs : List Value}, aP1 g caps us → aP1 g caps vs → us = vs
 | [], _, _, h, k => by have h : _ = _ := h; have k : _ = _ := k; rw [h, k]
 | _ :: _, _, _, ⟨b, o, v, e, _, h2, h3⟩, ⟨b', o', v', e', _, h2', h3'⟩ => by
  rw [h2] at h2'
  rw [e, e', h2', aP1.eq h3 h3']
theorem aP1.last {g : Gh} : ∀ {caps : List (Nat × Nat)} {us : List Value} {p : Nat × Nat}, aP1 g caps us → caps.getLast? = some p → us.getLast? = some (g.cv p.1 p.2)
 | [], _, _, _, h => by cases h
 | [q], _, p, ⟨b, o, v, e, h1, h2, h3⟩, h => by
  have h3 : v = [] := h3
  have h : some q = some p := h
  injection h with h
  subst h; subst h3; subst e
  rw [h2]; rfl
 | q :: q' :: r, _, p, ⟨b, o, v, e, h1, h2, h3⟩, h => by
  have ih := aP1.last h3 (p := p) (by simpa using h)
  obtain ⟨b', o', v', e', _⟩ := h3
  subst e; subst e'
  simpa using ih
theorem ab1 : ∀ {ts : List Nat} {cs : List (Nat × Nat)} {s s' : St}, (aB5 ts).run s = some (cs, s') → s' = s ∧ ∀ g a, O0 g s.env a → aP1 g cs (ts.map fun t => a.tmps.getD t undef)
 | [], cs, s, s', h => by
  obtain ⟨rfl, rfl⟩ := j0 h
  exact ⟨rfl, fun g a V => rfl⟩
 | t :: ts, cs, s, s', h => by
  simp only [aB5, AM.run] at h
  split at h
  ·rename_i x hx
   split at h
   ·rename_i id gen
    obtain ⟨c2, t2, h1, h2⟩ := AM.c8 h
    obtain ⟨rfl, rfl⟩ := j0 h2
    obtain ⟨rfl, k⟩ := ab1 h1
    refine ⟨rfl, fun g a V => ?_⟩
    have hc : s6 g (.ptr id gen 0) (a.tmps.getD t undef) := V t _ hx
    obtain ⟨h1, b, o, h2, h3⟩ := hc
    exact ⟨b, o, _, by rw [List.map_cons, h3]; rfl, h1, h2, k g a V⟩
   ·cases h
  ·cases h
theorem bu6 {w : World} {b : Nat} {o : Go.Obj} (h : w.heap[b]? = some o) : b < w.heap.size := (Array.getElem?_eq_some_iff.1 h).1
theorem F8.length {g : Gh} : ∀ {vs : List Val} {us : List Value}, F8 g vs us → vs.length = us.length
 | [], _, h => by have h : _ = _ := h; rw [h]; rfl
 | _ :: _, _, ⟨_, _, e, _, hr⟩ => by rw [e, List.length_cons, List.length_cons, F8.length hr]
theorem ar1 {E : Env} {ts : List Nat} (h : kept E ts = true) : ts ≠ [] ∧ ∀ t ∈ ts, t ∈ E.av4 := by
 have h : (!ts.isEmpty && ts.all fun t => E.av4.any (Nat.beq t)) = true := h
 rw [Bool.and_eq_true] at h
 refine ⟨fun e => by subst e; exact absurd h.1 (by decide), fun t ht => ?_⟩
 obtain ⟨u, hu, he⟩ := List.any_eq_true.1 (List.all_eq_true.1 h.2 t ht)
 rw [beq_eq he]; exact hu
theorem bf3 {E : Env} {B : Base} {g : Gh} {env : List (Nat × Slot)} {a : Act} (V : ActRel E B g env a) {ts : List Nat} (h : kept E ts = true) : (ts.map fun t => a.tmps.getD t undef) = ts.map B.arg :=
 List.map_congr_left fun t ht => V.kept t ((ar1 h).2 t ht)
theorem ak9 : ∀ {a b : List (Nat × Nat)}, aq5 a b = true → a = b
 | [], [], _ => rfl
 | x :: a, y :: b, h => by
  simp only [aq5, Bool.and_eq_true] at h
  rw [ak9 h.2]
  congr 1
  exact Prod.ext (beq_eq h.1.1) (beq_eq h.1.2)
 | [], _ :: _, h => by cases h
 | _ :: _, [], h => by cases h
theorem bu0 {E : Env} {f : FuncId} {caps : List (Nat × Nat)} (t t' : St) (h : (a63 E f caps).run t = some ((), t')) : t' = t := by
 unfold a63 at h
 split at h
 ·obtain ⟨_, h⟩ := s7 h
  obtain ⟨cs, t2, h1, h2⟩ := AM.c8 h
  obtain ⟨rfl, _⟩ := ab1 h1
  obtain ⟨_, h2⟩ := s7 h2
  exact (j0 h2).2
 ·unfold bH8 at h
  split at h
  ·simp only [AM.run] at h
   split at h
   ·obtain ⟨_, h⟩ := s7 h
    exact (j0 h).2
   ·cases h
  ·cases h
theorem bL0 {E : Env} {f : FuncId} {caps : List (Nat × Nat)} {t : St} (h : (a63 E f caps).run t = some ((), t)) {B : Base} {g g1 : Gh} {env : List (Nat × Slot)} {a : Act} {w : World} (V : ActRel E B g env a) (he : t.env = env) (l : Le g g1) (R1 : HRel B g1 t.hp w) {nb : List Nat} (hO : F5 g1 nb)
  {as : List VSp} {args vs : List Value} (hs : aG8 as = some (f, args.length)) (hc : aP1 g caps vs) : a36 as g1.imm w nb (args ++ vs) := by
 intro f' m hm
 rw [hs] at hm
 injection hm with hm; injection hm with hm1 hm2
 subst hm1; subst hm2
 rw [List.drop_left]
 have hc1 := hc.mono l
 have lastA : ∀ {x : Value}, vs.getLast? = some x → (args ++ vs).getLast? = some x := fun {x} hx => by
  rw [List.getLast?_append, hx]; rfl
 unfold a63 at h
 split at h
 ·rename_i f' ts hE
  obtain ⟨hb, h0⟩ := s7 h
  simp only [Bool.and_eq_true] at hb
  obtain rfl := beq_eq hb.1
  obtain ⟨cs, t2, h1, h2⟩ := AM.c8 h0
  obtain ⟨e2, k⟩ := ab1 h1
  subst e2
  obtain ⟨h3, _⟩ := s7 h2
  obtain rfl := ak9 h3
  subst he
  have k2 := k g a V.env
  rw [bf3 V hb.2] at k2
  have hv : vs = ts.map B.arg := hc.eq k2
  obtain ⟨b, ty, q1, q2, q3, q4⟩ := V.slf _ ts hE (ar1 hb.2).1
  obtain ⟨f1, f2, f3⟩ := R1.frame b (bu6 q2) q3 q4
  refine ⟨b, ty, ?_, by rw [f3, q2, hv], fun hb => ?_, f2⟩
  ·apply lastA
   rw [hv, ← q1, List.getLast?_map]
   have hne := (ar1 hb.2).1
   rw [List.getLast?_eq_some_getLast hne, List.getLastD_eq_getLast?, List.getLast?_eq_some_getLast hne]; rfl
  ·have := hO.2 b hb; rw [f1] at this; cases this
 ·unfold bH8 at h
  split at h
  ·rename_i p hp
   simp only [AM.run] at h
   split at h
   ·rename_i g0 bt f2 cs heq
    obtain ⟨hb, _⟩ := s7 h
    simp only [Bool.and_eq_true] at hb
    obtain rfl := beq_eq hb.1.1
    obtain rfl := beq_eq hb.1.2
    obtain rfl := ak9 hb.2
    obtain ⟨b, o, arr, ty, L, k1, k2, k3, k4, k5, k6, k7, k8, k9⟩ := R1.objs _ _ heq
    subst k7
    obtain ⟨u, r, e, hu, hr⟩ := k4
    have hr : r = [] := hr
    subst hr; subst e
    obtain ⟨vs', e, hv⟩ := hu
    have hvv : vs = vs' := hc1.eq hv
    subst hvv; subst e
    have hlen : (g1.outer p.1).length = 1 := k8
    have harr : arr = #[.func (.func f2) #[] vs.toArray] := by
     apply Array.ext'
     rw [k5, List.take_zero, List.nil_append, List.drop_eq_nil_of_le (by simp [hlen]), List.append_nil]
    refine ⟨b, ty, lastA (by rw [aP1.last hc1 hp]; exact congrArg some k1), by rw [k3, harr], fun hb => ?_, ?_⟩
    ·have := hO.2 b hb; rw [k2.1] at this; injection this with this; cases this
    ·cases hi : g1.imm b with
     | none => rfl
     | some L => have := (R1.imm b L hi).1; rw [k2.1] at this; cases this
   ·cases h
  ·cases h
theorem a60 {E : Env} (hE : EnvOk E) {c : Call} {f : Operand} (hc : c.callee = .value f) {d : Nat} {s s' : St} {sl : Slot} (h : (I1 E d (.call c)).run s = some (sl, s')) : bP2 E (.call c) s sl s' := by
 unfold I1 at h
 simp only [hc] at h
 obtain ⟨vs, t1, h1, h2⟩ := AM.c8 h
 obtain ⟨v, t2, h3, h4⟩ := AM.c8 h2
 obtain ⟨cl, t3, h5, h6⟩ := AM.c8 h4
 obtain ⟨rfl, r1⟩ := U4 h1
 obtain ⟨rfl, r2⟩ := C6 h3
 obtain ⟨rfl, rfl⟩ := aN3 h5
 unfold bB9 at h6
 split at h6
 ·rename_i fid caps
  cases hcl : E.callee fid with
  | none => rw [hcl] at h6; cases h6
  | some cal =>
   rw [hcl] at h6
   simp only at h6
   have key : s'.env = t3.env ∧ ∀ B g a w, N2 E.glob g.imm → HRel B g t3.hp w → ActRel E B g t3.env a → ∀ us, aP1 g caps us → M7 E.P fid ((c.args.toList.map a.eval) ++ us).toArray w fun v w' => ∃ g', Le g g' ∧ HRel B g' s'.hp w' ∧ D0 g' sl v := by
    split at h6
    ·rename_i hsn
     obtain ⟨e1, hs⟩ := bn1 ((hE.calls fid cal hcl).plain hsn) hsn h6
     exact ⟨e1, fun B g a w hG R V us hcaps => hs B g w hG R _ ((r1 V.env).append (av9 hcaps))⟩
    ·rename_i sf hsf
     obtain ⟨hb, h6⟩ := s7 h6
     simp only [Bool.and_eq_true] at hb
     obtain rfl := beq_eq hb.1
     obtain ⟨e1, t1, e2, hchk, hs⟩ := aO2 (bu0) (hE.calls _ cal hcl) h6
     refine ⟨e1, fun B g a w hG R V us hcaps => hs B g w hG R _ ((r1 V.env).append (av9 hcaps)) fun g1 nb l R1 hO => ?_⟩
     have hlen : sf.2 = (c.args.toList.map a.eval).length := by
      rw [beq_eq hb.2]
      exact (F8.length (r1 V.env))
     exact bL0 hchk V e2 l R1 hO (by rw [hsf, ← hlen]) hcaps
   obtain ⟨e1, hs⟩ := key
   refine ⟨e1, fun o ho B g a w hG R V next Q hn => ?_⟩
   obtain ⟨us, eu, hcaps⟩ := r2 V.env
   have hI := hs B g a w hG R V us hcaps
   unfold Oper.wp
   have hexec : (execOp a.eval o).run E.P w = (callFunc fid ((c.args.toList.map a.eval) ++ us).toArray).run E.P w := by
    unfold execOp; rw [ho]
    have ea : (List.map a.eval c.args.toList ++ us).toArray = c.args.map a.eval ++ us.toArray := by
     apply Array.ext'
     simp
    rw [ea]
    simp only [resolve, hc]
    rw [show a.eval f = _ from eu]
    simp [Deferred.ofValue, invoke]
   rw [hexec]
   unfold M7 at hI
   split at hI
   ·rename_i f' a' w1 hrun
    rw [hrun]
    refine Calls.mono hI fun e w' ⟨v, ee, hv⟩ => ?_
    subst ee
    obtain ⟨g', l, R', hsl⟩ := hv
    exact hn v w' g' l R' hsl
   ·rename_i v w1 hrun
    rw [hrun]
    obtain ⟨g', l, R', hsl⟩ := hI
    exact hn v w1 g' l R' hsl
   ·exact hI.elim
 ·cases h6
theorem aE1 {E : Env} (hE : EnvOk E) {op : Op} {d : Nat} {s s' : St} {sl : Slot} (h : (I1 E d op).run s = some (sl, s')) : bP2 E op s sl s' := by
 cases op with
 | move x => exact (aT1 h).1.ok
 | assign x => exact (aT1 h).2.ok
 | pick c a b => exact (bm9 h).ok
 | alloc t => exact (bb6 h).ok
 | box t x => exact (br6 h).ok
 | build t ps => exact (ba8 h).ok
 | buildSlice t n ps => exact (aI1 h).ok
 | load t x =>
  have h : (match bc9 E t x with
   | some p => (aB5 p.2).bind fun cs => AM.ret (Slot.val (Val.one (Cell.fn p.1 cs)))
   | none => bv2 E d t x).run s = some (sl, s') := h
  split at h
  ·rename_i p hp
   obtain ⟨cs, t2, h1, h2⟩ := AM.c8 h
   obtain ⟨e1, k⟩ := ab1 h1
   obtain ⟨rfl, rfl⟩ := j0 h2
   subst e1
   refine ⟨rfl, fun o ho B g a w hG R V next Q hn => ?_⟩
   unfold bc9 at hp
   split at hp
   ·rename_i f ts k' hE
    cases hc : (Nat.beq k' (ts.getLastD 0) && kept E ts && bD9 (E.isAgg t)) with
    | false => rw [hc] at hp; cases hp
    | true =>
     rw [hc] at hp
     injection hp with hp
     subst hp
     simp only [Bool.and_eq_true] at hc
     obtain rfl := beq_eq hc.1.1
     have hag : E.isAgg t = some false := by
      have := hc.2
      revert this
      cases E.isAgg t with
      | none => exact fun h => by cases h
      | some b => cases b <;> intro h <;> first | rfl | cases h
     obtain ⟨b, ty, q1, q2, q3, q4⟩ := V.slf _ ts hE (ar1 hc.1.2).1
     obtain ⟨f1, f2, f3⟩ := R.frame b (bu6 q2) q3 q4
     have hne := (ar1 hc.1.2).1
     have hmem : ts.getLastD 0 ∈ ts := by rw [List.getLastD_eq_getLast?, List.getLast?_eq_some_getLast hne]; exact List.getLast_mem hne
     have ha : a.tmps.getD (ts.getLastD 0) undef = .pointer (some ⟨b, 0, none⟩) := (V.kept _ ((ar1 hc.1.2).2 _ hmem)).trans q1
     have k2 := k g a V.env
     rw [bf3 V hc.1.2] at k2
     have hcell : w.cell? ⟨b, 0, none⟩ = some (.func (.func f) #[] (ts.map B.arg).toArray) := by
      have hw := f3.trans q2
      simp [World.cell?, hw]
     have hrun : (execOp a.eval o).run E.P w = .ok (.value (.func (.func f) #[] (ts.map B.arg).toArray)) w := by
      unfold execOp; rw [ho]
      apply D8
      show (Instr.loadAt t (a.tmps.getD (ts.getLastD 0) undef)).run E.P w = _
      rw [ha]
      simp only [Instr.loadAt, Instr.sureAddr, loadVar, Sem.run_bind, Sem.run_pure, Result.andThen_ok, an7 hag, Sem.run_ite]
      simp [hcell]
     unfold Oper.wp
     rw [hrun]
     exact hn _ w g (Le.refl g) R ⟨_, rfl, k2⟩
   ·cases hp
  obtain ⟨e, hs⟩ := bn9 h
  refine ⟨e, fun o ho B g a w hG R V next Q hn => ?_⟩
  obtain ⟨v, w', g', e', l, R', hsl⟩ := hs o ho B g a w hG.one R V.env
  unfold Oper.wp
  rw [e']
  exact hn v w' g' l R' hsl
 | store t x y =>
  obtain ⟨e, rfl, hs⟩ := bc5 h
  refine ⟨e, fun o ho B g a w hG R V next Q hn => ?_⟩
  obtain ⟨w', g', e', l, R'⟩ := hs o ho B g a w R V.env
  unfold Oper.wp
  rw [e']
  exact hn undef w' g' l R' trivial
 | nilCheck x => exact (aR6 h).ok
 | binOp op t x y ty => exact (bo4 h).ok
 | unOp op t x =>
  cases op with
  | not => exact (bo3 h).ok
  | neg => exact (br9 h).ok
  | _ => cases h
 | convert a b x => exact (aZ5 h).ok
 | makeInterface t x => exact (aw3 h).ok
 | makeFunc f a b => exact (aQ0 h).ok
 | makeSlice t l c => exact (aL5 h).ok
 | slice t x lo hi mx =>
  cases mx with
  | none => exact (bc2 h).ok
  | some m => cases h
 | fieldAddr t x i => exact (aP2 h).ok
 | field t x i => exact (bb5 h).ok
 | indexAddr t x i => exact (aN7 h).ok
 | index t x i => exact (bf1 h).ok
 | extract t i => exact (a08 h).ok
 | call c =>
  cases hc : c.callee with
  | value f => exact a60 hE hc h
  | builtin b =>
   cases b with
   | len => exact (bq3 hc h).ok
   | max => exact (bt3 hc h).ok
   | append => exact (a30 hc h).ok
   | _ => unfold I1 at h; simp only [hc] at h; cases h
  | invoke r m => unfold I1 at h; simp only [hc] at h; cases h
 | _ => cases h
theorem bx9 (a : Act) {d t : Nat} (v : Value) (e : d ≠ t) : (a.put (some d) v).tmps.getD t undef = a.tmps.getD t undef := by
 simp [Act.put, Array.getD_eq_getD_getElem?, Array.getElem?_setIfInBounds_ne e]
theorem bw2 {E : Env} {d : Nat} (h : (!E.av4.any (Nat.beq d)) = true) : ∀ t ∈ E.av4, d ≠ t := by
 intro t ht e
 subst e
 have : E.av4.any (Nat.beq d) = true := List.any_eq_true.2 ⟨d, ht, Nat.beq_refl d⟩
 rw [this] at h
 cases h
theorem bs8 {E : Env} {B : Base} {g : Gh} {env : List (Nat × Slot)} {a : Act} (H : ActRel E B g env a) {d : Nat} {sl : Slot} {v : Value} (hd : d < E.nt) (hk : ∀ t ∈ E.av4, d ≠ t) (hs : D0 g sl v) : ActRel E B g ((d, sl) :: env) (a.put (some d) v) := by
 refine ⟨fun t s ht => ?_, by simpa [Act.put] using H.size, H.defers, fun t ht => by rw [bx9 a v (hk t ht)]; exact H.kept t ht, H.slf⟩
 by_cases e : d = t
 ·subst e
  rw [l9] at ht
  injection ht with ht
  subst ht
  have : (a.put (some d) v).tmps.getD d undef = v := by
   have hlt : d < a.tmps.size := by rw [H.size]; exact hd
   simp [Act.put, Array.getD, hlt]
  rw [this]
  exact hs
 ·rw [j6 _ _ e] at ht
  have : (a.put (some d) v).tmps.getD t undef = a.tmps.getD t undef := by
   simp [Act.put, Array.getD_eq_getD_getElem?, Array.getElem?_setIfInBounds_ne e]
  rw [this]
  exact H.env t s ht
theorem ActRel.bh3 {E : Env} {B : Base} {g : Gh} {env env' : List (Nat × Slot)} {a : Act} (H : ActRel E B g env a) (e : env' = env) : ActRel E B g env' a := by subst e; exact H
def bL3 (E : Env) (o : Oper) (s s' : St) : Prop :=
 ∀ B g a w, N2 E.glob g.imm → HRel B g s.hp w → ActRel E B g s.env a → ∀ (next : Act → World → Prop) (Q : Exit → Act → World → Prop),
  (∀ a' w' g', Le g g' → HRel B g' s'.hp w' → ActRel E B g' s'.env a' → next a' w') → o.wp E.P a w next Q
theorem aV7 {E : Env} (hE : EnvOk E) {n : Nat} {o : Oper} {s s' : St} (h : (step E n o).run s = some ((), s')) : bL3 E o s s' := by
 intro B g a w hG R V next Q hn
 unfold step at h
 split at h
 ·rename_i d hd
  obtain ⟨hb, h1⟩ := s7 h
  obtain ⟨sl, t, h2, h3⟩ := AM.c8 h1
  simp only [AM.run, Option.some.injEq, Prod.mk.injEq] at h3
  obtain ⟨_, rfl⟩ := h3
  obtain ⟨e, hs⟩ := aE1 hE h2
  refine hs o rfl B g a w hG R V next Q fun v w' g' l R' hsl => hn _ w' g' l R' ?_
  rw [hd]
  simp only [Bool.and_eq_true] at hb
  refine bs8 ?_ (Nat.le_of_ble_eq_true hb.1) (bw2 hb.2) hsl
  exact (V.mono l).bh3 e
 ·rename_i hd
  obtain ⟨sl, t, h2, h3⟩ := AM.c8 h
  obtain ⟨_, rfl⟩ := j0 h3
  obtain ⟨e, hs⟩ := aE1 hE h2
  refine hs o rfl B g a w hG R V next Q fun v w' g' l R' hsl => hn _ w' g' l R' ?_
  rw [hd]
  exact (V.mono l).bh3 e
end Go.Abs
end

section
namespace Go.Abs
def St.Eqv (s t : St) : Prop := (∀ i, look s.env i = look t.env i) ∧ ∀ i, look s.hp i = look t.hp i
theorem St.Eqv.refl (s : St) : St.Eqv s s := ⟨fun _ => rfl, fun _ => rfl⟩
theorem St.Eqv.symm {s t : St} (h : St.Eqv s t) : St.Eqv t s := ⟨fun i => (h.1 i).symm, fun i => (h.2 i).symm⟩
theorem St.Eqv.trans {s t u : St} (h : St.Eqv s t) (k : St.Eqv t u) : St.Eqv s u := ⟨fun i => (h.1 i).trans (k.1 i), fun i => (h.2 i).trans (k.2 i)⟩
theorem ActRel.congr {E : Env} {B : Base} {g : Gh} {e e' : List (Nat × Slot)} {a : Act} (h : ∀ i, look e' i = look e i) (H : ActRel E B g e a) : ActRel E B g e' a := ⟨fun t s hs => H.env t s (by rw [← h t]; exact hs), H.size, H.defers, H.kept, H.slf⟩
theorem bv0 {E : Env} {o : Oper} {s s' : St} (h : (skip E o).run s = some ((), s')) : s'.hp = s.hp ∧ ∀ B g a, ActRel E B g s.env a → ActRel E B g s'.env (a.put o.dst undef) := by
 unfold skip at h
 split at h
 ·rename_i d hdst
  obtain ⟨hb, h1⟩ := s7 h
  simp only [AM.run, Option.some.injEq, Prod.mk.injEq] at h1
  obtain ⟨_, rfl⟩ := h1
  simp only [Bool.and_eq_true] at hb
  exact ⟨rfl, fun B g a V => by rw [hdst]; exact bs8 V (Nat.le_of_ble_eq_true hb.1) (bw2 hb.2) rfl⟩
 ·rename_i hdst
  obtain ⟨_, rfl⟩ := j0 h
  exact ⟨rfl, fun B g a V => by rw [hdst]; exact V⟩
theorem bi4 : ∀ (ops : List Oper) (j : Nat), bp5 ops j = ops[j]?
 | [], _ => by simp [bp5]
 | _ :: _, 0 => rfl
 | _ :: r, j + 1 => by simp [bp5, bi4 r j]
theorem a27 (ops : List Oper) (j : Nat) : aA1 ops j = (ops.toArray[j]?).bind (·.dst) := by simp [aA1, bi4]
theorem aL9 {E : Env} (hE : EnvOk E) {ops : List Oper} {n i : Nat} {o : Oper} {s s' : St} (ho : ops[i]? = some o) (h : (stepG E ops n o).run s = some ((), s')) {B : Base} {g : Gh} {a : Act} {w : World} (hG : N2 E.glob g.imm) (R : HRel B g s.hp w) (V : ActRel E B g s.env a)
  {K : Act → World → Prop} {Q : Exit → Act → World → Prop} (hK : ∀ a' w' g', Le g g' → HRel B g' s'.hp w' → ActRel E B g' s'.env a' → K a' w') : wpOp E.P ops.toArray Q i K a w := by
 unfold wpOp
 have ho' : ops.toArray[i]? = some o := by simpa using ho
 rw [ho']
 simp only
 unfold stepG at h
 split at h
 ·rename_i hg
  have hw : Region.wanted o (yielded ops.toArray a.tmps) = true := by simp [Region.wanted, hg]
  rw [if_pos hw]
  exact .inl (aV7 hE h B g a w hG R V K Q hK)
 ·rename_i j want hg
  obtain ⟨d, t, h1, h2⟩ := AM.c8 h
  obtain ⟨hd, rfl⟩ := A7 h1
  simp only [AM.run] at h2
  split at h2
  ·rename_i sl hsl
   split at h2
   ·rename_i gv
    have hv : a.tmps.getD d undef = .bool gv := V7 (V.env d _ hsl)
    have hy : yielded ops.toArray a.tmps j = some gv := by
     unfold yielded
     rw [← a27, hd]
     have : a.tmps[d]? = some (.bool gv) := by
      rw [Array.getD_eq_getD_getElem?] at hv
      cases hx : a.tmps[d]? with
      | none => rw [hx] at hv; simp [undef] at hv
      | some u => rw [hx] at hv; simpa using hv
     simp [this]
    rcases bq8 h2 with ⟨hb, h3⟩ | ⟨hb, h3⟩
    ·have hw : Region.wanted o (yielded ops.toArray a.tmps) = true := by
      simp only [Region.wanted, hg, hy]
      simpa using hb
     rw [if_pos hw]
     exact .inl (aV7 hE h3 B g a w hG R V K Q hK)
    ·have hw : Region.wanted o (yielded ops.toArray a.tmps) ≠ true := by
      simp only [Region.wanted, hg, hy]
      simpa using hb
     rw [if_neg hw]
     obtain ⟨e, k⟩ := bv0 h3
     exact hK _ _ g (Le.refl g) (by rw [e]; exact R) (k B g a V)
   ·have hv : a.tmps.getD d undef = undef := V.env d _ hsl
    have hy : yielded ops.toArray a.tmps j = none := by
     unfold yielded
     rw [← a27, hd]
     rw [Array.getD_eq_getD_getElem?] at hv
     cases hx : a.tmps[d]? with
     | none => simp [hx]
     | some u => rw [hx] at hv; simp only [Option.getD_some] at hv; subst hv; simp [hx, undef]
    have hw : Region.wanted o (yielded ops.toArray a.tmps) ≠ true := by
     simp [Region.wanted, hg, hy]
    rw [if_neg hw]
    obtain ⟨e, k⟩ := bv0 h2
    exact hK _ _ g (Le.refl g) (by rw [e]; exact R) (k B g a V)
   ·cases h2
  ·cases h2
theorem aV3 {E : Env} {ops : List Oper} {n j d : Nat} {o : Oper} {want gv : Bool} {s : St} (hg : o.guard = some (j, want)) (hd : aA1 ops j = some d) (hs : look s.env d = some (.val (.one (.v .bool gv)))) :
  (stepG E ops n o).run s = (bif gv == want then step E (alt n) o else skip E o).run s := by
 unfold stepG
 rw [hg]
 simp only [hd, T8, AM.run_bind, AM.run, Option.bind_some, hs]
 cases gv == want <;> rfl
theorem bz2 {E : Env} {ops : List Oper} {n j d : Nat} {o : Oper} {want : Bool} {s : St} (hg : o.guard = some (j, want)) (hd : aA1 ops j = some d) (hs : look s.env d = some .sk) :
  (stepG E ops n o).run s = (skip E o).run s := by
 unfold stepG
 rw [hg]
 simp only [hd, T8, AM.run_bind, AM.run, Option.bind_some, hs]
theorem a02 {ρ : Type} {b : Bool} {t e : Option ρ} {r : ρ} (h : brk b t e = some r) : (b = true ∧ t = some r) ∨ (b = false ∧ e = some r) := by
 rw [J7] at h
 cases b
 ·exact .inr ⟨rfl, h⟩
 ·exact .inl ⟨rfl, h⟩
theorem W2 {α ρ : Type} {m : AM α} {s : St} {K : α → St → Option ρ} {r : ρ} (h : m.exec s K = some r) : ∃ a t, m.run s = some (a, t) ∧ K a t = some r := by
 rw [AM.by2] at h
 cases hm : m.run s with
 | none => rw [hm] at h; cases h
 | some p => rw [hm] at h; exact ⟨p.1, p.2, rfl, h⟩
theorem aZ6 {s : St} {d : Nat} {x : Slot} (h : look s.env d = some x) : St.Eqv { s with env := (d, x) :: s.env } s := by
 refine ⟨fun i => ?_, fun _ => rfl⟩
 by_cases e : d = i
 ·subst e; show look ((d, x) :: s.env) d = _; rw [l9, h]
 ·exact j6 _ _ e
theorem a97 {ρ : Type} {E : Env} {ops : List Oper} {o : Oper} {r : List Oper} {n : Nat} {s : St} {K : St → Option ρ} {x : ρ} (h : ah6 E ops (o :: r) n s K = some x) :
  ∃ s0 t, St.Eqv s0 s ∧ (stepG E ops n o).run s0 = some ((), t) ∧ ah6 E ops r (n + 1) t K = some x := by
 unfold ah6 at h
 split at h
 ·rename_i hg
  obtain ⟨⟨⟩, t, h1, h2⟩ := W2 h
  exact ⟨s, t, St.Eqv.refl s, by unfold stepG; rw [hg]; exact h1, h2⟩
 ·rename_i j want hg
  split at h
  ·rename_i d hd
   split at h
   ·rename_i gv hs
    rcases a02 h with ⟨rfl, h'⟩ | ⟨rfl, h'⟩
    ·obtain ⟨⟨⟩, t, h1, h2⟩ := W2 h'
     refine ⟨_, t, aZ6 hs, ?_, h2⟩
     rw [aV3 hg hd (l9 _ _ _)]
     cases want <;> exact h1
    ·obtain ⟨⟨⟩, t, h1, h2⟩ := W2 h'
     refine ⟨_, t, aZ6 hs, ?_, h2⟩
     rw [aV3 hg hd (l9 _ _ _)]
     cases want <;> exact h1
   ·rename_i hs
    obtain ⟨⟨⟩, t, h1, h2⟩ := W2 h
    exact ⟨s, t, St.Eqv.refl s, by rw [bz2 hg hd hs]; exact h1, h2⟩
   ·cases h
  ·cases h
def KOk {ρ : Type} (E : Env) (B : Base) (K : St → Option ρ) (x : ρ) (Q : Act → World → Prop) : Prop :=
 ∀ s g a w, K s = some x → N2 E.glob g.imm → HRel B g s.hp w → ActRel E B g s.env a → Q a w
theorem ax8 {ρ : Type} {E : Env} (hE : EnvOk E) {B : Base} {ops : List Oper} {K : St → Option ρ} {x : ρ} {Q : Exit → Act → World → Prop} (hK : KOk E B K x (Q .normal)) :
  ∀ (r : List Oper) (n : Nat) (s : St), ops.drop n = r → ah6 E ops r n s K = some x → ∀ g a w, N2 E.glob g.imm → HRel B g s.hp w → ActRel E B g s.env a → wpOps E.P ops.toArray Q (List.range' n r.length) a w
 | [], n, s, hr, h, g, a, w, hG, R, V => hK s g a w h hG R V
 | o :: r, n, s, hr, h, g, a, w, hG, R, V => by
  obtain ⟨s0, t, e, h1, h2⟩ := a97 h
  rw [List.length_cons, List.range'_succ, wpOps_cons]
  have ho : ops[n]? = some o := by
   have := congrArg (·[0]?) hr
   simpa [List.getElem?_drop] using this
  have hr' : ops.drop (n + 1) = r := by
   rw [← List.drop_drop, hr]; rfl
  exact aL9 hE ho h1 hG (R.congr e.2) (V.congr e.1) fun a' w' g' l R' V' => ax8 hE hK r (n + 1) t hr' h2 g' a' w' (hG.mono l.imm) R' V'
end Go.Abs
end

section
namespace Go.Abs
def AM.ah8 {α : Type} : AM α → St → List Nat → List Nat → Option (α × St × List Nat × List Nat)
 | .ret a, s, r, w => some (a, s, r, w)
 | .br b t e, s, r, w => bif b then t.ah8 s r w else e.ah8 s r w
 | .fail, _, _, _ => none
 | .getS t k, s, r, w => match look s.env t with
  | some x => (k x).ah8 s ((2 * t) :: r) w
  | none => none
 | .putS t x k, s, r, w => k.ah8 { s with env := (t, x) :: s.env } r ((2 * t) :: w)
 | .getO i k, s, r, w => (k (look s.hp i)).ah8 s ((2 * i + 1) :: r) w
 | .putO i o k, s, r, w => k.ah8 { s with hp := (i, o) :: s.hp } r ((2 * i + 1) :: w)
 | .opt _ x k, s, r, w => match x with
  | some d => (k d).ah8 s r w
  | none => none
theorem AM.bm6 {α ρ : Type} (m : AM α) : ∀ (s : St) (r w : List Nat) (K : α → St → List Nat → List Nat → Option ρ), m.al4 s r w K = (m.ah8 s r w).bind fun p => K p.1 p.2.1 p.2.2.1 p.2.2.2 := by
 induction m with
 | ret a => intro s r w K; rfl
 | br b t e iht ihe => intro s r w K; cases b <;> simp [al4, ah8, iht, ihe, J7]
 | fail => intro s r w K; rfl
 | getS t k ih => intro s r w K; simp only [al4, ah8]; cases look s.env t <;> simp [ih]
 | putS t x k ih => intro s r w K; simp [al4, ah8, ih]
 | getO i k ih => intro s r w K; simp [al4, ah8, ih]
 | putO i o k ih => intro s r w K; simp [al4, ah8, ih]
 | opt c x k ih => intro s r w K; cases x <;> simp [al4, ah8, ih]
theorem AM.bz9 {α : Type} (m : AM α) : ∀ {s s' : St} {r w r' w' : List Nat} {a : α}, m.ah8 s r w = some (a, s', r', w') → m.run s = some (a, s') := by
 induction m with
 | ret a => intro s s' r w r' w' x h; simp only [ah8, Option.some.injEq, Prod.mk.injEq] at h; simp [run, h.1, h.2.1]
 | br b t e iht ihe => intro s s' r w r' w' x h; cases b <;> simp only [ah8, run, cond_true, cond_false] at h ⊢ <;> first | exact iht h | exact ihe h
 | fail => intro s s' r w r' w' x h; cases h
 | getS t k ih =>
  intro s s' r w r' w' x h
  simp only [ah8, run] at h ⊢
  cases hl : look s.env t with
  | none => rw [hl] at h; cases h
  | some y => rw [hl] at h; exact ih _ h
 | putS t x k ih => intro s s' r w r' w' x h; exact ih h
 | getO i k ih => intro s s' r w r' w' x h; exact ih _ h
 | putO i o k ih => intro s s' r w r' w' x h; exact ih h
 | opt c x k ih =>
  intro s s' r w r' w' y h
  cases x with
  | none => cases h
  | some d => exact ih d h
def St.get (s : St) (p : Nat) : Option Slot ⊕ Option Obj := if p % 2 = 0 then .inl (look s.env (p / 2)) else .inr (look s.hp (p / 2))
theorem aI8 (s : St) (t : Nat) : s.get (2 * t) = .inl (look s.env t) := by unfold St.get; rw [if_pos (by omega), show 2 * t / 2 = t by omega]
theorem a09 (s : St) (i : Nat) : s.get (2 * i + 1) = .inr (look s.hp i) := by unfold St.get; rw [if_neg (by omega), show (2 * i + 1) / 2 = i by omega]
theorem af7 (s : St) (t : Nat) (x : Slot) (p : Nat) : St.get { s with env := (t, x) :: s.env } p = if p = 2 * t then .inl (some x) else s.get p := by
 unfold St.get
 by_cases hp : p % 2 = 0
 ·simp only [hp, if_true]
  by_cases e : p = 2 * t
  ·subst e; rw [if_pos rfl, show 2 * t / 2 = t by omega, l9]
  ·rw [if_neg e, j6 _ _ (by omega)]
 ·simp only [hp, if_false]
  rw [if_neg (by omega)]
theorem af1 (s : St) (i : Nat) (o : Obj) (p : Nat) : St.get { s with hp := (i, o) :: s.hp } p = if p = 2 * i + 1 then .inr (some o) else s.get p := by
 unfold St.get
 by_cases hp : p % 2 = 0
 ·simp only [hp, if_true]
  rw [if_neg (by omega)]
 ·simp only [hp, if_false]
  by_cases e : p = 2 * i + 1
  ·subst e; rw [if_pos rfl, show (2 * i + 1) / 2 = i by omega, l9]
  ·rw [if_neg e, j6 _ _ (by omega)]
theorem ba9 {s t : St} : St.Eqv s t ↔ ∀ p, s.get p = t.get p := by
 constructor
 ·intro h p
  unfold St.get
  rw [h.1, h.2]
 ·intro h
  refine ⟨fun i => ?_, fun i => ?_⟩
  ·have := h (2 * i)
   rw [aI8, aI8] at this
   injection this
  ·have := h (2 * i + 1)
   rw [a09, a09] at this
   injection this
theorem AM.aS2 {α : Type} (m : AM α) : ∀ {s s' : St} {r0 w0 r w : List Nat} {a : α}, m.ah8 s r0 w0 = some (a, s', r, w) →
  (∀ p ∈ r0, p ∈ r) ∧ (∀ p ∈ w0, p ∈ w) ∧ (∀ p, p ∉ w → s'.get p = s.get p) ∧ ∀ t : St, (∀ p ∈ r, t.get p = s.get p) →
   ∃ t', m.ah8 t r0 w0 = some (a, t', r, w) ∧ (∀ p, p ∉ w → t'.get p = t.get p) ∧ (∀ p, t.get p = s.get p → t'.get p = s'.get p) ∧ ∀ p ∈ w, p ∉ w0 → t'.get p = s'.get p := by
 induction m with
 | ret a =>
  intro s s' r0 w0 r w x h
  simp only [ah8, Option.some.injEq, Prod.mk.injEq] at h
  obtain ⟨rfl, rfl, rfl, rfl⟩ := h
  exact ⟨fun _ h => h, fun _ h => h, fun _ _ => rfl, fun t ht => ⟨t, rfl, fun _ _ => rfl, fun _ h => h, fun p h1 h2 => absurd h1 h2⟩⟩
 | br b t e iht ihe =>
  intro s s' r0 w0 r w x h
  cases b
  ·exact ihe h
  ·exact iht h
 | fail => intro s s' r0 w0 r w x h; cases h
 | getS t k ih =>
  intro s s' r0 w0 r w x h
  simp only [ah8] at h
  split at h
  ·rename_i sl hsl
   obtain ⟨h1, h2, h3, h4⟩ := ih _ h
   refine ⟨fun p hp => h1 p (List.mem_cons_of_mem _ hp), h2, h3, fun u hu => ?_⟩
   have hx := hu (2 * t) (h1 _ (List.mem_cons_self ..))
   rw [aI8, aI8] at hx
   injection hx with hx
   obtain ⟨t', a1, a2⟩ := h4 u hu
   refine ⟨t', ?_, a2⟩
   simp only [ah8, hx, hsl]
   exact a1
  ·cases h
 | putS t x k ih =>
  intro s s' r0 w0 r w y h
  obtain ⟨h1, h2, h3, h4⟩ := ih h
  have hm : 2 * t ∈ w := h2 _ (List.mem_cons_self ..)
  refine ⟨h1, fun p hp => h2 p (List.mem_cons_of_mem _ hp), fun p hp => ?_, fun u hu => ?_⟩
  ·rw [h3 p hp, af7, if_neg (show p ≠ 2 * t from fun e => hp (by rw [e]; exact hm))]
  ·obtain ⟨t', a1, a2, a3, a4⟩ := h4 { u with env := (t, x) :: u.env } (fun p hp => by rw [af7, af7, hu p hp])
   refine ⟨t', a1, fun p hp => ?_, fun p hp => a3 p (by rw [af7, af7, hp]), fun p hp hp0 => ?_⟩
   ·rw [a2 p hp, af7, if_neg (show p ≠ 2 * t from fun e => hp (by rw [e]; exact hm))]
   ·by_cases e : p = 2 * t
    ·exact a3 p (by rw [af7, af7, if_pos e, if_pos e])
    ·exact a4 p hp (fun hm => by rcases List.mem_cons.1 hm with h | h; exact e h; exact hp0 h)
 | getO i k ih =>
  intro s s' r0 w0 r w x h
  obtain ⟨h1, h2, h3, h4⟩ := ih _ h
  refine ⟨fun p hp => h1 p (List.mem_cons_of_mem _ hp), h2, h3, fun u hu => ?_⟩
  have hx := hu (2 * i + 1) (h1 _ (List.mem_cons_self ..))
  rw [a09, a09] at hx
  injection hx with hx
  obtain ⟨t', a1, a2⟩ := h4 u hu
  refine ⟨t', ?_, a2⟩
  simp only [ah8, hx]
  exact a1
 | putO i o k ih =>
  intro s s' r0 w0 r w y h
  obtain ⟨h1, h2, h3, h4⟩ := ih h
  have hm : 2 * i + 1 ∈ w := h2 _ (List.mem_cons_self ..)
  refine ⟨h1, fun p hp => h2 p (List.mem_cons_of_mem _ hp), fun p hp => ?_, fun u hu => ?_⟩
  ·rw [h3 p hp, af1, if_neg (show p ≠ 2 * i + 1 from fun e => hp (by rw [e]; exact hm))]
  ·obtain ⟨t', a1, a2, a3, a4⟩ := h4 { u with hp := (i, o) :: u.hp } (fun p hp => by rw [af1, af1, hu p hp])
   refine ⟨t', a1, fun p hp => ?_, fun p hp => a3 p (by rw [af1, af1, hp]), fun p hp hp0 => ?_⟩
   ·rw [a2 p hp, af1, if_neg (show p ≠ 2 * i + 1 from fun e => hp (by rw [e]; exact hm))]
   ·by_cases e : p = 2 * i + 1
    ·exact a3 p (by rw [af1, af1, if_pos e, if_pos e])
    ·exact a4 p hp (fun hm => by rcases List.mem_cons.1 hm with h | h; exact e h; exact hp0 h)
 | opt c x k ih =>
  intro s s' r0 w0 r w y h
  cases x with
  | none => cases h
  | some d => exact ih d h
theorem aq8 {α ρ : Type} {m : AM α} {s : St} {r w : List Nat} {K : α → St → List Nat → List Nat → Option ρ} {x : ρ} (h : m.al4 s r w K = some x) : ∃ a t rd wr, m.ah8 s r w = some (a, t, rd, wr) ∧ K a t rd wr = some x := by
 rw [AM.bm6] at h
 cases hm : m.ah8 s r w with
 | none => rw [hm] at h; cases h
 | some p => rw [hm] at h; exact ⟨p.1, p.2.1, p.2.2.1, p.2.2.2, rfl, h⟩
theorem AM.a67 {α β : Type} (m : AM α) (f : α → AM β) : ∀ s r w, (m.bind f).ah8 s r w = (m.ah8 s r w).bind fun p => (f p.1).ah8 p.2.1 p.2.2.1 p.2.2.2 := by
 induction m with
 | ret a => intro s r w; rfl
 | br b t e iht ihe => intro s r w; cases b <;> simp [AM.bind, AM.ah8, iht, ihe]
 | fail => intro s r w; rfl
 | getS t k ih => intro s r w; simp only [AM.bind, AM.ah8]; cases look s.env t <;> simp [ih]
 | putS t x k ih => intro s r w; simp [AM.bind, AM.ah8, ih]
 | getO i k ih => intro s r w; simp [AM.bind, AM.ah8, ih]
 | putO i o k ih => intro s r w; simp [AM.bind, AM.ah8, ih]
 | opt c x k ih => intro s r w; cases x <;> simp [AM.bind, AM.ah8, ih]
theorem aM9 {E : Env} {ops : List Oper} {n j d : Nat} {o : Oper} {want gv : Bool} {s : St} (hg : o.guard = some (j, want)) (hd : aA1 ops j = some d) (hs : look s.env d = some (.val (.one (.v .bool gv)))) :
  (stepG E ops n o).ah8 s [] [] = (bif gv == want then step E (alt n) o else skip E o).ah8 s [2 * d] [] := by
 unfold stepG
 rw [hg]
 simp only [hd, T8, AM.a67, AM.ah8, Option.bind_some, hs]
 cases gv == want <;> rfl
theorem bu8 {E : Env} {ops : List Oper} {n j d : Nat} {o : Oper} {want : Bool} {s : St} (hg : o.guard = some (j, want)) (hd : aA1 ops j = some d) (hs : look s.env d = some .sk) :
  (stepG E ops n o).ah8 s [] [] = (skip E o).ah8 s [2 * d] [] := by
 unfold stepG
 rw [hg]
 simp only [hd, T8, AM.a67, AM.ah8, Option.bind_some, hs]
theorem a06 {ρ : Type} {E : Env} {ops : List Oper} {o : Oper} {r : List Oper} {n : Nat} {s : St} {L : Log} {K : St → Log → Option ρ} {x : ρ} (h : Y1 E ops (o :: r) n s L K = some x) :
  ∃ s0 t rd wr, St.Eqv s0 s ∧ (stepG E ops n o).ah8 s0 [] [] = some ((), t, rd, wr) ∧ Y1 E ops r (n + 1) t ((rd, wr) :: L) K = some x := by
 unfold Y1 at h
 split at h
 ·rename_i hg
  obtain ⟨⟨⟩, t, rd, wr, h1, h2⟩ := aq8 h
  exact ⟨s, t, rd, wr, St.Eqv.refl s, by unfold stepG; rw [hg]; exact h1, h2⟩
 ·rename_i j want hg
  split at h
  ·rename_i d hd
   split at h
   ·rename_i gv hs
    rcases a02 h with ⟨rfl, h'⟩ | ⟨rfl, h'⟩
    ·obtain ⟨⟨⟩, t, rd, wr, h1, h2⟩ := aq8 h'
     refine ⟨_, t, rd, wr, aZ6 hs, ?_, h2⟩
     rw [aM9 hg hd (l9 _ _ _)]
     cases want <;> exact h1
    ·obtain ⟨⟨⟩, t, rd, wr, h1, h2⟩ := aq8 h'
     refine ⟨_, t, rd, wr, aZ6 hs, ?_, h2⟩
     rw [aM9 hg hd (l9 _ _ _)]
     cases want <;> exact h1
   ·rename_i hs
    obtain ⟨⟨⟩, t, rd, wr, h1, h2⟩ := aq8 h
    exact ⟨s, t, rd, wr, St.Eqv.refl s, by rw [bu8 hg hd hs]; exact h1, h2⟩
   ·cases h
  ·cases h
structure Way (E : Env) (ops : List Oper) (n : Nat) (st : Nat → St) (rw_ : Nat → List Nat × List Nat) : Prop where
 step : ∀ i o, n ≤ i → ops[i]? = some o → ∃ pre, St.Eqv pre (st i) ∧ (stepG E ops i o).ah8 pre [] [] = some ((), st (i + 1), (rw_ i).1, (rw_ i).2)
theorem bC3 {ρ : Type} {E : Env} {ops : List Oper} {K : St → Log → Option ρ} {x : ρ} : ∀ (r : List Oper) (n : Nat) (s : St) (L : Log), ops.drop n = r → Y1 E ops r n s L K = some x →
  ∃ st rw_, st n = s ∧ Way E ops n st rw_ ∧ K (st (n + r.length)) (((List.range' n r.length).map rw_).reverse ++ L) = some x
 | [], n, s, L, hr, h => by
  refine ⟨fun _ => s, fun _ => ([], []), rfl, ⟨fun i o hi ho => ?_⟩, h⟩
  have : ops.length ≤ n := List.drop_eq_nil_iff.1 hr
  rw [List.getElem?_eq_none (by omega)] at ho
  cases ho
 | o :: r, n, s, L, hr, h => by
  obtain ⟨s0, t, rd, wr, e, h1, h2⟩ := a06 h
  have ho : ops[n]? = some o := by
   have := congrArg (·[0]?) hr
   simpa [List.getElem?_drop] using this
  have hr' : ops.drop (n + 1) = r := by rw [← List.drop_drop, hr]; rfl
  obtain ⟨st, rw_, k1, k2, k3⟩ := bC3 r (n + 1) t _ hr' h2
  refine ⟨fun i => if i = n then s else st i, fun i => if i = n then (rd, wr) else rw_ i, by simp, ⟨fun i o' hi ho' => ?_⟩, ?_⟩
  ·by_cases e' : i = n
   ·subst e'
    rw [ho] at ho'
    injection ho' with ho'
    subst ho'
    refine ⟨s0, by simpa using e, ?_⟩
    rw [if_neg (by omega), if_pos rfl, k1]
    exact h1
   ·obtain ⟨pre, a1, a2⟩ := k2.step i o' (by omega) ho'
    refine ⟨pre, by simpa [e'] using a1, ?_⟩
    simp only [e', if_false]
    rw [if_neg (by omega)]
    exact a2
  ·rw [List.length_cons, List.range'_succ, List.map_cons, List.reverse_cons, List.append_assoc, if_pos rfl]
   have em : (List.range' (n + 1) r.length).map (fun i => if i = n then (rd, wr) else rw_ i) = (List.range' (n + 1) r.length).map rw_ := by
    apply List.map_congr_left
    intro i hi
    have := (List.mem_range'_1.1 hi).1
    rw [if_neg (by omega)]
   rw [em]
   have es : (fun i => if i = n then s else st i) (n + (r.length + 1)) = st (n + 1 + r.length) := by
    show (if n + (r.length + 1) = n then s else st (n + (r.length + 1))) = _
    rw [if_neg (by omega), show n + (r.length + 1) = n + 1 + r.length by omega]
   rw [es]
   exact k3
end Go.Abs
end

section
namespace Go.Abs
theorem bo1 (n : Nat) : ∀ l : List Nat, mem n l = true ↔ n ∈ l
 | [] => by simp [mem]
 | m :: r => by
  simp only [mem, Bool.or_eq_true, bo1 n r, List.mem_cons]
  constructor
  ·rintro (h | h)
   ·exact .inl (beq_eq h).symm
   ·exact .inr h
  ·rintro (h | h)
   ·exact .inl (by rw [h]; exact Nat.beq_refl m)
   ·exact .inr h
theorem aC9 {a b : List Nat} (h : meet a b = false) : ∀ p ∈ a, p ∉ b := by
 induction a with
 | nil => intro p hp; simp at hp
 | cons x r ih =>
  simp only [meet, Bool.or_eq_false_iff] at h
  intro p hp hb
  rcases List.mem_cons.1 hp with rfl | hp
  ·have := (bo1 p b).2 hb
   rw [this] at h; cases h.1
  ·exact ih h.2 p hp hb
def bA2 (x y : List Nat × List Nat) : Prop := (∀ p ∈ x.2, p ∉ y.2) ∧ (∀ p ∈ x.2, p ∉ y.1) ∧ ∀ p ∈ x.1, p ∉ y.2
theorem au1 {x : List Nat × List Nat} {bx : List Nat} : ∀ {L : Log} {n : Nat}, aJ0 x bx L n = true → ∀ k y, L[k]? = some y → (n - 1 - k) ∈ bx ∨ bA2 x y
 | [], _, _, k, y, hy => by simp at hy
 | z :: r, n, h, k, y, hy => by
  simp only [aJ0, Bool.and_eq_true, Bool.or_eq_true, Bool.not_eq_true', Bool.or_eq_false_iff] at h
  cases k with
  | zero =>
   have hz : z = y := by simpa using hy
   subst hz
   rcases h.1 with h1 | h1
   ·exact .inl (by simpa using (bo1 _ _).1 h1)
   ·exact .inr ⟨aC9 h1.1.1, aC9 h1.1.2, aC9 h1.2⟩
  | succ k =>
   have := au1 h.2 k y (by simpa using hy)
   rw [show n - 1 - (k + 1) = n - 1 - 1 - k by omega]
   exact this
theorem aL4 : ∀ {L : Log} {bs : List (List Nat)} {n : Nat}, apart L bs n = true → ∀ k x, L[k]? = some x → ∃ bx, bs[k]? = some bx ∧ ∀ k' y, k < k' → L[k']? = some y → (n - 1 - k') ∈ bx ∨ bA2 x y
 | [], _, _, _, k, x, hx => by simp at hx
 | z :: r, [], _, h, _, _, _ => by cases h
 | z :: r, bz :: bs, n, h, k, x, hx => by
  simp only [apart, Bool.and_eq_true] at h
  cases k with
  | zero =>
   have hz : z = x := by simpa using hx
   subst hz
   refine ⟨bz, rfl, fun k' y hk hy => ?_⟩
   cases k' with
   | zero => omega
   | succ k' =>
    have := au1 h.1 k' y (by simpa using hy)
    rw [show n - 1 - (k' + 1) = n - 1 - 1 - k' by omega]
    exact this
  | succ k =>
   obtain ⟨bx, h1, h2⟩ := aL4 h.2 k x (by simpa using hx)
   refine ⟨bx, by simpa using h1, fun k' y hk hy => ?_⟩
   cases k' with
   | zero => omega
   | succ k' =>
    have := h2 k' y (by omega) (by simpa using hy)
    rw [show n - 1 - (k' + 1) = n - 1 - 1 - k' by omega]
    exact this
theorem bB2 : ∀ (es acc : List (List Nat)), ∀ j, acc.length ≤ j → ∀ e, es[j - acc.length]? = some e → ∃ b, (a23 es acc)[j]? = some b ∧ ∀ i, i ∈ b → i ∈ e ∨ ∃ k ∈ e, k < j ∧ ∃ bk, (a23 es acc)[k]? = some bk ∧ i ∈ bk := by
 have pre : ∀ (es acc : List (List Nat)), ∃ tl, a23 es acc = acc ++ tl := by
  intro es
  induction es with
  | nil => intro acc; exact ⟨[], by simp [a23]⟩
  | cons e es ih =>
   intro acc
   obtain ⟨tl, h⟩ := ih (acc ++ [e.flatMap fun i => i :: acc.getD i []])
   exact ⟨_, by rw [a23, h, List.append_assoc]⟩
 intro es
 induction es with
 | nil => intro acc j hj e he; simp at he
 | cons e0 es ih =>
  intro acc j hj e he
  by_cases hj' : j = acc.length
  ·subst hj'
   have : e0 = e := by simpa using he
   subst this
   obtain ⟨tl, h⟩ := pre es (acc ++ [e0.flatMap fun i => i :: acc.getD i []])
   refine ⟨e0.flatMap fun i => i :: acc.getD i [], by rw [a23, h]; simp, fun i hi => ?_⟩
   obtain ⟨k, hk, hi⟩ := List.mem_flatMap.1 hi
   rcases List.mem_cons.1 hi with rfl | hi
   ·exact .inl hk
   ·right
    rw [List.getD_eq_getElem?_getD] at hi
    cases hak : acc[k]? with
    | none => rw [hak] at hi; simp at hi
    | some bk =>
     have hlt := (List.getElem?_eq_some_iff.1 hak).1
     rw [hak] at hi
     refine ⟨k, hk, hlt, bk, ?_, by simpa using hi⟩
     rw [a23, h, List.append_assoc, List.getElem?_append_left hlt, hak]
  ·rw [a23]
   exact ih _ j (by simp; omega) e (by
    have : j - acc.length = (j - (acc ++ [e0.flatMap fun i => i :: acc.getD i []]).length) + 1 := by simp; omega
    rw [this] at he
    simpa using he)
theorem az2 : ∀ {es : List (List Nat)} {n : Nat}, aw7 es n = true → ∀ j e, es[j]? = some e → ∀ i ∈ e, i < n + j
 | [], _, _, j, e, he => by simp at he
 | e0 :: es, n, h, j, e, he => by
  simp only [aw7, Bool.and_eq_true, List.all_eq_true] at h
  cases j with
  | zero =>
   have : e0 = e := by simpa using he
   subst this
   intro i hi
   exact Nat.le_of_ble_eq_true (h.1 i hi)
  | succ j =>
   intro i hi
   have := az2 h.2 j e (by simpa using he) i hi
   omega
section
variable {E : Env} {ops : List Oper} {st : Nat → St} {lg : Nat → List Nat × List Nat}
def held (st : Nat → St) (lg : Nat → List Nat × List Nat) (D : Nat → Bool) (p : Nat) : Nat → Option Slot ⊕ Option Obj
 | 0 => (st 0).get p
 | k + 1 => open Classical in if D k = true ∧ p ∈ (lg k).2 then (st (k + 1)).get p else held st lg D p k
theorem az6 {D : Nat → Bool} {p : Nat} {i : Nat} : ∀ {n : Nat}, i ≤ n → (∀ k, i ≤ k → k < n → D k = true → p ∉ (lg k).2) → held st lg D p n = held st lg D p i
  | 0, hi, _ => by have : i = 0 := by omega
                   subst this; rfl
  | n + 1, hi, h => by
    by_cases e : i = n + 1
    · subst e; rfl
    · rw [held, if_neg (fun hc => h n (by omega) (by omega) hc.1 hc.2)]
      exact az6 (by omega) fun k h1 h2 => h k h1 (by omega)
theorem aY6 (W : Way E ops 0 st lg) {D : Nat → Bool} {p : Nat} : ∀ {i : Nat}, i ≤ ops.length → (∀ k, k < i → p ∈ (lg k).2 → D k = true) → held st lg D p i = (st i).get p
 | 0, _, _ => rfl
 | i + 1, hi, h => by
  rw [held]
  split
  ·rfl
  ·rename_i hc
   have hp : p ∉ (lg i).2 := fun hm => hc ⟨h i (by omega) hm, hm⟩
   rw [aY6 W (by omega) fun k hk => h k (by omega)]
   have ho : ops[i]? = some (ops[i]'(by omega)) := List.getElem?_eq_getElem _
   obtain ⟨pre, a1, a2⟩ := W.step i _ (Nat.zero_le _) ho
   have := (AM.aS2 _ a2).2.2.1 p hp
   rw [this, (ba9.1 a1 p)]
structure Order (ops : List Oper) (lg : Nat → List Nat × List Nat) (b : Nat → List Nat) : Prop where
 direct : ∀ j o, ops[j]? = some o → ∀ e ∈ o.after, Region.binds .any e = true → e.on < j
 closed : ∀ j o, ops[j]? = some o → ∀ i ∈ b j, (∃ e ∈ o.after, Region.binds .any e = true ∧ e.on = i) ∨ ∃ e ∈ o.after, Region.binds .any e = true ∧ i ∈ b e.on
 apart : ∀ i j, i < j → j < ops.length → i ∈ b j ∨ bA2 (lg j) (lg i)
theorem bz8 (he : aw7 (ay3 ops) 0 = true) (ha : apart ((List.range' 0 ops.length).map lg).reverse (a23 (ay3 ops) []).reverse ops.length = true) :
  ∃ b, Order ops lg b := by
 have hedge : ∀ (j : Nat) (o : Oper), ops[j]? = some o → (ay3 ops)[j]? = some (o.after.toList.filterMap fun e => bif Region.binds .any e then some e.on else none) := by
  intro j o ho
  unfold ay3
  rw [List.getElem?_map, ho]
  rfl
 have hmemE : ∀ (o : Oper) (i : Nat), i ∈ (o.after.toList.filterMap fun e => bif Region.binds .any e then some e.on else none) ↔ ∃ e ∈ o.after, Region.binds .any e = true ∧ e.on = i := by
  intro o i
  rw [List.mem_filterMap]
  constructor
  ·rintro ⟨e, h1, h2⟩
   cases hb : Region.binds .any e with
   | false => rw [hb] at h2; cases h2
   | true => rw [hb] at h2; injection h2 with h2; exact ⟨e, by simpa using h1, hb, h2⟩
  ·rintro ⟨e, h1, h2, h3⟩
   exact ⟨e, by simpa using h1, by rw [h2]; simp [h3]⟩
 refine ⟨fun j => ((a23 (ay3 ops) [])[j]?).getD [], ⟨fun j o ho e hm hb => ?_, fun j o ho i hi => ?_, fun i j hij hj => ?_⟩⟩
 ·have := az2 he j _ (hedge j o ho) e.on ((hmemE o _).2 ⟨e, hm, hb, rfl⟩)
  omega
 ·obtain ⟨b, h1, h2⟩ := bB2 (ay3 ops) [] j (Nat.zero_le _) _ (by simpa using hedge j o ho)
  rw [h1] at hi
  rcases h2 i (by simpa using hi) with h | ⟨k, hk, _, bk, hbk, hik⟩
  ·exact .inl ((hmemE o i).1 h)
  ·obtain ⟨e, a1, a2, a3⟩ := (hmemE o k).1 hk
   refine .inr ⟨e, a1, a2, ?_⟩
   rw [a3, hbk]
   simpa using hik
 ·have hx : (((List.range' 0 ops.length).map lg).reverse)[ops.length - 1 - j]? = some (lg j) := by
   rw [List.getElem?_reverse (by simp; omega)]
   simp only [List.length_map, List.length_range']
   rw [show ops.length - 1 - (ops.length - 1 - j) = j by omega, List.getElem?_map, List.getElem?_range' (by omega)]
   simp
  have hy : (((List.range' 0 ops.length).map lg).reverse)[ops.length - 1 - i]? = some (lg i) := by
   rw [List.getElem?_reverse (by simp; omega)]
   simp only [List.length_map, List.length_range']
   rw [show ops.length - 1 - (ops.length - 1 - i) = i by omega, List.getElem?_map, List.getElem?_range' (by omega)]
   simp
  obtain ⟨bx, h1, h2⟩ := aL4 ha _ _ hx
  rcases h2 _ _ (by omega) hy with h | h
  ·left
   rw [show ops.length - 1 - (ops.length - 1 - i) = i by omega] at h
   have hlen : (a23 (ay3 ops) []).length = ops.length := by
    have : ∀ (es acc : List (List Nat)), (a23 es acc).length = acc.length + es.length := by
     intro es
     induction es with
     | nil => intro acc; simp [a23]
     | cons e es ih => intro acc; rw [a23, ih]; simp; omega
    rw [this]; simp [ay3]
   rw [List.getElem?_reverse (by omega), hlen, show ops.length - 1 - (ops.length - 1 - j) = j by omega] at h1
   rw [h1]
   exact h
  ·exact .inr h
def done (listed : Array Bool) (i : Nat) : Bool := listed.getD i false
theorem bc3 {ρ : Type} (hE : EnvOk E) {B : Base} {K : St → Option ρ} {x : ρ} {Q : Exit → Act → World → Prop} (hK : KOk E B K x (Q .normal)) (W : Way E ops 0 st lg) {b : Nat → List Nat} (O : Order ops lg b) (hfin : K (st ops.length) = some x)
  (hcongr : ∀ s t, St.Eqv s t → K s = some x → ∀ g a w, N2 E.glob g.imm → HRel B g t.hp w → ActRel E B g t.env a → Q .normal a w) :
  ∀ (fuel : Nat) (listed : Array Bool) (t : St), listed.size = ops.length → ((List.range ops.length).filter fun i => !done listed i).length = fuel →
   (∀ j, j < ops.length → done listed j = true → ∀ i ∈ b j, done listed i = true) → (∀ p, t.get p = held st lg (done listed) p ops.length) →
   ∀ g a w, N2 E.glob g.imm → HRel B g t.hp w → ActRel E B g t.env a → wpAny E.P .any ops.toArray Q fuel listed a w := by
 have full : ∀ (listed : Array Bool) (t : St), (∀ i, i < ops.length → done listed i = true) → (∀ p, t.get p = held st lg (done listed) p ops.length) → St.Eqv (st ops.length) t := by
  intro listed t hall ht
  rw [ba9]
  intro p
  rw [ht p, aY6 W (Nat.le_refl _) fun k hk _ => hall k hk]
 have empty : ∀ (listed : Array Bool), listed.size = ops.length → Region.ready .any ops.toArray listed = [] → ∀ i, i < ops.length → done listed i = true := by
  intro listed hsz hr i
  induction i using Nat.strongRecOn with
  | _ i ih =>
   intro hi
   cases hd : done listed i with
   | true => rfl
   | false =>
    exfalso
    have hm : i ∈ Region.ready .any ops.toArray listed := by
     rw [mem_ready]
     refine ⟨?_, ops[i], by simp [hi], fun e he hb => ?_⟩
     ·unfold done at hd
      have hlt : i < listed.size := by omega
      simp [Array.getD, hlt] at hd ⊢
      exact hd
     ·have := O.direct i ops[i] (List.getElem?_eq_getElem hi) e he hb
      exact ih e.on this (by omega)
    rw [hr] at hm
    simp at hm
 intro fuel
 induction fuel with
 | zero =>
  intro listed t hsz hcount hclosed ht g a w hG R V
  have hall : ∀ i, i < ops.length → done listed i = true := by
   intro i hi
   have h0 := List.eq_nil_of_length_eq_zero hcount
   rw [List.filter_eq_nil_iff] at h0
   have := h0 i (List.mem_range.2 hi)
   simpa using this
  refine ⟨?_, hcongr _ _ (full listed t hall ht) hfin g a w hG R V⟩
  rw [List.eq_nil_iff_forall_not_mem]
  intro i hm
  obtain ⟨h1, o, h2, _⟩ := mem_ready.1 hm
  have hi : i < ops.length := by
   rcases Nat.lt_or_ge i ops.length with h | h
   ·exact h
   ·simp [h] at h2
  have := hall i hi
  have hlt : i < listed.size := by omega
  unfold done at this
  simp [Array.getD, hlt] at this h1
  rw [this] at h1; cases h1
 | succ fuel ih =>
  intro listed t hsz hcount hclosed ht g a w hG R V
  refine ⟨fun hr => hcongr _ _ (full listed t (empty listed hsz hr) ht) hfin g a w hG R V, fun i hi => ?_⟩
  obtain ⟨h1, o, h2, h3⟩ := mem_ready.1 hi
  have hil : i < ops.length := by
   rcases Nat.lt_or_ge i ops.length with h | h
   ·exact h
   ·simp [h] at h2
  have ho : ops[i]? = some o := by simpa using h2
  have hnd : done listed i = false := by
   have hlt : i < listed.size := by omega
   unfold done
   simp [Array.getD, hlt] at h1 ⊢
   exact h1
  obtain ⟨pre, a1, a2⟩ := W.step i o (Nat.zero_le _) ho
  have hbi : ∀ k ∈ b i, done listed k = true := by
   intro k hk
   rcases O.closed i o ho k hk with ⟨e, e1, e2, e3⟩ | ⟨e, e1, e2, e3⟩
   ·rw [← e3]; exact h3 e e1 e2
   ·have hlt := O.direct i o ho e e1 e2
    exact hclosed e.on (by omega) (h3 e e1 e2) k e3
  have later : ∀ k, i < k → k < ops.length → done listed k = true → bA2 (lg k) (lg i) := by
   intro k hik hk hdk
   rcases O.apart i k hik hk with h | h
   ·have := hclosed k hk hdk i h
    rw [hnd] at this; cases this
   ·exact h
  have agree : ∀ p ∈ (lg i).1, t.get p = pre.get p := by
   intro p hp
   rw [ht p, ba9.1 a1 p]
   rw [az6 (i := i) (by omega) (fun k h1 h2 hdk hm => by
    by_cases e : k = i
    ·subst e; rw [hnd] at hdk; cases hdk
    ·exact (later k (by omega) h2 hdk).2.1 p hm hp)]
   exact aY6 W (by omega) fun k hk hm => by
    rcases O.apart k i hk hil with h | h
    ·exact hbi k h
    ·exact absurd hm (h.2.2 p hp)
  obtain ⟨_, _, _, hloc⟩ := AM.aS2 _ a2
  obtain ⟨t', b1, b2, b3, b4⟩ := hloc t agree
  have hrun := AM.bz9 _ b1
  refine aL9 hE ho hrun hG R V fun a' w' g' l R' V' => ?_
  have hset : ∀ k, done (listed.setIfInBounds i true) k = (done listed k || decide (k = i)) := by
   intro k
   unfold done
   by_cases e : k = i
   ·subst e
    have hlt : k < listed.size := by omega
    simp [Array.getD, hlt]
   ·have : (listed.setIfInBounds i true).getD k false = listed.getD k false := getD_set_ne false (Ne.symm e)
    rw [this]; simp [e]
  refine ih (listed.setIfInBounds i true) t' (by simpa using hsz) ?_ ?_ ?_ g' a' w' (hG.mono l.imm) R' V'
  ·have key : ∀ (l : List Nat), l.Nodup → i ∈ l → (l.filter fun k => !done listed k).length = (l.filter fun k => !done (listed.setIfInBounds i true) k).length + 1 := by
    intro l
    induction l with
    | nil => intro _ h; simp at h
    | cons y r ihl =>
     intro hn hm
     rw [List.nodup_cons] at hn
     by_cases e : y = i
     ·subst e
      have hr : (r.filter fun k => !done (listed.setIfInBounds y true) k) = (r.filter fun k => !done listed k) := by
       apply List.filter_congr
       intro k hk
       have : k ≠ y := fun e => hn.1 (e ▸ hk)
       rw [hset k]; simp [this]
      rw [List.filter_cons_of_pos (by simp [hnd]), List.filter_cons_of_neg (by simp [hset]), hr]
      rfl
     ·have hm' : i ∈ r := by
       rcases List.mem_cons.1 hm with h | h
       ·exact absurd h.symm e
       ·exact h
      have he : (!done (listed.setIfInBounds i true) y) = (!done listed y) := by rw [hset y]; simp [e]
      have := ihl hn.2 hm'
      cases hd : done listed y with
      | true => rw [List.filter_cons_of_neg (by simp [hd]), List.filter_cons_of_neg (by simp [hset, hd])]; exact this
      | false => rw [List.filter_cons_of_pos (by simp [hd]), List.filter_cons_of_pos (by simp [hset, hd, e])]; simp [this]
   have := key (List.range ops.length) List.nodup_range (List.mem_range.2 hil)
   omega
  ·intro j hj hdj k hk
   rw [hset] at hdj ⊢
   simp only [Bool.or_eq_true, decide_eq_true_eq] at hdj ⊢
   rcases hdj with h | h
   ·exact .inl (hclosed j hj h k hk)
   ·subst h; exact .inl (hbi k hk)
  ·intro p
   by_cases hp : p ∈ (lg i).2
   ·rw [b4 p hp (by simp)]
    rw [az6 (i := i + 1) (by omega) (fun k h1 h2 hdk hm => by
     rw [hset] at hdk
     simp only [Bool.or_eq_true, decide_eq_true_eq] at hdk
     rcases hdk with h | h
     ·exact (later k (by omega) h2 h).1 p hm hp
     ·omega)]
    rw [held, if_pos ⟨by rw [hset]; simp, hp⟩]
   ·rw [b2 p hp, ht p]
    have : ∀ n, held st lg (done listed) p n = held st lg (done (listed.setIfInBounds i true)) p n := by
     intro n
     induction n with
     | zero => rfl
     | succ n ihn =>
      rw [held, held, ihn]
      by_cases e : n = i
      ·subst e
       rw [if_neg (fun h => hp h.2), if_neg (fun h => hp h.2)]
      ·have : done (listed.setIfInBounds i true) n = done listed n := by rw [hset]; simp [e]
       rw [this]
    exact this _
end
theorem HRel.drew {B : Base} {g : Gh} {hp : List (Nat × Obj)} {w : World} (R : HRel B g hp w) (n : Nat) : HRel B g hp { w with drawn := n } :=
 ⟨R.top, R.objs, R.imm, R.nst, R.labsz, R.imm0, R.frame, R.size, R.os, R.tape, R.output, R.fix⟩
theorem aH0 {ρ : Type} {E : Env} (hE : EnvOk E) (hm : E.P.follows .mixedOrders = true) {B : Base} {id : Nat} {ops : Array Oper} {draw : Bool} {K : St → Option ρ} {x : ρ} {Q : Exit → Act → World → Prop} (hK : KOk E B K x (Q .normal))
  {s : St} (h : aS1 E ops.toList draw s K = some x) {g : Gh} {a : Act} {w : World} (hG : N2 E.glob g.imm) (R : HRel B g s.hp w) (V : ActRel E B g s.env a) : (Code.region id ops draw).wp E.P Q a w := by
 cases draw with
 | false =>
  have h : ah6 E ops.toList ops.toList 0 s K = some x := h
  apply wp_region
  have := ax8 hE hK ops.toList 0 s rfl h g a w hG R V
  rw [List.range_eq_range']
  simpa using this
 | true =>
  have h : Y1 E ops.toList ops.toList 0 s [] (fun s' L => bif aw7 (ay3 ops.toList) 0 && apart L (a23 (ay3 ops.toList) []).reverse ops.toList.length then K s' else none) = some x := h
  obtain ⟨st, lg, k1, W, k3⟩ := bC3 ops.toList 0 s [] rfl h
  cases hc : (aw7 (ay3 ops.toList) 0 && apart (((List.range' 0 ops.toList.length).map lg).reverse ++ []) (a23 (ay3 ops.toList) []).reverse ops.toList.length) with
  | false => rw [hc] at k3; cases k3
  | true =>
   rw [hc] at k3
   simp only [Bool.and_eq_true, List.append_nil] at hc
   obtain ⟨b, O⟩ := bz8 hc.1 hc.2
   apply wp_region_any hm
   have := bc3 hE (Q := Q) hK W O (by simpa using k3) (fun s t e hs g a w hG R V => hK s g a w hs hG (R.congr e.2) (V.congr e.1)) ops.toList.length (Array.replicate ops.toList.length false) s (by simp) (by
     have : ∀ i, done (Array.replicate ops.toList.length false) i = false := by
      intro i
      unfold done
      simp [Array.getD_eq_getD_getElem?, Array.getElem?_replicate]
      split <;> rfl
     rw [List.filter_eq_self.2 (fun i _ => by rw [this]; rfl), List.length_range]) (fun j _ hd => by
     exfalso
     unfold done at hd
     simp [Array.getD_eq_getD_getElem?, Array.getElem?_replicate] at hd
     split at hd <;> cases hd) (fun p => by
     rw [az6 (i := 0) (Nat.zero_le _) (fun k _ _ hd => by
      exfalso
      unfold done at hd
      simp [Array.getD_eq_getD_getElem?, Array.getElem?_replicate] at hd
      split at hd <;> cases hd)]
     show _ = (st 0).get p
     rw [k1]) g a { w with drawn := w.drawn + 1 } hG (R.drew _) V
   simpa using this
end Go.Abs
end

section
namespace Go.Abs
noncomputable def Gh.R8 (g : Gh) (id gen : Nat) (u : Value) (L : List Value) : Gh :=
  open Classical in
  { g with top := fun i => if i = id then gen + 1 else g.top i
           cv := fun i k => if i = id ∧ k = gen then u else g.cv i k
           outer := fun i => if i = id then L else g.outer i }
theorem HRel.bB3 {B : Base} {g : Gh} {hp : List (Nat × Obj)} {w : World} (R : HRel B g hp w) (id : Nat) (u : Value) (L : List Value) :
  Le g (g.R8 id (g.top id) u L) ∧ HRel B (g.R8 id (g.top id) u L) ((id, .lent (g.top id) (0, [])) :: hp) w := by
 have hle : Le g (g.R8 id (g.top id) u L) := by
  refine ⟨fun _ _ h => h, fun i => ?_, fun i k hk => ?_⟩
  ·show g.top i ≤ if i = id then g.top id + 1 else g.top i
   split
   ·rename_i e; subst e; omega
   ·exact Nat.le_refl _
  ·show (if i = id ∧ k = g.top id then u else g.cv i k) = g.cv i k
   rw [if_neg]
   rintro ⟨rfl, rfl⟩
   omega
 refine ⟨hle, fun i => ?_, fun i oi hi => ?_, R.imm, R.nst, R.labsz, R.imm0, R.frame, R.size, R.os, R.tape, R.output, R.fix⟩
 ·show (if i = id then g.top id + 1 else g.top i) = _
  by_cases e : id = i
  ·subst e; rw [l9, if_pos rfl]; rfl
  ·rw [j6 _ _ e, if_neg (fun h => e h.symm)]; exact R.top i
 ·by_cases e : id = i
  ·subst e; rw [l9] at hi; injection hi with hi; subst hi; trivial
  ·rw [j6 _ _ e] at hi
   exact (R.objs i oi hi).tr hle (fun b hb => ⟨hb, rfl, rfl⟩) (by simp only [Gh.R8]; rw [if_neg (fun h => e h.symm)]) (J4 R hi)
def ak8 (hp : List (Nat × Obj)) (n : Nat) : Prop := ∀ i, n ≤ i → look hp i = none
theorem HRel.ar0 {B : Base} {g : Gh} {hp : List (Nat × Obj)} {w : World} (R : HRel B g hp w) {i : Nat} (h : look hp i = none) : g.top i = 0 := by rw [R.top i, h]
def bR3 (cells : List Cell) (objs : List (Nat × Obj)) (n n' : Nat) (B : Base) (g : Gh) (hp : List (Nat × Obj)) (w : World) (us : List Value) (nb : List Nat) : Prop :=
 n ≤ n' ∧ ak8 (objs ++ hp) n' ∧ (∀ i, i < n → look (objs ++ hp) i = look hp i) ∧ ∃ g', Le g g' ∧ (∀ y, y ∉ nb → g'.lab y = g.lab y ∧ g'.nst y = g.nst y) ∧ (∀ i, i < n → g'.outer i = g.outer i) ∧ HRel B g' (objs ++ hp) w ∧ n7 g' cells us
theorem bw3 {τ : Ty} {dp : Bool} {x : List τ.den} {n : Nat} {B : Base} {g : Gh} {hp : List (Nat × Obj)} {w : World} {us : List Value} {nb : List Nat} (R : HRel B g hp w) (hP : OwnAt g.imm w (dp && !τ.flat) τ x us nb) (hO : F5 g nb) (hn : ∀ b ∈ nb, g.nst b = none) (hf : ak8 hp n) :
  bR3 [.own n 0] [(n, .own 0 τ (dp || τ.flat) x)] n (n + 1) B g hp w us nb := by
 have ht := R.ar0 (hf n (Nat.le_refl _))
 have hfree : ∀ o : Obj, ak8 ([(n, o)] ++ hp) (n + 1) := fun o i hi => by
  show look ((n, o) :: hp) i = none
  rw [j6 _ _ (by omega)]; exact hf i (by omega)
 have hold : ∀ o : Obj, ∀ i, i < n → look ([(n, o)] ++ hp) i = look hp i := fun o i hi => j6 _ _ (by omega)
 rcases hP with ⟨rfl, hx, rfl⟩ | ⟨b, cap, arr, ty, nb', rfl, rfl, ha, hl, hs, hE⟩
 ·subst hx
  obtain ⟨l, R'⟩ := R.named (id := n) (u := .slice none 0 0) (o' := .own (g.top n) τ (dp || τ.flat) []) rfl (.inl ⟨by simp [Gh.name], rfl⟩)
  refine ⟨Nat.le_succ _, hfree _, hold _, _, l.le, fun x _ => ⟨rfl, rfl⟩, fun _ _ => rfl, ?_, ⟨_, [], rfl, ⟨?_, ?_, rfl⟩, rfl⟩⟩
  ·rw [ht] at R'; rw [ht]; exact R'
  ·simp [Gh.name]
  ·simp [Gh.name, ht]
 ·have hb0 := hO.2 b (List.mem_cons_self ..)
  have hnd := List.nodup_cons.1 hO.1
  have hflag : ((dp || τ.flat) && !τ.flat) = (dp && !τ.flat) := by cases dp <;> cases τ.flat <;> rfl
  obtain ⟨g', l, hk, ho, R', hc⟩ := R.Z4 (id := n) (deep := dp || τ.flat) (τ := τ) (xs := x) (nb := nb') hb0 (hn b (List.mem_cons_self ..)) hnd.1 ha hl hs hnd.2 (fun y hy => ⟨hO.2 y (List.mem_cons_of_mem _ hy), by
   unfold Q9 at hE
   split at hE
   ·exact hE.X9 y hy
   ·rw [hE.2] at hy; simp at hy⟩) (by rw [hflag]; exact hE)
  rw [ht] at R' hc
  refine ⟨Nat.le_succ _, hfree _, hold _, g', l, fun y hy => ?_, fun i hi => ho i (by omega), R', ⟨_, [], rfl, hc, rfl⟩⟩
  rw [List.mem_cons, not_or] at hy
  exact hk y hy.1 hy.2
theorem a79 : ∀ (sp : Sp) (x : sp.ty.den) (pl : Nat × Nat) (n : Nat) (ib : Bool) {B : Base} {g : Gh} {hp : List (Nat × Obj)} {w : World} {rp : Nat × Nat} {us : List Value} {nb : List Nat}, sp.whole ib = true → (ib = true → M1 g (some (pl.1, 0, pl.2)) rp) → HRel B g hp w → Pass g.imm w sp x rp us nb → F5 g nb → (∀ b ∈ nb, g.nst b = none) → ak8 hp n →
  bR3 (mk0 sp x pl n).1 (mk0 sp x pl n).2.1 n (mk0 sp x pl n).2.2 B g hp w us nb := by
 intro sp
 induction sp with
 | un => intro x pl n ib B g hp w rp us nb hw hpl R hP hO hn hf; exact ⟨Nat.le_refl _, hf, fun _ _ => rfl, g, Le.refl g, fun _ _ => ⟨rfl, rfl⟩, fun _ _ => rfl, R, hP.1⟩
 | pub τ =>
  intro x pl n ib B g hp w rp us nb hw hpl R hP hO hn hf
  obtain ⟨_, h1, u, rfl, hr⟩ := hP
  exact ⟨Nat.le_refl _, hf, fun _ _ => rfl, g, Le.refl g, fun _ _ => ⟨rfl, rfl⟩, fun _ _ => rfl, R, u, [], rfl, ⟨h1, hr⟩, rfl⟩
 | err =>
  intro x pl n ib B g hp w rp us nb hw hpl R hP hO hn hf
  obtain ⟨_, u, rfl, hr⟩ := hP
  exact ⟨Nat.le_refl _, hf, fun _ _ => rfl, g, Le.refl g, fun _ _ => ⟨rfl, rfl⟩, fun _ _ => rfl, R, u, [], rfl, hr, rfl⟩
 | np =>
  intro x pl n ib B g hp w rp us nb hw hpl R hP hO hn hf
  obtain ⟨_, rfl⟩ := hP
  exact ⟨Nat.le_refl _, hf, fun _ _ => rfl, g, Le.refl g, fun _ _ => ⟨rfl, rfl⟩, fun _ _ => rfl, R, _, [], rfl, rfl, rfl⟩
 | slf f m =>
  intro x pl n ib B g hp w rp us nb hw hpl R hP hO hn hf
  obtain ⟨_, b, o, rfl⟩ := hP
  have ht := R.ar0 (hf n (Nat.le_refl _))
  obtain ⟨l1, R1⟩ := R.named (id := n) (u := .pointer (some ⟨b, o, none⟩)) (o' := .dead (g.top n)) rfl trivial
  have hcv1 : (g.name n (g.top n) (.pointer (some ⟨b, o, none⟩))).cv n (g.top n) = .pointer (some ⟨b, o, none⟩) := by simp [Gh.name]
  have ht1 : g.top n < (g.name n (g.top n) (.pointer (some ⟨b, o, none⟩))).top n := by simp [Gh.name]
  rw [ht] at R1 hcv1 ht1
  rw [ht] at l1
  refine ⟨Nat.le_succ n, fun i hi => ?_, fun i hi => ?_, g.name n 0 (.pointer (some ⟨b, o, none⟩)), l1.le, fun _ _ => ⟨rfl, rfl⟩, fun _ _ => rfl, R1, ⟨_, [], rfl, ⟨ht1, b, o, hcv1, rfl⟩, rfl⟩⟩
  ·have hi : n + 1 ≤ i := hi
   show look ((n, _) :: hp) i = none
   rw [j6 _ _ (by omega)]; exact hf i (by omega)
  ·show look ((n, _) :: hp) i = _
   rw [j6 _ _ (by omega)]
 | own τ dp => intro x pl n ib B g hp w rp us nb hw hpl R hP hO hn hf; exact bw3 R hP hO hn hf
 | lnd τ dp => intro x pl n ib B g hp w rp us nb hw hpl R hP hO hn hf; exact bw3 R hP hO hn hf
 | tak ok => intro x pl n ib B g hp w rp us nb hw; cases hw
 | bld =>
  intro x pl n ib B g hp w rp us nb hw hpl R hP hO hn hf
  have hib : ib = true := hw
  obtain ⟨hbg, bb, oo, hcv, rfl⟩ := hpl hib _ _ _ rfl
  have hB : aD8 g.imm w (bb, oo + pl.2) x us nb := hP
  have hlt : pl.1 < n := by
   rcases Nat.lt_or_ge pl.1 n with h | h
   ·exact h
   ·have := R.ar0 (hf pl.1 h)
    omega
  have two : ∃ u1 u2, us = [u1, u2] ∧ oc u1 = true := by
   rcases hB with ⟨e, _⟩ | ⟨u2, e, _⟩
   ·exact ⟨_, _, e, rfl⟩
   ·exact ⟨_, _, e, rfl⟩
  obtain ⟨u1, u2, rfl, ho1⟩ := two
  have ht := R.ar0 (hf n (Nat.le_refl _))
  have ht2 := R.ar0 (hf (n + 1) (by omega))
  obtain ⟨l1, R1⟩ := R.named (id := n) (u := u1) (o' := .dead (g.top n)) rfl trivial
  have hcv1 : (g.name n (g.top n) u1).cv n (g.top n) = u1 := by simp [Gh.name]
  have ht1 : g.top n < (g.name n (g.top n) u1).top n := by simp [Gh.name]
  have ht3 : (g.name n (g.top n) u1).top (n + 1) = 0 := by simp [Gh.name, ht2]
  obtain ⟨g2, l2, k2, o2, R2, c2⟩ := R1.bj9 (id := n + 1) (a := n) (ag := g.top n) (bid := pl.1) (bg := 0) (off := pl.2) (xs := x) (u2 := u2) (nb := nb) ht1 (Nat.lt_of_lt_of_le hbg (l1.le.top _)) (by omega) (hO.mono l1) hn ((l1.le.cv _ _ hbg).trans hcv) (by rw [hcv1]; exact hB)
  have hc1 : s6 g2 (.own n (g.top n)) u1 := ⟨Nat.lt_of_lt_of_le ht1 (l2.top _), by rw [l2.cv _ _ ht1, hcv1], ho1⟩
  rw [ht3] at R2 c2
  rw [ht] at R2 hc1
  refine ⟨Nat.le_add_right n 2, fun i hi => ?_, fun i hi => ?_, g2, l1.le.trans l2, k2, fun i hi => by rw [o2, l1.out], R2, ⟨u1, [u2], rfl, hc1, u2, [], rfl, c2, rfl⟩⟩
  ·have hi : n + 2 ≤ i := hi
   show look ((n + 1, _) :: (n, _) :: hp) i = none
   rw [j6 _ _ (by omega), j6 _ _ (by omega)]; exact hf i (by omega)
  ·show look ((n + 1, _) :: (n, _) :: hp) i = _
   rw [j6 _ _ (by omega), j6 _ _ (by omega)]
 | pr a b iha ihb =>
  intro x pl n ib B g hp w rp us nb hw hpl R hP hO hn hf
  simp only [Sp.whole, Bool.and_eq_true] at hw
  obtain ⟨u1, u2, n1, n2, rfl, rfl, P1, P2⟩ := hP
  have hnd := List.nodup_append.1 hO.1
  have hd : ∀ y ∈ n2, y ∉ n1 := fun y h2 h1 => hnd.2.2 y h1 y h2 rfl
  obtain ⟨m1, f1, i1, g1, l1, k1, o1, R1, c1⟩ := iha x.1 pl n ib hw.1 hpl R P1 ⟨hnd.1, fun y hy => hO.2 y (List.mem_append_left _ hy)⟩ (fun y hy => hn y (List.mem_append_left _ hy)) hf
  obtain ⟨m2, f2, i2, g2, l2, k2, o2, R2, c2⟩ := ihb x.2 (pl.1, pl.2 + a.size) _ ib hw.2 (fun e => (((hpl e).mono l1).on a.size)) R1 (P2.mono l1.imm) ⟨hnd.2.1, fun y hy => by rw [(k1 y (hd y hy)).1]; exact hO.2 y (List.mem_append_right _ hy)⟩
   (fun y hy => by rw [(k1 y (hd y hy)).2]; exact hn y (List.mem_append_right _ hy)) f1
  refine ⟨Nat.le_trans m1 m2, ?_, fun i hi => ?_, g2, l1.trans l2, fun y hy => ?_, fun i hi => (o2 i (by omega)).trans (o1 i hi), ?_, (c1.mono l2).append c2⟩
  ·show ak8 ((_ ++ _) ++ hp) _
   rw [List.append_assoc]; exact f2
  ·show look ((_ ++ _) ++ hp) i = _
   rw [List.append_assoc, i2 i (by omega), i1 i hi]
  ·rw [List.mem_append, not_or] at hy
   obtain ⟨a1, a2⟩ := k1 y hy.1
   obtain ⟨b1, b2⟩ := k2 y hy.2
   exact ⟨b1.trans a1, b2.trans a2⟩
  ·show HRel B g2 ((_ ++ _) ++ hp) w
   rw [List.append_assoc]; exact R2
 | ptr wh st sp ih =>
  intro x pl n ib B g hp w rp us nb hw hpl R hP hO hn hf
  simp only [Sp.whole, Bool.and_eq_true] at hw
  obtain ⟨b, o, arr, ty, nb', rfl, rfl, ha, hwh, hle0, P⟩ := hP
  obtain ⟨rfl, hsz, rfl⟩ := hwh.1 hw.1
  have hnd := List.nodup_cons.1 hO.1
  have ht := R.ar0 (hf n (Nat.le_refl _))
  obtain ⟨l0, R0⟩ := R.bB3 n (.pointer (some ⟨b, 0, none⟩)) arr.toList
  have hcv0 : (g.R8 n (g.top n) (.pointer (some ⟨b, 0, none⟩)) arr.toList).cv n 0 = .pointer (some ⟨b, 0, none⟩) := by simp [Gh.R8, ht]
  have htop0 : 0 < (g.R8 n (g.top n) (.pointer (some ⟨b, 0, none⟩)) arr.toList).top n := by simp [Gh.R8]
  have hout0 : (g.R8 n (g.top n) (.pointer (some ⟨b, 0, none⟩)) arr.toList).outer n = arr.toList := by simp [Gh.R8]
  have houtn : ∀ i, i < n → (g.R8 n (g.top n) (.pointer (some ⟨b, 0, none⟩)) arr.toList).outer i = g.outer i := fun i hi => by
   simp only [Gh.R8]
   rw [if_neg (by omega)]
  have hlab0 : (g.R8 n (g.top n) (.pointer (some ⟨b, 0, none⟩)) arr.toList).lab = g.lab := rfl
  have hnst0 : (g.R8 n (g.top n) (.pointer (some ⟨b, 0, none⟩)) arr.toList).nst = g.nst := rfl
  have P0 : Pass (g.R8 n (g.top n) (.pointer (some ⟨b, 0, none⟩)) arr.toList).imm w sp x (b, 0) ((arr.toList.drop 0).take sp.size) nb' := P
  generalize g.R8 n (g.top n) (.pointer (some ⟨b, 0, none⟩)) arr.toList = g0 at l0 R0 hcv0 htop0 hout0 houtn hlab0 hnst0 P0
  rw [ht] at R0
  obtain ⟨m1, f1, i1, g1, l1, k1, o1, R1, c1⟩ := ih x (n, 0) (n + 1) true hw.2 (fun _ id gen off e => by
    injection e with e; injection e with e1 e; injection e with e2 e3
    subst e1; subst e2; subst e3
    exact ⟨htop0, b, 0, hcv0, rfl⟩) R0 P0 ⟨hnd.2, fun y hy => by rw [hlab0]; exact hO.2 y (List.mem_cons_of_mem _ hy)⟩ (fun y hy => by rw [hnst0]; exact hn y (List.mem_cons_of_mem _ hy)) (fun i hi => by rw [j6 _ _ (by omega)]; exact hf i (by omega))
  obtain ⟨q1, q2⟩ := k1 b hnd.1
  rw [hlab0] at q1
  rw [hnst0] at q2
  have hall : (arr.toList.drop 0).take sp.size = arr.toList := by
   rw [List.drop_zero]; exact List.take_of_length_le (by simp [hsz])
  rw [hall] at c1
  have hlk : look ((mk0 sp x (n, 0) (n + 1)).2.1 ++ ((n, Obj.lent 0 (0, [])) :: hp)) n = some (.lent 0 (0, [])) := by rw [i1 n (by omega), l9]
  have hb0 : g1.lab b = some 0 := q1.trans (hO.2 b (List.mem_cons_self ..))
  have hbn : g1.nst b = none := q2.trans (hn b (List.mem_cons_self ..))
  have hcv1 : g1.cv n 0 = .pointer (some ⟨b, 0, none⟩) := (l1.cv _ _ htop0).trans hcv0
  have hout1 : g1.outer n = arr.toList := (o1 n (by omega)).trans hout0
  let g2 : Gh := { g1 with lab := open Classical in fun x => if x = b then some (n + 1) else g1.lab x }
  have hle2 : Le g1 g2 := ⟨fun _ _ h => h, fun _ => Nat.le_refl _, fun _ _ _ => rfl⟩
  have R2 : HRel B g2 ((n, .box 0 (st.1, (mk0 sp x (n, 0) (n + 1)).1)) :: ((mk0 sp x (n, 0) (n + 1)).2.1 ++ ((n, Obj.lent 0 (0, [])) :: hp))) w := by
   refine R1.bC8 hb0 hbn hlk rfl ⟨b, 0, arr, st.1, arr.toList, hcv1, ⟨by simp, hbn⟩, ha, c1.mono hle2, ?_, ?_, rfl, ?_, rfl⟩
   ·show arr.toList = (g1.outer n).take 0 ++ arr.toList ++ (g1.outer n).drop (0 + arr.toList.length)
    rw [hout1]; simp
   ·show 0 + arr.toList.length ≤ (g1.outer n).length
    rw [hout1]; simp
   ·show (g1.outer n).length = (mk0 sp x (n, 0) (n + 1)).1.length
    rw [hout1]; exact c1.length
  have hcong : ∀ i, look ((n, Obj.box 0 (st.1, (mk0 sp x (n, 0) (n + 1)).1)) :: ((mk0 sp x (n, 0) (n + 1)).2.1 ++ hp)) i = look ((n, Obj.box 0 (st.1, (mk0 sp x (n, 0) (n + 1)).1)) :: ((mk0 sp x (n, 0) (n + 1)).2.1 ++ ((n, Obj.lent 0 (0, [])) :: hp))) i := by
   intro i
   by_cases e : n = i
   ·subst e; rw [l9, l9]
   ·rw [j6 _ _ e, j6 _ _ e]
    have app : ∀ (l : List (Nat × Obj)), look (l ++ hp) i = look (l ++ ((n, Obj.lent 0 (0, [])) :: hp)) i := by
     intro l
     induction l with
     | nil => exact (j6 _ _ e).symm
     | cons p l ih =>
      show (bif Nat.beq p.1 i then some p.2 else look (l ++ hp) i) = (bif Nat.beq p.1 i then some p.2 else look (l ++ ((n, Obj.lent 0 (0, [])) :: hp)) i)
      rw [ih]
    exact app _
  refine ⟨by show n ≤ (mk0 sp x (n, 0) (n + 1)).2.2; omega, fun i hi => ?_, fun i hi => ?_, g2, (l0.trans l1).trans hle2, fun y hy => ?_, fun i hi => (o1 i (by omega)).trans (houtn i hi), R2.congr hcong, ⟨_, [], rfl, ⟨Nat.lt_of_lt_of_le htop0 (l1.top n), b, 0, hcv1, rfl⟩, rfl⟩⟩
  ·have hi : (mk0 sp x (n, 0) (n + 1)).2.2 ≤ i := hi
   have := f1 i hi
   have h2 := hcong i
   rw [j6 _ _ (by omega), j6 _ _ (by omega)] at h2
   show look ((n, _) :: ((mk0 sp x (n, 0) (n + 1)).2.1 ++ hp)) i = none
   rw [j6 _ _ (by omega), h2]; exact this
  ·have h2 := hcong i
   rw [j6 _ _ (by omega), j6 _ _ (by omega)] at h2
   show look ((n, _) :: ((mk0 sp x (n, 0) (n + 1)).2.1 ++ hp)) i = _
   rw [j6 _ _ (by omega), h2, i1 i (by omega), j6 _ _ (by omega)]
  ·rw [List.mem_cons, not_or] at hy
   obtain ⟨a1, a2⟩ := k1 y hy.2
   exact ⟨by simp [g2, hy.1, a1, hlab0], by rw [show g2.nst = g1.nst from rfl, a2, hnst0]⟩
def ay6 (a : Act) : List Nat → List Value → Prop
 | [], us => us = []
 | t :: ts, us => ∃ u r, us = u :: r ∧ a.tmps.getD t undef = u ∧ ay6 a ts r
theorem ay4 {a : Act} : ∀ (as : List VSp) (ts : List Nat) (x : (A6 as).den) (n : Nat) {B : Base} {g : Gh} {hp : List (Nat × Obj)} {w : World} {us : List Value} {nb : List Nat}, Y7 as = true → HRel B g hp w → I7 g.imm w as x us nb → F5 g nb → (∀ b ∈ nb, g.nst b = none) → ak8 hp n →
  ay6 a ts us → ∃ g', Le g g' ∧ HRel B g' ((au7 as ts x n).2 ++ hp) w ∧ ∀ t s, (t, s) ∈ (au7 as ts x n).1 → D0 g' s (a.tmps.getD t undef)
 | [], ts, x, n, B, g, hp, w, us, nb, hwa, R, hP, hO, hn, hf, hs => ⟨g, Le.refl g, R, fun t s h => by simp [au7] at h⟩
 | sp :: as, [], x, n, B, g, hp, w, us, nb, hwa, R, hP, hO, hn, hf, hs => ⟨g, Le.refl g, R, fun t s h => by simp [au7] at h⟩
 | sp :: as, t :: ts, x, n, B, g, hp, w, us, nb, hwa, R, hP, hO, hn, hf, hs => by
  simp only [Y7, Bool.and_eq_true] at hwa
  obtain ⟨u, r, n1, n2, rfl, rfl, P1, P2⟩ := hP
  obtain ⟨u', r', e, hu, hs'⟩ := hs
  injection e with e1 e2
  subst e1; subst e2
  have hnd := List.nodup_append.1 hO.1
  have hd : ∀ y ∈ n2, y ∉ n1 := fun y h2 h1 => hnd.2.2 y h1 y h2 rfl
  have hO1 : F5 g n1 := ⟨hnd.1, fun y hy => hO.2 y (List.mem_append_left _ hy)⟩
  have hn1 : ∀ y ∈ n1, g.nst y = none := fun y hy => hn y (List.mem_append_left _ hy)
  have one : ∃ m g1, n ≤ m ∧ m = (aO9 sp x.1 n).2.2 ∧ ak8 ((aO9 sp x.1 n).2.1 ++ hp) m ∧ Le g g1 ∧ (∀ y, y ∉ n1 → g1.lab y = g.lab y ∧ g1.nst y = g.nst y) ∧ HRel B g1 ((aO9 sp x.1 n).2.1 ++ hp) w ∧ ∀ v, (aO9 sp x.1 n).1 = some v → F4 g1 v u := by
   cases sp with
   | one s =>
    obtain ⟨m1, f1, _, g1, l1, k1, _, R1, c1⟩ := a79 s x.1 (0, 0) n false hwa.1 (fun e => by cases e) R P1.2 hO1 hn1 hf
    refine ⟨_, g1, m1, rfl, f1, l1, k1, R1, fun v hv => ?_⟩
    simp only [aO9] at hv
    split at hv
    ·rename_i c hc
     injection hv with hv
     subst hv
     rw [hc] at c1
     obtain ⟨u'', r'', e'', hu'', _⟩ := c1
     injection e'' with e''
     subst e''
     exact hu''
    ·cases hv
   | agg s =>
    obtain ⟨us', rfl, P1⟩ := P1
    obtain ⟨m1, f1, _, g1, l1, k1, _, R1, c1⟩ := a79 s x.1 (0, 0) n false hwa.1 (fun e => by cases e) R P1 hO1 hn1 hf
    refine ⟨_, g1, m1, rfl, f1, l1, k1, R1, fun v hv => ?_⟩
    injection hv with hv
    subst hv
    exact ⟨us', rfl, c1⟩
  obtain ⟨m, g1, m1, em, f1, l1, k1, R1, c1⟩ := one
  subst em
  have P2' : I7 g1.imm w as x.2 r n2 := by
   have : ∀ (as : List VSp) (x : (A6 as).den) (us : List Value) (nb : List Nat), I7 g.imm w as x us nb → I7 g1.imm w as x us nb := by
    intro as
    induction as with
    | nil => intro x us nb h; exact h
    | cons a as ih => intro x us nb h; obtain ⟨u, r, n1, n2, e, e', h1, h2⟩ := h; exact ⟨u, r, n1, n2, e, e', h1.mono l1.imm, ih _ _ _ h2⟩
   exact this _ _ _ _ P2
  obtain ⟨g2, l2, R2, c2⟩ := ay4 as ts x.2 (aO9 sp x.1 n).2.2 hwa.2 R1 P2' ⟨hnd.2.1, fun y hy => by rw [(k1 y (hd y hy)).1]; exact hO.2 y (List.mem_append_right _ hy)⟩
   (fun y hy => by rw [(k1 y (hd y hy)).2]; exact hn y (List.mem_append_right _ hy)) f1 hs'
  refine ⟨g2, l1.trans l2, ?_, fun t' s ht => ?_⟩
  ·show HRel B g2 ((_ ++ _) ++ hp) w
   rw [List.append_assoc]; exact R2
  ·simp only [au7] at ht
   split at ht
   ·rename_i v hv
    rcases List.mem_cons.1 ht with ht | ht
    ·injection ht with h1 h2
     subst h1; subst h2
     show F4 g2 v _
     rw [hu]
     exact F4.mono l2 (c1 v hv)
    ·exact c2 t' s ht
   ·exact c2 t' s ht
theorem bj2 {β : Type} : ∀ {l : List (Nat × β)} {n : Nat} {b : β}, look l n = some b → (n, b) ∈ l
 | [], _, _, h => by cases h
 | (m, c) :: r, n, b, h => by
  simp only [look] at h
  cases e : Nat.beq m n with
  | true => rw [e] at h; injection h with h; subst h; rw [beq_eq e]; exact List.mem_cons_self ..
  | false => rw [e] at h; exact List.mem_cons_of_mem _ (bj2 h)
theorem a92 {E : Env} {B : Base} {g : Gh} {w : World} {as : List VSp} {ts : List Nat} {x : (A6 as).den} {us : List Value} {nb : List Nat} {a : Act} (hwa : Y7 as = true) (R : HRel B g [] w) (hP : I7 g.imm w as x us nb) (hO : F5 g nb) (hn : ∀ b ∈ nb, g.nst b = none)
  (hs : ay6 a ts us) (hsz : a.tmps.size = E.nt) (hdf : a.defers = []) (hk : ∀ t ∈ E.av4, a.tmps.getD t undef = B.arg t) (hsf : bR4 E B) :
  ∃ g', Le g g' ∧ HRel B g' (dec ts as x).hp w ∧ ActRel E B g' (dec ts as x).env a := by
 obtain ⟨g', l, R', hc⟩ := ay4 as ts x bp1 hwa R hP hO hn (fun i _ => rfl) hs
 rw [List.append_nil] at R'
 exact ⟨g', l, R', ⟨fun t s ht => hc t s (bj2 ht), hsz, hdf, hk, hsf⟩⟩
open Classical in
theorem HRel.fresh {B : Base} {g : Gh} {hp : List (Nat × Obj)} {w : World} (R : HRel B g hp w) {nb : List Nat} (hO : F5 g nb) :
  ∃ g', g'.imm = g.imm ∧ HRel B g' [] w ∧ F5 g' nb ∧ ∀ b ∈ nb, g'.nst b = none := by
 refine ⟨{ imm := g.imm, top := fun _ => 0, cv := fun _ _ => .tuple #[], lab := fun x => if x ∈ nb then some 0 else none, nst := fun _ => none, outer := fun _ => [] }, rfl, ⟨fun _ => rfl, (fun i o h => by cases h), fun b L h => ?_, (fun b L h => by cases h), fun b h => ?_, R.imm0, fun b hb hl hi => ?_, R.size, R.os, R.tape, R.output, R.fix⟩,
  ⟨hO.1, fun b hb => by simp [hb]⟩, fun _ _ => rfl⟩
 ·obtain ⟨a1, a2, a3⟩ := R.imm b L h
  have : b ∉ nb := fun hm => by rw [hO.2 b hm] at a1; cases a1
  exact ⟨by simp [this], rfl, a3⟩
 ·by_cases hm : b ∈ nb
  ·exact R.labsz b (by rw [hO.2 b hm]; simp)
  ·simp [hm] at h
 ·obtain ⟨f1, f2, f3⟩ := R.frame b hb hl hi
  have : b ∉ nb := fun hm => by rw [hO.2 b hm] at f1; cases f1
  exact ⟨by simp [this], f2, f3⟩
theorem as7 : ∀ {ts : List Nat} {s s' : St} {vs : List Val}, (a05 ts).run s = some (vs, s') → s' = s ∧ ∀ {g : Gh} {a : Act}, O0 g s.env a → ∃ us, ay6 a ts us ∧ F8 g vs us
 | [], _, _, _, h => by obtain ⟨rfl, rfl⟩ := j0 h; exact ⟨rfl, fun _ => ⟨[], rfl, rfl⟩⟩
 | t :: ts, s, s', vs, h => by
  obtain ⟨v, t1, h1, h2⟩ := AM.c8 h
  obtain ⟨vs', t2, h3, h4⟩ := AM.c8 h2
  obtain ⟨rfl, rfl⟩ := j0 h4
  simp only [AM.run] at h1
  split at h1
  ·rename_i sl hsl
   obtain ⟨rfl, rfl⟩ := al6 h1
   obtain ⟨rfl, hr⟩ := as7 h3
   refine ⟨rfl, fun V => ?_⟩
   obtain ⟨us, hs, hv⟩ := hr V
   exact ⟨_ :: us, ⟨_, us, rfl, rfl, hs⟩, ⟨_, us, rfl, V t _ hsl, hv⟩⟩
  ·cases h1
theorem bG4 {E : Env} {B : Base} {ts ts' : List Nat} {as : List VSp} {s s' : St} {x : (A6 as).den} (h : (enc ts as).run s = some (x, s')) {g : Gh} {a : Act} {w : World} (R : HRel B g s.hp w) (V : ActRel E B g s.env a) :
  ∃ g', (∀ b L, g.imm b = some L → g'.imm b = some L) ∧ HRel B g' (dec ts as x).hp w ∧ ActRel E B g' (dec ts as x).env a := by
 obtain ⟨hwa, h⟩ := s7 h
 obtain ⟨vs, t, h1, h2⟩ := AM.c8 h
 obtain ⟨rfl, hv⟩ := as7 h1
 obtain ⟨us, hs, hr⟩ := hv V.env
 obtain ⟨_, hrd⟩ := ag7 h2
 obtain ⟨g1, l1, R1, c1⟩ := hrd B g w R
 obtain ⟨nb, hP, hO, _, _⟩ := c1 us hr
 obtain ⟨g2, e2, R2, hO2, hn2⟩ := R1.fresh hO
 obtain ⟨g3, l3, R3, V3⟩ := a92 (E := E) (ts := ts) hwa R2 (by rw [e2]; exact hP) hO2 hn2 hs V.size V.defers V.kept V.slf
 exact ⟨g3, fun b L hb => l3.imm b L (by rw [e2]; exact l1.le.imm b L hb), R3, V3⟩
def aZ2 (a : Act) : List Nat → List Value → Prop
 | [], us => us = []
 | t :: r, us => ∃ b o v, us = .pointer (some ⟨b, o, none⟩) :: v ∧ a.tmps.getD t undef = .pointer (some ⟨b, o, none⟩) ∧ aZ2 a r v
def bI1 (a : Act) : Der → Prop
 | [] => True
 | d :: r => (∃ vs : List Value, a.tmps.getD d.1 undef = .func (.func d.2.1) #[] vs.toArray ∧ aZ2 a d.2.2 vs) ∧ bI1 a r
theorem a61 {g : Gh} {a : Act} {env : List (Nat × Slot)} (V : O0 g env a) : ∀ {ts : List Nat} {cs : List (Nat × Nat)} {us : List Value}, aL2 env ts = some cs → aP1 g cs us → aZ2 a ts us
 | [], cs, us, h, k => by
  injection h with h
  subst h
  exact k
 | t :: ts, cs, us, h, k => by
  simp only [aL2] at h
  split at h
  ·rename_i id gen hl
   simp only [Option.map_eq_some_iff] at h
   obtain ⟨cs', h1, rfl⟩ := h
   obtain ⟨b, o, v, rfl, ht, hcv, hr⟩ := k
   have hs : s6 g (.ptr id gen 0) (a.tmps.getD t undef) := V t _ hl
   obtain ⟨_, b', o', e1, e2⟩ := hs
   have hcv : g.cv id gen = .pointer (some ⟨b, o, none⟩) := hcv
   rw [hcv] at e1
   injection e1 with e1; injection e1 with e1; injection e1 with e1 e3
   subst e1; subst e3
   exact ⟨b, o, v, rfl, e2, a61 V h1 hr⟩
  ·cases h
theorem a32 {g : Gh} {a : Act} {env : List (Nat × Slot)} (V : O0 g env a) : ∀ {ts : List Nat} {cs : List (Nat × Nat)} {us : List Value}, aL2 env ts = some cs → aZ2 a ts us → aP1 g cs us
 | [], cs, us, h, k => by
  injection h with h
  subst h
  exact k
 | t :: ts, cs, us, h, k => by
  simp only [aL2] at h
  split at h
  ·rename_i id gen hl
   simp only [Option.map_eq_some_iff] at h
   obtain ⟨cs', h1, rfl⟩ := h
   obtain ⟨b, o, v, rfl, hu, hr⟩ := k
   have hs : s6 g (.ptr id gen 0) (a.tmps.getD t undef) := V t _ hl
   obtain ⟨ht, b', o', e1, e2⟩ := hs
   rw [hu] at e2
   injection e2 with e2; injection e2 with e2; injection e2 with e2 e3
   subst e2
   refine ⟨b, o, v, rfl, ht, ?_, a32 V h1 hr⟩
   rw [e1, e3]
   rfl
  ·cases h
theorem bg7 {g : Gh} {a : Act} {env : List (Nat × Slot)} (V : O0 g env a) : ∀ {der : Der}, av1 env der = true → bI1 a der
 | [], _ => trivial
 | d :: r, h => by
  simp only [av1, Bool.and_eq_true] at h
  refine ⟨?_, bg7 V h.2⟩
  have h1 := h.1
  split at h1
  ·rename_i f caps cs hl hc
   simp only [Bool.and_eq_true] at h1
   obtain rfl := beq_eq h1.1
   obtain rfl := ak9 h1.2
   have hs : s6 g (.fn d.2.1 caps) (a.tmps.getD d.1 undef) := V d.1 _ hl
   obtain ⟨vs, e, hv⟩ := hs
   exact ⟨vs, e, a61 V hc hv⟩
  ·cases h1
theorem aC8 {g : Gh} {a : Act} {env : List (Nat × Slot)} (V : O0 g env a) : ∀ {der : Der}, bI1 a der → O0 g (derive env der) a
 | [], _ => V
 | d :: r, ⟨⟨vs, e, hv⟩, hr⟩ => by
  simp only [derive]
  split
  ·rename_i cs hc
   intro t s hl
   by_cases et : d.1 = t
   ·subst et
    rw [l9] at hl
    injection hl with hl
    subst hl
    exact ⟨vs, e, a32 V hc hv⟩
   ·rw [j6 _ _ et] at hl
    exact aC8 V hr t s hl
  ·exact aC8 V hr
theorem aJ4 {E : Env} {B : Base} {ts : List Nat} {as : List VSp} {der : Der} {s s' : St} {x : (A6 as).den} (hd : av1 s.env der = true) (h : (enc ts as).run s = some (x, s')) {g : Gh} {a : Act} {w : World} (R : HRel B g s.hp w) (V : ActRel E B g s.env a) :
  ∃ g', (∀ b L, g.imm b = some L → g'.imm b = some L) ∧ HRel B g' (bz6 ts as der x).hp w ∧ ActRel E B g' (bz6 ts as der x).env a := by
 obtain ⟨g', hi, R', V'⟩ := bG4 (ts' := ts) h R V
 exact ⟨g', hi, R', ⟨aC8 V'.env (bg7 V.env hd), V'.size, V'.defers, V'.kept, V'.slf⟩⟩
end Go.Abs
end

section
namespace Go.Abs
def ay1 (E : Env) (c : Code) (h : Handler) : Prop :=
 ∀ (ρ : Type) (B : Base) (s : St) (K : Exit → St → Option ρ) (x : ρ) (Q : Exit → Act → World → Prop), h ρ s K = some x → (∀ e, KOk E B (K e) x (Q e)) →
  ∀ g a w, N2 E.glob g.imm → HRel B g s.hp w → ActRel E B g s.env a → c.wp E.P Q a w
def pieces : Code → List (Bool × Code)
 | .seq a b => (false, b) :: (pieces a ++ pieces b)
 | .cond _ a b => pieces a ++ pieces b
 | .block _ c => pieces c
 | .loop c => [(true, c)]
 | .scope c => pieces c
 | _ => []
structure CutsOk (E : Env) (H : Cuts) (c : Code) : Prop where
 loop : ∀ b, (true, b) ∈ pieces c → ∀ h : Handler, (first b).bind H.loop = some h → ay1 E (.loop b) h
 join : ∀ b, (false, b) ∈ pieces c → ∀ h : Handler, (first b).bind H.join = some h → ay1 E b h
theorem CutsOk.sub {E : Env} {H : Cuts} {c d : Code} (h : CutsOk E H c) (hs : ∀ p ∈ pieces d, p ∈ pieces c) : CutsOk E H d :=
 ⟨fun b hb => h.loop b (hs _ hb), fun b hb => h.join b (hs _ hb)⟩
theorem aR8 {s : St} {c : Operand} {t : Bool} {g : Gh} {a : Act} (h : aI6 s c = some t) (V : O0 g s.env a) : a.eval c = .bool t := by
 unfold aI6 at h
 split at h
 ·rename_i t'
  split at h
  ·rename_i b hb
   injection h with h
   subst h
   exact V7 (V t' _ hb)
  ·cases h
 ·injection h with h; subst h; rfl
 ·cases h
theorem aC5 {E : Env} (hE : EnvOk E) (hm : E.P.follows .mixedOrders = true) {ρ : Type} {B : Base} {H : Cuts} : ∀ (c : Code) (s : St) (K : Exit → St → Option ρ) (x : ρ) (Q : Exit → Act → World → Prop), CutsOk E H c → exec E H c s K = some x → (∀ e, KOk E B (K e) x (Q e)) →
  ∀ g a w, N2 E.glob g.imm → HRel B g s.hp w → ActRel E B g s.env a → c.wp E.P Q a w := by
 intro c
 induction c with
 | skip => intro s K x Q _ h hK g a w hG R V; exact wp_skip (hK .normal s g a w h hG R V)
 | region id ops draw =>
  intro s K x Q _ h hK g a w hG R V
  exact aH0 hE hm (hK .normal) h hG R V
 | seq c1 c2 ih1 ih2 =>
  intro s K x Q hH h hK g a w hG R V
  have h1 : CutsOk E H c1 := hH.sub fun p hp => List.mem_cons_of_mem _ (List.mem_append_left _ hp)
  have h2 : CutsOk E H c2 := hH.sub fun p hp => List.mem_cons_of_mem _ (List.mem_append_right _ hp)
  refine wp_seq (ih1 s _ x _ h1 h (fun e => ?_) g a w hG R V)
  cases e with
  | normal =>
   intro s' g' a' w' hk hG' R' V'
   simp only at hk
   cases hj : (first c2).bind H.join with
   | none =>
    rw [hj] at hk
    exact ih2 s' K x Q h2 hk hK g' a' w' hG' R' V'
   | some hh =>
    rw [hj] at hk
    exact hH.join c2 (List.mem_cons_self ..) hh hj ρ B s' K x Q hk hK g' a' w' hG' R' V'
  | _ => intro s' g' a' w' hk hG' R' V'; exact hK _ s' g' a' w' hk hG' R' V'
 | cond c c1 c2 ih1 ih2 =>
  intro s K x Q hH h hK g a w hG R V
  simp only [exec] at h
  cases hb : aI6 s c with
  | none => rw [hb] at h; cases h
  | some t =>
   rw [hb] at h
   refine wp_cond (aR8 hb V.env) ?_
   have h : brk t (exec E H c1 s K) (exec E H c2 s K) = some x := h
   rcases a02 h with ⟨rfl, h'⟩ | ⟨rfl, h'⟩
   ·exact ih1 s K x Q (hH.sub fun p hp => List.mem_append_left _ hp) h' hK g a w hG R V
   ·exact ih2 s K x Q (hH.sub fun p hp => List.mem_append_right _ hp) h' hK g a w hG R V
 | block id c ih =>
  intro s K x Q hH h hK g a w hG R V
  refine wp_block (ih s _ x _ (hH.sub fun p hp => hp) h (fun e => ?_) g a w hG R V)
  cases e with
  | exit i =>
   intro s' g' a' w' hk hG' R' V'
   simp only at hk
   simp only [Exit.inBlock]
   by_cases e : i = id
   ·rw [if_pos e]
    subst e
    rw [Nat.beq_refl] at hk
    exact hK .normal s' g' a' w' hk hG' R' V'
   ·rw [if_neg e]
    have : Nat.beq i id = false := by rw [Bool.eq_false_iff]; intro he; exact e (beq_eq he)
    rw [this] at hk
    exact hK (.exit i) s' g' a' w' hk hG' R' V'
  | _ => intro s' g' a' w' hk hG' R' V'; exact hK _ s' g' a' w' hk hG' R' V'
 | loop c ih =>
  intro s K x Q hH h hK g a w hG R V
  simp only [exec] at h
  cases hj : (first c).bind H.loop with
  | none => rw [hj] at h; cases h
  | some hh =>
   rw [hj] at h
   exact hH.loop c (List.mem_cons_self ..) hh hj ρ B s K x Q h hK g a w hG R V
 | exit i => intro s K x Q _ h hK g a w hG R V; exact wp_exit (hK (.exit i) s g a w h hG R V)
 | ret => intro s K x Q _ h hK g a w hG R V; exact wp_ret (hK .ret s g a w h hG R V)
 | label l => intro s K x Q _ h hK g a w hG R V; exact wp_label (hK .normal s g a w h hG R V)
 | scope c ih =>
  intro s K x Q hH h hK g a w hG R V
  refine wp_scope_straight (ih s _ x _ (hH.sub fun p hp => hp) h (fun e => ?_) g a w hG R V)
  cases e with
  | goto l => intro s' g' a' w' hk; cases hk
  | _ => intro s' g' a' w' hk hG' R' V'; exact hK _ s' g' a' w' hk hG' R' V'
 | _ => intro s K x Q _ h; cases h
theorem bc4 {e e' : Exit} (h : aW6 e e' = true) : e = e' := by
 cases e <;> cases e' <;> first | rfl | (cases h; done) | skip
 rw [beq_eq h]
theorem aE3 {ρ : Type} : ∀ {ws : List Way1} {e : Exit} {s : St} {y : ai4 ws} {K : Exit → St → Option ρ} {z : ρ}, aU6 ws e s = some y → be0 ws y K = some z →
  ∃ ts as der x s', av1 s.env der = true ∧ (enc ts as).run s = some (x, s') ∧ K e (bz6 ts as der x) = some z
 | [], _, _, _, _, _, h, _ => by cases h
 | w :: r, e, s, y, K, z, h, hg => by
  simp only [aU6] at h
  cases hs : aW6 w.e e with
  | true =>
   rw [hs] at h
   simp only [cond_true] at h
   cases hd : av1 s.env w.der with
   | false => rw [hd] at h; cases h
   | true =>
    rw [hd] at h
    obtain ⟨x, s', h1, h2⟩ := W2 h
    injection h2 with h2
    subst h2
    have hg : K w.e (bz6 w.ts w.as w.der x) = some z := hg
    rw [bc4 hs] at hg
    exact ⟨_, _, _, x, s', hd, h1, hg⟩
  | false =>
   rw [hs] at h
   simp only [cond_false, Option.bind_eq_some_iff] at h
   obtain ⟨y', h1, h2⟩ := h
   injection h2 with h2
   subst h2
   exact aE3 h1 hg
def ag1 (P : Program) (c : Code) (Q : Exit → Act → World → Prop) (a : Act) (w : World) : Prop :=
 ∀ (b : Frame) (k : List Item) (cs : List Frame), ∃ e a' w', Q e a' w' ∧ Arrives P (lone (b.at a (.code c :: .inLoop c :: k)) cs w) b k cs e a' w'
theorem ag1.wp {P : Program} {c : Code} {Q : Exit → Act → World → Prop} {a : Act} {w : World} (h : ag1 P c Q a w) : (Code.loop c).wp P Q a w := by
 intro b k cs
 obtain ⟨e, a', w', hq, harr⟩ := h b k cs
 exact ⟨e, a', w', hq, .of_steps (.one step_loop) harr⟩
theorem ag1.round {P : Program} {c : Code} {Q : Exit → Act → World → Prop} {a : Act} {w : World} (h : c.wp P (Exit.then (ag1 P c Q) Q) a w) : ag1 P c Q a w := by
 intro b k cs
 obtain ⟨e, a₁, w₁, hq, harr⟩ := h b (.inLoop c :: k) cs
 cases e with
 | normal =>
  obtain ⟨e₂, a₂, w₂, hq₂, harr₂⟩ := hq b k cs
  exact ⟨e₂, a₂, w₂, hq₂, .of_steps (Steps.trans harr (.one step_inLoop)) harr₂⟩
 | exit id => exact ⟨_, a₁, w₁, hq, .pass (x := .inLoop c) rfl (fun _ _ => .inl (by simp)) harr⟩
 | goto l => exact ⟨_, a₁, w₁, hq, .pass (x := .inLoop c) rfl (fun _ _ => .inl (by simp)) harr⟩
 | ret => exact ⟨_, a₁, w₁, hq, .pass (x := .inLoop c) rfl (fun _ _ => .inl (by simp)) harr⟩
 | panic ch => exact ⟨_, a₁, w₁, hq, .pass (x := .inLoop c) rfl (fun _ _ => .inl (by simp)) harr⟩
 | outgrown => exact ⟨_, a₁, w₁, hq, .pass (x := .inLoop c) rfl (fun _ _ => .inl (by simp)) harr⟩
def ao8 (E : Env) (c : Cut) (W : (Exit → Act → World → Prop) → Act → World → Prop) (L : (A6 c.as).den → Option (ai4 c.ws)) : Prop :=
 ∀ x y, L x = some y → ∀ {ρ : Type} (B : Base) (K : Exit → St → Option ρ) (z : ρ) (Q : Exit → Act → World → Prop), be0 c.ws y K = some z → (∀ e, KOk E B (K e) z (Q e)) →
  ∀ g a w, N2 E.glob g.imm → HRel B g (bz6 c.ts c.as c.der x).hp w → ActRel E B g (bz6 c.ts c.as c.der x).env a → W Q a w
def a57 (E : Env) (c : Cut) (body : Code) (L : (A6 c.as).den → Option (ai4 c.ws)) : Prop := ao8 E c (ag1 E.P body) L
def bk5 (E : Env) (c : Cut) (body : Code) (L : (A6 c.as).den → Option (ai4 c.ws)) : Prop := ao8 E c (fun Q => body.wp E.P Q) L
theorem a57.none {E : Env} {c : Cut} {body : Code} : a57 E c body (fun _ => .none) := fun x y h => by cases h
theorem bk5.none {E : Env} {c : Cut} {body : Code} : bk5 E c body (fun _ => .none) := fun x y h => by cases h
theorem bD0 {E : Env} {B : Base} {ρ : Type} {ws : List Way1} {y : ai4 ws} {K : Exit → St → Option ρ} {z : ρ} {Q : Exit → Act → World → Prop} (hg : be0 ws y K = some z) (hK : ∀ e, KOk E B (K e) z (Q e)) (e : Exit) : KOk E B (aU6 ws e) y (Q e) := by
 intro s g a w hk hG R V
 obtain ⟨ts, as, der, x, s', hd, h1, h2⟩ := aE3 hk hg
 obtain ⟨g', hi, R', V'⟩ := aJ4 hd h1 R V
 exact hK e _ g' a w h2 (hG.mono hi) R' V'
theorem bB4 {E : Env} (hE : EnvOk E) (hm : E.P.follows .mixedOrders = true) {H : Cuts} {c : Cut} {body : Code} (hH : CutsOk E H body) {L : (A6 c.as).den → Option (ai4 c.ws)} (hL : a57 E c body L) : a57 E c body (c.round E H body L) := by
 intro x y h ρ B K z Q hg hK g a w hG R V
 apply ag1.round
 refine aC5 hE hm body _ _ y _ hH h (fun e => ?_) g a w hG R V
 cases e with
 | normal =>
  intro s' g' a' w' hk hG' R' V'
  have hk : (bif av1 s'.env c.der then (enc c.ts c.as).exec s' fun x' _ => L x' else none) = some y := hk
  cases hd : av1 s'.env c.der with
  | false => rw [hd] at hk; cases hk
  | true =>
   rw [hd] at hk
   obtain ⟨x', s'', h1, h2⟩ := W2 hk
   obtain ⟨g2, hi, R2, V2⟩ := aJ4 hd h1 R' V'
   exact hL x' y h2 B K z Q hg hK g2 a' w' (hG'.mono hi) R2 V2
 | _ => exact bD0 hg hK _
theorem av6 {E : Env} (hE : EnvOk E) (hm : E.P.follows .mixedOrders = true) {H : Cuts} {c : Cut} {body : Code} (hH : CutsOk E H body) : bk5 E c body (c.tail E H body) := by
 intro x y h ρ B K z Q hg hK g a w hG R V
 exact aC5 hE hm body _ _ y _ hH h (fun e => bD0 hg hK e) g a w hG R V
theorem a68 {E : Env} {c : Cut} {body : Code} {L : (A6 c.as).den → Option (ai4 c.ws)} (hL : a57 E c body L) : ay1 E (.loop body) (c.aC7 L) := by
 intro ρ B s K x Q h hK g a w hG R V
 have h : (bif av1 s.env c.der then (enc c.ts c.as).exec s fun x _ => (L x).bind fun y => be0 c.ws y K else none) = some x := h
 cases hd : av1 s.env c.der with
 | false => rw [hd] at h; cases h
 | true =>
  rw [hd] at h
  obtain ⟨x0, s', h1, h2⟩ := W2 h
  simp only [Option.bind_eq_some_iff] at h2
  obtain ⟨y, h3, h4⟩ := h2
  obtain ⟨g2, hi, R2, V2⟩ := aJ4 hd h1 R V
  exact (hL x0 y h3 B K x Q h4 hK g2 a w (hG.mono hi) R2 V2).wp
theorem a65 {E : Env} {c : Cut} {body : Code} {L : (A6 c.as).den → Option (ai4 c.ws)} (hL : bk5 E c body L) : ay1 E body (c.aC7 L) := by
 intro ρ B s K x Q h hK g a w hG R V
 have h : (bif av1 s.env c.der then (enc c.ts c.as).exec s fun x _ => (L x).bind fun y => be0 c.ws y K else none) = some x := h
 cases hd : av1 s.env c.der with
 | false => rw [hd] at h; cases h
 | true =>
  rw [hd] at h
  obtain ⟨x0, s', h1, h2⟩ := W2 h
  simp only [Option.bind_eq_some_iff] at h2
  obtain ⟨y, h3, h4⟩ := h2
  obtain ⟨g2, hi, R2, V2⟩ := aJ4 hd h1 R V
  exact hL x0 y h3 B K x Q h4 hK g2 a w (hG.mono hi) R2 V2
end Go.Abs
end

section
namespace Go.Abs
theorem Pass.back {imm : Rd} {w0 w : World} : ∀ {s : Sp} {x : s.ty.den} {pl : Nat × Nat} {old us : List Value} {nb : List Nat}, s.plain = true → Pass imm w s x pl us nb → aB3 imm w0 w s x pl old us nb
 | .un, _, _, _, _, _, _, k => k
 | .pr _ _, _, _, _, _, _, hp, ⟨u1, u2, n1, n2, e, e', k1, k2⟩ => by
  simp only [Sp.plain, Bool.and_eq_true] at hp
  exact ⟨u1, u2, n1, n2, e, e', Pass.back hp.1 k1, Pass.back hp.2 k2⟩
 | .pub _, _, _, _, _, _, _, k => k
 | .own _ _, _, _, _, _, _, _, k => k
 | .bld, _, _, _, _, _, _, k => k
 | .tak _, _, _, _, _, _, hp, _ => by cases hp
 | .err, _, _, _, _, _, _, k => k
 | .np, _, _, _, _, _, _, k => k
 | .slf _ _, _, _, _, _, _, hp, _ => by cases hp
 | .ptr _ _ _, _, _, _, _, _, hp, _ => by cases hp
 | .lnd _ _, _, _, _, _, _, hp, _ => by cases hp
theorem al0.res {imm : Rd} {w : World} {a : VSp} {x : a.sp.ty.den} {u : Value} {nb : List Nat} (hp : a.sp.plain = true) (h : al0 imm w a x u nb) : aF6 imm w a x u nb := by
 cases a with
 | one s => exact ⟨h.1, Pass.back hp h.2⟩
 | agg s => obtain ⟨us, e, h⟩ := h; exact ⟨us, e, Pass.back hp h⟩
theorem I7.res {imm : Rd} {w : World} : ∀ {as : List VSp} {x : (A6 as).den} {us : List Value} {nb : List Nat}, aB0 as = true → I7 imm w as x us nb → al2 imm w as x us nb
 | [], _, _, _, _, h => h
 | _ :: _, _, _, _, hp, ⟨u, r, n1, n2, e, e', h1, h2⟩ => by
  simp only [aB0, Bool.and_eq_true] at hp
  exact ⟨u, r, n1, n2, e, e', h1.res hp.1, I7.res hp.2 h2⟩
def a96 (tmps : Array Value) : ResultVar → Sem Value
 | .tmp t => pure (tmps.getD t undef)
 | .cell c t => do loadVar t (← asAddr (tmps.getD c undef))
theorem a81 {E : Env} {r : ResultVar} {s s' : St} {v : Val} (h : (bi8 E r).run s = some (v, s')) : s'.env = s.env ∧ ∀ {B : Base} {g : Gh} {a : Act} {w : World}, N2 E.glob g.imm → HRel B g s.hp w → O0 g s.env a →
  ∃ u g', (a96 a.tmps r).run E.P w = .ok u w ∧ Le g g' ∧ HRel B g' s'.hp w ∧ F4 g' v u := by
 cases r with
 | tmp t =>
  simp only [bi8, AM.run] at h
  split at h
  ·rename_i sl hsl
   obtain ⟨rfl, rfl⟩ := al6 h
   exact ⟨rfl, fun _ R V => ⟨_, _, rfl, Le.refl _, R, V t _ hsl⟩⟩
  ·cases h
 | cell c t =>
  simp only [bi8, AM.run] at h
  split at h
  ·rename_i sl hsl
   obtain ⟨ag, t2, h3, h4⟩ := AM.c8 h
   obtain ⟨n, t3, h5, h6⟩ := AM.c8 h4
   obtain ⟨cs, t4, h7, h9⟩ := AM.c8 h6
   obtain ⟨hag, rfl⟩ := A7 h3
   obtain ⟨hn, rfl⟩ := A7 h5
   obtain rfl := aZ1 h9
   obtain ⟨he, hr⟩ := aW0 h7
   refine ⟨he, fun {B g a w} hG R V => ?_⟩
   obtain ⟨b, o', us, g', e, hat, hlen, l, R', hc⟩ := hr hG.one R (V c _ hsl)
   obtain ⟨_, hv⟩ := av2 h9 hc
   have hrun := aV0 (E := E) (w := w) hag hn hlen hat
   have hrun' : (loadVar t ⟨b, o', none⟩).run E.P w = .ok (if ag then .agg us.toArray else us.getD 0 undef) w := by simpa [Instr.loadAt, Instr.sureAddr] using hrun
   refine ⟨if ag then .agg us.toArray else us.getD 0 undef, g', ?_, l, R', ?_⟩
   ·show (do loadVar t (← asAddr (a.tmps.getD c undef)) : Sem Value).run E.P w = _
    rw [e]
    simpa [asAddr] using hrun'
   ·rcases hv with ⟨rfl, hv⟩ | ⟨rfl, u, rfl, hv⟩
    ·exact hv
    ·exact hv
  ·cases h
theorem aa9 {E : Env} : ∀ {rs : List ResultVar} {s s' : St} {vs : List Val}, (aN4 E rs).run s = some (vs, s') → s'.env = s.env ∧ ∀ {B : Base} {g : Gh} {a : Act} {w : World}, N2 E.glob g.imm → HRel B g s.hp w → O0 g s.env a →
  ∃ us g', (rs.mapM (a96 a.tmps)).run E.P w = .ok us w ∧ Le g g' ∧ HRel B g' s'.hp w ∧ F8 g' vs us
 | [], s, s', vs, h => by
  obtain ⟨rfl, rfl⟩ := j0 h
  exact ⟨rfl, fun _ R _ => ⟨[], _, by simp, Le.refl _, R, rfl⟩⟩
 | r :: rs, s, s', vs, h => by
  obtain ⟨v, t, h1, h2⟩ := AM.c8 h
  obtain ⟨vs', t2, h3, h4⟩ := AM.c8 h2
  obtain ⟨rfl, rfl⟩ := j0 h4
  obtain ⟨e1, k1⟩ := a81 h1
  obtain ⟨e2, k2⟩ := aa9 h3
  refine ⟨e2.trans e1, fun {B g a w} hG R V => ?_⟩
  obtain ⟨u, g1, a1, l1, R1, v1⟩ := k1 hG R V
  obtain ⟨us, g2, a2, l2, R2, v2⟩ := k2 (hG.mono l1.imm) R1 (by rw [e1]; exact V.mono l1)
  refine ⟨u :: us, g2, ?_, l1.trans l2, R2, ⟨u, us, rfl, v1.mono l2, v2⟩⟩
  rw [List.mapM_cons]
  simp only [Sem.run_bind, a1, Result.andThen_ok, a2]
  rfl
theorem aw0 : ∀ {sp : Sp} {p : sp.an5.den} {s s' : St}, (bz1 sp).run s = some (p, s') → s' = s ∧ ∀ imm w0 w us, bh9 imm w0 w sp p us []
 | .un, _, _, _, h => by obtain ⟨rfl, rfl⟩ := j0 h; exact ⟨rfl, fun _ _ _ _ => rfl⟩
 | .pub _, _, _, _, h => by obtain ⟨rfl, rfl⟩ := j0 h; exact ⟨rfl, fun _ _ _ _ => rfl⟩
 | .own _ _, _, _, _, h => by obtain ⟨rfl, rfl⟩ := j0 h; exact ⟨rfl, fun _ _ _ _ => rfl⟩
 | .tak _, _, _, _, h => by obtain ⟨rfl, rfl⟩ := j0 h; exact ⟨rfl, fun _ _ _ _ => rfl⟩
 | .bld, _, _, _, h => by obtain ⟨rfl, rfl⟩ := j0 h; exact ⟨rfl, fun _ _ _ _ => rfl⟩
 | .err, _, _, _, h => by obtain ⟨rfl, rfl⟩ := j0 h; exact ⟨rfl, fun _ _ _ _ => rfl⟩
 | .np, _, _, _, h => by obtain ⟨rfl, rfl⟩ := j0 h; exact ⟨rfl, fun _ _ _ _ => rfl⟩
 | .slf _ _, _, _, _, h => by obtain ⟨rfl, rfl⟩ := j0 h; exact ⟨rfl, fun _ _ _ _ => rfl⟩
 | .ptr _ _ _, _, _, _, h => by cases h
 | .lnd _ _, _, _, _, h => by cases h
 | .pr a b, p, s, s', h => by
  obtain ⟨x, t, h1, h2⟩ := AM.c8 h
  obtain ⟨y, t2, h3, h4⟩ := AM.c8 h2
  obtain ⟨rfl, rfl⟩ := j0 h4
  obtain ⟨rfl, k1⟩ := aw0 h1
  obtain ⟨rfl, k2⟩ := aw0 h3
  exact ⟨rfl, fun imm w0 w us => ⟨[], [], rfl, k1 _ _ _ _, k2 _ _ _ _⟩⟩
theorem n7.head {g : Gh} {c : Cell} {cs : List Cell} {us : List Value} (h : n7 g (c :: cs) us) {n : Nat} {us1 : List Value} (e : us1 = us.take (n + 1)) : ∃ u, s6 g c u ∧ us1 = u :: (us.drop 1).take n := by
 obtain ⟨u, r, e', hu, _⟩ := h
 subst e'
 exact ⟨u, hu, by rw [e]; rfl⟩
theorem a66 : ∀ {sp : Sp} {cells : List Cell} {s s' : St} {p : sp.an5.den} {rest : List Cell}, (bj8 sp cells).run s = some ((p, rest), s') → s'.env = s.env ∧ rest = cells.drop sp.size ∧
  ∀ {B : Base} {g : Gh} {w0 w : World} {imm0 : Rd} {x0 : sp.ty.den} {rp : Nat × Nat} {us : List Value} {nb0 : List Nat}, HRel B g s.hp w → n7 g (cells.take sp.size) us → Pass imm0 w0 sp x0 rp us nb0 →
   ∃ g' nb, Lk g g' ∧ HRel B g' s'.hp w ∧ F5 g' nb ∧ (∀ b ∈ nb, g.lab b ≠ some 0) ∧ bh9 g'.imm w0 w sp p us nb := by
 intro sp
 have nil : ∀ {sp : Sp} {p : sp.an5.den} {B : Base} {g : Gh} {hp : List (Nat × Obj)} {w0 w : World} {us : List Value}, HRel B g hp w → (∀ imm, bh9 imm w0 w sp p us []) →
   ∃ g' nb, Lk g g' ∧ HRel B g' hp w ∧ F5 g' nb ∧ (∀ b ∈ nb, g.lab b ≠ some 0) ∧ bh9 g'.imm w0 w sp p us nb := fun {sp p B g hp w0 w us} R h =>
  ⟨g, [], Lk.refl g, R, ⟨List.nodup_nil, fun b hb => by simp at hb⟩, fun b hb => by simp at hb, h _⟩
 induction sp with
 | un => intro cells s s' p rest h; obtain ⟨h1, rfl⟩ := j0 h; injection h1 with h1 h2; subst h2; exact ⟨rfl, rfl, fun R _ _ => nil R fun _ => rfl⟩
 | pub τ => intro cells s s' p rest h; cases cells with | nil => exact nomatch h | cons c cs => obtain ⟨h1, rfl⟩ := j0 h; injection h1 with h1 h2; subst h2; exact ⟨rfl, rfl, fun R _ _ => nil R fun _ => rfl⟩
 | own τ dp => intro cells s s' p rest h; cases cells with | nil => exact nomatch h | cons c cs => obtain ⟨h1, rfl⟩ := j0 h; injection h1 with h1 h2; subst h2; exact ⟨rfl, rfl, fun R _ _ => nil R fun _ => rfl⟩
 | err => intro cells s s' p rest h; cases cells with | nil => exact nomatch h | cons c cs => obtain ⟨h1, rfl⟩ := j0 h; injection h1 with h1 h2; subst h2; exact ⟨rfl, rfl, fun R _ _ => nil R fun _ => rfl⟩
 | np => intro cells s s' p rest h; cases cells with | nil => exact nomatch h | cons c cs => obtain ⟨h1, rfl⟩ := j0 h; injection h1 with h1 h2; subst h2; exact ⟨rfl, rfl, fun R _ _ => nil R fun _ => rfl⟩
 | slf f m => intro cells s s' p rest h; cases cells with | nil => exact nomatch h | cons c cs => obtain ⟨h1, rfl⟩ := j0 h; injection h1 with h1 h2; subst h2; exact ⟨rfl, rfl, fun R _ _ => nil R fun _ => rfl⟩
 | bld => intro cells s s' p rest h; cases cells <;> exact nomatch h
 | tak ok => intro cells s s' p rest h; cases cells with | nil => exact nomatch h | cons c cs => obtain ⟨h1, rfl⟩ := j0 h; injection h1 with h1 h2; subst h2; exact ⟨rfl, rfl, fun R _ _ => nil R fun _ => rfl⟩
 | pr a b iha ihb =>
  intro cells s s' p rest h
  obtain ⟨⟨p1, r1⟩, t, h1, h2⟩ := AM.c8 h
  obtain ⟨⟨q1, q2⟩, t2, h3, h4⟩ := AM.c8 h2
  obtain ⟨h5, rfl⟩ := j0 h4
  injection h5 with h5 h6
  subst h5; subst h6
  obtain ⟨ea, ra, sa⟩ := iha h1
  obtain ⟨eb, rb, sb⟩ := ihb h3
  have ra : r1 = cells.drop a.size := ra
  have rb : rest = r1.drop b.size := rb
  refine ⟨eb.trans ea, by rw [rb, ra, List.drop_drop], fun {B g w0 w imm0 x0 rp us nb0} R hc hP => ?_⟩
  obtain ⟨u1, u2, m1, m2, rfl, rfl, P1, P2⟩ := hP
  have hl1 := P1.length
  have c1 : n7 g (cells.take a.size) u1 := by
   have := hc.take a.size
   rw [List.take_take, Nat.min_eq_left (by show a.size ≤ a.size + b.size; omega), ← hl1, List.take_left, hl1] at this
   exact this
  have c2 : n7 g (r1.take b.size) u2 := by
   have := hc.drop a.size
   rw [show (Sp.pr a b).size = a.size + b.size from rfl, List.drop_take, show a.size + b.size - a.size = b.size by omega, ← ra, ← hl1, List.drop_left] at this
   exact this
  obtain ⟨g1, n1, l1, R1, O1, f1, X1⟩ := sa R c1 P1
  obtain ⟨g2, n2, l2, R2, O2, f2, X2⟩ := sb R1 (c2.mono l1.le) P2
  refine ⟨g2, n1 ++ n2, l1.trans l2, R2, F5.append l2 O1 O2 f2, fun b hb => ?_, n1, n2, rfl, ?_, ?_⟩
  ·rcases List.mem_append.1 hb with hb | hb
   ·exact f1 b hb
   ·exact fun e => f2 b hb (l1.kp b e).1
  ·rw [← hl1, List.take_left]; exact ai3 l2.le.imm X1
  ·rw [← hl1, List.drop_left]; exact X2
 | lnd τ dp =>
  intro cells s s' p rest h
  cases cells with
  | nil => exact nomatch h
  | cons c cs =>
   obtain ⟨⟨x, r⟩, t, h1, h2⟩ := AM.c8 h
   obtain ⟨h3, rfl⟩ := j0 h2
   injection h3 with h3 h4
   subst h3; subst h4
   obtain ⟨k, _, hs⟩ := aq9 (.own τ dp) _ _ _ _ _ _ h1
   refine ⟨k.1, rfl, fun {B g w0 w imm0 x0 rp us nb0} R hc hP => ?_⟩
   obtain ⟨g', l, R', hc'⟩ := hs B g w R
   obtain ⟨u1, u2, nb, e, P1, O1, r1, f1, _⟩ := hc' us (0, 0) hc (M1.none _ _)
   have hl : us.length = 1 := hP.length
   have hl1 : u1.length = 1 := P1.length
   have hu2 : u2 = [] := List.eq_nil_of_length_eq_zero (by have := congrArg List.length e; simp at this; omega)
   subst hu2
   rw [List.append_nil] at e
   subst e
   exact ⟨g', nb, l, R', O1, f1, rfl, P1⟩
 | ptr wh st sr ih =>
  intro cells s s' p rest h
  cases cells with
  | nil => exact nomatch h
  | cons c cs =>
   obtain ⟨hb, h0⟩ := s7 h
   simp only [Bool.and_eq_true] at hb
   obtain ⟨⟨x, r⟩, t, h1, h2⟩ := AM.c8 h0
   obtain ⟨h3, rfl⟩ := j0 h2
   injection h3 with h3 h4
   subst h3; subst h4
   obtain ⟨k, _, hs⟩ := aq9 (.ptr wh st sr) _ _ _ _ _ _ h1
   refine ⟨k.1, rfl, fun {B g w0 w imm0 x0 rp us nb0} R hc hP => ?_⟩
   obtain ⟨g', l, R', hc'⟩ := hs B g w R
   obtain ⟨u1, u2, nb, e, P1, O1, r1, f1, _⟩ := hc' us (0, 0) hc (M1.none _ _)
   have hl : us.length = 1 := hP.length
   have hl1 : u1.length = 1 := P1.length
   have hu2 : u2 = [] := List.eq_nil_of_length_eq_zero (by have := congrArg List.length e; simp at this; omega)
   subst hu2
   rw [List.append_nil] at e
   subst e
   refine ⟨g', nb, l, R', O1, f1, ?_⟩
   obtain ⟨b, o, arr, ty, nb', e, rfl, ha, hwh, _, hP1⟩ := P1
   obtain ⟨rfl, hsz, rfl⟩ := hwh.1 hb.2
   obtain ⟨b0, o0, arr0, ty0, nb0', e0, _, ha0, hwh0, _, _⟩ := hP
   obtain ⟨rfl, hsz0, rfl⟩ := hwh0.1 hb.2
   rw [e] at e0
   injection e0 with e0 _; injection e0 with e0; injection e0 with e0; injection e0 with e0 _
   subst e0
   have hall : (arr.toList.drop 0).take sr.size = arr.toList := by
    rw [List.drop_zero]; exact List.take_of_length_le (by simp [hsz])
   rw [hall] at hP1
   have hd : arr0.toList.drop (0 + arr.toList.length) = [] := List.drop_eq_nil_of_le (by simp [hsz, hsz0])
   refine ⟨b, 0, arr0, _, arr, arr.toList, nb', e, rfl, rfl, ha0, ha, ?_, by simp [hsz, hsz0], by simpa using hsz, hP1.back hb.1⟩
   rw [hd]; simp
theorem aW8 {E : Env} : ∀ {as : List VSp} {n : Nat} {s s' : St} {y : (aj1 as).den}, (ba4 E.av4 as n).run s = some (y, s') →
  ∀ {B : Base} {g : Gh} {a : Act} {w0 w : World} {imm0 : Rd} {x0 : (A6 as).den} {args : List Value} {nb0 : List Nat}, HRel B g s.hp w → ActRel E B g s.env a → I7 imm0 w0 as x0 args nb0 → (∀ k u, args[k]? = some u → B.arg (n + k) = u) →
   ∃ g' nb, Lk g g' ∧ HRel B g' s'.hp w ∧ F5 g' nb ∧ (∀ b ∈ nb, g.lab b ≠ some 0) ∧ P9 g'.imm w0 w as y args nb := by
 intro as
 induction as with
 | nil =>
  intro n s s' y h B g a w0 w imm0 x0 args nb0 R V hP hA
  obtain ⟨_, rfl⟩ := j0 h
  exact ⟨g, [], Lk.refl g, R, ⟨List.nodup_nil, fun b hb => by simp at hb⟩, fun b hb => by simp at hb, hP.1, rfl⟩
 | cons sp as ih =>
  intro n s s' y h B g a w0 w imm0 x0 args nb0 R V hP hA
  obtain ⟨u, r, m1, m2, rfl, rfl, P1, P2⟩ := hP
  have hA' : ∀ k v, r[k]? = some v → B.arg (n + 1 + k) = v := fun k v hk => by
   have := hA (k + 1) v (by simpa using hk)
   rw [show n + 1 + k = n + (k + 1) by omega]; exact this
  obtain ⟨p, t, h1, h2⟩ := AM.c8 h
  obtain ⟨q, t2, h3, h4⟩ := AM.c8 h2
  obtain ⟨rfl, rfl⟩ := j0 h4
  cases ho : sp.sp.bf5 with
  | false =>
   rw [ho] at h1
   obtain ⟨rfl, k⟩ := aw0 h1
   obtain ⟨g', nb, l, R', hO, hf, hX⟩ := ih h3 R V P2 hA'
   exact ⟨g', nb, l, R', hO, hf, u, r, [], nb, rfl, rfl, k _ _ _ _, hX⟩
  | true =>
   rw [ho] at h1
   obtain ⟨hb, h0⟩ := s7 h1
   obtain ⟨v, t0, h5, h6⟩ := AM.c8 h0
   obtain ⟨⟨p', rest⟩, t1, h7, h8⟩ := AM.c8 h6
   obtain ⟨rfl, rfl⟩ := j0 h8
   simp only [AM.run] at h5
   split at h5
   ·rename_i sl hsl
    obtain ⟨rfl, rfl⟩ := al6 h5
    obtain ⟨e1, _, hs⟩ := a66 h7
    have hval : F4 g v u := by
     have h1 : D0 g (.val v) (a.tmps.getD n undef) := V.env n _ hsl
     obtain ⟨k, hk, hkn⟩ := List.any_eq_true.1 hb
     rw [V.kept n (by rw [beq_eq hkn]; exact hk), show B.arg n = u from hA 0 u rfl] at h1
     exact h1
    have hcells := hval.cells
    have P1' : ∃ rp, Pass imm0 w0 sp.sp x0.1 rp u.cells.toList m1 := by
     cases sp with
     | one sq => exact ⟨(0, 0), by rw [aO1 P1.1]; exact P1.2⟩
     | agg sq => obtain ⟨us, rfl, P1⟩ := P1; exact ⟨(0, 0), P1⟩
    obtain ⟨rp, P1'⟩ := P1'
    have hlen := hcells.length
    rw [P1'.length] at hlen
    have htake : v.cells.take sp.sp.size = v.cells := by rw [hlen, List.take_length]
    obtain ⟨g1, n1, l1, R1, hO1, hf1, X1⟩ := hs R (by rw [htake]; exact hcells) P1'
    obtain ⟨g2, n2, l2, R2, hO2, hf2, hX⟩ := ih h3 R1 ((V.mono l1.le).bh3 e1) P2 hA'
    refine ⟨g2, n1 ++ n2, l1.trans l2, R2, F5.append l2 hO1 hO2 hf2, fun b hb => ?_, u, r, n1, n2, rfl, rfl, ai3 l2.le.imm X1, hX⟩
    rcases List.mem_append.1 hb with hb | hb
    ·exact hf1 b hb
    ·exact fun e => hf2 b hb (l1.kp b e).1
   ·cases h5
theorem av7 {P : Program} {fn : Func} {tmps : Array Value} {w : World} {us : List Value} (h : (fn.results.toList.mapM (a96 tmps)).run P w = .ok us w) :
  (results fn tmps).run P w = .ok (match us with | [u] => u | us => .tuple us.toArray) w := by
 have e : (fn.results.mapM (a96 tmps)).run P w = .ok us.toArray w := by
  rw [Array.mapM_eq_mapM_toList]
  simp [h]
 have hr : results fn tmps = (do
  let vs ← fn.results.mapM (a96 tmps)
  pure (if h : vs.size = 1 then vs[0] else .tuple vs)) := rfl
 rw [hr]
 simp only [Sem.run_bind, e, Result.andThen_ok, Sem.run_pure]
 match us with
 | [] => rfl
 | [u] => rfl
 | u :: v :: r => rfl
theorem au6 {g : Gh} : ∀ {vs : List Val} {us : List Value}, F8 g vs us → us.length = vs.length
 | [], _, h => by have h : _ = _ := h; subst h; rfl
 | _ :: _, _, ⟨_, _, e, _, hr⟩ => by subst e; simp [au6 hr]
theorem a98 {E : Env} {fn : Func} {r : RSp} {s s' : St} {y : r.ty.den} (h : (bB8 E fn.results.toList r).run s = some (y, s')) : s'.env = s.env ∧ ∀ {B : Base} {g : Gh} {a : Act} {w : World}, N2 E.glob g.imm → HRel B g s.hp w → O0 g s.env a →
  ∃ v g' nb, (results fn a.tmps).run E.P w = .ok v w ∧ Le g g' ∧ HRel B g' s'.hp w ∧ F5 g' nb ∧ aJ7 g'.imm w r y v nb := by
 cases r with
 | none =>
  obtain ⟨vs, t, h1, h2⟩ := AM.c8 h
  split at h2
  ·obtain ⟨_, rfl⟩ := j0 h2
   obtain ⟨e1, k1⟩ := aa9 h1
   refine ⟨e1, fun {B g a w} hG R V => ?_⟩
   obtain ⟨us, g1, a1, l1, R1, v1⟩ := k1 hG R V
   have v1 : us = [] := v1
   subst v1
   exact ⟨_, g1, [], av7 a1, l1, R1, ⟨List.nodup_nil, fun b hb => by simp at hb⟩, rfl, rfl⟩
  ·cases h2
 | val sp =>
  obtain ⟨vs, t, h1, h2⟩ := AM.c8 h
  obtain ⟨hp, h3⟩ := s7 h2
  split at h3
  ·rename_i v
   obtain ⟨e1, k1⟩ := aa9 h1
   obtain ⟨e2, k2⟩ := aM0 h3
   refine ⟨e2.1.trans e1, fun {B g a w} hG R V => ?_⟩
   obtain ⟨us, g1, a1, l1, R1, v1⟩ := k1 hG R V
   obtain ⟨u, rfl, hv⟩ := bi9 v1 rfl
   obtain ⟨g2, l2, R2, c2⟩ := k2 B g1 w R1
   obtain ⟨nb, hP, hO, _⟩ := c2 u hv
   exact ⟨u, g2, nb, av7 a1, l1.trans l2.le, R2, hO, hP.res hp⟩
  ·cases h3
 | tup as =>
  obtain ⟨vs, t, h1, h2⟩ := AM.c8 h
  obtain ⟨hp, h3⟩ := s7 h2
  split at h3
  ·cases h3
  ·rename_i hne
   obtain ⟨e1, k1⟩ := aa9 h1
   obtain ⟨e2, k2⟩ := ag7 h3
   refine ⟨e2.1.trans e1, fun {B g a w} hG R V => ?_⟩
   obtain ⟨us, g1, a1, l1, R1, v1⟩ := k1 hG R V
   obtain ⟨g2, l2, R2, c2⟩ := k2 B g1 w R1
   obtain ⟨nb, hP, hO, _⟩ := c2 us v1
   have hl := au6 v1
   have hr := av7 a1
   refine ⟨.tuple us.toArray, g2, nb, ?_, l1.trans l2.le, R2, hO, us, rfl, hP.res hp⟩
   rw [hr]
   match us, hl with
   | [], _ => rfl
   | [u], hl =>
    exfalso
    match vs, hl with
    | [v], _ => exact hne v rfl
   | u :: v :: r, _ => rfl
theorem ap8 {imm : Rd} {w : World} : ∀ {as : List VSp} {x : (A6 as).den} {us : List Value} {nb : List Nat}, I7 imm w as x us nb → us.length = as.length
 | [], _, _, _, h => by rw [h.1]; rfl
 | _ :: _, _, _, _, ⟨u, r, n1, n2, e, _, _, h⟩ => by rw [e]; simp [ap8 h]
theorem az7 {a : Act} : ∀ (as : List VSp) (n : Nat) (us : List Value), us.length = as.length → (∀ k u, us[k]? = some u → a.tmps.getD (n + k) undef = u) → ay6 a (upto as n) us
 | [], _, us, h, _ => List.eq_nil_of_length_eq_zero h
 | _ :: as, n, [], h, _ => by simp at h
 | _ :: as, n, u :: r, h, hk => ⟨u, r, rfl, hk 0 u rfl, az7 as (n + 1) r (by simpa using h) fun k v hv => by
   have := hk (k + 1) v (by simpa using hv)
   rw [show n + 1 + k = n + (k + 1) by omega]; exact this⟩
theorem bG7 {E : Env} (hE : EnvOk E) (hm : E.P.follows .mixedOrders = true) {f : FuncId} {fn : Func} {c : Code} {sg : Sig} {H : Cuts} (hf : E.P.funcs[f]? = some fn) (hb : fn.body = some c) (hname : (fn.name == "runtime.NumGoroutine") = false)
  (hnt : fn.ntmps = E.nt) (hargs : sg.args.length ≤ E.nt) (hkeep : (E.av4.all fun t => Nat.blt t sg.args.length) = true) (hwa : Y7 sg.args = true) (hsl : E.slf = aZ9 sg.args) (hH : CutsOk E H c) : au9 E.P E.glob f ⟨sg, bb0 E fn sg H⟩ := by
 classical
 intro x y hF imm w args nb hG hcells hP hnd hnb hSO
 have hF : bb0 E fn sg H x = some y := hF
 unfold bb0 at hF
 rw [hb] at hF
 have hcall : (callFunc f args.toArray).run E.P w = .ok (.enter f args.toArray) w := by
  have h1 : fn.name ≠ "runtime.NumGoroutine" := by simpa using hname
  simp [callFunc, hf, h1, hb]
 unfold M7
 rw [hcall]
 simp only
 have hlen : args.length = sg.args.length := ap8 hP
 let B : Base := { imm := imm, lab := fun b => if b ∈ nb then some 0 else none, w := w, arg := fun t => args.getD t undef }
 let g0 : Gh := { imm := imm, top := fun _ => 0, cv := fun _ _ => .tuple #[], lab := fun b => if b ∈ nb then some 0 else none, nst := fun _ => none, outer := fun _ => [] }
 have R0 : HRel B g0 [] w := by
  refine ⟨fun _ => rfl, (fun i o h => by cases h), fun b L h => ?_, (fun b L h => by cases h), fun b h => ?_, fun b L h => h, fun b hb hl hi => ⟨hl, hi, rfl⟩, Nat.le_refl _, rfl, rfl, rfl, fun _ _ _ => rfl⟩
  ·have : b ∉ nb := fun hm => by
    have h1 := (hnb b hm).1
    have h : imm b = some L := h
    rw [h1] at h; cases h
   exact ⟨by simp [g0, this], rfl, hcells b L h⟩
  ·by_cases hm : b ∈ nb
   ·exact (hnb b hm).2
   ·simp [g0, hm] at h
 refine calls_of_wp hf hb ?_
 let a0 : Act := { tmps := args.toArray ++ Array.replicate (fn.ntmps - args.toArray.size) undef, defers := [] }
 have hget : ∀ k u, args[k]? = some u → a0.tmps.getD k undef = u := by
  intro k u hk
  have hlt := (List.getElem?_eq_some_iff.1 hk).1
  simp only [a0, Array.getD_eq_getD_getElem?]
  rw [Array.getElem?_append_left (by simpa using hlt)]
  simp [hk]
 have hsz : a0.tmps.size = E.nt := by
  simp only [a0, Array.size_append, Array.size_replicate, List.size_toArray, hnt]
  omega
 obtain ⟨g1, l1, R1, V1⟩ := a92 (E := E) (ts := upto sg.args 0) (x := x) (a := a0) hwa R0 hP ⟨hnd, fun b hb => by simp [g0, hb]⟩ (fun _ _ => rfl) (az7 sg.args 0 args hlen fun k u hk => by rw [Nat.zero_add]; exact hget k u hk) hsz rfl (fun t ht => by
  have := Nat.le_of_ble_eq_true (List.all_eq_true.1 hkeep t ht)
  have hlt : t < args.length := by omega
  rw [hget t args[t] (List.getElem?_eq_getElem hlt)]
  simp [B, hlt]) (fun f ts hE hne => by
  rw [hsl] at hE
  unfold aZ9 at hE
  cases hso : aG8 sg.args with
  | none => rw [hso] at hE; cases hE
  | some p =>
   rw [hso] at hE
   injection hE with hE; injection hE with hE1 hE2
   subst hE1; subst hE2
   obtain ⟨b, ty, q1, q2, q3, q4⟩ := hSO p.1 p.2 hso
   have hm : p.2 < args.length := by
    rcases Nat.lt_or_ge p.2 args.length with h | h
    ·exact h
    ·exact absurd (List.drop_eq_nil_of_le (by rw [List.length_range, ← hlen]; exact h)) hne
   have hmap : (List.range sg.args.length).map B.arg = args := by
    rw [← hlen]
    apply List.ext_getElem (by simp)
    intro i h1 h2
    simp [B, h2]
   have hmapd : ((List.range sg.args.length).drop p.2).map B.arg = args.drop p.2 := by rw [List.map_drop, hmap]
   refine ⟨b, ty, ?_, by rw [hmapd]; exact q2, by simp [B, q3], q4⟩
   have hl : ((List.range sg.args.length).drop p.2).getLastD 0 = args.length - 1 := by
    rw [List.getLastD_eq_getLast?, List.getLast?_drop, if_neg (by rw [List.length_range, ← hlen]; omega), ← hlen, List.getLast?_range]
    simp only [show args.length ≠ 0 by omega, if_false, Option.getD_some]
   rw [hl]
   have : args[args.length - 1]? = some (.pointer (some ⟨b, 0, none⟩)) := by rw [← q1, List.getLast?_eq_getElem?]
   simp [B, this])
 refine aC5 hE hm c _ _ y _ hH hF (fun e => ?_) g1 a0 w (hG.mono l1.imm) R1 V1
 have fin : ∀ s g a w', (finish E fn.results.toList sg).exec s (fun r _ => some r) = some y → N2 E.glob g.imm → HRel B g s.hp w' → ActRel E B g s.env a →
   a.defers = [] ∧ ∃ v, (results fn a.tmps).run E.P w' = .ok v w' ∧ (∃ v', Ending.returned v = .returned v' ∧ ∃ imm' n1 n2, After imm w nb imm' w' (n1 ++ n2) ∧ aJ7 imm' w' sg.res y.1 v' n1 ∧ P9 imm' w w' sg.args y.2 args n2) := by
  intro s g a w' hk hG' R V
  obtain ⟨y', s', h1, h2⟩ := W2 hk
  injection h2 with h2
  subst h2
  obtain ⟨r, t, h3, h4⟩ := AM.c8 h1
  obtain ⟨o, t2, h5, h6⟩ := AM.c8 h4
  obtain ⟨h7, rfl⟩ := j0 h6
  obtain ⟨e1, k1⟩ := a98 h3
  obtain ⟨v, g2, n1, hr, l2, R2, hO2, hRes⟩ := k1 hG' R V.env
  obtain ⟨g3, n2, l3, R3, hO3, hf3, hOut⟩ := aW8 h5 R2 ((V.mono l2).bh3 e1) hP (fun k u hk => by simp [B, hk])
  have hO := F5.append l3 hO2 hO3 hf3
  refine ⟨V.defers, v, hr, v, rfl, g3.imm, n1, n2, ⟨fun b L hb => R3.imm0 b L hb, fun b L hb => (R3.imm b L hb).2.2, fun b h1 h2 h3 => ?_, hO.1, fun b hb => ?_, R3.size, R3.os, R3.tape, R3.output, fun b L hb => R3.fix b L hb⟩, ?_, ?_⟩
  ·have hl : B.lab b = none := by simp [B, h2]
   obtain ⟨_, f2, f3⟩ := R3.frame b h1 hl h3
   exact ⟨f3, f2⟩
  ·have hlb := hO.2 b hb
   have hi : g3.imm b = none := by
    cases hi : g3.imm b with
    | none => rfl
    | some L => have := (R3.imm b L hi).1; rw [hlb] at this; cases this
   refine ⟨hi, ?_, R3.labsz b (by rw [hlb]; simp)⟩
   rcases Nat.lt_or_ge b w.heap.size with h1 | h1
   ·left
    apply Classical.byContradiction
    intro h2
    have hl : B.lab b = none := by simp [B, h2]
    have h3 : imm b = none := by
     cases h3 : imm b with
     | none => rfl
     | some L => have := R3.imm0 b L h3; rw [hi] at this; cases this
    obtain ⟨f1, _⟩ := R3.frame b h1 hl h3
    rw [f1] at hlb; cases hlb
   ·exact .inr h1
  ·rw [h7]; exact aS9 l3.le.imm hRes
  ·rw [h7]; exact hOut
 cases e with
 | normal => intro s g a w' hk hG' R V; exact fin s g a w' hk hG' R V
 | ret => intro s g a w' hk hG' R V; exact fin s g a w' hk hG' R V
 | _ => intro s g a w' hk; cases hk
end Go.Abs
end

section
namespace Go.Abs
@[reducible] def be1 : Sp → Sp
 | .pr a b => .pr (be1 a) (be1 b)
 | .pub (.sl τ) => .lnd τ true
 | s => s
def ai2 : Sp → Bool
 | .un => true
 | .pr a b => ai2 a && ai2 b
 | .pub _ => true
 | .err => true
 | .np => true
 | _ => false
def aE9 : Sp → Bool
 | .un => true
 | .pr a b => aE9 a && aE9 b
 | .pub τ => τ.flat
 | .own τ dp => τ.flat || dp
 | .err => true
 | .np => true
 | _ => false
def bw0 : (s : Sp) → (be1 s).ty.den → s.ty.den
 | .un, x => x
 | .pr a b, x => (bw0 a x.1, bw0 b x.2)
 | .pub (.sl _), x => x
 | .pub (.int _), x => x
 | .pub .bool, x => x
 | .pub .str, x => x
 | .pub .un, x => x
 | .pub (.pr _ _), x => x
 | .pub .cl, x => x
 | .own _ _, x => x
 | .lnd _ _, x => x
 | .ptr _ _ _, x => x
 | .tak _, x => x
 | .bld, x => x
 | .err, x => x
 | .np, x => x
 | .slf _ _, x => x
def bL6 : (s : Sp) → (be1 s).ty.den → (be1 s).an5.den
 | .un, _ => ()
 | .pr a b, x => (bL6 a x.1, bL6 b x.2)
 | .pub (.sl _), x => x
 | .pub (.int _), _ => ()
 | .pub .bool, _ => ()
 | .pub .str, _ => ()
 | .pub .un, _ => ()
 | .pub (.pr _ _), _ => ()
 | .pub .cl, _ => ()
 | .own _ _, _ => ()
 | .lnd _ _, x => x
 | .ptr _ _ _, x => x
 | .tak _, _ => ()
 | .bld, _ => ()
 | .err, _ => ()
 | .np, _ => ()
 | .slf _ _, _ => ()
@[reducible] def bI6 : VSp → VSp
 | .one s => .one (be1 s)
 | .agg s => .agg (be1 s)
def bC6 : (a : VSp) → (bI6 a).sp.ty.den → a.sp.ty.den
 | .one s, x => bw0 s x
 | .agg s, x => bw0 s x
def bP3 : (a : VSp) → (bI6 a).sp.ty.den → (bI6 a).sp.an5.den
 | .one s, x => bL6 s x
 | .agg s, x => bL6 s x
@[reducible] def aK7 : List VSp → List VSp
 | [] => []
 | a :: r => bI6 a :: aK7 r
def aW3 : (as : List VSp) → (A6 (aK7 as)).den → (A6 as).den
 | [], _ => ()
 | a :: r, x => (bC6 a x.1, aW3 r x.2)
def bj5 : (as : List VSp) → (A6 (aK7 as)).den → (aj1 (aK7 as)).den
 | [], _ => ()
 | a :: r, x => (bP3 a x.1, bj5 r x.2)
def aO8 (c : Callee) : Callee := ⟨⟨aK7 c.sig.args, c.sig.res⟩, fun x => (c.F (aW3 c.sig.args x)).map fun y => (y.1, bj5 c.sig.args x)⟩
def ag8 (as : List VSp) : Bool := as.all fun a => ai2 a.sp
def bo0 : RSp → Bool
 | .val v => aE9 v.sp
 | .tup vs => vs.all fun v => aE9 v.sp
 | .none => true
open Classical in
noncomputable def bz7 (imm : Rd) (w : World) (nb : List Nat) : Rd := fun b => if b ∈ nb then rdW w b else imm b
theorem bt6 {w : World} {b : Nat} {arr : Array Value} {ty : TypeId} (h : w.heap[b]? = some (.cells arr ty (0, 0))) : rdW w b = some arr.toList := by
 unfold rdW; rw [h]
 rfl
def bN4 (w : World) (nb : List Nat) : Prop := ∀ b ∈ nb, ∃ arr ty, w.heap[b]? = some (.cells arr ty (0, 0))
theorem bB1 {w : World} {b : Nat} (h : rdW w b ≠ none) : ∃ arr ty, w.heap[b]? = some (.cells arr ty (0, 0)) := by
 unfold rdW at h
 split at h
 ·rename_i arr ty e; exact ⟨arr, ty, e⟩
 ·exact absurd rfl h
theorem OwnAt.here {imm : Rd} {w : World} {mv : Bool} {τ : Ty} {xs : List τ.den} {us : List Value} {nb : List Nat} (h : OwnAt imm w mv τ xs us nb) : bN4 w nb := by
 rcases h with ⟨_, _, rfl⟩ | ⟨b, cap, arr, ty, nb', _, rfl, ha, _, _, hE⟩
 ·exact fun b hb => by simp at hb
 ·intro x hx
  rcases List.mem_cons.1 hx with rfl | hx
  ·exact ⟨arr, ty, ha⟩
  ·unfold Q9 at hE
   split at hE
   ·exact bB1 (hE.X9 x hx)
   ·rw [hE.2] at hx; simp at hx
theorem OwnAt.rc {imm imm1 : Rd} {w : World} {τ : Ty} {xs : List τ.den} {us : List Value} {nb : List Nat} (h1 : ∀ b ∈ nb, imm1 b = rdW w b) (h : OwnAt imm w (true && !τ.flat) τ xs us nb) : Rc imm1 (.sl τ) xs us := by
 rcases h with ⟨rfl, rfl, rfl⟩ | ⟨b, cap, arr, ty, nb', rfl, rfl, ha, hl, _, hE⟩
 ·exact ⟨none, 0, rfl, Nat.le_refl _, .inl rfl⟩
 ·refine ⟨some ⟨b, 0, none⟩, cap, rfl, hl, .inr ⟨b, 0, arr.toList, rfl, ?_, ?_⟩⟩
  ·rw [h1 b (List.mem_cons_self ..), bt6 ha]
  ·show Els imm1 τ xs arr.toList 0
   unfold Q9 at hE
   split at hE
   ·exact (I2.mono (r' := imm1) (fun x hx L hL => by rw [h1 x (List.mem_cons_of_mem _ hx)]; exact hL) hE).els
   ·rename_i hf
    have hf : τ.flat = true := by simpa using hf
    exact hE.1.flat hf
theorem bf8 {imm imm1 : Rd} {w : World} (hm : ∀ b L, imm b = some L → imm1 b = some L) : ∀ {s : Sp} {x : (be1 s).ty.den} {pl : Nat × Nat} {us : List Value} {nb : List Nat}, ai2 s = true → (∀ b ∈ nb, imm1 b = rdW w b) → Pass imm w (be1 s) x pl us nb →
  Pass imm1 w s (bw0 s x) pl us [] ∧ bN4 w nb := by
 intro s
 induction s with
 | un => intro x pl us nb _ _ h; exact ⟨⟨h.1, rfl⟩, by rw [h.2]; exact fun b hb => by simp at hb⟩
 | pr a b iha ihb =>
  intro x pl us nb hp h1 h
  simp only [ai2, Bool.and_eq_true] at hp
  obtain ⟨u1, u2, n1, n2, rfl, rfl, k1, k2⟩ := h
  obtain ⟨a1, a2⟩ := iha hp.1 (fun b hb => h1 b (List.mem_append_left _ hb)) k1
  obtain ⟨b1, b2⟩ := ihb hp.2 (fun b hb => h1 b (List.mem_append_right _ hb)) k2
  refine ⟨⟨u1, u2, [], [], rfl, rfl, a1, ?_⟩, fun b hb => ?_⟩
  ·have hsz : ∀ s, ai2 s = true → (be1 s).size = s.size := by
    intro s
    induction s with
    | pr a b iha ihb => intro h; simp only [ai2, Bool.and_eq_true] at h; show (be1 a).size + (be1 b).size = a.size + b.size; rw [iha h.1, ihb h.2]
    | pub τ => intro _; cases τ <;> rfl
    | _ => intro _; rfl
   rw [hsz a hp.1] at b1
   exact b1
  ·rcases List.mem_append.1 hb with hb | hb
   ·exact a2 b hb
   ·exact b2 b hb
 | pub τ =>
  intro x pl us nb _ h1 h
  cases τ with
  | sl e =>
   have h : OwnAt imm w (true && !e.flat) e x us nb := h
   refine ⟨⟨rfl, rfl, ?_⟩, h.here⟩
   have hr := h.rc h1
   obtain ⟨A, c, e', _⟩ := id hr
   exact ⟨_, e', by rw [← e']; exact hr⟩
  | _ =>
   obtain ⟨rfl, h2, u, rfl, h3⟩ := h
   exact ⟨⟨rfl, h2, u, rfl, h3.mono hm⟩, fun b hb => by simp at hb⟩
 | err =>
  intro x pl us nb _ _ h
  obtain ⟨rfl, h⟩ := h
  exact ⟨⟨rfl, h⟩, fun b hb => by simp at hb⟩
 | np =>
  intro x pl us nb _ _ h
  obtain ⟨rfl, h⟩ := h
  exact ⟨⟨rfl, h⟩, fun b hb => by simp at hb⟩
 | _ => intro x pl us nb hp; cases hp
theorem bo6 {imm imm1 : Rd} {w : World} (hm : ∀ b L, imm b = some L → imm1 b = some L) {a : VSp} {x : (bI6 a).sp.ty.den} {u : Value} {nb : List Nat} (hp : ai2 a.sp = true) (h1 : ∀ b ∈ nb, imm1 b = rdW w b) (h : al0 imm w (bI6 a) x u nb) :
  al0 imm1 w a (bC6 a x) u [] ∧ bN4 w nb := by
 cases a with
 | one s => obtain ⟨ho, h⟩ := h; obtain ⟨k1, k2⟩ := bf8 hm hp h1 h; exact ⟨⟨ho, k1⟩, k2⟩
 | agg s => obtain ⟨us, e, h⟩ := h; obtain ⟨k1, k2⟩ := bf8 hm hp h1 h; exact ⟨⟨us, e, k1⟩, k2⟩
theorem aV4 {imm imm1 : Rd} {w : World} (hm : ∀ b L, imm b = some L → imm1 b = some L) : ∀ {as : List VSp} {x : (A6 (aK7 as)).den} {us : List Value} {nb : List Nat}, ag8 as = true → (∀ b ∈ nb, imm1 b = rdW w b) → I7 imm w (aK7 as) x us nb →
  I7 imm1 w as (aW3 as x) us [] ∧ bN4 w nb
 | [], x, us, nb, _, _, h => ⟨⟨h.1, rfl⟩, by rw [h.2]; exact fun b hb => by simp at hb⟩
 | a :: r, x, us, nb, hp, h1, ⟨u, q, n1, n2, e, e', k1, k2⟩ => by
  subst e; subst e'
  simp only [ag8, List.all_cons, Bool.and_eq_true] at hp
  obtain ⟨a1, a2⟩ := bo6 hm hp.1 (fun b hb => h1 b (List.mem_append_left _ hb)) k1
  obtain ⟨b1, b2⟩ := aV4 hm hp.2 (fun b hb => h1 b (List.mem_append_right _ hb)) k2
  refine ⟨⟨u, q, [], [], rfl, rfl, a1, b1⟩, fun b hb => ?_⟩
  rcases List.mem_append.1 hb with hb | hb
  ·exact a2 b hb
  ·exact b2 b hb
theorem OwnAt.still {imm imm' : Rd} {w w' : World} {τ : Ty} {xs : List τ.den} {us : List Value} {nb : List Nat} (hs : ∀ b ∈ nb, w'.heap[b]? = w.heap[b]?) (h : OwnAt imm w (true && !τ.flat) τ xs us nb) : OwnAt imm' w' (true && !τ.flat) τ xs us nb := by
 rcases h with h | ⟨b, cap, arr, ty, nb', e, rfl, ha, hl, hz, hE⟩
 ·exact .inl h
 ·refine .inr ⟨b, cap, arr, ty, nb', e, rfl, (hs b (List.mem_cons_self ..)).trans ha, hl, hz, ?_⟩
  unfold Q9 at hE ⊢
  split
  ·rename_i hc
   rw [if_pos hc] at hE
   refine I2.mono (fun x hx L hL => ?_) hE
   have := hs x (List.mem_cons_of_mem _ hx)
   unfold rdW at hL ⊢
   rw [this]; exact hL
  ·rename_i hc
   rw [if_neg hc] at hE
   have hf : τ.flat = true := by simpa using hc
   exact ⟨hE.1.flat hf, hE.2⟩
theorem bh8 {imm imm' : Rd} {w w' : World} : ∀ {s : Sp} {x : (be1 s).ty.den} {pl : Nat × Nat} {us : List Value} {nb : List Nat}, ai2 s = true → (∀ b ∈ nb, w'.heap[b]? = w.heap[b]?) → Pass imm w (be1 s) x pl us nb → bh9 imm' w w' (be1 s) (bL6 s x) us nb := by
 intro s
 induction s with
 | un => intro x pl us nb _ _ h; exact h.2
 | pr a b iha ihb =>
  intro x pl us nb hp h1 h
  simp only [ai2, Bool.and_eq_true] at hp
  obtain ⟨u1, u2, n1, n2, rfl, rfl, k1, k2⟩ := h
  have hl := k1.length
  refine ⟨n1, n2, rfl, ?_, ?_⟩
  ·rw [← hl, List.take_left]
   exact iha hp.1 (fun b hb => h1 b (List.mem_append_left _ hb)) k1
  ·rw [← hl, List.drop_left]
   exact ihb hp.2 (fun b hb => h1 b (List.mem_append_right _ hb)) k2
 | pub τ =>
  intro x pl us nb _ h1 h
  cases τ with
  | sl e =>
   have h : OwnAt imm w (true && !e.flat) e x us nb := h
   exact ⟨rfl, h.still h1⟩
  | _ => exact h.1
 | err => intro x pl us nb _ _ h; exact h.1
 | np => intro x pl us nb _ _ h; exact h.1
 | _ => intro x pl us nb hp; cases hp
theorem aU0 {imm imm' : Rd} {w w' : World} : ∀ {as : List VSp} {x : (A6 (aK7 as)).den} {us : List Value} {nb : List Nat}, ag8 as = true → (∀ b ∈ nb, w'.heap[b]? = w.heap[b]?) → I7 imm w (aK7 as) x us nb → P9 imm' w w' (aK7 as) (bj5 as x) us nb
 | [], x, us, nb, _, _, h => h
 | a :: r, x, us, nb, hp, h1, ⟨u, q, n1, n2, e, e', k1, k2⟩ => by
  subst e; subst e'
  simp only [ag8, List.all_cons, Bool.and_eq_true] at hp
  refine ⟨u, q, n1, n2, rfl, rfl, ?_, aU0 hp.2 (fun b hb => h1 b (List.mem_append_right _ hb)) k2⟩
  have h1' := fun b hb => h1 b (List.mem_append_left n2 hb)
  cases a with
  | one s => obtain ⟨ho, k1⟩ := k1; rw [aO1 ho]; exact bh8 hp.1 h1' k1
  | agg s => obtain ⟨us, e, k1⟩ := k1; subst e; exact bh8 hp.1 h1' k1
theorem aB3.indep {imm imm' : Rd} {w : World} : ∀ {s : Sp} {x : s.ty.den} {pl : Nat × Nat} {old us : List Value} {nb : List Nat}, aE9 s = true → aB3 imm w w s x pl old us nb → aB3 imm' w w s x pl old us nb := by
 intro s
 induction s with
 | un => intro x pl old us nb _ h; exact h
 | pr a b iha ihb =>
  intro x pl old us nb hp h
  simp only [aE9, Bool.and_eq_true] at hp
  obtain ⟨u1, u2, n1, n2, e, e', k1, k2⟩ := h
  exact ⟨u1, u2, n1, n2, e, e', iha hp.1 k1, ihb hp.2 k2⟩
 | pub τ =>
  intro x pl old us nb hp h
  obtain ⟨h1, h2, u, h3, h4⟩ := h
  exact ⟨h1, h2, u, h3, h4.flat hp⟩
 | own τ dp =>
  intro x pl old us nb hp h
  have hp : (τ.flat || dp) = true := hp
  have h : OwnAt imm w (dp && !τ.flat) τ x us nb := h
  show OwnAt imm' w (dp && !τ.flat) τ x us nb
  rcases h with h | ⟨b, cap, arr, ty, nb', e, e', ha, hl, hs, hE⟩
  ·exact .inl h
  ·refine .inr ⟨b, cap, arr, ty, nb', e, e', ha, hl, hs, ?_⟩
   unfold Q9 at hE ⊢
   split
   ·rename_i hc; rw [if_pos hc] at hE; exact hE
   ·rename_i hc
    rw [if_neg hc] at hE
    have hf : τ.flat = true := by
     revert hp hc
     cases τ.flat <;> cases dp <;> simp
    exact ⟨hE.1.flat hf, hE.2⟩
 | err => intro x pl old us nb _ h; exact h
 | np => intro x pl old us nb _ h; exact h
 | _ => intro x pl old us nb hp; cases hp
theorem aU2 {imm imm' : Rd} {w : World} {a : VSp} {x : a.sp.ty.den} {u : Value} {nb : List Nat} (hp : aE9 a.sp = true) (h : aF6 imm w a x u nb) : aF6 imm' w a x u nb := by
 cases a with
 | one s => exact ⟨h.1, h.2.indep hp⟩
 | agg s => obtain ⟨us, e, h⟩ := h; exact ⟨us, e, h.indep hp⟩
theorem aK6 {imm imm' : Rd} {w : World} : ∀ {as : List VSp} {x : (A6 as).den} {us : List Value} {nb : List Nat}, (as.all fun v => aE9 v.sp) = true → al2 imm w as x us nb → al2 imm' w as x us nb
 | [], _, _, _, _, h => h
 | a :: r, x, us, nb, hp, ⟨u, q, n1, n2, e, e', k1, k2⟩ => by
  simp only [List.all_cons, Bool.and_eq_true] at hp
  exact ⟨u, q, n1, n2, e, e', aU2 hp.1 k1, aK6 hp.2 k2⟩
theorem bv4 {imm imm' : Rd} {w : World} {r : RSp} {x : r.ty.den} {u : Value} {nb : List Nat} (hp : bo0 r = true) (h : aJ7 imm w r x u nb) : aJ7 imm' w r x u nb := by
 cases r with
 | val a => exact aU2 hp h
 | tup as => obtain ⟨vs, e, h⟩ := h; exact ⟨vs, e, aK6 hp h⟩
 | none => exact h
theorem bm4 {imm : Rd} {w w' : World} : ∀ {s : Sp} {x : s.an5.den} {us : List Value} {nb : List Nat}, ai2 s = true → bh9 imm w w' s x us nb → nb = [] := by
 intro s
 induction s with
 | pr a b iha ihb =>
  intro x us nb hp ⟨n1, n2, e, h1, h2⟩
  simp only [ai2, Bool.and_eq_true] at hp
  rw [e, iha hp.1 h1, ihb hp.2 h2]; rfl
 | un => intro x us nb _ h; exact h
 | pub τ => intro x us nb _ h; exact h
 | err => intro x us nb _ h; exact h
 | np => intro x us nb _ h; exact h
 | _ => intro x us nb hp; cases hp
theorem aE6 {imm : Rd} {w w' : World} : ∀ {as : List VSp} {x : (aj1 as).den} {us : List Value} {nb : List Nat}, ag8 as = true → P9 imm w w' as x us nb → nb = []
 | [], _, _, _, _, h => h.2
 | a :: r, x, us, nb, hp, ⟨u, q, n1, n2, e, e', k1, k2⟩ => by
  simp only [ag8, List.all_cons, Bool.and_eq_true] at hp
  rw [e', bm4 hp.1 k1, aE6 hp.2 k2]; rfl
theorem bJ8 {P : Program} {glob : Nat → Option (List Cell)} {f : FuncId} {c : Callee} (hp : ag8 c.sig.args = true) (hr : bo0 c.sig.res = true) (H : an9 P glob f c) : an9 P glob f (aO8 c) := by
 intro x y hF imm w args nb hG hcells hP hnd hnb
 have hF : (c.F (aW3 c.sig.args x)).map (fun y => (y.1, bj5 c.sig.args x)) = some y := hF
 obtain ⟨z, hz, rfl⟩ := Option.map_eq_some_iff.1 hF
 have hP : I7 imm w (aK7 c.sig.args) x args nb := hP
 have hm : ∀ b L, imm b = some L → bz7 imm w nb b = some L := fun b L h => by
  unfold bz7
  rw [if_neg]
  ·exact h
  ·intro hb; rw [(hnb b hb).1] at h; cases h
 obtain ⟨P1, here⟩ := aV4 (imm1 := bz7 imm w nb) hm hp (fun b hb => by unfold bz7; rw [if_pos hb]) hP
 refine (H _ _ hz (bz7 imm w nb) w args [] (hG.mono hm) (fun b L h => ?_) P1 List.nodup_nil (fun b hb => by simp at hb)).mono ?_
 ·unfold bz7 at h
  split at h
  ·rename_i hb
   obtain ⟨arr, ty, ha⟩ := here b hb
   rw [bt6 ha] at h
   injection h with h
   exact ⟨arr, ty, _, ha, h⟩
  ·exact hcells b L h
 ·rintro v w' ⟨imm', n1, n2, A, hR, hO⟩
  have hn2 := aE6 hp hO
  subst hn2
  rw [List.append_nil] at A
  have hst : ∀ b ∈ nb, w'.heap[b]? = w.heap[b]? := fun b hb => by
   obtain ⟨arr, ty, ha⟩ := here b hb
   exact A.fix b arr.toList (by unfold bz7; rw [if_pos hb, bt6 ha])
  refine ⟨fun b => open Classical in if b ∈ nb then none else imm' b, n1, nb, ⟨fun b L h => ?_, fun b L h => ?_, fun b h1 h2 h3 => ?_, ?_, fun b hb => ?_, A.size, A.os, A.tape, A.output, fun b L h => A.fix b L (hm b L h)⟩, bv4 hr hR, aU0 hp hst hP⟩
  ·rw [if_neg (fun hb => by rw [(hnb b hb).1] at h; cases h)]
   exact A.mono b L (hm b L h)
  ·have h : (if b ∈ nb then none else imm' b) = some L := h
   split at h
   ·cases h
   ·exact A.cells b L h
  ·have e : bz7 imm w nb b = none := by unfold bz7; rw [if_neg h2]; exact h3
   obtain ⟨a1, a2⟩ := A.same b h1 (by simp) e
   exact ⟨a1, by rw [if_neg h2]; exact a2⟩
  ·rw [List.nodup_append]
   refine ⟨A.nodup, hnd, fun a ha b hb e => ?_⟩
   subst e
   have h1 := (hnb a hb).2
   rcases (A.frm a ha).2.1 with h | h
   ·simp at h
   ·omega
  ·rcases List.mem_append.1 hb with hb | hb
   ·obtain ⟨a1, a2, a3⟩ := A.frm b hb
    refine ⟨?_, ?_, a3⟩
    ·split
     ·rfl
     ·exact a1
    ·rcases a2 with h | h
     ·simp at h
     ·exact .inr h
   ·refine ⟨by rw [if_pos hb], .inl hb, ?_⟩
    have := (hnb b hb).2
    have := A.size
    omega
end Go.Abs
end
