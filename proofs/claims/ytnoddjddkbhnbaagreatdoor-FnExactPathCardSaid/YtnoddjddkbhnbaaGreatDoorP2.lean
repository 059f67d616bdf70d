/- What is here: rows made of zeros, cut slices, texts out of bytes. What is here: append. What is here: append, its two arms. What is here: append, whole. What is here: what is handed over at a call, told by the world and what is immutable alone. What is here: the arguments of a call are read and handed over. What is here: behind a call: what came back is taken over. What is here: what a call gives back is laid into the objects. What is here: the contract of a function, told by what the evaluator says it computes; a call keeps it. What is here: a call, whole. What is here: one operation, whatever it is, does what the evaluator says. What is here: a region, its operations in the order of the text. What is here: a region whose order is drawn does what it does in the order of the text, where the evaluator found its operations apart. What is here: a region whose order is drawn, whole. What is here: where a body or a piece begins: the state that holds just the data. What is here: code, pieces and loops do what the evaluator says. -/
import Derived.Test.YtnoddjddkbhnbaaGreatDoorP1
import Derived.Lib.ConvBytes
import Derived.Deep.Upon
import Derived.Scope
set_option linter.unusedVariables false
set_option linter.unusedSimpArgs false
set_option maxRecDepth 100000
section
namespace Go.Abs
theorem reps_els {r : Rd} {τ : Ty} {x : τ.den} {us : List Value} (h : Rc r τ x us) : ∀ {l c : Nat}, l ≤ c → Els r τ (List.replicate l x) (List.replicate c us).flatten 0
  | 0, _, _ => Els.nil
  | l + 1, 0, hlc => by omega
  | l + 1, c + 1, hlc => by
    have hl := h.length
    rw [List.replicate_succ, List.replicate_succ, List.flatten_cons]
    refine Els.head.2 ⟨by rw [← hl, List.take_left]; exact h, ?_⟩
    rw [← hl, List.drop_left]
    exact reps_els h (by omega)
theorem reps_lin {r : Rd} {τ : Ty} {x : τ.den} {us : List Value} (h : Lin r τ x us []) : ∀ {l c : Nat}, l ≤ c → LinEls r τ (List.replicate l x) (List.replicate c us).flatten []
  | 0, _, _ => rfl
  | l + 1, 0, hlc => by omega
  | l + 1, c + 1, hlc => by
    have hl := h.length
    rw [List.replicate_succ, List.replicate_succ, List.flatten_cons]
    refine ⟨[], [], rfl, by rw [← hl, List.take_left]; exact h, ?_⟩
    rw [← hl, List.drop_left]
    exact reps_lin h (by omega)
theorem makeSlice_sound {E : Env} {t : TypeId} {lx cx : Operand} {s s' : St} {sl : Slot} {d : Nat} (h : (stepOp E d (.makeSlice t lx cx)).run s = some (sl, s')) : Yld E (.makeSlice t lx cx) s sl s' := by
  obtain ⟨e, t1, h1, h2⟩ := AM.bind_run h
  obtain ⟨τ, t2, h3, h4⟩ := AM.bind_run h2
  obtain ⟨z, t3, h5, h6⟩ := AM.bind_run h4
  obtain ⟨x, t4, h7, h8⟩ := AM.bind_run h6
  obtain ⟨lv, t5, h9, h10⟩ := AM.bind_run h8
  obtain ⟨l, t6, h11, h12⟩ := AM.bind_run h10
  obtain ⟨cv, t7, h13, h14⟩ := AM.bind_run h12
  obtain ⟨c, t8, h15, h16⟩ := AM.bind_run h14
  obtain ⟨hb, h17⟩ := run_if h16
  obtain ⟨hr, h18⟩ := run_chk h17
  obtain ⟨cell, t9, h19, h20⟩ := AM.bind_run h18
  obtain ⟨rfl, rfl⟩ := run_ret h20
  obtain ⟨he, rfl⟩ := run_ofOpt h1
  obtain rfl := ty_sound h3
  obtain ⟨hz, rfl⟩ := run_ofOpt h5
  obtain ⟨hx, rfl⟩ := run_ofOpt h7
  obtain ⟨rfl, r1⟩ := evV_sound h9
  obtain ⟨⟨kl, rfl⟩, rfl⟩ := asInt_sound h11
  obtain ⟨rfl, r2⟩ := evV_sound h13
  obtain ⟨⟨kc, rfl⟩, rfl⟩ := asInt_sound h15
  simp only [Bool.and_eq_true, decide_eq_true_eq] at hb hr
  obtain ⟨⟨h0, hlc⟩, hlim⟩ := hr
  obtain ⟨i, zv, hi, hiz, hsz, hby, h64, hzl⟩ := rowOk_sound hb.1
  obtain ⟨i', zv', hi', hiz', hzr⟩ := zeroCells_sound hz
  rw [hi] at hi'
  injection hi' with hi'; subst hi'
  rw [hiz] at hiz'
  injection hiz' with hiz'; subst hiz'
  obtain ⟨gen, hg1, rfl, rfl⟩ := newOwn_run h19
  refine ⟨rfl, fun o ho B g a w R V => ?_⟩
  obtain ⟨rfl, _⟩ := run_freshGen R hg1
  obtain ⟨x, rest⟩ := x
  obtain ⟨u1, u2, eu, k1, k2, k3⟩ := zdat_rc hx (hzr g)
  have hu2 : u2 = [] := by
    have hr : rest = [] := by simpa using hb.2
    subst hr
    exact k3
  subst hu2
  rw [List.append_nil] at eu
  have hu := elem_sound he
  have hlim' : c ≤ 1099511627776 := hlim
  have hbytes : (i.bytes : Int) * c ≤ 281474976710656 := by
    have h1 : (i.bytes : Int) * c ≤ 128 * 1099511627776 := Int.mul_le_mul (by omega) hlim' (by omega) (by omega)
    omega
  have hrun := run_make (P := E.P) w t e i zv hu hi hiz kl kc l c h0 hlc hbytes (by omega)
  have hz' : (madeCells zv.cells (c.toNat * i.size)).toList = (List.replicate c.toNat u1).flatten := by
    have := zeros_eq zv.cells.toList c.toNat
    unfold madeCells
    rw [hsz, ← hzl, ← eu]
    exact this
  obtain ⟨g2, l2, R2, hc⟩ := R.own (id := d) (cap := c.toNat) (arr := madeCells zv.cells (c.toNat * i.size)) (ty := e) (w' := World.more w (.cells (madeCells zv.cells (c.toNat * i.size)) e)) (τ := τ) (deep := τ.movable && !τ.flat)
    (xs := List.replicate l.toNat x) (nb := []) R.free_new (turned_new w _) (more_new w _) (by
      rw [hz']
      unfold Held
      split
      · rename_i hm
        simp only [Bool.and_eq_true] at hm
        exact ⟨reps_lin (k2 hm.1.1 _) (by omega), List.nodup_nil, fun b hb => by simp at hb⟩
      · exact ⟨reps_els (k1 _) (by omega), rfl⟩) (by simp; omega) (by rw [size_madeCells, hsz])
  simp only [List.length_replicate] at hc
  refine ⟨_, _, g2, ?_, l2, R2, hc⟩
  unfold execOp; rw [ho]
  apply run_value
  have e1 : a.eval lx = .int kl l := int_rel (r1 V)
  have e2 : a.eval cx = .int kc c := int_rel (r2 V)
  rw [e1, e2, hrun]
  rfl
theorem sliceLo_sound {lo : Option Val} {l : Int} {s s' : St} (h : (sliceLo lo).run s = some (l, s')) : s' = s ∧ ((lo = none ∧ l = 0) ∨ ∃ k, lo = some (.one (.v (.int k) l))) := by
  cases lo with
  | none => obtain ⟨rfl, rfl⟩ := run_ret h; exact ⟨rfl, .inl ⟨rfl, rfl⟩⟩
  | some v => obtain ⟨⟨k, rfl⟩, rfl⟩ := asInt_sound h; exact ⟨rfl, .inr ⟨k, rfl⟩⟩
theorem sliceHi_sound {n : Nat} {hi : Option Val} {l : Int} {s s' : St} (h : (sliceHi n hi).run s = some (l, s')) : s' = s ∧ ((hi = none ∧ l = (n : Int)) ∨ ∃ k, hi = some (.one (.v (.int k) l))) := by
  cases hi with
  | none => obtain ⟨rfl, rfl⟩ := run_ret h; exact ⟨rfl, .inl ⟨rfl, rfl⟩⟩
  | some v => obtain ⟨⟨k, rfl⟩, rfl⟩ := asInt_sound h; exact ⟨rfl, .inr ⟨k, rfl⟩⟩
theorem optV_sound {x : Option Operand} {v : Option Val} {s s' : St} (h : (optV x).run s = some (v, s')) : s' = s ∧ ∀ {g : Gh} {a : Act}, EnvRel g s.env a →
    (v = none ∧ x.map a.eval = none) ∨ ∃ v' u, v = some v' ∧ x.map a.eval = some u ∧ ValRel g v' u := by
  cases x with
  | none => obtain ⟨rfl, rfl⟩ := run_ret h; exact ⟨rfl, fun _ => .inl ⟨rfl, rfl⟩⟩
  | some y =>
    obtain ⟨w, t, h1, h2⟩ := AM.bind_run h
    obtain ⟨rfl, rfl⟩ := run_ret h2
    obtain ⟨rfl, r⟩ := evV_sound h1
    exact ⟨rfl, fun V => .inr ⟨w, _, rfl, rfl, r V⟩⟩
theorem run_bounds {P : Program} {w : World} {isSlice : Bool} {len cap : Nat} {lo hi : Option Value} {l h : Int} (hb : bounds len l h = true) (hc : len ≤ cap)
    (h1 : (lo = none ∧ l = 0) ∨ ∃ k, lo = some (.int k l)) (h2 : (hi = none ∧ h = (len : Int)) ∨ ∃ k, hi = some (.int k h)) :
    (Instr.sliceBounds isSlice len cap lo hi none).run P w = .ok (l.toNat, h.toNat, cap) w := by
  simp only [bounds, Bool.and_eq_true, decide_eq_true_eq] at hb
  have eh : (h.toNat : Int) = h := Int.toNat_of_nonneg (by omega)
  have hcap : h ≤ (cap : Int) := by omega
  have h0 : 0 ≤ h := by omega
  rcases h1 with ⟨rfl, rfl⟩ | ⟨k, rfl⟩ <;> rcases h2 with ⟨rfl, rfl⟩ | ⟨k', rfl⟩
  · simp [Instr.sliceBounds]
  · simp [Instr.sliceBounds, run_sliceBound, h0, hcap]
  · have := hb.1.2
    simp [Instr.sliceBounds, run_sliceBound, hb.1.1, hb.1.2]
  · simp [Instr.sliceBounds, run_sliceBound, hb.1.1, hb.1.2, h0, hcap, eh]
theorem sub_bytes (s : ByteArray) (l h : Int) : sub (bytesOf s) l h = bytesOf (s.extract l.toNat h.toNat) := by
  unfold sub bytesOf
  rw [ByteArray.data_extract, Array.toList_extract, List.extract_eq_take_drop, ← List.map_take, ← List.map_drop, List.drop_take]
theorem sub_length {α : Type} {xs : List α} {l h : Int} (hb : bounds xs.length l h = true) : (sub xs l h).length = h.toNat - l.toNat := by
  simp only [bounds, Bool.and_eq_true, decide_eq_true_eq] at hb
  unfold sub
  simp
  omega
theorem sub_rc {r : Rd} {τ : Ty} {xs : List τ.den} {A : Option Addr} {n cap : Nat} {l h : Int} (H : Rc r (.sl τ) xs [.slice A n cap]) (hb : bounds xs.length l h = true) :
    n = xs.length ∧ n ≤ cap ∧ Rc r (.sl τ) (sub xs l h) [sliced A l.toNat h.toNat cap τ.size] := by
  obtain ⟨A', c, e, hc, he⟩ := H
  injection e with e; injection e with e1 e2 e3
  subst e1; subst e2; subst e3
  refine ⟨rfl, hc, ?_⟩
  have hsl := sub_length hb
  have hb' := hb
  simp only [bounds, Bool.and_eq_true, decide_eq_true_eq] at hb
  refine ⟨_, cap - l.toNat, by unfold sliced; rw [hsl], by rw [hsl]; omega, ?_⟩
  by_cases hz : sub xs l h = []
  · exact .inl hz
  · right
    rcases he with he | ⟨b, o, L, rfl, hL, hi⟩
    · exact absurd (by rw [he]; unfold sub; simp) hz
    · have hlt : l.toNat < h.toNat := by
        have : 0 < (sub xs l h).length := List.length_pos_iff.2 hz
        omega
      refine ⟨b, o + l.toNat * τ.size, L, ?_, hL, fun i hi' => ?_⟩
      · rw [if_neg (by omega)]; simp [Addr.add_lit]
      · have e : (sub xs l h)[i] = xs[l.toNat + i]'(by omega) := by
          simp [sub]
        rw [e]
        have := hi (l.toNat + i) (by omega)
        rw [Nat.add_assoc, ← Nat.add_mul]
        exact this
theorem sliceSl_sound {E : Env} {t e : TypeId} {sz : Option Nat} {τ : Ty} {xs : List τ.den} {lo hi : Option Val} {s s' : St} {sl : Slot} (h : (sliceSl sz τ xs lo hi).run s = some (sl, s')) (hsz : sz = E.sizeOf e) (ht : E.P.underlying t = some (.slice e)) :
    s' = s ∧ ∀ {g : Gh} {w : World} {u : Value} {ulo uhi : Option Value}, Rc g.imm (.sl τ) xs [u] → ((lo = none ∧ ulo = none) ∨ ∃ v' u, lo = some v' ∧ ulo = some u ∧ ValRel g v' u) → ((hi = none ∧ uhi = none) ∨ ∃ v' u, hi = some v' ∧ uhi = some u ∧ ValRel g v' u) →
      ∃ v, (Instr.sliceAt t u ulo uhi none).run E.P w = .ok v w ∧ SlotRel g sl v := by
  unfold sliceSl at h
  split at h
  · rename_i n
    obtain ⟨hb, h1⟩ := run_if h
    obtain ⟨l, t1, h2, h3⟩ := AM.bind_run h1
    obtain ⟨hh, t2, h4, h5⟩ := AM.bind_run h3
    obtain ⟨hbd, h6⟩ := run_chk h5
    obtain ⟨rfl, rfl⟩ := run_ret h6
    obtain ⟨rfl, k1⟩ := sliceLo_sound h2
    obtain ⟨rfl, k2⟩ := sliceHi_sound h4
    refine ⟨rfl, fun {g w u ulo uhi} hu vlo vhi => ?_⟩
    obtain ⟨A, c, e', hc, _⟩ := id hu
    injection e' with e'
    subst e'
    obtain ⟨_, _, hr⟩ := sub_rc hu hbd
    refine ⟨_, ?_, ⟨rfl, hr⟩⟩
    have hbnd := run_bounds (P := E.P) (w := w) (isSlice := true) (lo := ulo) (hi := uhi) hbd hc (by
      rcases k1 with ⟨rfl, rfl⟩ | ⟨k, rfl⟩
      · rcases vlo with ⟨_, rfl⟩ | ⟨v', u, e, _⟩
        · exact .inl ⟨rfl, rfl⟩
        · cases e
      · rcases vlo with ⟨e, rfl⟩ | ⟨v', u, e, rfl, hv⟩
        · cases e
        · injection e with e; subst e
          exact .inr ⟨k, by rw [int_rel hv]⟩) (by
      rcases k2 with ⟨rfl, rfl⟩ | ⟨k, rfl⟩
      · rcases vhi with ⟨_, rfl⟩ | ⟨v', u, e, _⟩
        · exact .inl ⟨rfl, rfl⟩
        · cases e
      · rcases vhi with ⟨e, rfl⟩ | ⟨v', u, e, rfl, hv⟩
        · cases e
        · injection e with e; subst e
          exact .inr ⟨k, by rw [int_rel hv]⟩)
    have hn := beq_eq hb
    have hsz' : (Go.sizeOf e).run E.P w = .ok n w := by
      have := hsz.symm
      unfold Env.sizeOf at this
      simp only [Option.map_eq_some_iff] at this
      obtain ⟨i, hi, hi2⟩ := this
      subst hi2
      simp [Go.sizeOf, typeInfo, hi]
    simp only [Instr.sliceAt, Instr.slice, Sem.run_bind, run_underlying ht, Result.andThen_ok, hbnd, hsz']
    simp [sliced, hn]
  · cases h
theorem sliceOf_sound {E : Env} {t : TypeId} {lo hi : Option Val} {c : Cell} {s s' : St} {sl : Slot} (h : (sliceOf ((E.elem t).bind E.sizeOf) lo hi c).run s = some (sl, s')) (hf : E.fit t c = true) :
    s'.env = s.env ∧ ∀ {B : Base} {g : Gh} {w : World} {u : Value} {ulo uhi : Option Value}, HRel B g s.hp w → CellRel g c u → ((lo = none ∧ ulo = none) ∨ ∃ v' u, lo = some v' ∧ ulo = some u ∧ ValRel g v' u) → ((hi = none ∧ uhi = none) ∨ ∃ v' u, hi = some v' ∧ uhi = some u ∧ ValRel g v' u) →
      ∃ v g', (Instr.sliceAt t u ulo uhi none).run E.P w = .ok v w ∧ Le g g' ∧ HRel B g' s'.hp w ∧ SlotRel g' sl v := by
  have wmono : ∀ {g g' : Gh} {x : Option Val} {ux : Option Value}, Le g g' → ((x = none ∧ ux = none) ∨ ∃ v' u, x = some v' ∧ ux = some u ∧ ValRel g v' u) → ((x = none ∧ ux = none) ∨ ∃ v' u, x = some v' ∧ ux = some u ∧ ValRel g' v' u) :=
    fun l h => h.imp id fun ⟨v', u, a, b, c⟩ => ⟨v', u, a, b, c.mono l⟩
  unfold sliceOf at h
  split at h
  · rename_i st
    obtain ⟨l, t1, h2, h3⟩ := AM.bind_run h
    obtain ⟨hh, t2, h4, h5⟩ := AM.bind_run h3
    obtain ⟨hbd, h6⟩ := run_chk h5
    obtain ⟨rfl, rfl⟩ := run_ret h6
    obtain ⟨rfl, k1⟩ := sliceLo_sound h2
    obtain ⟨rfl, k2⟩ := sliceHi_sound h4
    refine ⟨rfl, fun {B g w u ulo uhi} R hu vlo vhi => ?_⟩
    obtain ⟨sb, rfl, hst⟩ := str_rel hu
    subst hst
    rw [bytesOf_length] at hbd k2
    have ht : E.P.underlying t = some .string := by
      unfold Env.fit at hf
      split at hf
      · assumption
      · simp [Cell.isStr] at hf
      · cases hf
    have hbnd := run_bounds (P := E.P) (w := w) (isSlice := false) (lo := ulo) (hi := uhi) hbd (Nat.le_refl _) (by
      rcases k1 with ⟨rfl, rfl⟩ | ⟨k, rfl⟩
      · rcases vlo with ⟨_, rfl⟩ | ⟨v', u, e, _⟩
        · exact .inl ⟨rfl, rfl⟩
        · cases e
      · rcases vlo with ⟨e, rfl⟩ | ⟨v', u, e, rfl, hv⟩
        · cases e
        · injection e with e; subst e
          exact .inr ⟨k, by rw [int_rel hv]⟩) (by
      rcases k2 with ⟨rfl, rfl⟩ | ⟨k, rfl⟩
      · rcases vhi with ⟨_, rfl⟩ | ⟨v', u, e, _⟩
        · exact .inl ⟨rfl, rfl⟩
        · cases e
      · rcases vhi with ⟨e, rfl⟩ | ⟨v', u, e, rfl, hv⟩
        · cases e
        · injection e with e; subst e
          exact .inr ⟨k, by rw [int_rel hv]⟩)
    refine ⟨.string (sb.extract l.toNat hh.toNat), g, ?_, Le.refl g, R, by rw [sub_bytes]; exact ws_rel g _⟩
    simp only [Instr.sliceAt, Instr.slice, Sem.run_bind, run_underlying ht, Result.andThen_ok, hbnd]
    simp [hbnd]
  · rename_i τ xs
    have ht : ∃ e, E.P.underlying t = some (.slice e) := by
      unfold Env.fit at hf
      split at hf
      · simp [Cell.isStr] at hf
      · exact ⟨_, by assumption⟩
      · cases hf
    obtain ⟨e, ht⟩ := ht
    obtain ⟨rfl, hs⟩ := sliceSl_sound (E := E) (t := t) (e := e) h (by simp [Env.elem, ht]) ht
    refine ⟨rfl, fun {B g w u ulo uhi} R hu vlo vhi => ?_⟩
    obtain ⟨v, h1, h2⟩ := hs (w := w) hu.2 vlo vhi
    exact ⟨v, g, h1, Le.refl g, R, h2⟩
  · rename_i id gen
    have ht : ∃ e, E.P.underlying t = some (.slice e) := by
      unfold Env.fit at hf
      split at hf
      · simp [Cell.isStr] at hf
      · exact ⟨_, by assumption⟩
      · cases hf
    obtain ⟨e, ht⟩ := ht
    simp only [AM.run] at h
    split at h
    · rename_i g0 τ deep xs heq
      obtain ⟨hb, h'⟩ := run_if h
      obtain rfl := beq_eq hb
      simp only [AM.run] at h'
      obtain ⟨rfl, hs⟩ := sliceSl_sound (E := E) (t := t) (e := e) h' (by simp [Env.elem, ht]) ht
      refine ⟨rfl, fun {B g w u ulo uhi} R hu vlo vhi => ?_⟩
      obtain ⟨g', l, R'⟩ := R.publish' heq
      have hP : Rc _ _ _ _ := R'.objs _ _ (look_same _ _ _)
      rw [show g'.cv id g0 = g.cv id g0 from l.le.cv _ _ (live_of R heq), ← hu.2.1] at hP
      obtain ⟨v, h1, h2⟩ := hs (w := w) hP (wmono l.le vlo) (wmono l.le vhi)
      exact ⟨v, g', h1, l.le, R', h2⟩
    · rename_i g0 τ xs heq
      obtain ⟨hb, h'⟩ := run_if h
      obtain rfl := beq_eq hb
      obtain ⟨rfl, hs⟩ := sliceSl_sound (E := E) (t := t) (e := e) h' (by simp [Env.elem, ht]) ht
      refine ⟨rfl, fun {B g w u ulo uhi} R hu vlo vhi => ?_⟩
      have hP : Rc _ _ _ _ := R.objs _ _ heq
      rw [← hu.2.1] at hP
      obtain ⟨v, h1, h2⟩ := hs (w := w) hP vlo vhi
      exact ⟨v, g, h1, Le.refl g, R, h2⟩
    · cases h
  · cases h
theorem trimOwn_sound {E : Env} {t : TypeId} {hi : Option Val} {d id gen : Nat} {s s' : St} {sl : Slot} (h : (trimOwn d id gen ((E.elem t).bind E.sizeOf) hi).run s = some (sl, s')) (hf : E.fit t (.own id gen) = true) :
    s'.env = s.env ∧ ∀ {B : Base} {g : Gh} {w : World} {u : Value} {ulo uhi : Option Value}, HRel B g s.hp w → CellRel g (.own id gen) u → ulo = none → ((hi = none ∧ uhi = none) ∨ ∃ v' u, hi = some v' ∧ uhi = some u ∧ ValRel g v' u) →
      ∃ v g', (Instr.sliceAt t u ulo uhi none).run E.P w = .ok v w ∧ Le g g' ∧ HRel B g' s'.hp w ∧ SlotRel g' sl v := by
  have ht : ∃ e, E.P.underlying t = some (.slice e) := by
    unfold Env.fit at hf
    split at hf
    · simp [Cell.isStr] at hf
    · exact ⟨_, by assumption⟩
    · cases hf
  obtain ⟨e, ht⟩ := ht
  simp only [trimOwn, AM.run] at h
  split at h
  · rename_i g0 τ dp xs heq
    obtain ⟨hb, h1⟩ := run_if h
    simp only [Bool.and_eq_true, Bool.not_eq_true'] at hb
    obtain ⟨⟨b1, b2⟩, b3⟩ := hb
    obtain rfl := beq_eq b1
    have hd : d ≠ id := fun e => by subst e; rw [Nat.beq_refl] at b3; cases b3
    split at h1
    · rename_i n hsz
      obtain ⟨hn, h2⟩ := run_if h1
      obtain rfl := beq_eq hn
      obtain ⟨hh, t1, h3, h4⟩ := AM.bind_run h2
      obtain ⟨rfl, k2⟩ := sliceHi_sound h3
      obtain ⟨hbd, h5⟩ := run_chk h4
      obtain ⟨gd, t2, h6, h7⟩ := AM.bind_run h5
      obtain ⟨rfl, _⟩ := freshGen_st0 h6
      simp only [AM.run, Option.some.injEq, Prod.mk.injEq] at h7
      obtain ⟨rfl, rfl⟩ := h7
      refine ⟨rfl, fun {B g w u ulo uhi} R hu vlo vhi => ?_⟩
      subst vlo
      have hgd := freshGen_top R h6
      subst hgd
      have hbs := hbd
      simp only [bounds, Bool.and_eq_true, decide_eq_true_eq] at hbs
      have hcv := hu.2.1
      have hsz' : (Go.sizeOf e).run E.P w = .ok τ.size w := run_sizeOf (by simpa [Env.elem, ht] using hsz) w
      have hhi : (hi = none ∧ uhi = none ∧ hh = (xs.length : Int)) ∨ (∃ k, uhi = some (.int k hh)) := by
        rcases k2 with ⟨rfl, rfl⟩ | ⟨k, rfl⟩
        · rcases vhi with ⟨_, rfl⟩ | ⟨v', u, e, _⟩
          · exact .inl ⟨rfl, rfl, rfl⟩
          · cases e
        · rcases vhi with ⟨e, rfl⟩ | ⟨v', u, e, rfl, hv⟩
          · cases e
          · injection e with e; subst e
            exact .inr ⟨k, by rw [int_rel hv]⟩
      have hbnd := fun cap (hc : xs.length ≤ cap) => run_bounds (P := E.P) (w := w) (isSlice := true) (cap := cap) (lo := none) (hi := uhi) hbd hc (.inl ⟨rfl, rfl⟩) (by
        rcases hhi with ⟨_, a, b⟩ | ⟨k, a⟩
        · exact .inl ⟨a, b⟩
        · exact .inr ⟨k, a⟩)
      rcases R.objs _ _ heq with ⟨o1, o2⟩ | ⟨b, cap, arr, ty, o1, o2, o3, o4, o5, o6, o7⟩
      · subst o2
        rw [o1] at hcv
        have h0 : hh = 0 := by simp at hbs; omega
        subst h0
        obtain ⟨l, R'⟩ := R.named (id := d) (u := .slice none 0 0) (o' := .own (g.top d) τ true []) rfl (.inl ⟨by simp [Gh.name], rfl⟩)
        have R2 : HRel B (g.name d (g.top d) (.slice none 0 0)) ((id, .dead g0) :: (d, .own (g.top d) τ true (List.take (Int.toNat 0) ([] : List τ.den))) :: t2.hp) w := by
          refine HRel.put (o := .own g0 τ dp []) R' ?_ rfl trivial
          rw [look_other _ _ hd]; exact heq
        refine ⟨.slice none 0 0, _, ?_, l.le, R2, ⟨by simp [Gh.name], by simp [Gh.name], rfl⟩⟩
        have := hbnd 0 (Nat.le_refl _)
        simp only [Instr.sliceAt, Instr.slice, Sem.run_bind, run_underlying ht, Result.andThen_ok, hcv, List.length_nil] at this ⊢
        simp only [this, hsz', Result.andThen_ok]
        simp [sliced]
      · rw [o1] at hcv
        unfold ownEls at o7
        rw [b2] at o7
        simp only [Bool.not_true, Bool.and_false, Bool.false_eq_true, if_false] at o7
        have hlen : (xs.take hh.toNat).length = hh.toNat := by simp; omega
        let g' : Gh := { g with top := fun i => if i = d then g.top d + 1 else g.top i, cv := fun i k => if i = d ∧ k = g.top d then .slice (some ⟨b, 0, none⟩) hh.toNat cap else g.cv i k, lab := fun x => if x = b then some (d + 1) else g.lab x }
        have hle : Le g g' := by
          refine ⟨fun _ _ h => h, fun j => ?_, fun j k hk => ?_⟩
          · show g.top j ≤ if j = d then g.top d + 1 else g.top j
            split
            · rename_i e; subst e; omega
            · exact Nat.le_refl _
          · show (if j = d ∧ k = g.top d then _ else g.cv j k) = g.cv j k
            rw [if_neg]
            rintro ⟨rfl, rfl⟩
            omega
        have hlab : ∀ x, x ≠ b → g'.lab x = g.lab x := fun x hx => by simp [g', hx]
        have newObj : ObjRel g' w d (.own (g.top d) τ true (xs.take hh.toNat)) := by
          refine .inr ⟨b, cap, arr, ty, by simp [g', hlen], by simp [g'], o3, o4, by omega, o6, ?_⟩
          unfold ownEls
          rw [b2]
          simp only [Bool.not_true, Bool.and_false, Bool.false_eq_true, if_false]
          intro i hi
          have hi' : i < xs.length := by rw [hlen] at hi; omega
          have e1 : (xs.take hh.toNat)[i] = xs[i] := by simp
          rw [e1]
          exact o7 i hi'
        have R2 : HRel B g' ((d, .own (g.top d) τ true (xs.take hh.toNat)) :: (id, .dead g0) :: t2.hp) w := by
          refine ⟨fun j => ?_, fun j oj hj => ?_, fun x L hx => ?_, fun x L hx => ?_, fun x hx => ?_, R.imm0, fun x hx hl hi => ?_, R.size, R.os, R.tape, R.output, R.fix⟩
          · show (if j = d then g.top d + 1 else g.top j) = _
            by_cases e2 : d = j
            · subst e2; rw [look_same, if_pos rfl]; rfl
            · rw [look_other _ _ e2, if_neg (Ne.symm e2)]
              by_cases e1 : id = j
              · subst e1; rw [look_same, R.top id, heq]; rfl
              · rw [look_other _ _ e1]; exact R.top j
          · by_cases e2 : d = j
            · subst e2; rw [look_same] at hj; injection hj with hj; subst hj; exact newObj
            · rw [look_other _ _ e2] at hj
              by_cases e1 : id = j
              · subst e1; rw [look_same] at hj; injection hj with hj; subst hj; trivial
              · rw [look_other _ _ e1] at hj
                refine (R.objs j oj hj).tr hle (fun x hx => ?_) rfl (live_of R hj)
                have : x ≠ b := fun e => by subst e; rw [o2] at hx; simp at hx; exact e1 hx
                exact ⟨(hlab x this).trans hx, rfl, rfl⟩
          · obtain ⟨a1, a2, a3⟩ := R.imm x L hx
            have : x ≠ b := fun e => by subst e; rw [o2] at a1; cases a1
            exact ⟨(hlab x this).trans a1, a2, a3⟩
          · obtain ⟨a1, a2⟩ := R.nst x L hx
            refine ⟨?_, a2⟩
            by_cases e : x = b
            · subst e; simp [g']
            · rw [hlab x e]; exact a1
          · by_cases e : x = b
            · subst e; exact R.labsz x (by rw [o2]; simp)
            · rw [hlab x e] at hx; exact R.labsz x hx
          · obtain ⟨f1, f2, f3⟩ := R.frame x hx hl hi
            have : x ≠ b := fun e => by subst e; rw [o2] at f1; cases f1
            exact ⟨(hlab x this).trans f1, f2, f3⟩
        have R3 : HRel B g' ((id, .dead g0) :: (d, .own (g.top d) τ true (xs.take hh.toNat)) :: t2.hp) w := R2.congr' fun i => by
          by_cases e1 : id = i
          · subst e1; rw [look_same, look_other _ _ hd, look_same]
          · by_cases e2 : d = i
            · subst e2; rw [look_same, look_other _ _ e1, look_same]
            · rw [look_other _ _ e1, look_other _ _ e2, look_other _ _ e2, look_other _ _ e1]
        refine ⟨.slice (some ⟨b, 0, none⟩) hh.toNat cap, g', ?_, hle, R3, ⟨by simp [g'], by simp [g'], rfl⟩⟩
        have := hbnd cap o5
        simp only [Instr.sliceAt, Instr.slice, Sem.run_bind, run_underlying ht, Result.andThen_ok, hcv] at this ⊢
        simp only [this, hsz', Result.andThen_ok]
        simp [sliced, add_none]
    · cases h1
  · cases h
theorem slice_sound {E : Env} {t : TypeId} {x : Operand} {lo hi : Option Operand} {s s' : St} {sl : Slot} {d : Nat} (h : (stepOp E d (.slice t x lo hi none)).run s = some (sl, s')) : Yld E (.slice t x lo hi none) s sl s' := by
  obtain ⟨v, t1, h1, h2⟩ := AM.bind_run h
  obtain ⟨c, t2, h3, h4⟩ := AM.bind_run h2
  obtain ⟨lo', t3, h5, h6⟩ := AM.bind_run h4
  obtain ⟨hi', t4, h7, h8⟩ := AM.bind_run h6
  obtain ⟨hf, h9⟩ := run_if h8
  obtain ⟨rfl, r1⟩ := evV_sound h1
  obtain ⟨rfl, rfl⟩ := one_sound h3
  obtain ⟨rfl, r2⟩ := optV_sound h5
  obtain ⟨rfl, r3⟩ := optV_sound h7
  obtain ⟨he, hs⟩ : s'.env = _ ∧ ∀ {B : Base} {g : Gh} {w : World} {u : Value} {ulo uhi : Option Value}, HRel B g _ w → CellRel g c u → ((lo' = none ∧ ulo = none) ∨ ∃ v' u, lo' = some v' ∧ ulo = some u ∧ ValRel g v' u) → ((hi' = none ∧ uhi = none) ∨ ∃ v' u, hi' = some v' ∧ uhi = some u ∧ ValRel g v' u) →
      ∃ v g', (Instr.sliceAt t u ulo uhi none).run E.P w = .ok v w ∧ Le g g' ∧ HRel B g' s'.hp w ∧ SlotRel g' sl v := by
    split at h9
    · obtain ⟨a, b⟩ := trimOwn_sound h9 hf
      refine ⟨a, fun {B g w u ulo uhi} R hu vlo vhi => b R hu ?_ vhi⟩
      rcases vlo with ⟨_, e⟩ | ⟨v', u, e, _⟩
      · exact e
      · cases e
    · exact sliceOf_sound h9 hf
  refine ⟨he, fun o ho B g a w R V => ?_⟩
  obtain ⟨v, g', k1, k2, k3, k4⟩ := hs R (r1 V) (r2 V) (r3 V)
  refine ⟨v, w, g', ?_, k2, k3, k4⟩
  unfold execOp; rw [ho]
  apply run_value
  exact k1
theorem bytesOf_foldl : ∀ (ns : List Int) (s : ByteArray), bytesOf (ns.foldl (fun r n => r.push (UInt8.ofNat n.toNat)) s) = bytesOf s ++ ns.map byte
  | [], s => by simp
  | n :: ns, s => by
    rw [List.foldl_cons, bytesOf_foldl ns]
    have : bytesOf (s.push (UInt8.ofNat n.toNat)) = bytesOf s ++ [byte n] := by
      unfold bytesOf byte
      rw [ByteArray.data_push]
      simp
    rw [this]
    simp
theorem toBytes {P : Program} {w : World} {b o : Nat} {xs : List Int} {cap : Nat} (h : ∀ i (hi : i < xs.length), w.cell? ⟨b, o + i, none⟩ = some (.int .u8 xs[i])) :
    ∃ st, (Conv.bytesToString (.slice (some ⟨b, o, none⟩) xs.length cap)).run P w = .ok (.string st) w ∧ bytesOf st = xs.map byte := by
  have hl := run_loadCells_list (P := P) w ⟨b, o, none⟩ (xs.map (Value.int .u8)) (fun j v hj => by
    rw [List.getElem?_map] at hj
    simp only [Option.map_eq_some_iff] at hj
    obtain ⟨x, hx, rfl⟩ := hj
    obtain ⟨hj, rfl⟩ := List.getElem?_eq_some_iff.1 hx
    rw [Addr.add_lit]
    exact h j hj)
  rw [List.length_map] at hl
  refine ⟨_, run_bytesToString w ⟨b, o, none⟩ xs.length cap xs (by simpa using hl), ?_⟩
  rw [bytesOf_foldl]
  simp [bytesOf]
theorem els_bytes {r : Rd} {w : World} {xs : List Int} {b o : Nat} {arr : Array Value} {ty : TypeId} {fr : Nat × Nat} (ha : w.heap[b]? = some (.cells arr ty fr)) (h : Els r (.int .u8) xs arr.toList o) :
    ∀ i (hi : i < xs.length), w.cell? ⟨b, o + i, none⟩ = some (.int .u8 xs[i]) := by
  intro i hi
  have h1 : _ = _ := h i hi
  have := cellsAt_of ha (o := o + i) 1 0 (.int .u8 xs[i]) (by
    have h1 : List.take 1 (List.drop (o + i * 1) arr.toList) = [Value.int .u8 xs[i]] := h1
    rw [Nat.mul_one] at h1
    rw [h1]; rfl)
  simpa using this
theorem rc_bytes {P : Program} {g : Gh} {B : Base} {hp : List (Nat × Obj)} {w : World} (R : HRel B g hp w) {xs : List Int} {u : Value} (h : Rc g.imm (.sl (.int .u8)) xs [u]) :
    ∃ st, (Conv.bytesToString u).run P w = .ok (.string st) w ∧ bytesOf st = xs.map byte := by
  obtain ⟨A, c, e, hc, he⟩ := h
  injection e with e
  subst e
  cases A with
  | none =>
    rcases he with he | ⟨b, o, L, e, _⟩
    · have he : xs = [] := he
      subst he
      exact ⟨.empty, by simp [Conv.bytesToString], rfl⟩
    · cases e
  | some a =>
    rcases he with he | ⟨b, o, L, e, hL, hi⟩
    · have he : xs = [] := he
      subst he
      have hl := run_loadCells_list (P := P) w a [] (fun j v hj => by simp at hj)
      exact ⟨_, run_bytesToString w a 0 c [] hl, rfl⟩
    · injection e with e
      subst e
      obtain ⟨_, _, arr, ty, fr, k1, k2⟩ := R.imm _ _ hL
      subst k2
      exact toBytes (els_bytes k1 hi)
theorem convert_sound {E : Env} {src dst : TypeId} {x : Operand} {s s' : St} {sl : Slot} {d : Nat} (h : (stepOp E d (.convert src dst x)).run s = some (sl, s')) : Yld E (.convert src dst x) s sl s' := by
  obtain ⟨v, t1, h1, h2⟩ := AM.bind_run h
  obtain ⟨rfl, r1⟩ := evV_sound h1
  unfold convert at h2
  split at h2
  · rename_i k0 k hs hd
    obtain ⟨n, t2, h3, h4⟩ := AM.bind_run h2
    obtain ⟨⟨k', rfl⟩, rfl⟩ := asInt_sound h3
    obtain ⟨rfl, rfl⟩ := run_ret h4
    refine .still fun o ho B g a w R V => ⟨.int k (k.wrap n), ?_, wi_rel g _ _⟩
    unfold execOp; rw [ho]
    apply run_value
    rw [int_rel (r1 V)]
    simp [Go.convert, run_underlying hs, run_underlying hd, Conv.intToInt]
  · rename_i e hs hd
    split at h2
    · rename_i c he
      have fin : ∀ {xs : List Int}, sl = ws (xs.map byte) → s' = t1 → (∀ {B : Base} {g : Gh} {w : World} {u : Value}, HRel B g t1.hp w → CellRel g c u → (∃ A n c, u = .slice A n c) ∧ ∃ st, (Conv.bytesToString u).run E.P w = .ok (.string st) w ∧ bytesOf st = xs.map byte) →
          Yld E (.convert src dst x) t1 sl s' := by
        rintro xs rfl rfl hf
        refine .still fun o ho B g a w R V => ?_
        obtain ⟨⟨A, n, c, e⟩, st, k1, k2⟩ := hf R (r1 V)
        refine ⟨.string st, ?_, by rw [← k2]; exact ws_rel g st⟩
        unfold execOp; rw [ho]
        apply run_value
        rw [e] at k1 ⊢
        rw [run_convert_bytes_string w src dst _ A n c hs he hd]
        exact k1
      split at h2
      · obtain ⟨rfl, rfl⟩ := run_ret h2
        refine fin rfl rfl fun {B g w u} R hu => ⟨?_, rc_bytes R hu.2⟩
        obtain ⟨_, A, c, e, _⟩ := hu
        injection e with e
        exact ⟨A, _, c, e⟩
      · obtain ⟨rfl, rfl⟩ := run_ret h2
        refine fin (xs := []) rfl rfl fun {B g w u} R hu => ?_
        have hu : _ = _ := hu
        subst hu
        exact ⟨⟨_, _, _, rfl⟩, .empty, by simp [Conv.bytesToString], rfl⟩
      · rename_i id gen
        simp only [AM.run] at h2
        split at h2
        · rename_i g0 deep xs heq
          obtain ⟨hb, h'⟩ := run_if h2
          obtain rfl := beq_eq hb
          obtain ⟨rfl, rfl⟩ := run_ret h'
          refine fin rfl rfl fun {B g w u} R hu => ?_
          rcases R.objs _ _ heq with ⟨k1, k2⟩ | ⟨b, cap, arr, ty, k1, k2, k3, k4, k5, k6, k7⟩
          · have k2 : xs = [] := k2
            subst k2
            rw [hu.2.1, k1]
            exact ⟨⟨_, _, _, rfl⟩, .empty, by simp [Conv.bytesToString], rfl⟩
          · rw [hu.2.1, k1]
            refine ⟨⟨_, _, _, rfl⟩, toBytes (els_bytes (r := g.imm) k4 ?_)⟩
            unfold ownEls at k7
            rw [if_neg (by simp [Ty.flat])] at k7
            exact k7
        · rename_i g0 xs heq
          obtain ⟨hb, h'⟩ := run_if h2
          obtain rfl := beq_eq hb
          obtain ⟨rfl, rfl⟩ := run_ret h'
          refine fin rfl rfl fun {B g w u} R hu => ?_
          have hP : Rc _ _ _ _ := R.objs _ _ heq
          rw [← hu.2.1] at hP
          refine ⟨?_, rc_bytes R hP⟩
          obtain ⟨A, c, e, _⟩ := hP
          injection e with e
          exact ⟨A, _, c, e⟩
        · cases h2
      · cases h2
    · cases h2
  · rename_i e hs hd
    split at h2
    · rename_i l he
      obtain ⟨rfl, rfl⟩ := run_ret h2
      refine ⟨rfl, fun o ho B g a w R V => ?_⟩
      obtain ⟨st, e1, hst⟩ := str_rel (r1 V)
      have hl : List.length l = st.size := by rw [hst]; exact bytesOf_length st
      have hT : Turned w (Lib.bytesWorld w e st) w.heap.size := by
        refine ⟨fun x hx => ?_, by rw [Lib.bytesWorld_size]; omega, by rw [Lib.bytesWorld_size]; omega, rfl, rfl, rfl⟩
        rcases Nat.lt_or_ge x w.heap.size with h | h
        · exact Lib.bytesWorld_at_old w e st x h
        · rw [Array.getElem?_eq_none (by rw [Lib.bytesWorld_size]; omega), Array.getElem?_eq_none h]
      obtain ⟨g', hle, hi, R'⟩ := R.newImm hT (Lib.bytesWorld_at_new w e st)
      refine ⟨.slice (some ⟨w.heap.size, 0, none⟩) st.size (grownCap w st.size 0 e), _, g', ?_, hle, R', ?_⟩
      · unfold execOp; rw [ho]
        apply run_value
        rw [e1]
        exact Lib.run_convert_string_bytes w _ _ e st hs hd he
      · refine ⟨rfl, some ⟨w.heap.size, 0, none⟩, _, by rw [← hl], ?_, .inr ⟨w.heap.size, 0, _, rfl, hi, fun i hi' => ?_⟩⟩
        · rw [hl]; exact grownCap_ge w st.size 0 e
        · have hi2 : i < st.data.toList.length := by
            have : i < st.size := by rw [← hl]; exact hi'
            rw [Array.length_toList]; exact this
          show List.take 1 (List.drop (0 + i * 1) (Lib.bytesCells w e st).toList) = [Value.int .u8 l[i]]
          rw [Nat.zero_add, Nat.mul_one]
          unfold Lib.bytesCells
          rw [Array.toList_append, Array.toList_map, List.drop_append_of_le_length (by simp; omega)]
          have hlen : i < (st.data.toList.map fun b => Value.int .u8 b.toNat).length := by simpa using hi2
          rw [List.drop_eq_getElem_cons hlen]
          simp only [List.cons_append, List.take_succ_cons, List.take_zero, List.getElem_map]
          congr 2
          have : l[i] = (bytesOf st)[i]'(by rw [← hst]; exact hi') := by simp only [hst]
          rw [this]
          simp [bytesOf]
    · cases h2
  · cases h2
theorem makeInterface_sound {E : Env} {t : TypeId} {x : Operand} {s s' : St} {sl : Slot} {d : Nat} (h : (stepOp E d (.makeInterface t x)).run s = some (sl, s')) : Yld E (.makeInterface t x) s sl s' := by
  obtain ⟨v, t1, h1, h2⟩ := AM.bind_run h
  obtain ⟨rfl, r1⟩ := evV_sound h1
  split at h2
  · cases h2
  · rename_i u hu ht
    obtain ⟨rfl, rfl⟩ := run_ret h2
    refine .still fun o ho B g a w R V => ⟨.iface t (a.eval x), ?_, .inr ⟨rfl, _, _, rfl⟩⟩
    unfold execOp; rw [ho]
    apply run_value
    simp only [Instr.makeInterface, run_underlying ht, Sem.run_bind, Result.andThen_ok]
    cases u <;> first | rfl | (exact absurd rfl (hu _))
  · cases h2
end Go.Abs
end

section
namespace Go.Abs
theorem HRel.loosen {B : Base} {g : Gh} {hp : List (Nat × Obj)} {w : World} (R : HRel B g hp w) {id gen : Nat} {τ : Ty} {deep : Bool} {xs : List τ.den}
    (h : look hp id = some (.own gen τ deep xs)) : ∃ g' nb, Lk g g' ∧ HRel B g' ((id, .dead gen) :: hp) w ∧ (∀ b ∈ nb, g.lab b ≠ some 0) ∧
      ((g'.cv id gen = .slice none 0 0 ∧ xs = [] ∧ nb = []) ∨ ∃ b cap arr ty, g'.cv id gen = .slice (some ⟨b, 0, none⟩) xs.length cap ∧ Free g' ((id, .dead gen) :: hp) w b ∧ b ∉ nb ∧ b < w.heap.size ∧ w.heap[b]? = some (.cells arr ty (0, 0)) ∧
        xs.length ≤ cap ∧ arr.size = cap * τ.size ∧ Held g' (deep && !τ.flat) τ xs arr.toList nb) := by
  have hdead : ∀ i, i = id → ∀ o, look ((id, Obj.dead gen) :: hp) i = some o → ∃ gn, o = .dead gn := by
    rintro i rfl o ho
    rw [look_same] at ho
    injection ho with ho
    exact ⟨gen, ho.symm⟩
  rcases R.objs _ _ h with ⟨h1, h2⟩ | ⟨b, cap, arr, ty, h1, h2, h3, h4, h5, h6, h7⟩
  · exact ⟨g, [], Lk.refl g, R.put h rfl trivial, fun b hb => by simp at hb, .inl ⟨h1, h2, rfl⟩⟩
  · have hbl : b < w.heap.size := R.labsz b (by rw [h2]; simp)
    have hbi : g.imm b = none := by
      cases hi : g.imm b with
      | none => rfl
      | some L => have := (R.imm b L hi).1; rw [h2] at this; cases this
    unfold ownEls at h7
    split at h7
    · rename_i hd
      obtain ⟨nb, k1, k2, k3⟩ := h7
      have hbn : b ∉ nb := fun hm => k1.nst_some b hm h3
      let g' : Gh := { g with lab := open Classical in fun x => if x ∈ nb then some 0 else g.lab x }
      have hle : Le g g' := ⟨fun _ _ h => h, fun _ => Nat.le_refl _, fun _ _ _ => rfl⟩
      have hR : HRel B g' ((id, .dead gen) :: hp) w := by
        refine ⟨fun i => ?_, fun i oi hi => ?_, fun x L hx => ?_, fun x L hx => ?_, fun x hx => ?_, R.imm0, fun x hx hl hi => ?_, R.size, R.os, R.tape, R.output, R.fix⟩
        · show g.top i = _
          rw [R.top i]
          by_cases e : id = i
          · subst e; rw [look_same, h]; rfl
          · rw [look_other _ _ e]
        · by_cases e : id = i
          · subst e; rw [look_same] at hi; injection hi with hi; subst hi; trivial
          · rw [look_other _ _ e] at hi
            refine (R.objs i oi hi).tr hle (fun x hx => ?_) rfl (by rw [R.top i, hi]; exact Nat.lt_succ_self _)
            have hxn : x ∉ nb := fun hm => by rw [k3 x hm] at hx; simp at hx; exact e hx
            simp [g', hxn, hx]
        · obtain ⟨a1, a2, a3⟩ := R.imm x L hx
          have hxn : x ∉ nb := fun hm => by rw [k3 x hm] at a1; cases a1
          exact ⟨by simp [g', hxn, a1], a2, a3⟩
        · obtain ⟨a1, a2⟩ := R.nst x L hx
          refine ⟨?_, a2⟩
          by_cases hxn : x ∈ nb
          · simp [g', hxn]
          · simpa [g', hxn] using a1
        · by_cases hxn : x ∈ nb
          · exact R.labsz x (by rw [k3 x hxn]; simp)
          · exact R.labsz x (by simpa [g', hxn] using hx)
        · obtain ⟨f1, f2, f3⟩ := R.frame x hx hl hi
          have hxn : x ∉ nb := fun hm => by rw [k3 x hm] at f1; cases f1
          exact ⟨by simp [g', hxn, f1], f2, f3⟩
      refine ⟨g', nb, ⟨hle, fun x hx => ?_, rfl⟩, hR, fun x hx => by rw [k3 x hx]; simp, .inr ⟨b, cap, arr, ty, h1, ⟨fun i hi o ho => ?_, ?_, hbi, h3, fun hn => ?_⟩, hbn, hbl, h4, h5, h6, ?_⟩⟩
      · have hxn : x ∉ nb := fun hm => by rw [k3 x hm] at hx; simp at hx
        simp [g', hxn, hx]
      · have hi' : g.lab b = some (i + 1) := by simpa [g', hbn] using hi
        rw [h2] at hi'
        simp at hi'
        exact hdead i hi'.symm o ho
      · simp [g', hbn, h2]
      · simp [g', hbn, h2] at hn
      · unfold Held
        rw [if_pos hd]
        exact ⟨k1, k2, fun x hx => by simp [g', hx]⟩
    · rename_i hd
      refine ⟨g, [], Lk.refl g, R.put h rfl trivial, fun x hx => by simp at hx, .inr ⟨b, cap, arr, ty, h1, ⟨fun i hi o ho => ?_, by rw [h2]; simp, hbi, h3, fun hn => by rw [h2] at hn; cases hn⟩, by simp, hbl, h4, h5, h6, ?_⟩⟩
      · rw [h2] at hi
        simp at hi
        exact hdead i hi.symm o ho
      · unfold Held
        rw [if_neg hd]
        exact ⟨h7, rfl⟩
theorem HRel.settle {B : Base} {g : Gh} {hp : List (Nat × Obj)} {w : World} (R : HRel B g hp w) {nb : List Nat} (h0 : ∀ x ∈ nb, g.lab x = some 0) : Le g (g.pubd (nbS g nb)) ∧ HRel B (g.pubd (nbS g nb)) hp w := by
  have hS : ∀ x L, nbS g nb x = some L → g.lab x = some 0 ∧ ∃ arr ty fr, w.heap[x]? = some (.cells arr ty fr) ∧ arr.toList = L := by
    intro x L hx
    unfold nbS at hx
    split at hx
    · rename_i hm
      obtain ⟨_, arr, ty, a, b⟩ := R.nst x L hx
      exact ⟨h0 x hm, arr, ty, (0, 0), a, b⟩
    · cases hx
  have hle : Le g (g.pubd (nbS g nb)) := by
    refine ⟨fun b L h => ?_, fun _ => Nat.le_refl _, fun _ _ _ => rfl⟩
    show (match nbS g nb b with | some L => some L | none => g.imm b) = some L
    cases hs : nbS g nb b with
    | none => exact h
    | some L' => exact absurd (hS b L' hs).1 (by rw [(R.imm b L h).1]; simp)
  refine ⟨hle, fun i => R.top i, fun i oi hi => ?_, fun b L h => ?_, fun b L h => ?_, fun b h => ?_, fun b L h => hle.imm _ _ (R.imm0 b L h), fun b hb hl hi => ?_, R.size, R.os, R.tape, R.output, R.fix⟩
  · refine (R.objs i oi hi).tr hle (fun b hb => ?_) rfl (by rw [R.top i, hi]; exact Nat.lt_succ_self _)
    have hn : nbS g nb b = none := by
      cases hs : nbS g nb b with
      | none => rfl
      | some L => exact absurd ((hS b L hs).1.symm.trans hb) (by simp)
    simp [Gh.pubd, hn, hb]
  · simp only [Gh.pubd] at h ⊢
    cases hs : nbS g nb b with
    | some L' =>
      rw [hs] at h
      injection h with h; subst h
      obtain ⟨arr, ty, fr, h1, h2⟩ := (hS b L' hs).2
      exact ⟨rfl, rfl, arr, ty, fr, h1, h2⟩
    | none => rw [hs] at h; exact R.imm b L h
  · simp only [Gh.pubd] at h ⊢
    cases hs : nbS g nb b with
    | some L' => rw [hs] at h; cases h
    | none => rw [hs] at h; exact R.nst b L h
  · simp only [Gh.pubd] at h
    cases hs : nbS g nb b with
    | some L' => rw [hs] at h; exact absurd rfl h
    | none => rw [hs] at h; exact R.labsz b h
  · obtain ⟨f1, f2, f3⟩ := R.frame b hb hl hi
    have hn : nbS g nb b = none := by
      cases hs : nbS g nb b with
      | none => rfl
      | some L => exact absurd (hS b L hs).1 (by rw [f1]; simp)
    simp [Gh.pubd, hn, f1, f2, f3]
theorem Held.loose {B : Base} {g : Gh} {hp : List (Nat × Obj)} {w : World} (R : HRel B g hp w) {mv : Bool} {τ : Ty} {xs : List τ.den} {L : List Value} {nb : List Nat} (h : Held g mv τ xs L nb) :
    ∃ g', Le g g' ∧ HRel B g' hp w ∧ Held g' false τ xs L [] ∧ (∀ b, b ∉ nb → Free g hp w b → Free g' hp w b) := by
  cases mv with
  | false =>
    unfold Held at h
    simp only [Bool.false_eq_true, if_false] at h
    refine ⟨g, Le.refl g, R, ?_, fun _ _ h => h⟩
    unfold Held
    simp only [Bool.false_eq_true, if_false]
    exact ⟨h.1, trivial⟩
  | true =>
    unfold Held at h
    simp only [if_true] at h
    obtain ⟨hle, R'⟩ := R.settle h.2.2
    refine ⟨_, hle, R', ?_, fun b hb hf => ?_⟩
    · unfold Held
      simp only [Bool.false_eq_true, if_false]
      exact ⟨LinEls.els (nb := nb) (h.1.mono fun x hx L hL => by simp [Gh.pubd, nbS, hx, hL]), trivial⟩
    · have hn : nbS g nb b = none := by simp [nbS, hb]
      exact ⟨fun i hi => hf.obj i (by simpa [Gh.pubd, hn] using hi), by simpa [Gh.pubd, hn] using hf.pend, by simpa [Gh.pubd, hn] using hf.imm, by simpa [Gh.pubd, hn] using hf.nst, fun h => hf.new (by simpa [Gh.pubd, hn] using h)⟩
theorem Held.false_mono {g g' : Gh} (l : Le g g') {τ : Ty} {xs : List τ.den} {L : List Value} {nb : List Nat} (h : Held g false τ xs L nb) : Held g' false τ xs L nb := by
  unfold Held at h ⊢
  simp only [Bool.false_eq_true, if_false] at h ⊢
  exact ⟨h.1.mono l.imm, h.2⟩
theorem rc_ones {r : Rd} {τ : Ty} {x : τ.den} {us : List Value} (h : Rc r τ x us) : ∀ u ∈ us, u.oneCell' = true :=
  (unpack_rel (g := { imm := r, top := fun _ => 0, cv := fun _ _ => .tuple #[], lab := fun _ => none, nst := fun _ => none, outer := fun _ => [] }) h).ones
theorem els_ones {r : Rd} {τ : Ty} : ∀ {xs : List τ.den} {L : List Value}, Els r τ xs L 0 → L.length = xs.length * τ.size → ∀ u ∈ L, u.oneCell' = true
  | [], L, _, hl, u, hu => by
    have : L = [] := List.eq_nil_of_length_eq_zero (by simpa using hl)
    subst this
    simp at hu
  | x :: xs, L, h, hl, u, hu => by
    obtain ⟨h1, h2⟩ := Els.head.1 h
    rw [← List.take_append_drop τ.size L] at hu
    rcases List.mem_append.1 hu with hu | hu
    · exact rc_ones h1 u hu
    · exact els_ones h2 (by simp only [List.length_drop, hl, List.length_cons, Nat.add_mul]; omega) u hu
theorem Held.els {g : Gh} {mv : Bool} {τ : Ty} {xs : List τ.den} {L : List Value} {nb : List Nat} (h : Held g mv τ xs L nb) : ∃ r, Els r τ xs L 0 := by
  unfold Held at h
  split at h
  · exact ⟨_, h.1.els⟩
  · exact ⟨_, h.1⟩
theorem Held.pre {g : Gh} {mv : Bool} {τ : Ty} {xs : List τ.den} {L M : List Value} {nb : List Nat} (hp : L.take (xs.length * τ.size) = M.take (xs.length * τ.size)) (h : Held g mv τ xs L nb) : Held g mv τ xs M nb := by
  unfold Held at h ⊢
  split
  · rename_i e; rw [if_pos e] at h
    exact ⟨h.1.pre (fun k hk => by subst hk; exact hp), h.2⟩
  · rename_i e; rw [if_neg e] at h
    exact ⟨h.1.pre (fun k hk => by subst hk; exact hp), h.2⟩
theorem Held.append {g : Gh} {mv : Bool} {τ : Ty} {xs ys : List τ.den} {L M : List Value} {n m : List Nat} (h : Held g mv τ xs L n) (k : Held g mv τ ys M m) (hl : L.length = xs.length * τ.size) (hd : ∀ x ∈ n, x ∉ m) :
    Held g mv τ (xs ++ ys) (L ++ M) (n ++ m) := by
  unfold Held at h k ⊢
  split
  · rename_i e; rw [if_pos e] at h k
    refine ⟨h.1.append k.1 hl, ?_, fun b hb => ?_⟩
    · rw [List.nodup_append]
      exact ⟨h.2.1, k.2.1, fun x hx y hy e => hd x hx (e ▸ hy)⟩
    · rcases List.mem_append.1 hb with hb | hb
      · exact h.2.2 b hb
      · exact k.2.2 b hb
  · rename_i e; rw [if_neg e] at h k
    exact ⟨h.1.append k.1 hl, by rw [h.2, k.2]; rfl⟩
end Go.Abs
end

section
namespace Go.Abs
theorem els_off {r : Rd} {e : Ty} {xs : List e.den} {L : List Value} {o : Nat} (h : Els r e xs L o) : Els r e xs (L.drop o) 0 := by
  intro i hi
  have := h i hi
  rw [Nat.zero_add, List.drop_drop]
  exact this
theorem els_cut {r : Rd} {e : Ty} {xs : List e.den} {L : List Value} {o : Nat} (h : Els r e xs L o) : Els r e xs ((L.drop o).take (xs.length * e.size)) 0 ∧ ((L.drop o).take (xs.length * e.size)).length = xs.length * e.size := by
  have h' := els_off h
  refine ⟨h'.pre (fun k hk => by subst hk; rw [List.take_take, Nat.min_self]), ?_⟩
  have := h'.len
  rw [List.length_take]
  omega
theorem lin_cut {r : Rd} {e : Ty} {xs : List e.den} {L : List Value} {nb : List Nat} (h : LinEls r e xs L nb) : LinEls r e xs (L.take (xs.length * e.size)) nb ∧ (L.take (xs.length * e.size)).length = xs.length * e.size := by
  refine ⟨h.pre (fun k hk => by subst hk; rw [List.take_take, Nat.min_self]), ?_⟩
  have := h.els.len
  rw [List.length_take]
  omega
theorem Held.cut {g : Gh} {mv : Bool} {τ : Ty} {xs : List τ.den} {L : List Value} {nb : List Nat} (h : Held g mv τ xs L nb) : Held g mv τ xs (L.take (xs.length * τ.size)) nb ∧ (L.take (xs.length * τ.size)).length = xs.length * τ.size := by
  obtain ⟨r, he⟩ := h.els
  refine ⟨h.pre (by rw [List.take_take, Nat.min_self]), ?_⟩
  have := he.len
  rw [List.length_take]
  omega
theorem Held.nil {g : Gh} {mv : Bool} {τ : Ty} {L : List Value} : Held g mv τ [] L [] := by
  unfold Held
  split
  · exact ⟨rfl, List.nodup_nil, fun b hb => by simp at hb⟩
  · exact ⟨Els.nil, rfl⟩
theorem rc_src {P : Program} {B : Base} {g : Gh} {hp : List (Nat × Obj)} {w : World} (R : HRel B g hp w) {e : Ty} {xs : List e.den} {u : Value} {tx e' : TypeId} (hk : P.underlying tx = some (.slice e')) (h : Rc g.imm (.sl e) xs [u]) :
    ∃ news, Src P e.size tx u xs.length news w ∧ Held g false e xs news [] := by
  obtain ⟨A, c, eu, hc, he⟩ := h
  injection eu with eu
  subst eu
  by_cases hx : xs = []
  · subst hx
    refine ⟨[], ?_, Held.nil⟩
    cases A with
    | none => exact Src.ofNil w hk c
    | some a => exact Src.ofSlice w hk a 0 c [] (by simp) (fun j u hj => by simp at hj) (fun u hu => by simp at hu)
  · rcases he with he | ⟨b, o, L, rfl, hL, hi⟩
    · exact absurd he hx
    · obtain ⟨_, _, arr, ty, fr, k1, k2⟩ := R.imm _ _ hL
      subst k2
      have hE : Els g.imm e xs arr.toList o := hi
      obtain ⟨hc1, hc2⟩ := els_cut hE
      refine ⟨_, Src.ofSlice w hk _ _ c _ hc2 (fun j u hj => ?_) (els_ones hc1 hc2), ?_⟩
      · rw [Addr.add_lit]
        exact cellsAt_of k1 _ j u hj
      · unfold Held
        simp only [Bool.false_eq_true, if_false]
        exact ⟨hc1, trivial⟩
theorem fit_slice {E : Env} {t : TypeId} {c : Cell} (h : E.fit t c = true) (hs : c.isStr = false) : ∃ e, E.P.underlying t = some (.slice e) := by
  unfold Env.fit at h
  split at h
  · rw [hs] at h; cases h
  · exact ⟨_, by assumption⟩
  · cases h
theorem source_sound {E : Env} {e : Ty} {c : Cell} {tx : TypeId} {s s' : St} {dq : Bool} {ys : List e.den} (h : (source e c).run s = some ((dq, ys), s')) (hf : E.fit tx c = true) :
    s'.env = s.env ∧ ∀ B g w, HRel B g s.hp w → ∃ g1, Lk g g1 ∧ HRel B g1 s'.hp w ∧ ∀ u, CellRel g c u →
      ∃ news nb, Src E.P e.size tx u ys.length news w ∧ Held g1 (dq && !e.flat) e ys news nb ∧ ∀ b ∈ nb, g.lab b ≠ some 0 := by
  have shared : ∀ {B : Base} {g : Gh} {hp : List (Nat × Obj)} {w : World} {u : Value} {dq : Bool}, HRel B g hp w → c.isStr = false → (dq && !e.flat) = false → Rc g.imm (.sl e) ys [u] →
      ∃ news nb, Src E.P e.size tx u ys.length news w ∧ Held g (dq && !e.flat) e ys news nb ∧ ∀ b ∈ nb, g.lab b ≠ some 0 := by
    intro B g hp w u dq R hs hd hr
    obtain ⟨e', hk⟩ := fit_slice hf hs
    obtain ⟨news, k1, k2⟩ := rc_src R hk hr
    exact ⟨news, [], k1, by rw [hd]; exact k2, fun b hb => by simp at hb⟩
  unfold source at h
  split at h
  · obtain ⟨h1, rfl⟩ := run_ret h
    injection h1 with h1 h2
    subst h1; subst h2
    refine ⟨rfl, fun B g w R => ⟨g, Lk.refl g, R, fun u hu => ?_⟩⟩
    have hu : _ = _ := hu
    subst hu
    obtain ⟨e', hk⟩ := fit_slice hf rfl
    exact ⟨[], [], Src.ofNil w hk 0, Held.nil, fun b hb => by simp at hb⟩
  · rename_i τ xs
    obtain ⟨zs, t, h1, h2⟩ := AM.bind_run h
    obtain ⟨h3, rfl⟩ := run_ret h2
    injection h3 with h3 h4
    subst h3; subst h4
    obtain ⟨ee, hx, rfl⟩ := run_cast h1
    subst ee; subst hx
    refine ⟨rfl, fun B g w R => ⟨g, Lk.refl g, R, fun u hu => ?_⟩⟩
    exact shared R rfl (by simp) hu.2
  · rename_i l
    split at h
    · obtain ⟨h1, rfl⟩ := run_ret h
      injection h1 with h1 h2
      subst h1; subst h2
      refine ⟨rfl, fun B g w R => ⟨g, Lk.refl g, R, fun u hu => ?_⟩⟩
      obtain ⟨st, rfl, hst⟩ := str_rel hu
      have hk : E.P.underlying tx = some .string := by
        unfold Env.fit at hf
        split at hf
        · assumption
        · simp [Cell.isStr] at hf
        · cases hf
      have hl : List.length ys = st.size := by rw [hst]; exact bytesOf_length st
      have hb : byteCells st = ys.map (Value.int .u8) := by
        rw [hst]
        unfold byteCells bytesOf
        rw [List.map_map]
        rfl
      refine ⟨byteCells st, [], by rw [hl]; exact Src.ofString w hk st, ?_, fun b hb => by simp at hb⟩
      unfold Held
      simp only [Ty.flat, Bool.not_true, Bool.and_false, Bool.false_eq_true, if_false]
      refine ⟨fun i hi => ?_, trivial⟩
      show List.take 1 (List.drop (0 + i * 1) (byteCells st)) = [Value.int .u8 ys[i]]
      rw [hb, Nat.zero_add, Nat.mul_one]
      have : i < (ys.map (Value.int .u8)).length := by simpa using hi
      rw [List.drop_eq_getElem_cons this]
      simp
    · cases h
  · rename_i id gen
    simp only [AM.run] at h
    split at h
    · rename_i g0 τ deep xs heq
      obtain ⟨hb, h'⟩ := run_if h
      obtain rfl := beq_eq hb
      cases hfl : τ.flat with
      | true =>
        rw [hfl] at h'
        obtain ⟨zs, t, h1, h2⟩ := AM.bind_run h'
        obtain ⟨h3, rfl⟩ := run_ret h2
        injection h3 with h3 h4
        subst h3; subst h4
        obtain ⟨ee, hx, rfl⟩ := run_cast h1
        subst ee; subst hx
        refine ⟨rfl, fun B g w R => ⟨g, Lk.refl g, R, fun u hu => ?_⟩⟩
        obtain ⟨e', hk⟩ := fit_slice hf rfl
        rcases R.objs _ _ heq with ⟨k1, k2⟩ | ⟨b, cap, arr, ty, k1, k2, k3, k4, k5, k6, k7⟩
        · have k2 : ys = [] := k2
          subst k2
          rw [hu.2.1, k1]
          exact ⟨[], [], Src.ofNil w hk 0, Held.nil, fun b hb => by simp at hb⟩
        · rw [hu.2.1, k1]
          unfold ownEls at k7
          rw [if_neg (by simp [hfl])] at k7
          obtain ⟨hc1, hc2⟩ := els_cut k7
          refine ⟨_, [], Src.ofSlice w hk _ _ cap _ hc2 (fun j u hj => ?_) (els_ones hc1 hc2), ?_, fun b hb => by simp at hb⟩
          · rw [Addr.add_lit]
            exact cellsAt_of k4 _ j u hj
          · unfold Held
            simp only [hfl, Bool.not_true, Bool.and_false, Bool.false_eq_true, if_false]
            exact ⟨hc1, trivial⟩
      | false =>
        rw [hfl] at h'
        simp only [cond_false, AM.run] at h'
        obtain ⟨zs, t, h1, h2⟩ := AM.bind_run h'
        obtain ⟨h3, rfl⟩ := run_ret h2
        injection h3 with h3 h4
        subst h3; subst h4
        obtain ⟨ee, hx, rfl⟩ := run_cast h1
        subst ee; subst hx
        refine ⟨rfl, fun B g w R => ?_⟩
        cases dq with
        | true =>
          obtain ⟨g1, nb, l, R1, hn, hO⟩ := R.loosen heq
          refine ⟨g1, l, R1, fun u hu => ?_⟩
          obtain ⟨e', hk⟩ := fit_slice hf rfl
          have hcv : g1.cv id g0 = g.cv id g0 := l.le.cv _ _ (live_of R heq)
          rw [hcv, ← hu.2.1] at hO
          rcases hO with ⟨k1, k2, k3⟩ | ⟨b, cap, arr, ty, k1, k2, k3, k3', k4, k5, k6, k7⟩
          · have k2 : ys = [] := k2
            subst k2; subst k3
            rw [k1]
            exact ⟨[], [], Src.ofNil w hk 0, Held.nil, fun b hb => by simp at hb⟩
          · rw [k1]
            obtain ⟨hc1, hc2⟩ := k7.cut
            obtain ⟨r, he⟩ := hc1.els
            refine ⟨_, nb, Src.ofSlice w hk _ _ cap _ hc2 (fun j u hj => ?_) (els_ones he hc2), hc1, hn⟩
            rw [Addr.add_lit]
            exact cellsAt_of k4 (o := 0) _ j u (by simpa using hj)
        | false =>
          obtain ⟨g1, l, R1⟩ := R.publish' heq
          refine ⟨g1, l, R1, fun u hu => ?_⟩
          have hP : Rc _ _ _ _ := R1.objs _ _ (look_same _ _ _)
          rw [show g1.cv id g0 = g.cv id g0 from l.le.cv _ _ (live_of R heq), ← hu.2.1] at hP
          obtain ⟨news, nb, a1, a2, a3⟩ := shared (dq := false) R1 rfl (by simp) hP
          refine ⟨news, [], a1, ?_, fun b hb => by simp at hb⟩
          unfold Held at a2 ⊢
          simp only [Bool.false_and, Bool.false_eq_true, if_false] at a2 ⊢
          exact ⟨a2.1, trivial⟩
    · rename_i g0 τ xs heq
      obtain ⟨hb, h'⟩ := run_if h
      obtain rfl := beq_eq hb
      obtain ⟨zs, t, h1, h2⟩ := AM.bind_run h'
      obtain ⟨h3, rfl⟩ := run_ret h2
      injection h3 with h3 h4
      subst h3; subst h4
      obtain ⟨ee, hx, rfl⟩ := run_cast h1
      subst ee; subst hx
      refine ⟨rfl, fun B g w R => ⟨g, Lk.refl g, R, fun u hu => ?_⟩⟩
      have hP : Rc _ _ _ _ := R.objs _ _ heq
      rw [← hu.2.1] at hP
      exact shared R rfl (by simp) hP
    · cases h
  · cases h
def Tgt (g : Gh) (hp : List (Nat × Obj)) (w : World) (mv : Bool) (e : Ty) (xs : List e.den) (u : Value) (nb : List Nat) : Prop :=
  (u = .slice none 0 0 ∧ xs = [] ∧ nb = []) ∨ ∃ b cap arr ty, u = .slice (some ⟨b, 0, none⟩) xs.length cap ∧ Free g hp w b ∧ b ∉ nb ∧ b < w.heap.size ∧ w.heap[b]? = some (.cells arr ty (0, 0)) ∧
    xs.length ≤ cap ∧ arr.size = cap * e.size ∧ Held g mv e xs arr.toList nb
theorem target_sound {e : Ty} {c : Cell} {s s' : St} {dp : Bool} {xs : List e.den} (h : (target e c).run s = some ((dp, xs), s')) :
    s'.env = s.env ∧ ∀ B g w, HRel B g s.hp w → ∃ g1, Lk g g1 ∧ HRel B g1 s'.hp w ∧ ∀ u, CellRel g c u → ∃ nb, Tgt g1 s'.hp w (dp && !e.flat) e xs u nb ∧ ∀ b ∈ nb, g.lab b ≠ some 0 := by
  unfold target at h
  split at h
  · obtain ⟨h1, rfl⟩ := run_ret h
    injection h1 with h1 h2
    subst h1; subst h2
    refine ⟨rfl, fun B g w R => ⟨g, Lk.refl g, R, fun u hu => ⟨[], .inl ⟨hu, rfl, rfl⟩, fun b hb => by simp at hb⟩⟩⟩
  · rename_i id gen
    simp only [AM.run] at h
    split at h
    · rename_i g0 τ deep zs heq
      obtain ⟨hb, h'⟩ := run_if h
      obtain rfl := beq_eq hb
      simp only [AM.run] at h'
      obtain ⟨ys, t, h1, h2⟩ := AM.bind_run h'
      obtain ⟨h3, rfl⟩ := run_ret h2
      injection h3 with h3 h4
      subst h3; subst h4
      obtain ⟨ee, hx, rfl⟩ := run_cast h1
      subst ee; subst hx
      refine ⟨rfl, fun B g w R => ?_⟩
      obtain ⟨g1, nb, l, R1, hn, hO⟩ := R.loosen heq
      refine ⟨g1, l, R1, fun u hu => ⟨nb, ?_, hn⟩⟩
      rw [show g1.cv id g0 = g.cv id g0 from l.le.cv _ _ (live_of R heq), ← hu.2.1] at hO
      exact hO
    · cases h
  · cases h
end Go.Abs
end

section
namespace Go.Abs
theorem take_pre {α : Type} (A R : List α) {k : Nat} (h : A.length = k) : A.take k = (A ++ R).take k := by subst h; simp
theorem grow_sound {P : Program} {B : Base} {g : Gh} {hp : List (Nat × Obj)} {w : World} {t tx ty e : TypeId} {i : TypeInfo} {z : Value} {τ : Ty} (ht : P.underlying t = some (.slice e)) (hi : P.info? e = some i) (hz : i.zero = some z)
    (hsz : i.size = τ.size) (hby : i.bytes ≤ 128) (hzl : z.cells.size = τ.size) (R : HRel B g hp w) {deep : Bool} {xs ys : List τ.den} {base : Option Addr} {sCap : Nat} {olds news : List Value} {u : Value} {nbp nbq : List Nat}
    (hold : (Builtin.firstCells i.size xs.length (.slice base xs.length sCap)).run P w.drew = .ok olds.toArray w.drew) (hol : olds.length = xs.length * τ.size) (hP : Held g (deep && !τ.flat) τ xs olds nbp)
    (hS : Src P τ.size tx u ys.length news w) (hQ : Held g (deep && !τ.flat) τ ys news nbq) (hd : ∀ x ∈ nbp, x ∉ nbq) (hg : sCap < xs.length + ys.length) (hfit : xs.length + ys.length ≤ 1099511627776) (id : Nat) :
    ∃ v w' g', (Builtin.append_ #[t, tx] ty #[.slice base xs.length sCap, u]).run P w = .ok v w' ∧ Le g g' ∧ HRel B g' ((id, .own (g.top id) τ deep (xs ++ ys)) :: hp) w' ∧ CellRel g' (.own id (g.top id)) v := by
  rw [← hsz] at hS
  have hb : (xs.length + ys.length) * i.bytes ≤ 140737488355328 := by
    have : (xs.length + ys.length) * i.bytes ≤ 1099511627776 * 128 := Nat.mul_le_mul hfit hby
    omega
  have hr := run_append_grow_src (P := P) w t tx ty e i z ht hi hz base xs.length sCap olds hold u ys.length news hS hg (by omega) (growslice_fits hg hb)
  have hnl := hS.newsLen
  have hge := grownCap_ge w (xs.length + ys.length) sCap e
  generalize hc : grownCap w (xs.length + ys.length) sCap e = c at hr hge
  have hTurn : Turned w (w.drew.alloc (.cells ((olds ++ news).toArray ++ Builtin.zeroCells z.cells (c - (xs.length + ys.length))) e)) w.heap.size := by
    refine ⟨fun x hx => ?_, ?_, ?_, rfl, rfl, rfl⟩
    · show (w.heap.push _)[x]? = _
      rw [Array.getElem?_push, if_neg hx]
    · show _ ≤ (w.heap.push _).size
      simp
    · show _ < (w.heap.push _).size
      simp
  obtain ⟨g', l, R', hcell⟩ := R.own (id := id) (cap := c) (ty := e) (τ := τ) (deep := deep) (xs := xs ++ ys) (nb := nbp ++ nbq) R.free_new hTurn (by show (w.heap.push _)[w.heap.size]? = _; rw [Array.getElem?_push, if_pos rfl]) (by
      have hA := hP.append hQ hol hd
      refine hA.pre ?_
      rw [Array.toList_append]
      exact take_pre _ _ (by simp [hol, hnl, hsz, Nat.add_mul])) (by simpa using hge) (by
      simp only [Array.size_append, List.size_toArray, size_zeroCells, List.length_append, hol, hnl, hzl, hsz, ← Nat.add_mul]
      congr 1
      omega)
  refine ⟨_, _, g', hr, l, R', ?_⟩
  rw [List.length_append] at hcell
  exact hcell
theorem setCells_eq {P : Program} {w : World} {b o : Nat} {arr : Array Value} {ty : TypeId} {us : List Value} (h : w.heap[b]? = some (.cells arr ty (0, 0))) (hle : o + us.length ≤ arr.size) (h1 : ∀ u ∈ us, u.oneCell' = true) :
    (∀ j, j < us.length → (w.cell? ⟨b, o + j, none⟩).isSome = true) ∧ (∀ j, j < us.length → w.frozen? ⟨b, o + j, none⟩ = false) ∧ w.setCells b o us = w.setRow b (splice arr o us) := by
  have a1 : ∀ j, j < us.length → (w.cell? ⟨b, o + j, none⟩).isSome = true := by
    intro j hj
    have : o + j < arr.size := by omega
    simp [World.cell?, h, this]
  have a2 : ∀ j, j < us.length → w.frozen? ⟨b, o + j, none⟩ = false := by
    intro j hj
    simp [World.frozen?, h]
  have r1 := run_storeCells_cells (P := P) b o us 0 w (by simpa using a1) (by simpa using a2) h1
  have r2 := run_storeCells_at (P := P) b o ty us 0 arr w h (by simpa using hle) h1
  rw [r1] at r2
  injection r2 with _ r2
  exact ⟨a1, a2, by simpa [splice] using r2⟩
theorem append_run {P : Program} {B : Base} {g : Gh} {hp : List (Nat × Obj)} {w : World} {t tx ty e : TypeId} {i : TypeInfo} {z : Value} {τ : Ty} (ht : P.underlying t = some (.slice e)) (hi : P.info? e = some i) (hz : i.zero = some z)
    (hsz : i.size = τ.size) (hby : i.bytes ≤ 128) (hzl : z.cells.size = τ.size) (R : HRel B g hp w) {deep : Bool} {xs ys : List τ.den} {us u : Value} {news : List Value} {nbp nbq : List Nat}
    (hT : Tgt g hp w (deep && !τ.flat) τ xs us nbp) (hS : Src P τ.size tx u ys.length news w) (hQ : Held g (deep && !τ.flat) τ ys news nbq) (hd : ∀ x ∈ nbp, x ∉ nbq) (hfit : xs.length + ys.length ≤ 1099511627776) (hbq : ∀ b, Free g hp w b → b ∉ nbq) (id : Nat) :
    ∃ v w' g', (Builtin.append_ #[t, tx] ty #[us, u]).run P w = .ok v w' ∧ Le g g' ∧ HRel B g' ((id, .own (g.top id) τ deep (xs ++ ys)) :: hp) w' ∧ CellRel g' (.own id (g.top id)) v := by
  rcases hT with ⟨rfl, rfl, rfl⟩ | ⟨b, cap, arr, ty', rfl, hf, hbn, hbl, ha, hcap, hsize, hP⟩
  · by_cases h0 : ys = []
    · subst h0
      have hn : news = [] := List.eq_nil_of_length_eq_zero (by simpa using hS.newsLen)
      subst hn
      rw [← hsz] at hS
      obtain ⟨g', l, R', hc⟩ := R.ownNil id τ deep
      exact ⟨_, w, g', run_append_nothing w t tx ty e i ht hi none 0 0 (Nat.le_refl _) u hS, l.le, R', hc⟩
    · have hpos : 0 < ys.length := List.length_pos_iff.2 h0
      exact grow_sound ht hi hz hsz hby hzl R (xs := []) (sCap := 0) (olds := []) (by simp [run_firstCells_none]) (by simp) Held.nil hS hQ hd (by simpa using hpos) (by simpa using hfit) id
  · by_cases hroom : xs.length + ys.length ≤ cap
    · have hnl := hS.newsLen
      have hle : xs.length * τ.size + news.length ≤ arr.size := by
        rw [hnl, ← Nat.add_mul, hsize]
        exact Nat.mul_le_mul_right _ hroom
      obtain ⟨a1, a2, a3⟩ := setCells_eq (P := P) ha hle hS.one
      have hS' := hS
      rw [← hsz] at hS'
      have hr := run_append_room_src (P := P) w t tx ty e i ht hi b 0 xs.length cap u ys.length news hS' hroom (by simpa [hsz] using a1) (by simpa [hsz] using a2)
      rw [hsz, Nat.zero_add, a3] at hr
      have hrow := setRow_heap w b arr (splice arr (xs.length * τ.size) news) ty' (0, 0) ha
      obtain ⟨g', l, R', hcell⟩ := R.own (id := id) (cap := cap) (ty := ty') (τ := τ) (deep := deep) (xs := xs ++ ys) (nb := nbp ++ nbq) hf (turned_setRow ha _) hrow (by
          obtain ⟨hc1, hc2⟩ := hP.cut
          have hA := hc1.append (M := news ++ arr.toList.drop (xs.length * τ.size + news.length)) (hQ.pre (take_pre _ _ (by rw [hnl]))) hc2 hd
          have e : (splice arr (xs.length * τ.size) news).toList = List.take (xs.length * τ.size) arr.toList ++ (news ++ List.drop (xs.length * τ.size + news.length) arr.toList) := by
            simp [splice]
          rw [e]
          exact hA) (by simpa using hroom) (by
          have hl2 : (splice arr (xs.length * τ.size) news).size = arr.size := by
            simp [splice]
            omega
          rw [hl2, hsize])
      refine ⟨_, _, g', hr, l, R', ?_⟩
      rw [List.length_append] at hcell
      exact hcell
    · obtain ⟨hc1, hc2⟩ := hP.cut
      refine grow_sound ht hi hz hsz hby hzl R (sCap := cap) ?_ hc2 hc1 hS hQ hd (by omega) hfit id
      rw [hsz]
      refine run_firstCells_some (P := P) w.drew τ.size xs.length _ xs.length cap _ hc2 (fun j v hj => ?_)
      rw [Addr.add_lit, World.cell?_drew]
      exact cellsAt_of ha (o := 0) _ j v (by simpa using hj)
theorem append_sound {E : Env} {c : Call} (hc : c.callee = .builtin .append) {s s' : St} {sl : Slot} {d : Nat} (h : (stepOp E d (.call c)).run s = some (sl, s')) : Yld E (.call c) s sl s' := by
  unfold stepOp at h
  simp only [hc] at h
  split at h
  · rename_i t tx hts
    obtain ⟨e, t1, h1, h2⟩ := AM.bind_run h
    obtain ⟨τ, t2, h3, h4⟩ := AM.bind_run h2
    obtain ⟨vs, t3, h5, h6⟩ := AM.bind_run h4
    obtain ⟨he, rfl⟩ := run_ofOpt h1
    obtain rfl := ty_sound h3
    obtain ⟨rfl, r1⟩ := evArgs_sound h5
    split at h6
    · rename_i sc xc
      obtain ⟨hb, h7⟩ := run_if h6
      simp only [Bool.and_eq_true] at hb
      obtain ⟨i, z, hi, hz, hsz, hby, _, hzl⟩ := rowOk_sound hb.1
      unfold append at h7
      obtain ⟨⟨dq, ys⟩, t4, h8, h9⟩ := AM.bind_run h7
      obtain ⟨⟨dp, xs⟩, t5, h10, h11⟩ := AM.bind_run h9
      obtain ⟨hfit, h12⟩ := run_chk h11
      obtain ⟨cell, t6, h13, h14⟩ := AM.bind_run h12
      obtain ⟨rfl, rfl⟩ := run_ret h14
      obtain ⟨e1, k1⟩ := source_sound h8 hb.2
      obtain ⟨e2, k2⟩ := target_sound h10
      obtain ⟨gen, hg1, rfl, rfl⟩ := newOwn_run h13
      refine ⟨e2.trans e1, fun o ho B g a w R V => ?_⟩
      obtain ⟨u1, u2, ea, hu1, hu2⟩ := vals_two (r1 V) rfl
      obtain ⟨g1, l1, R1, c1⟩ := k1 B g w R
      obtain ⟨news, nbq, hS, hQ, fq⟩ := c1 u2 hu2
      obtain ⟨g2, l2, R2, c2⟩ := k2 B g1 w R1
      obtain ⟨nbp, hT, fp⟩ := c2 u1 (CellRel.mono l1.le hu1)
      have hQ2 := hQ.mono l2
      have hn : xs.length + ys.length ≤ 1099511627776 := Nat.le_of_ble_eq_true hfit
      have hdis : ∀ x ∈ nbp, x ∉ nbq := by
        intro x hx hy
        unfold Held at hQ
        split at hQ
        · exact fp x hx (hQ.2.2 x hy)
        · rw [hQ.2] at hy; simp at hy
      have hpq : ∀ {g : Gh} {mv : Bool} {zs : List τ.den} {L : List Value} {nb : List Nat} {b : Nat} {hp : List (Nat × Obj)}, Held g mv τ zs L nb → Free g hp w b → b ∉ nb := by
        intro g mv zs L nb b hp hh hf hm
        unfold Held at hh
        split at hh
        · exact hf.pend (hh.2.2 b hm)
        · rw [hh.2] at hm; simp at hm
      have main : ∃ g3 nbp' nbq', Le g2 g3 ∧ HRel B g3 t5.hp w ∧ Tgt g3 t5.hp w ((dp && dq) && !τ.flat) τ xs u1 nbp' ∧ Held g3 ((dp && dq) && !τ.flat) τ ys news nbq' ∧ ∀ x ∈ nbp', x ∉ nbq' := by
        by_cases hm : ((dp && dq) && !τ.flat) = true
        · simp only [Bool.and_eq_true] at hm
          obtain ⟨⟨rfl, rfl⟩, hfl⟩ := hm
          exact ⟨g2, nbp, nbq, Le.refl g2, R2, hT, hQ2, hdis⟩
        · have hmf : ((dp && dq) && !τ.flat) = false := by simpa using hm
          rw [hmf]
          by_cases hq : (dq && !τ.flat) = true
          · have hp0 : (dp && !τ.flat) = false := by
              revert hmf hq
              cases dp <;> cases dq <;> cases τ.flat <;> simp
            rw [hp0] at hT
            obtain ⟨g3, l3, R3, q3, f3⟩ := hQ2.loose R2
            refine ⟨g3, nbp, [], l3, R3, ?_, q3, fun x _ hx => by simp at hx⟩
            rcases hT with ⟨a1, a2, a3⟩ | ⟨b, cap, arr, ty', a1, a2, a3, a4, a5, a6, a7, a8⟩
            · exact .inl ⟨a1, a2, a3⟩
            · exact .inr ⟨b, cap, arr, ty', a1, f3 b (hpq hQ2 a2) a2, a3, a4, a5, a6, a7, a8.false_mono l3⟩
          · have hq0 : (dq && !τ.flat) = false := by simpa using hq
            rw [hq0] at hQ2
            have hnq : nbq = [] := hQ2.2
            subst hnq
            rcases hT with ⟨a1, a2, a3⟩ | ⟨b, cap, arr, ty', a1, a2, a3, a4, a5, a6, a7, a8⟩
            · exact ⟨g2, [], [], Le.refl g2, R2, .inl ⟨a1, a2, rfl⟩, hQ2, fun x hx => by simp at hx⟩
            · obtain ⟨g3, l3, R3, q3, f3⟩ := a8.loose R2
              exact ⟨g3, [], [], l3, R3, .inr ⟨b, cap, arr, ty', a1, f3 b a3 a2, by simp, a4, a5, a6, a7, q3⟩, hQ2.false_mono l3, fun x hx => by simp at hx⟩
      obtain ⟨g3, nbp', nbq', l3, R3, T3, Q3, d3⟩ := main
      obtain ⟨rfl, _⟩ := run_freshGen R3 hg1
      obtain ⟨v, w', g4, k5, l4, R4, k6⟩ := append_run (ty := o.type) (elem_sound he) hi hz hsz hby hzl R3 (deep := dp && dq) T3 hS Q3 d3 hn (fun b hf => hpq Q3 hf) d
      refine ⟨v, w', g4, ?_, ((l1.le.trans l2.le).trans l3).trans l4, R4, k6⟩
      unfold execOp; rw [ho]
      have e3 : c.args.map a.eval = #[u1, u2] := by
        apply Array.ext'
        simpa using ea
      have e4 : c.argTypes = #[t, tx] := by
        apply Array.ext'
        simpa using hts
      simp [resolve, hc, invoke, builtin, e3, e4, k5]
    · cases h6
  · cases h
end Go.Abs
end

section
namespace Go.Abs
def rdW (w : World) : Rd := fun b => match w.heap[b]? with
  | some (.cells arr _ (0, 0)) => some arr.toList
  | _ => none
def OwnEls (imm : Rd) (w : World) (mv : Bool) (τ : Ty) (xs : List τ.den) (L : List Value) (nb : List Nat) : Prop :=
  if mv then LinEls (rdW w) τ xs L nb else Els imm τ xs L 0 ∧ nb = []
def OwnAt (imm : Rd) (w : World) (mv : Bool) (τ : Ty) (xs : List τ.den) (us : List Value) (nb : List Nat) : Prop :=
  (us = [.slice none 0 0] ∧ xs = [] ∧ nb = []) ∨ ∃ b cap arr ty nb', us = [.slice (some ⟨b, 0, none⟩) xs.length cap] ∧ nb = b :: nb' ∧ w.heap[b]? = some (.cells arr ty (0, 0)) ∧
      xs.length ≤ cap ∧ arr.size = cap * τ.size ∧ OwnEls imm w mv τ xs arr.toList nb'
def BldAt (imm : Rd) (w : World) (pl : Nat × Nat) (xs : List Int) (us : List Value) (nb : List Nat) : Prop :=
  (us = [.pointer none, .slice none 0 0] ∧ xs = [] ∧ nb = []) ∨ ∃ u2, us = [.pointer (some ⟨pl.1, pl.2, none⟩), u2] ∧ OwnAt imm w false (.int .u8) xs [u2] nb ∧ ∀ b ∈ nb, ∃ arr, w.heap[b]? = some (.cells arr byteTy (0, 0))
def Pass (imm : Rd) (w : World) : (s : Sp) → s.ty.den → Nat × Nat → List Value → List Nat → Prop
  | .un, _, _, us, nb => us = [] ∧ nb = []
  | .pr a b, x, pl, us, nb => ∃ u1 u2 n1 n2, us = u1 ++ u2 ∧ nb = n1 ++ n2 ∧ Pass imm w a x.1 pl u1 n1 ∧ Pass imm w b x.2 (pl.1, pl.2 + a.size) u2 n2
  | .pub τ, x, _, us, nb => nb = [] ∧ τ.one = true ∧ ∃ u, us = [u] ∧ Rc imm τ x [u]
  | .own τ dp, xs, _, us, nb => OwnAt imm w (dp && !τ.flat) τ xs us nb
  | .lnd τ dp, xs, _, us, nb => OwnAt imm w (dp && !τ.flat) τ xs us nb
  | .ptr wh st s, x, _, us, nb => ∃ b o arr ty nb', us = [.pointer (some ⟨b, o, none⟩)] ∧ nb = b :: nb' ∧ w.heap[b]? = some (.cells arr ty (0, 0)) ∧ ((wh = true → o = 0 ∧ arr.size = s.size ∧ ty = st.1) ∧ (wh = false → okIn st.2 ty o arr.size = true)) ∧ o + s.size ≤ arr.size ∧
      Pass imm w s x (b, o) ((arr.toList.drop o).take s.size) nb'
  | .tak ok, x, _, us, nb => ∃ b o arr ty, us = [.pointer (some ⟨b, o, none⟩)] ∧ w.heap[b]? = some (.cells arr ty (0, 0)) ∧ okIn ok ty o arr.size = true ∧ o + 2 ≤ arr.size ∧ BldAt imm w (b, o) x ((arr.toList.drop o).take 2) nb
  | .bld, x, pl, us, nb => BldAt imm w pl x us nb
  | .err, b, _, us, nb => nb = [] ∧ ∃ u, us = [u] ∧ ((b = true ∧ u = .nilIface) ∨ (b = false ∧ ∃ t v, u = .iface t v))
  | .np, _, _, us, nb => nb = [] ∧ us = [.pointer none]
theorem OwnEls.mono {imm imm' : Rd} (h : ∀ b L, imm b = some L → imm' b = some L) {w : World} {mv : Bool} {τ : Ty} {xs : List τ.den} {L : List Value} {nb : List Nat} (k : OwnEls imm w mv τ xs L nb) : OwnEls imm' w mv τ xs L nb := by
  unfold OwnEls at k ⊢
  split
  · rename_i e; rw [if_pos e] at k; exact k
  · rename_i e; rw [if_neg e] at k; exact ⟨k.1.mono h, k.2⟩
theorem OwnAt.mono {imm imm' : Rd} (h : ∀ b L, imm b = some L → imm' b = some L) {w : World} {mv : Bool} {τ : Ty} {xs : List τ.den} {us : List Value} {nb : List Nat} (k : OwnAt imm w mv τ xs us nb) : OwnAt imm' w mv τ xs us nb := by
  rcases k with k | ⟨b, cap, arr, ty, nb', e, e', ha, hl, hs, k⟩
  · exact .inl k
  · exact .inr ⟨b, cap, arr, ty, nb', e, e', ha, hl, hs, k.mono h⟩
theorem OwnAt.length {imm : Rd} {w : World} {mv : Bool} {τ : Ty} {xs : List τ.den} {us : List Value} {nb : List Nat} (k : OwnAt imm w mv τ xs us nb) : us.length = 1 := by
  rcases k with k | ⟨b, cap, arr, ty, nb', e, _⟩
  · rw [k.1]; rfl
  · rw [e]; rfl
theorem BldAt.mono {imm imm' : Rd} (h : ∀ b L, imm b = some L → imm' b = some L) {w : World} {pl : Nat × Nat} {xs : List Int} {us : List Value} {nb : List Nat} (k : BldAt imm w pl xs us nb) : BldAt imm' w pl xs us nb := by
  rcases k with k | ⟨u2, e, k⟩
  · exact .inl k
  · exact .inr ⟨u2, e, k.1.mono h, k.2⟩
theorem BldAt.length {imm : Rd} {w : World} {pl : Nat × Nat} {xs : List Int} {us : List Value} {nb : List Nat} (k : BldAt imm w pl xs us nb) : us.length = 2 := by
  rcases k with k | ⟨u2, e, _⟩
  · rw [k.1]; rfl
  · rw [e]; rfl
theorem Pass.mono {imm imm' : Rd} (h : ∀ b L, imm b = some L → imm' b = some L) {w : World} : ∀ {s : Sp} {x : s.ty.den} {pl : Nat × Nat} {us : List Value} {nb : List Nat}, Pass imm w s x pl us nb → Pass imm' w s x pl us nb
  | .un, _, _, _, _, k => k
  | .pr _ _, _, _, _, _, ⟨u1, u2, n1, n2, e, e', k1, k2⟩ => ⟨u1, u2, n1, n2, e, e', Pass.mono h k1, Pass.mono h k2⟩
  | .pub _, _, _, _, _, ⟨e, h1, u, e', k⟩ => ⟨e, h1, u, e', k.mono h⟩
  | .own _ _, _, _, _, _, k => OwnAt.mono h k
  | .lnd _ _, _, _, _, _, k => OwnAt.mono h k
  | .ptr _ _ _, _, _, _, _, ⟨b, o, arr, ty, nb', e, e', ha, hw, hl, k⟩ => ⟨b, o, arr, ty, nb', e, e', ha, hw, hl, Pass.mono h k⟩
  | .tak _, _, _, _, _, ⟨b, o, arr, ty, e, ha, hk, hl, k⟩ => ⟨b, o, arr, ty, e, ha, hk, hl, BldAt.mono h k⟩
  | .bld, _, _, _, _, k => BldAt.mono h k
  | .err, _, _, _, _, k => k
  | .np, _, _, _, _, k => k
theorem Pass.length {imm : Rd} {w : World} : ∀ {s : Sp} {x : s.ty.den} {pl : Nat × Nat} {us : List Value} {nb : List Nat}, Pass imm w s x pl us nb → us.length = s.size
  | .un, _, _, _, _, k => by rw [k.1]; rfl
  | .pr _ _, _, _, _, _, ⟨u1, u2, n1, n2, e, e', k1, k2⟩ => by subst e; simp [Sp.size, k1.length, k2.length]
  | .pub _, _, _, _, _, ⟨e, h1, u, e', k⟩ => by subst e'; rfl
  | .own _ _, _, _, _, _, k => OwnAt.length k
  | .lnd _ _, _, _, _, _, k => OwnAt.length k
  | .ptr _ _ _, _, _, _, _, ⟨b, o, arr, ty, nb', e, _⟩ => by rw [e]; rfl
  | .tak _, _, _, _, _, ⟨b, o, arr, ty, e, _⟩ => by rw [e]; rfl
  | .bld, _, _, _, _, k => BldAt.length k
  | .err, _, _, _, _, ⟨_, u, e, _⟩ => by rw [e]; rfl
  | .np, _, _, _, _, k => by rw [k.2]; rfl
theorem HRel.congr {B : Base} {g : Gh} {hp hp' : List (Nat × Obj)} {w : World} (e : ∀ i, look hp' i = look hp i) (R : HRel B g hp w) : HRel B g hp' w :=
  ⟨fun i => by rw [e i]; exact R.top i, fun i o h => R.objs i o (by rw [← e i]; exact h), R.imm, R.nst, R.labsz, R.imm0, R.frame, R.size, R.os, R.tape, R.output, R.fix⟩
theorem look_twice {β : Type} (l : List (Nat × β)) (n : Nat) (a b : β) (i : Nat) : look ((n, a) :: l) i = look ((n, a) :: (n, b) :: l) i := by
  by_cases e : n = i
  · subst e; rw [look_same, look_same]
  · rw [look_other _ _ e, look_other _ _ e, look_other _ _ e]
theorem HRel.relab {B : Base} {g : Gh} {hp : List (Nat × Obj)} {w : World} (R : HRel B g hp w) {id b : Nat} (hl : g.lab b = some (id + 1)) (hn : g.nst b = none)
    (ho : ∀ o, look hp id = some o → (∃ gn, o = .dead gn) ∨ ∃ gn cs, o = .lent gn cs) :
    ∃ g', Lk g g' ∧ g'.outer = g.outer ∧ g'.imm = g.imm ∧ g'.nst = g.nst ∧ (∀ x, x ≠ b → g'.lab x = g.lab x) ∧ g'.lab b = some 0 ∧ HRel B g' hp w := by
  let g' : Gh := { g with lab := fun x => if x = b then some 0 else g.lab x }
  have hle : Le g g' := ⟨fun _ _ h => h, fun _ => Nat.le_refl _, fun _ _ _ => rfl⟩
  refine ⟨g', ⟨hle, fun x hx => ?_, rfl⟩, rfl, rfl, rfl, fun x hx => by simp [g', hx], by simp [g'], ?_⟩
  · have : x ≠ b := fun e => by subst e; rw [hl] at hx; simp at hx
    simp [g', this, hx]
  · refine ⟨R.top, fun i oi hi => ?_, fun x L hx => ?_, fun x L hx => ?_, fun x hx => ?_, R.imm0, fun x hx hl' hi => ?_, R.size, R.os, R.tape, R.output, R.fix⟩
    · by_cases e : i = id
      · subst e
        rcases ho oi hi with ⟨gn, rfl⟩ | ⟨gn, cs, rfl⟩ <;> trivial
      · refine (R.objs i oi hi).tr hle (fun x hx => ?_) rfl (live_of R hi)
        have hxb : x ≠ b := fun e' => by subst e'; rw [hl] at hx; simp at hx; exact e hx.symm
        exact ⟨by simp [g', hxb, hx], rfl, rfl⟩
    · obtain ⟨a1, a2, a3⟩ := R.imm x L hx
      have hxb : x ≠ b := fun e' => by subst e'; rw [hl] at a1; cases a1
      exact ⟨by simp [g', hxb, a1], a2, a3⟩
    · obtain ⟨a1, a2⟩ := R.nst x L hx
      refine ⟨?_, a2⟩
      by_cases hxb : x = b
      · simp [g', hxb]
      · simpa [g', hxb] using a1
    · by_cases hxb : x = b
      · subst hxb; exact R.labsz x (by rw [hl]; simp)
      · exact R.labsz x (by simpa [g', hxb] using hx)
    · obtain ⟨f1, f2, f3⟩ := R.frame x hx hl' hi
      have hxb : x ≠ b := fun e' => by subst e'; rw [hl] at f1; cases f1
      exact ⟨by simp [g', hxb, f1], f2, f3⟩
theorem HRel.nst_rdW {B : Base} {g : Gh} {hp : List (Nat × Obj)} {w : World} (R : HRel B g hp w) {b : Nat} {L : List Value} (h : g.nst b = some L) : rdW w b = some L := by
  obtain ⟨_, arr, ty, a, e⟩ := R.nst b L h
  unfold rdW
  rw [a]
  simpa using e
theorem HRel.lend {B : Base} {g : Gh} {hp : List (Nat × Obj)} {w : World} (R : HRel B g hp w) {id gen : Nat} {τ : Ty} {deep dp : Bool} {xs : List τ.den}
    (h : look hp id = some (.own gen τ deep xs)) (hd : (deep || !dp || τ.flat) = true) : ∃ g' nb, Lk g g' ∧ g'.outer = g.outer ∧ HRel B g' ((id, .dead gen) :: hp) w ∧ nb.Nodup ∧ (∀ b ∈ nb, g'.lab b = some 0 ∧ g.lab b ≠ some 0) ∧
      OwnAt g'.imm w (dp && !τ.flat) τ xs [g.cv id gen] nb := by
  have step1 : ∃ g1, Lk g g1 ∧ g1.outer = g.outer ∧ HRel B g1 ((id, .own gen τ (deep && dp) xs) :: hp) w := by
    by_cases e : (deep && dp) = deep
    · rw [e]
      exact ⟨g, Lk.refl g, rfl, R.put h rfl (R.objs _ _ h)⟩
    · have e' : (deep && dp) = false := by cases deep <;> cases dp <;> simp_all
      rw [e']
      have : ∃ g', Lk g g' ∧ g'.outer = g.outer ∧ HRel B g' ((id, .own gen τ false xs) :: hp) w := by
        have hO := R.objs _ _ h
        rcases hO with ⟨h1, h2⟩ | ⟨b, cap, arr, ty, h1, h2, h3, h4, h5, h6, h7⟩
        · exact ⟨g, Lk.refl g, rfl, R.put h rfl (.inl ⟨h1, h2⟩)⟩
        · by_cases hd : (deep && !τ.flat) = true
          · unfold ownEls at h7
            rw [if_pos hd] at h7
            obtain ⟨nb, k1, k2, k3⟩ := h7
            have hS : ∀ x L, nbS g nb x = some L → g.lab x = some (id + 1) ∧ ∃ arr ty fr, w.heap[x]? = some (.cells arr ty fr) ∧ arr.toList = L := by
              intro x L hx
              unfold nbS at hx
              split at hx
              · rename_i hm
                obtain ⟨_, arr, ty, a, b⟩ := R.nst x L hx
                exact ⟨k3 x hm, arr, ty, (0, 0), a, b⟩
              · cases hx
            have hbn : b ∉ nb := fun hm => k1.nst_some b hm h3
            have hnb : nbS g nb b = none := by simp [nbS, hbn]
            refine ⟨_, R.lk_pubd (fun x L hx => (hS x L hx).1), rfl, R.immute hS h rfl (.inr ⟨b, cap, arr, ty, h1, by simp [Gh.pubd, hnb, h2], by simp [Gh.pubd, hnb, h3], h4, h5, h6, ?_⟩)⟩
            show ownEls _ _ _ false _ _
            unfold ownEls
            simp only [Bool.false_and, Bool.false_eq_true, if_false]
            refine LinEls.els (nb := nb) (k1.mono fun x hx L hL => ?_)
            simp [Gh.pubd, nbS, hx, hL]
          · refine ⟨g, Lk.refl g, rfl, R.put h rfl (.inr ⟨b, cap, arr, ty, h1, h2, h3, h4, h5, h6, ?_⟩)⟩
            unfold ownEls at h7 ⊢
            rw [if_neg hd] at h7
            simpa using h7
      exact this
  obtain ⟨g1, l1, o1, R1⟩ := step1
  have ht := live_of R h
  have hO := R1.objs _ _ (look_same _ _ _)
  have hcv1 : g1.cv id gen = g.cv id gen := l1.le.cv _ _ ht
  have Rd : HRel B g1 ((id, .dead gen) :: hp) w := (R1.put (look_same _ _ _) (o' := .dead gen) rfl trivial).congr fun i => look_twice _ _ _ _ i
  rcases hO with ⟨h1, h2⟩ | ⟨b, cap, arr, ty, h1, h2, h3, h4, h5, h6, h7⟩
  · refine ⟨g1, [], l1, o1, Rd, List.nodup_nil, fun b hb => by simp at hb, .inl ⟨?_, h2, rfl⟩⟩
    rw [← hcv1, h1]
  · rw [hcv1] at h1
    have nest : ∃ g2 nb', Lk g1 g2 ∧ g2.outer = g1.outer ∧ g2.imm = g1.imm ∧ HRel B g2 ((id, .dead gen) :: hp) w ∧ nb'.Nodup ∧ (∀ x ∈ nb', g2.lab x = some 0 ∧ g1.lab x ≠ some 0) ∧ b ∉ nb' ∧ g2.lab b = some (id + 1) ∧ g2.nst b = none ∧
        OwnEls g2.imm w (dp && !τ.flat) τ xs arr.toList nb' := by
      unfold ownEls at h7
      by_cases hc : ((deep && dp) && !τ.flat) = true
      · rw [if_pos hc] at h7
        obtain ⟨nb, k1, k2, k3⟩ := h7
        have hbn : b ∉ nb := fun hm => k1.nst_some b hm h3
        let g' : Gh := { g1 with lab := open Classical in fun x => if x ∈ nb then some 0 else g1.lab x }
        have hle : Le g1 g' := ⟨fun _ _ h => h, fun _ => Nat.le_refl _, fun _ _ _ => rfl⟩
        have hR : HRel B g' ((id, .dead gen) :: hp) w := by
          refine ⟨Rd.top, fun i oi hi => ?_, fun x L hx => ?_, fun x L hx => ?_, fun x hx => ?_, Rd.imm0, fun x hx hl hi => ?_, Rd.size, Rd.os, Rd.tape, Rd.output, Rd.fix⟩
          · by_cases e : id = i
            · subst e; rw [look_same] at hi; injection hi with hi; subst hi; trivial
            · refine (Rd.objs i oi hi).tr hle (fun x hx => ?_) rfl (live_of Rd hi)
              have hxn : x ∉ nb := fun hm => by rw [k3 x hm] at hx; simp at hx; exact e hx
              simp [g', hxn, hx]
          · obtain ⟨a1, a2, a3⟩ := Rd.imm x L hx
            have hxn : x ∉ nb := fun hm => by rw [k3 x hm] at a1; cases a1
            exact ⟨by simp [g', hxn, a1], a2, a3⟩
          · obtain ⟨a1, a2⟩ := Rd.nst x L hx
            refine ⟨?_, a2⟩
            by_cases hxn : x ∈ nb
            · simp [g', hxn]
            · simpa [g', hxn] using a1
          · by_cases hxn : x ∈ nb
            · exact Rd.labsz x (by rw [k3 x hxn]; simp)
            · exact Rd.labsz x (by simpa [g', hxn] using hx)
          · obtain ⟨f1, f2, f3⟩ := Rd.frame x hx hl hi
            have hxn : x ∉ nb := fun hm => by rw [k3 x hm] at f1; cases f1
            exact ⟨by simp [g', hxn, f1], f2, f3⟩
        refine ⟨g', nb, ⟨hle, fun x hx => ?_, rfl⟩, rfl, rfl, hR, k2, fun x hx => ⟨by simp [g', hx], by rw [k3 x hx]; simp⟩, hbn, by simp [g', hbn, h2], h3, ?_⟩
        · have hxn : x ∉ nb := fun hm => by rw [k3 x hm] at hx; simp at hx
          simp [g', hxn, hx]
        · have hc' : (dp && !τ.flat) = true := by
            simp only [Bool.and_eq_true] at hc ⊢
            exact ⟨hc.1.2, hc.2⟩
          unfold OwnEls
          rw [if_pos hc']
          exact k1.mono fun x hx L hL => Rd.nst_rdW hL
      · rw [if_neg hc] at h7
        have hc' : (dp && !τ.flat) = false := by
          revert hc hd
          cases deep <;> cases dp <;> cases τ.flat <;> simp
        refine ⟨g1, [], Lk.refl g1, rfl, rfl, Rd, List.nodup_nil, fun x hx => by simp at hx, by simp, h2, h3, ?_⟩
        unfold OwnEls
        rw [hc']
        simp only [Bool.false_eq_true, if_false]
        exact ⟨h7, trivial⟩
    obtain ⟨g2, nb', l2, o2, i2, R2, n1, n2, n3, n4, n5, n6⟩ := nest
    obtain ⟨g3, l3, o3, i3, s3, f3, z3, R3⟩ := R2.relab n4 n5 (fun o ho => by rw [look_same] at ho; injection ho with ho; exact .inl ⟨gen, ho.symm⟩)
    refine ⟨g3, b :: nb', (l1.trans l2).trans l3, (o3.trans o2).trans o1, R3, List.nodup_cons.2 ⟨n3, n1⟩, fun x hx => ?_, .inr ⟨b, cap, arr, ty, nb', by rw [h1], rfl, h4, h5, h6, by rw [i3]; exact n6⟩⟩
    rcases List.mem_cons.1 hx with rfl | hy
    · refine ⟨z3, fun e => ?_⟩
      have := (l1.kp x e).1
      rw [h2] at this
      simp at this
    · have hxb : x ≠ b := fun e => n3 (e ▸ hy)
      refine ⟨by rw [f3 x hxb]; exact (n2 x hy).1, fun e => (n2 x hy).2 (l1.kp x e).1⟩
def Lent (hp : List (Nat × Obj)) (g : Gh) (w : World) : (s : Sp) → List Cell → List Value → Prop
  | .pr a b, cs, us => Lent hp g w a (cs.take a.size) (us.take a.size) ∧ Lent hp g w b (cs.drop a.size) (us.drop a.size)
  | .lnd _ _, cs, us => (cs = [.nil] ∧ us = [.slice none 0 0]) ∨ ∃ id gen, cs = [.own id gen] ∧ us = [g.cv id gen] ∧ gen < g.top id ∧ oc (g.cv id gen) = true
  | .ptr _ _ s, cs, us => ∃ id gen off bs b o arr ty L, cs = [.ptr id gen off] ∧ us = [.pointer (some ⟨b, o + off, none⟩)] ∧ look hp id = some (.lent gen (ty, bs)) ∧ g.cv id gen = .pointer (some ⟨b, o, none⟩) ∧
      w.heap[b]? = some (.cells arr ty (0, 0)) ∧ arr.toList = (g.outer id).take o ++ L ++ (g.outer id).drop (o + L.length) ∧ o + L.length ≤ (g.outer id).length ∧ (o = 0 ∧ (g.outer id).length = bs.length) ∧
      off + s.size ≤ bs.length ∧ CellsRel g bs L ∧ Lent hp g w s (cut off s.size bs) ((L.drop off).take s.size)
  | _, _, _ => True
theorem Lent.mono {hp hp' : List (Nat × Obj)} {g g' : Gh} {w : World} (l : Le g g') (ho : ∀ id gn cs, look hp id = some (.lent gn cs) → look hp' id = some (.lent gn cs) ∧ g'.outer id = g.outer id) (ht : ∀ id gn cs, look hp id = some (.lent gn cs) → gn < g.top id) :
    ∀ {s : Sp} {cs : List Cell} {us : List Value}, Lent hp g w s cs us → Lent hp' g' w s cs us
  | .un, _, _, _ => trivial
  | .pub _, _, _, _ => trivial
  | .own _ _, _, _, _ => trivial
  | .bld, _, _, _ => trivial
  | .tak _, _, _, _ => trivial
  | .err, _, _, _ => trivial
  | .np, _, _, _ => trivial
  | .lnd _ _, _, _, .inl h => .inl h
  | .lnd _ _, _, _, .inr ⟨id, gen, e, e', h, hoc⟩ => .inr ⟨id, gen, e, by rw [l.cv _ _ h]; exact e', Nat.lt_of_lt_of_le h (l.top _), by rw [l.cv _ _ h]; exact hoc⟩
  | .pr _ _, _, _, ⟨h1, h2⟩ => ⟨Lent.mono l ho ht h1, Lent.mono l ho ht h2⟩
  | .ptr _ _ _, _, _, ⟨id, gen, off, bs, b, o, arr, ty, L, e1, e2, hl, hcv, ha, hL, hle, hid, hoff, hc, hr⟩ => by
    obtain ⟨k1, k2⟩ := ho _ _ _ hl
    exact ⟨id, gen, off, bs, b, o, arr, ty, L, e1, e2, k1, (l.cv _ _ (ht _ _ _ hl)).trans hcv, ha, by rw [k2]; exact hL, by rw [k2]; exact hle, by rw [k2]; exact hid, hoff, hc.mono l, Lent.mono l ho ht hr⟩
def PendOk (g : Gh) (nb : List Nat) : Prop := nb.Nodup ∧ ∀ b ∈ nb, g.lab b = some 0
theorem PendOk.mono {g g' : Gh} (l : Lk g g') {nb : List Nat} (h : PendOk g nb) : PendOk g' nb := ⟨h.1, fun b hb => (l.kp b (h.2 b hb)).1⟩
theorem PendOk.append {g g' : Gh} {n1 n2 : List Nat} (l : Lk g g') (h1 : PendOk g n1) (h2 : PendOk g' n2) (hf : ∀ b ∈ n2, g.lab b ≠ some 0) : PendOk g' (n1 ++ n2) := by
  refine ⟨?_, fun b hb => ?_⟩
  · rw [List.nodup_append]
    exact ⟨h1.1, h2.1, fun x hx y hy e => by subst e; exact hf x hy (h1.2 x hx)⟩
  · rcases List.mem_append.1 hb with hb | hb
    · exact (h1.mono l).2 b hb
    · exact h2.2 b hb
def Keeps (s s' : St) : Prop := s'.env = s.env ∧ ∀ id gn cs, look s.hp id = some (.lent gn cs) → look s'.hp id = some (.lent gn cs)
theorem Keeps.refl (s : St) : Keeps s s := ⟨rfl, fun _ _ _ h => h⟩
theorem Keeps.trans {a b c : St} (h : Keeps a b) (k : Keeps b c) : Keeps a c := ⟨k.1.trans h.1, fun i g cs hl => k.2 i g cs (h.2 i g cs hl)⟩
theorem keeps_put {s : St} {id : Nat} {o : Obj} (h : ∀ gn cs, look s.hp id ≠ some (.lent gn cs)) : Keeps s { s with hp := (id, o) :: s.hp } :=
  ⟨rfl, fun i gn cs hl => by
    by_cases e : id = i
    · subst e; exact absurd hl (h gn cs)
    · show look ((id, o) :: s.hp) i = _
      rw [look_other _ _ e]; exact hl⟩
end Go.Abs
end

section
namespace Go.Abs
theorem clOf_keeps : ∀ (k : Nat) (c : Cell) (s : St) (xs : List Int) (s' : St), (clOf k c).run s = some (xs, s') → Keeps s s' := by
  intro k
  induction k with
  | zero =>
    intro c s xs s' h
    cases c with
    | v τ x => cases τ <;> first | (obtain ⟨rfl, rfl⟩ := run_ret h; exact Keeps.refl _) | exact nomatch h
    | np => obtain ⟨rfl, rfl⟩ := run_ret h; exact Keeps.refl _
    | nil => exact nomatch h
    | own _ _ => exact nomatch h
    | ptr _ _ off => cases off <;> exact nomatch h
    | fn _ _ => exact nomatch h
    | err _ => exact nomatch h
  | succ k ih =>
    intro c s xs s' h
    cases c with
    | v τ x => cases τ <;> first | (obtain ⟨rfl, rfl⟩ := run_ret h; exact Keeps.refl _) | exact nomatch h
    | np => obtain ⟨rfl, rfl⟩ := run_ret h; exact Keeps.refl _
    | nil => exact nomatch h
    | own _ _ => exact nomatch h
    | fn _ _ => exact nomatch h
    | err _ => exact nomatch h
    | ptr id gen off =>
      cases off with
      | succ n => exact nomatch h
      | zero =>
        simp only [clOf, AM.run] at h
        split at h
        · obtain ⟨hb, h'⟩ := run_if h
          obtain ⟨ys, t, h1, h2⟩ := AM.bind_run h'
          have k1 := ih _ _ _ _ h1
          simp only [AM.run] at h2
          split at h2
          · rename_i heq
            simp only [AM.run, Option.some.injEq, Prod.mk.injEq] at h2
            obtain ⟨rfl, rfl⟩ := h2
            exact k1.trans (keeps_put fun gn cs hl => by rw [heq] at hl; cases hl)
          · exact nomatch h2
        · obtain ⟨hb, h'⟩ := run_if h
          obtain ⟨rfl, rfl⟩ := run_ret h'
          exact Keeps.refl _
        · exact nomatch h
theorem datum_keeps {τ : Ty} {c : Cell} {s s' : St} {x : τ.den} (h : (datum τ c).run s = some (x, s')) : Keeps s s' := by
  cases τ with
  | int k =>
    cases c with
    | v τ' x' =>
      cases τ' with
      | int k' =>
        simp only [datum] at h
        split at h
        · obtain ⟨rfl, rfl⟩ := run_ret h; exact Keeps.refl _
        · exact nomatch h
      | _ => exact nomatch h
    | _ => exact nomatch h
  | bool =>
    cases c with
    | v τ' x' => cases τ' <;> first | (obtain ⟨rfl, rfl⟩ := run_ret h; exact Keeps.refl _) | exact nomatch h
    | _ => exact nomatch h
  | str =>
    cases c with
    | v τ' x' => cases τ' <;> first | (obtain ⟨rfl, rfl⟩ := run_ret h; exact Keeps.refl _) | exact nomatch h
    | _ => exact nomatch h
  | un => cases c <;> exact nomatch h
  | pr a b => cases c <;> exact nomatch h
  | cl => exact clOf_keeps 4 c s x s' h
  | sl e =>
    cases c with
    | v τ' x' =>
      cases τ' with
      | sl e' =>
        simp only [datum] at h
        obtain ⟨_, _, rfl⟩ := run_cast h
        exact Keeps.refl _
      | _ => exact nomatch h
    | nil => obtain ⟨rfl, rfl⟩ := run_ret h; exact Keeps.refl _
    | own id gen =>
      simp only [datum, AM.run] at h
      split at h
      · rename_i heq
        obtain ⟨hb, h'⟩ := run_if h
        simp only [AM.run] at h'
        obtain ⟨_, _, rfl⟩ := run_cast h'
        exact keeps_put fun gn cs hl => by rw [heq] at hl; cases hl
      · obtain ⟨hb, h'⟩ := run_if h
        obtain ⟨_, _, rfl⟩ := run_cast h'
        exact Keeps.refl _
      · exact nomatch h
    | ptr _ _ _ => exact nomatch h
    | np => exact nomatch h
    | fn _ _ => exact nomatch h
    | err _ => exact nomatch h
def PlaceOk (g : Gh) (pl : Plc) (rp : Nat × Nat) : Prop := ∀ id gen off, pl = some (id, gen, off) → gen < g.top id ∧ ∃ b o, g.cv id gen = .pointer (some ⟨b, o, none⟩) ∧ rp = (b, o + off)
theorem PlaceOk.mono {g g' : Gh} (l : Le g g') {pl : Plc} {rp : Nat × Nat} (h : PlaceOk g pl rp) : PlaceOk g' pl rp := fun id gen off e => by
  obtain ⟨h1, b, o, h2, h3⟩ := h id gen off e
  exact ⟨Nat.lt_of_lt_of_le h1 (l.top _), b, o, (l.cv _ _ h1).trans h2, h3⟩
theorem PlaceOk.on {g : Gh} {pl : Plc} {rp : Nat × Nat} (h : PlaceOk g pl rp) (n : Nat) : PlaceOk g (pl.on n) (rp.1, rp.2 + n) := fun id gen off e => by
  unfold Plc.on at e
  split at e
  · rename_i id' g' o'
    injection e with e; injection e with e1 e; injection e with e2 e3
    subst e1; subst e2; subst e3
    obtain ⟨h1, b, o, h2, h3⟩ := h _ _ _ rfl
    refine ⟨h1, b, o, h2, ?_⟩
    rw [h3]
    simp [Nat.add_assoc]
  · cases e
theorem PlaceOk.none (g : Gh) (rp : Nat × Nat) : PlaceOk g none rp := fun id gen off e => by cases e
def ReadOk (sp : Sp) (pl : Plc) (cells : List Cell) (s : St) (x : sp.ty.den) (rest : List Cell) (s' : St) : Prop :=
  Keeps s s' ∧ (∃ used, cells = used ++ rest ∧ used.length = sp.size) ∧ ∀ B g w, HRel B g s.hp w → ∃ g', Lk g g' ∧ HRel B g' s'.hp w ∧ ∀ us rp, CellsRel g cells us → PlaceOk g pl rp →
    ∃ us1 us2 nb, us = us1 ++ us2 ∧ Pass g'.imm w sp x rp us1 nb ∧ PendOk g' nb ∧ CellsRel g' rest us2 ∧ (∀ b ∈ nb, g.lab b ≠ some 0) ∧ Lent s'.hp g' w sp (cells.take sp.size) us1
theorem HRel.lendBld {B : Base} {g : Gh} {hp : List (Nat × Obj)} {w : World} (R : HRel B g hp w) {id gen : Nat} {xs : List Int} {a ag bid bg off : Nat} (h : look hp id = some (.bld gen xs a ag bid bg off)) :
    ∃ g' nb, Lk g g' ∧ HRel B g' ((id, .dead gen) :: hp) w ∧ nb.Nodup ∧ (∀ b ∈ nb, g'.lab b = some 0 ∧ g.lab b ≠ some 0) ∧
      ((g.cv a ag = .pointer none ∧ g.cv id gen = .slice none 0 0 ∧ xs = [] ∧ nb = []) ∨ ∃ bb oo, g.cv bid bg = .pointer (some ⟨bb, oo, none⟩) ∧ g.cv a ag = .pointer (some ⟨bb, oo + off, none⟩) ∧ OwnAt g'.imm w false (.int .u8) xs [g.cv id gen] nb ∧ ∀ b ∈ nb, ∃ arr, w.heap[b]? = some (.cells arr byteTy (0, 0))) := by
  obtain ⟨h1, h2, h3, h4⟩ := R.objs _ _ h
  have R1 : HRel B g ((id, .dead gen) :: hp) w := R.put h rfl trivial
  rcases h4 with ⟨k1, k2, k3⟩ | ⟨bb, oo, k1, k2, ⟨k3, k4⟩ | ⟨b, cap, arr, ty, e1, e2, e3, e4, e5, e6, e7, rfl⟩⟩
  · exact ⟨g, [], Lk.refl g, R1, List.nodup_nil, fun b hb => by simp at hb, .inl ⟨k1, k2, k3, rfl⟩⟩
  · exact ⟨g, [], Lk.refl g, R1, List.nodup_nil, fun b hb => by simp at hb, .inr ⟨bb, oo, k1, k2, .inl ⟨by rw [k3], k4, rfl⟩, fun b hb => by simp at hb⟩⟩
  · obtain ⟨g2, l2, o2, i2, s2, f2, z2, R2⟩ := R1.relab e2 e3 (fun o ho => by rw [look_same] at ho; injection ho with ho; exact .inl ⟨gen, ho.symm⟩)
    refine ⟨g2, [b], l2, R2, by simp, fun x hx => ?_, .inr ⟨bb, oo, k1, k2, .inr ⟨b, cap, arr, byteTy, [], by rw [e1], rfl, e4, e5, by simpa [Ty.size] using e6, ?_⟩, fun x hx => ?_⟩⟩
    · simp only [List.mem_singleton] at hx
      subst hx
      exact ⟨z2, by rw [e2]; simp⟩
    · unfold OwnEls
      simp only [Bool.false_eq_true, if_false]
      exact ⟨e7.flat rfl, trivial⟩
    · simp only [List.mem_singleton] at hx
      subst hx
      exact ⟨arr, e4⟩
theorem HRel.lentLt {B : Base} {g : Gh} {hp : List (Nat × Obj)} {w : World} (R : HRel B g hp w) : ∀ id gn cs, look hp id = some (.lent gn cs) → gn < g.top id := fun _ _ _ h => live_of R h
theorem seg_of {α : Type} {arr O L : List α} {o off n : Nat} (h : arr = O.take o ++ L ++ O.drop (o + L.length)) (ho : o + L.length ≤ O.length) (hn : off + n ≤ L.length) : (L.drop off).take n = (arr.drop (o + off)).take n := by
  subst h
  apply List.ext_getElem?
  intro j
  simp only [List.getElem?_take, List.getElem?_drop]
  split
  · rw [List.append_assoc, List.getElem?_append_right (by simp; omega), List.getElem?_append_left (by simp; omega)]
    congr 1
    simp
    omega
  · rfl
theorem ReadOk.close {sp : Sp} {pl : Plc} {cells : List Cell} {s t : St} {x : sp.ty.den} {rest : List Cell} {s' : St} {id gen : Nat} (h : (closeRow id gen).run s = some ((), t)) (k : ReadOk sp pl cells t x rest s') : ReadOk sp pl cells s x rest s' := by
  obtain ⟨e1, e2, e3⟩ := closeRow_sound h
  obtain ⟨k1, k2, k3⟩ := k
  refine ⟨⟨k1.1.trans e1, fun i gn cs hl => k1.2 i gn cs (e2 i gn cs hl)⟩, k2, fun B g w R => ?_⟩
  obtain ⟨g1, l1, R1⟩ := e3 R
  obtain ⟨g2, l2, R2, c⟩ := k3 B g1 w R1
  refine ⟨g2, l1.trans l2, R2, fun us rp hu hpl => ?_⟩
  obtain ⟨u1, u2, nb, a1, a2, a3, a4, a5, a6⟩ := c us rp (hu.mono l1.le) (hpl.mono l1.le)
  exact ⟨u1, u2, nb, a1, a2, a3, a4, fun b hb e => a5 b hb (l1.kp b e).1, a6⟩
theorem rdSp_sound : ∀ (sp : Sp) (pl : Plc) (cells : List Cell) (s : St) (x : sp.ty.den) (rest : List Cell) (s' : St), (rdSp sp pl cells).run s = some ((x, rest), s') → ReadOk sp pl cells s x rest s' := by
  intro sp
  induction sp with
  | un =>
    intro pl cells s x rest s' h
    obtain ⟨h1, rfl⟩ := run_ret h
    injection h1 with h1 h2
    subst h2
    exact ⟨Keeps.refl _, ⟨[], rfl, rfl⟩, fun B g w R => ⟨g, Lk.refl g, R, fun us rp hu _ => ⟨[], us, [], rfl, ⟨rfl, rfl⟩, ⟨List.nodup_nil, fun b hb => by simp at hb⟩, hu, fun b hb => by simp at hb, trivial⟩⟩⟩
  | pr a b iha ihb =>
    intro pl cells s x rest s' h
    obtain ⟨⟨p1, p2⟩, t, h1, h2⟩ := AM.bind_run h
    obtain ⟨⟨q1, q2⟩, t2, h3, h4⟩ := AM.bind_run h2
    obtain ⟨h5, rfl⟩ := run_ret h4
    injection h5 with h5 h6
    subst h5; subst h6
    obtain ⟨ka, ⟨ca, ea, la⟩, sa⟩ := iha _ _ _ _ _ _ h1
    obtain ⟨kb, ⟨cb, eb, lb⟩, sb⟩ := ihb _ _ _ _ _ _ h3
    have eb : p2 = cb ++ rest := eb
    refine ⟨ka.trans kb, ⟨ca ++ cb, by rw [ea, eb, List.append_assoc], by simp [la, lb, Sp.size]⟩, fun B g w R => ?_⟩
    obtain ⟨g1, l1, R1, c1⟩ := sa B g w R
    obtain ⟨g2, l2, R2, c2⟩ := sb B g1 w R1
    refine ⟨g2, l1.trans l2, R2, fun us rp hu hpl => ?_⟩
    obtain ⟨u1, u2, n1, rfl, P1, O1, r1, f1, L1⟩ := c1 us rp hu hpl
    obtain ⟨u3, u4, n2, rfl, P2, O2, r2, f2, L2⟩ := c2 u2 (rp.1, rp.2 + a.size) r1 ((hpl.mono l1.le).on a.size)
    have hl1 := P1.length
    have hl2 := P2.length
    refine ⟨u1 ++ u3, u4, n1 ++ n2, by simp, ⟨u1, u3, n1, n2, rfl, rfl, P1.mono l2.le.imm, P2⟩, PendOk.append l2 O1 O2 f2, r2, fun b hb => ?_, ?_⟩
    · rcases List.mem_append.1 hb with hb | hb
      · exact f1 b hb
      · exact fun e => f2 b hb (l1.kp b e).1
    · have e1 : ((cells.take (a.size + b.size)).take a.size) = cells.take a.size := by rw [List.take_take]; congr 1; omega
      have e2 : ((cells.take (a.size + b.size)).drop a.size) = p2.take b.size := by
        rw [ea, ← la, List.drop_take, List.drop_left]
        congr 1
        omega
      have e3 : (u1 ++ u3).take a.size = u1 := by rw [← hl1]; simp
      have e4 : (u1 ++ u3).drop a.size = u3 := by rw [← hl1]; simp
      show Lent _ _ _ a ((cells.take (a.size + b.size)).take a.size) ((u1 ++ u3).take a.size) ∧ Lent _ _ _ b ((cells.take (a.size + b.size)).drop a.size) ((u1 ++ u3).drop a.size)
      rw [e1, e2, e3, e4]
      exact ⟨L1.mono l2.le (fun id gn cs hl => ⟨kb.2 id gn cs hl, by rw [l2.out]⟩) R1.lentLt, L2⟩
  | pub τ =>
    intro pl cells s x rest s' h
    cases cells with
    | nil => exact nomatch h
    | cons c cs =>
      obtain ⟨y, t, h1, h2⟩ := AM.bind_run h
      obtain ⟨h3, rfl⟩ := run_ret h2
      injection h3 with h3 h4
      subst h3; subst h4
      refine ⟨datum_keeps h1, ⟨[c], rfl, rfl⟩, fun B g w R => ?_⟩
      obtain ⟨g', l, R', hd⟩ := (datum_sound τ c _ _ _ h1).2 B g w R
      refine ⟨g', l, R', fun us rp hu _ => ?_⟩
      obtain ⟨u, r, rfl, hu1, hr⟩ := hu
      obtain ⟨o1, o2⟩ := hd u hu1
      exact ⟨[u], r, [], rfl, ⟨rfl, o1, u, rfl, o2⟩, ⟨List.nodup_nil, fun b hb => by simp at hb⟩, hr.mono l.le, fun b hb => by simp at hb, trivial⟩
  | own τ dp =>
    intro pl cells s x rest s' h
    cases cells with
    | nil => exact nomatch h
    | cons c cs =>
      cases c with
      | nil =>
        obtain ⟨h3, rfl⟩ := run_ret h
        injection h3 with h3 h4
        subst h3; subst h4
        refine ⟨Keeps.refl _, ⟨[.nil], rfl, rfl⟩, fun B g w R => ⟨g, Lk.refl g, R, fun us rp hu _ => ?_⟩⟩
        obtain ⟨u, r, rfl, hu1, hr⟩ := hu
        have hu1 : _ = _ := hu1
        subst hu1
        exact ⟨_, r, [], rfl, .inl ⟨rfl, rfl, rfl⟩, ⟨List.nodup_nil, fun b hb => by simp at hb⟩, hr, fun b hb => by simp at hb, trivial⟩
      | own id gen =>
        obtain ⟨u0, s0, hcl, h⟩ := AM.bind_run h
        refine ReadOk.close hcl ?_
        simp only [AM.run] at h
        split at h
        · rename_i g0 τ' deep xs heq
          obtain ⟨hb, h'⟩ := run_if h
          simp only [Bool.and_eq_true] at hb
          obtain rfl := beq_eq hb.1
          simp only [AM.run] at h'
          obtain ⟨ys, t, h1, h2⟩ := AM.bind_run h'
          obtain ⟨h3, rfl⟩ := run_ret h2
          injection h3 with h3 h4
          subst h3; subst h4
          obtain ⟨ee, hx, rfl⟩ := run_cast h1
          subst ee; subst hx
          refine ⟨keeps_put (fun gn cs hl => by rw [heq] at hl; cases hl), ⟨[.own id g0], rfl, rfl⟩, fun B g w R => ?_⟩
          obtain ⟨g', nb, l, _, R', hn, hp, hP⟩ := R.lend heq hb.2
          refine ⟨g', l, R', fun us rp hu _ => ?_⟩
          obtain ⟨u, r, rfl, hu1, hr⟩ := hu
          exact ⟨[u], r, nb, rfl, by rw [hu1.2.1]; exact hP, ⟨hn, fun b hb => (hp b hb).1⟩, hr.mono l.le, fun b hb => (hp b hb).2, trivial⟩
        · cases h
      | _ => exact nomatch h
  | lnd τ dp =>
    intro pl cells s x rest s' h
    cases cells with
    | nil => exact nomatch h
    | cons c cs =>
      cases c with
      | nil =>
        obtain ⟨h3, rfl⟩ := run_ret h
        injection h3 with h3 h4
        subst h3; subst h4
        refine ⟨Keeps.refl _, ⟨[.nil], rfl, rfl⟩, fun B g w R => ⟨g, Lk.refl g, R, fun us rp hu _ => ?_⟩⟩
        obtain ⟨u, r, rfl, hu1, hr⟩ := hu
        have hu1 : _ = _ := hu1
        subst hu1
        exact ⟨_, r, [], rfl, .inl ⟨rfl, rfl, rfl⟩, ⟨List.nodup_nil, fun b hb => by simp at hb⟩, hr, fun b hb => by simp at hb, .inl ⟨rfl, rfl⟩⟩
      | own id gen =>
        obtain ⟨u0, s0, hcl, h⟩ := AM.bind_run h
        refine ReadOk.close hcl ?_
        simp only [AM.run] at h
        split at h
        · rename_i g0 τ' deep xs heq
          obtain ⟨hb, h'⟩ := run_if h
          simp only [Bool.and_eq_true] at hb
          obtain rfl := beq_eq hb.1
          simp only [AM.run] at h'
          obtain ⟨ys, t, h1, h2⟩ := AM.bind_run h'
          obtain ⟨h3, rfl⟩ := run_ret h2
          injection h3 with h3 h4
          subst h3; subst h4
          obtain ⟨ee, hx, rfl⟩ := run_cast h1
          subst ee; subst hx
          refine ⟨keeps_put (fun gn cs hl => by rw [heq] at hl; cases hl), ⟨[.own id g0], rfl, rfl⟩, fun B g w R => ?_⟩
          obtain ⟨g', nb, l, _, R', hn, hp, hP⟩ := R.lend heq hb.2
          have R2 : HRel B g' ((id, .lent g0 (0, [])) :: s0.hp) w := (R'.put (look_same _ _ _) (o' := .lent g0 (0, [])) rfl trivial).congr fun i => look_twice _ _ _ _ i
          refine ⟨g', l, R2, fun us rp hu _ => ?_⟩
          obtain ⟨u, r, rfl, hu1, hr⟩ := hu
          refine ⟨[u], r, nb, rfl, by rw [hu1.2.1]; exact hP, ⟨hn, fun b hb => (hp b hb).1⟩, hr.mono l.le, fun b hb => (hp b hb).2, .inr ⟨id, g0, rfl, ?_, Nat.lt_of_lt_of_le hu1.1 (l.le.top _), ?_⟩⟩
          · rw [hu1.2.1, show g'.cv id g0 = g.cv id g0 from l.le.cv _ _ hu1.1]
          · rw [show g'.cv id g0 = g.cv id g0 from l.le.cv _ _ hu1.1, ← hu1.2.1]; exact hu1.2.2
        · cases h
      | _ => exact nomatch h
  | ptr wh st sp ih =>
    intro pl cells s x rest s' h
    cases cells with
    | nil => exact nomatch h
    | cons c cs =>
      cases c with
      | ptr id gen off =>
        simp only [rdSp, AM.run] at h
        split at h
        · rename_i g0 bt bs heq
          obtain ⟨hb, h'⟩ := run_if h
          simp only [Bool.and_eq_true] at hb
          obtain rfl := beq_eq hb.1.1
          have hoff := Nat.le_of_ble_eq_true hb.2
          simp only [AM.run] at h'
          obtain ⟨⟨y, rst⟩, t, h1, h2⟩ := AM.bind_run h'
          obtain ⟨h3, rfl⟩ := run_ret h2
          injection h3 with h3 h4
          subst h3; subst h4
          obtain ⟨k1, ⟨used, eu, lu⟩, hs⟩ := ih _ _ _ _ _ _ h1
          have hk0 : Keeps s { s with hp := (id, .lent g0 (bt, bs)) :: s.hp } := keeps_put fun gn cs hl => by rw [heq] at hl; cases hl
          refine ⟨hk0.trans k1, ⟨[.ptr id g0 off], rfl, rfl⟩, fun B g w R => ?_⟩
          have hO := R.objs _ _ heq
          obtain ⟨b, o, arr, ty, L, h1', h2', h3', h4', h5', h6', h7', h8', h9'⟩ := hO
          have h9' : ty = bt := h9'
          subst h9'
          have ht := live_of R heq
          have R1 : HRel B g ((id, .lent g0 (ty, bs)) :: s.hp) w := R.put heq rfl trivial
          obtain ⟨g2, l2, o2, i2, s2, f2, z2, R2⟩ := R1.relab h2'.1 h2'.2 (fun o ho => by rw [look_same] at ho; injection ho with ho; exact .inr ⟨g0, (ty, bs), ho.symm⟩)
          obtain ⟨g3, l3, R3, c3⟩ := hs B g2 w R2
          have l23 := l2.trans l3
          refine ⟨g3, l23, R3, fun us rp hu _ => ?_⟩
          obtain ⟨u, r, rfl, hu1, hr⟩ := hu
          obtain ⟨_, b1, o1, e1, rfl⟩ := hu1
          rw [h1'] at e1
          injection e1 with e1; injection e1 with e1; injection e1 with e1 e2
          subst e1; subst e2
          have hLl : L.length = bs.length := h4'.length
          have hcut : CellsRel g2 (cut off sp.size bs) ((L.drop off).take sp.size) := ((h4'.mono l2.le).drop off).take sp.size
          have hplace : PlaceOk g2 (some (id, g0, off)) (b, o + off) := fun id' gen' off' e => by
            injection e with e; injection e with e1 e; injection e with e2 e3
            subst e1; subst e2; subst e3
            exact ⟨Nat.lt_of_lt_of_le ht (l2.le.top _), b, o, (l2.le.cv _ _ ht).trans h1', rfl⟩
          obtain ⟨u1, u2, n1, eu1, P1, O1, r1, f1, Lt1⟩ := c3 _ (b, o + off) hcut hplace
          have hP1 := P1.length
          have hu2 : u2 = [] := by
            have := congrArg List.length eu1
            simp only [List.length_take, List.length_drop, List.length_append, hP1] at this
            exact List.eq_nil_of_length_eq_zero (by omega)
          subst hu2
          rw [List.append_nil] at eu1
          have hseg : (L.drop off).take sp.size = (arr.toList.drop (o + off)).take sp.size := seg_of h5' h6' (by omega)
          have hbl : g3.lab b = some 0 := (l3.kp b z2).1
          have hal : arr.size = (g.outer id).length := by
            have : arr.toList.length = (g.outer id).length := by
              rw [h5']
              simp only [List.length_append, List.length_take, List.length_drop]
              omega
            simpa using this
          have h70 := h7'
          have h71 : (g.outer id).length = bs.length := h8'
          refine ⟨[_], r, b :: n1, rfl, ⟨b, o + off, arr, ty, n1, rfl, rfl, h3', ⟨fun hw => ?_, fun hw => ?_⟩, ?_, ?_⟩, ⟨List.nodup_cons.2 ⟨fun hm => f1 b hm z2, O1.1⟩, fun x hx => ?_⟩, hr.mono l23.le, fun x hx => ?_, ?_⟩
          · subst hw
            have := hb.1.2.1
            simp only [Bool.not_true, Bool.false_or, Bool.and_eq_true] at this
            have a1 := beq_eq this.1.1
            have a2 := beq_eq this.1.2
            have a3 := beq_eq this.2
            exact ⟨by omega, by omega, a3⟩
          · subst hw
            have := hb.1.2.2
            rw [Bool.false_or] at this
            rw [show o + off = off by omega, show arr.size = bs.length by omega]
            exact this
          · omega
          · rw [← hseg, eu1]; exact P1
          · rcases List.mem_cons.1 hx with rfl | hy
            · exact hbl
            · exact O1.2 x hy
          · rcases List.mem_cons.1 hx with rfl | hy
            · rw [h2'.1]; simp
            · exact fun e => f1 x hy (l2.kp x e).1
          · refine ⟨id, g0, off, bs, b, o, arr, ty, L, rfl, rfl, k1.2 id g0 (ty, bs) (look_same _ _ _), (l23.le.cv _ _ ht).trans h1', h3', by rw [l23.out]; exact h5', by rw [l23.out]; exact h6', by rw [l23.out]; exact ⟨h70, h71⟩, hoff, h4'.mono l23.le, ?_⟩
            have hcl : cut off sp.size bs = (cut off sp.size bs).take sp.size := by unfold cut; rw [List.take_take, Nat.min_self]
            rw [hcl, eu1]
            exact Lt1
        · cases h
      | _ => exact nomatch h
  | tak ok =>
    intro pl cells s x rest s' h
    cases cells with
    | nil => exact nomatch h
    | cons c cs =>
      cases c with
      | ptr id gen off =>
        simp only [rdSp, AM.run] at h
        split at h
        · rename_i g0 bt bs heq
          obtain ⟨hb, h'⟩ := run_if h
          simp only [Bool.and_eq_true] at hb
          obtain rfl := beq_eq hb.1.1
          have hoff := Nat.le_of_ble_eq_true hb.2
          have hok := hb.1.2
          have place : ∀ {B g w}, HRel B g s.hp w → ∀ {u}, CellRel g (.ptr id g0 off) u → ∃ b arr, u = .pointer (some ⟨b, off, none⟩) ∧ g.cv id g0 = .pointer (some ⟨b, 0, none⟩) ∧ w.heap[b]? = some (.cells arr bt (0, 0)) ∧ arr.size = bs.length ∧
              CellsRel g (cut off 2 bs) ((arr.toList.drop off).take 2) := by
            intro B g w R u hu
            obtain ⟨b, o, arr, ty, L, h1', h2', h3', h4', h5', h6', h7', h8', h9'⟩ := R.objs _ _ heq
            have h9' : ty = bt := h9'
            subst h9'
            have h8' : (g.outer id).length = bs.length := h8'
            subst h7'
            have hLl : L.length = bs.length := h4'.length
            have e5 : arr.toList = L := by
              rw [h5', List.take_zero, List.nil_append, List.drop_eq_nil_of_le (by omega), List.append_nil]
            obtain ⟨_, b1, o1, e1, rfl⟩ := hu
            rw [h1'] at e1
            injection e1 with e1; injection e1 with e1; injection e1 with e1 e2
            subst e1; subst e2
            refine ⟨b, arr, by rw [Nat.zero_add], h1', h3', by rw [← Array.length_toList, e5, hLl], ?_⟩
            rw [e5]
            exact (h4'.drop off).take 2
          split at h'
          · rename_i hc
            obtain ⟨h3, rfl⟩ := run_ret h'
            injection h3 with h3 h4
            subst h3; subst h4
            refine ⟨Keeps.refl _, ⟨[_], rfl, rfl⟩, fun B g w R => ⟨g, Lk.refl g, R, fun us rp hu _ => ?_⟩⟩
            obtain ⟨u, r, rfl, hu1, hr⟩ := hu
            obtain ⟨b, arr, rfl, hcv, ha, hs, hcs⟩ := place R hu1
            rw [hc] at hcs
            obtain ⟨u1, r1, e1, k1, u2, r2, e2, k2, e3⟩ := hcs
            have k1 : _ = _ := k1
            have k2 : _ = _ := k2
            have e3 : _ = _ := e3
            subst k1; subst k2; subst e3; subst e2
            refine ⟨[_], r, [], rfl, ⟨b, off, arr, bt, rfl, ha, by rw [hs]; exact hok, by omega, ?_⟩, ⟨List.nodup_nil, fun b hb => by simp at hb⟩, hr, fun b hb => by simp at hb, trivial⟩
            rw [e1]
            exact .inl ⟨rfl, rfl, rfl⟩
          · rename_i a ag id2 gen2 hc
            simp only [AM.run] at h'
            split at h'
            · rename_i g2 xs a' ag' bid bg off2 heq2
              obtain ⟨hb2, h''⟩ := run_if h'
              simp only [Bool.and_eq_true] at hb2
              obtain rfl := beq_eq hb2.1.1.1
              obtain rfl := beq_eq hb2.1.1.2
              obtain rfl := beq_eq hb2.1.2
              obtain rfl := beq_eq hb2.2.1.1
              obtain rfl := beq_eq hb2.2.1.2
              obtain rfl := beq_eq hb2.2.2
              simp only [AM.run, Option.some.injEq, Prod.mk.injEq] at h''
              obtain ⟨⟨rfl, rfl⟩, rfl⟩ := h''
              refine ⟨keeps_put (fun gn cs hl => by rw [heq2] at hl; cases hl), ⟨[_], rfl, rfl⟩, fun B g w R => ?_⟩
              obtain ⟨g', nb, l, R', hn, hp, hP⟩ := R.lendBld heq2
              refine ⟨g', l, R', fun us rp hu hpl => ?_⟩
              obtain ⟨u, r, rfl, hu1, hr⟩ := hu
              obtain ⟨b, arr, rfl, hcv, ha, hs, hcs⟩ := place R hu1
              rw [hc] at hcs
              obtain ⟨u1, r1, e1, k1, u2, r2, e2, k2, e3⟩ := hcs
              have e3 : _ = _ := e3
              subst e3; subst e2
              refine ⟨[_], r, nb, rfl, ⟨b, _, arr, bt, rfl, ha, by rw [hs]; exact hok, by omega, ?_⟩, ⟨hn, fun b hb => (hp b hb).1⟩, hr.mono l.le, fun b hb => (hp b hb).2, trivial⟩
              rw [e1]
              rcases hP with ⟨q1, q2, q3, q4⟩ | ⟨bb, oo, q1, q2, q3⟩
              · exact .inl ⟨by rw [k1.2.1, k2.2.1, q1, q2], q3, q4⟩
              · rw [hcv] at q1
                injection q1 with q1; injection q1 with q1; injection q1 with q1 q4
                subst q1; subst q4
                exact .inr ⟨u2, by rw [k1.2.1, q2, Nat.zero_add], by rw [k2.2.1]; exact q3⟩
            · cases h'
          · cases h'
        · cases h
      | _ => exact nomatch h
  | bld =>
    intro pl cells s x rest s' h
    cases cells with
    | nil => exact nomatch h
    | cons c cs =>
      cases cs with
      | nil => cases c <;> exact nomatch h
      | cons c2 cs =>
        cases c with
        | np =>
          cases c2 with
          | nil =>
            obtain ⟨h3, rfl⟩ := run_ret h
            injection h3 with h3 h4
            subst h3; subst h4
            refine ⟨Keeps.refl _, ⟨[.np, .nil], rfl, rfl⟩, fun B g w R => ⟨g, Lk.refl g, R, fun us rp hu _ => ?_⟩⟩
            obtain ⟨u, r, rfl, hu1, u', r', rfl, hu2, hr⟩ := hu
            have hu1 : _ = _ := hu1
            have hu2 : _ = _ := hu2
            subst hu1; subst hu2
            exact ⟨[_, _], r', [], rfl, .inl ⟨rfl, rfl, rfl⟩, ⟨List.nodup_nil, fun b hb => by simp at hb⟩, hr, fun b hb => by simp at hb, trivial⟩
          | _ => exact nomatch h
        | own a ag =>
          cases c2 with
          | own id gen =>
            simp only [rdSp, AM.run] at h
            split at h
            · rename_i g0 xs a' ag' bid bg off heq
              obtain ⟨hb, h'⟩ := run_if h
              simp only [Bool.and_eq_true] at hb
              obtain rfl := beq_eq hb.1.1.1
              obtain rfl := beq_eq hb.1.1.2
              obtain rfl := beq_eq hb.1.2
              simp only [AM.run, Option.some.injEq, Prod.mk.injEq] at h'
              obtain ⟨⟨rfl, rfl⟩, rfl⟩ := h'
              refine ⟨keeps_put (fun gn cs hl => by rw [heq] at hl; cases hl), ⟨[_, _], rfl, rfl⟩, fun B g w R => ?_⟩
              obtain ⟨g', nb, l, R', hn, hp, hP⟩ := R.lendBld heq
              refine ⟨g', l, R', fun us rp hu hpl => ?_⟩
              obtain ⟨u, r, rfl, hu1, u', r', rfl, hu2, hr⟩ := hu
              refine ⟨[u, u'], r', nb, rfl, ?_, ⟨hn, fun b hb => (hp b hb).1⟩, hr.mono l.le, fun b hb => (hp b hb).2, trivial⟩
              rcases hP with ⟨k1, k2, k3, k4⟩ | ⟨bb, oo, k1, k2, k3⟩
              · exact .inl ⟨by rw [hu1.2.1, hu2.2.1, k1, k2], k3, k4⟩
              · have hpe : pl = some (bid, bg, off) := by
                  have := hb.2
                  unfold Plc.is at this
                  split at this
                  · simp only [Bool.and_eq_true] at this
                    rw [beq_eq this.1.1, beq_eq this.1.2, beq_eq this.2]
                  · cases this
                obtain ⟨_, b', o', q1, q2⟩ := hpl _ _ _ hpe
                rw [k1] at q1
                injection q1 with q1; injection q1 with q1; injection q1 with q1 q3
                subst q1; subst q3
                refine .inr ⟨u', ?_, by rw [hu2.2.1]; exact k3⟩
                rw [hu1.2.1, k2, q2]
            · cases h
          | _ => exact nomatch h
        | _ => exact nomatch h
  | err =>
    intro pl cells s x rest s' h
    cases cells with
    | nil => exact nomatch h
    | cons c cs =>
      cases c with
      | err b =>
        obtain ⟨h3, rfl⟩ := run_ret h
        injection h3 with h3 h4
        subst h3; subst h4
        refine ⟨Keeps.refl _, ⟨[_], rfl, rfl⟩, fun B g w R => ⟨g, Lk.refl g, R, fun us rp hu _ => ?_⟩⟩
        obtain ⟨u, r, rfl, hu1, hr⟩ := hu
        exact ⟨[u], r, [], rfl, ⟨rfl, u, rfl, hu1⟩, ⟨List.nodup_nil, fun b hb => by simp at hb⟩, hr, fun b hb => by simp at hb, trivial⟩
      | _ => exact nomatch h
  | np =>
    intro pl cells s x rest s' h
    cases cells with
    | nil => exact nomatch h
    | cons c cs =>
      cases c with
      | np =>
        obtain ⟨h3, rfl⟩ := run_ret h
        injection h3 with h3 h4
        subst h4
        refine ⟨Keeps.refl _, ⟨[_], rfl, rfl⟩, fun B g w R => ⟨g, Lk.refl g, R, fun us rp hu _ => ?_⟩⟩
        obtain ⟨u, r, rfl, hu1, hr⟩ := hu
        have hu1 : _ = _ := hu1
        subst hu1
        exact ⟨_, r, [], rfl, ⟨rfl, rfl⟩, ⟨List.nodup_nil, fun b hb => by simp at hb⟩, hr, fun b hb => by simp at hb, trivial⟩
      | _ => exact nomatch h
end Go.Abs
end

section
namespace Go.Abs
def Back (imm : Rd) (w0 w : World) : (s : Sp) → s.ty.den → Nat × Nat → List Value → List Value → List Nat → Prop
  | .pr a b, x, pl, old, new, nb => ∃ u1 u2 n1 n2, new = u1 ++ u2 ∧ nb = n1 ++ n2 ∧ Back imm w0 w a x.1 pl (old.take a.size) u1 n1 ∧ Back imm w0 w b x.2 (pl.1, pl.2 + a.size) (old.drop a.size) u2 n2
  | .lnd τ dp, xs, _, old, new, nb => new = old ∧ OwnAt imm w (dp && !τ.flat) τ xs new nb
  | .ptr _ _ s, x, _, old, new, nb => ∃ b o arr0 ty0 arr L nb', old = [.pointer (some ⟨b, o, none⟩)] ∧ new = old ∧ nb = b :: nb' ∧ w0.heap[b]? = some (.cells arr0 ty0 (0, 0)) ∧ w.heap[b]? = some (.cells arr ty0 (0, 0)) ∧
      arr.toList = arr0.toList.take o ++ L ++ arr0.toList.drop (o + L.length) ∧ o + L.length ≤ arr0.toList.length ∧ L.length = s.size ∧ Back imm w0 w s x (b, o) ((arr0.toList.drop o).take s.size) L nb'
  | s, x, pl, _, new, nb => Pass imm w s x pl new nb
theorem Back.length {imm : Rd} {w0 w : World} : ∀ {s : Sp} {x : s.ty.den} {pl : Nat × Nat} {old new : List Value} {nb : List Nat}, Back imm w0 w s x pl old new nb → new.length = s.size
  | .un, _, pl, _, _, _, k => Pass.length (s := .un) (x := ()) (pl := pl) k
  | .pr _ _, _, _, _, _, _, ⟨u1, u2, n1, n2, e, _, k1, k2⟩ => by subst e; simp [Sp.size, Back.length k1, Back.length k2]
  | .pub _, x, pl, _, _, _, k => Pass.length (s := .pub _) (x := x) (pl := pl) k
  | .own _ _, x, pl, _, _, _, k => Pass.length (s := .own _ _) (x := x) (pl := pl) k
  | .lnd _ _, x, _, _, _, _, k => OwnAt.length k.2
  | .bld, x, pl, _, _, _, k => Pass.length (s := .bld) (x := x) (pl := pl) k
  | .tak _, x, pl, _, _, _, k => Pass.length (s := .tak _) (x := x) (pl := pl) k
  | .ptr _ _ _, _, _, _, _, _, ⟨b, o, arr0, ty0, arr, L, nb', e, e', _⟩ => by rw [e', e]; rfl
  | .err, x, pl, _, _, _, k => Pass.length (s := .err) (x := x) (pl := pl) k
  | .np, _, pl, _, _, _, k => Pass.length (s := .np) (x := ()) (pl := pl) k
theorem Back.mono {imm imm' : Rd} (h : ∀ b L, imm b = some L → imm' b = some L) {w0 w : World} : ∀ {s : Sp} {x : s.ty.den} {pl : Nat × Nat} {old new : List Value} {nb : List Nat}, Back imm w0 w s x pl old new nb → Back imm' w0 w s x pl old new nb
  | .un, _, _, _, _, _, k => k
  | .pr _ _, _, _, _, _, _, ⟨u1, u2, n1, n2, e, e', k1, k2⟩ => ⟨u1, u2, n1, n2, e, e', Back.mono h k1, Back.mono h k2⟩
  | .pub _, x, pl, _, _, _, k => Pass.mono h (s := .pub _) (x := x) (pl := pl) k
  | .own _ _, x, pl, _, _, _, k => Pass.mono h (s := .own _ _) (x := x) (pl := pl) k
  | .lnd _ _, _, _, _, _, _, k => ⟨k.1, OwnAt.mono h k.2⟩
  | .bld, x, pl, _, _, _, k => Pass.mono h (s := .bld) (x := x) (pl := pl) k
  | .tak _, x, pl, _, _, _, k => Pass.mono h (s := .tak _) (x := x) (pl := pl) k
  | .ptr _ _ _, _, _, _, _, _, ⟨b, o, arr0, ty0, arr, L, nb', e, e', e2, a0, a1, hL, hl, hs, k⟩ => ⟨b, o, arr0, ty0, arr, L, nb', e, e', e2, a0, a1, hL, hl, hs, Back.mono h k⟩
  | .err, _, _, _, _, _, k => k
  | .np, _, _, _, _, _, k => k
structure After (imm : Rd) (w : World) (nb : List Nat) (imm' : Rd) (w' : World) (nb' : List Nat) : Prop where
  mono : ∀ b L, imm b = some L → imm' b = some L
  cells : ∀ b L, imm' b = some L → ∃ arr ty fr, w'.heap[b]? = some (.cells arr ty fr) ∧ arr.toList = L
  same : ∀ b, b < w.heap.size → b ∉ nb → imm b = none → w'.heap[b]? = w.heap[b]? ∧ imm' b = none
  nodup : nb'.Nodup
  frm : ∀ b ∈ nb', imm' b = none ∧ (b ∈ nb ∨ w.heap.size ≤ b) ∧ b < w'.heap.size
  size : w.heap.size ≤ w'.heap.size
  os : w'.os = w.os
  tape : w'.tape = w.tape
  output : w'.output = w.output
  fix : ∀ b L, imm b = some L → w'.heap[b]? = w.heap[b]?
open Classical in
noncomputable def Gh.after (g : Gh) (nb : List Nat) (imm' : Rd) (nb' : List Nat) : Gh :=
  { g with imm := imm', lab := fun x => if x ∈ nb' then some 0 else if x ∈ nb then none else g.lab x, nst := fun x => if x ∈ nb' ∨ x ∈ nb then none else g.nst x }
theorem HRel.after {B : Base} {g : Gh} {hp : List (Nat × Obj)} {w w' : World} (R : HRel B g hp w) {nb nb' : List Nat} {imm' : Rd} (hp0 : PendOk g nb) (A : After g.imm w nb imm' w' nb') :
    Le g (g.after nb imm' nb') ∧ HRel B (g.after nb imm' nb') hp w' ∧ PendOk (g.after nb imm' nb') nb' ∧ ∀ b ∈ nb', (g.after nb imm' nb').nst b = none := by
  have hle : Le g (g.after nb imm' nb') := ⟨A.mono, fun _ => Nat.le_refl _, fun _ _ _ => rfl⟩
  have old : ∀ b, b < w.heap.size → b ∉ nb → b ∉ nb' := fun b h1 h2 h3 => by
    rcases (A.frm b h3).2.1 with h | h
    · exact h2 h
    · omega
  refine ⟨hle, ⟨R.top, fun i o hi => ?_, fun b L h => ?_, fun b L h => ?_, fun b h => ?_, fun b L h => A.mono _ _ (R.imm0 b L h), fun b hb hl hi => ?_, Nat.le_trans R.size A.size, A.os.trans R.os, A.tape.trans R.tape, A.output.trans R.output, fun b L h => (A.fix b L (R.imm0 b L h)).trans (R.fix b L h)⟩, ⟨A.nodup, fun b hb => by simp [Gh.after, hb]⟩, fun b hb => by simp [Gh.after, hb]⟩
  · refine (R.objs i o hi).tr hle (fun b hb => ?_) rfl (live_of R hi)
    have h1 := R.labsz b (by rw [hb]; simp)
    have h2 : b ∉ nb := fun hm => by rw [hp0.2 b hm] at hb; simp at hb
    have h3 := old b h1 h2
    have h4 : g.imm b = none := by
      cases hi : g.imm b with
      | none => rfl
      | some L => have := (R.imm b L hi).1; rw [hb] at this; cases this
    exact ⟨by simp [Gh.after, h2, h3, hb], by simp [Gh.after, h2, h3], (A.same b h1 h2 h4).1⟩
  · have h' : imm' b = some L := h
    have h3 : b ∉ nb' := fun hm => by rw [(A.frm b hm).1] at h'; cases h'
    refine ⟨?_, ?_, A.cells b L h'⟩
    · by_cases h2 : b ∈ nb
      · simp [Gh.after, h3, h2]
      · simp only [Gh.after, h3, h2, if_false]
        by_cases h1 : b < w.heap.size
        · cases hi : g.imm b with
          | none => rw [(A.same b h1 h2 hi).2] at h'; cases h'
          | some L' => exact (R.imm b L' hi).1
        · cases hl : g.lab b with
          | none => rfl
          | some x => exact absurd (R.labsz b (by rw [hl]; simp)) h1
    · by_cases h2 : b ∈ nb
      · simp [Gh.after, h2]
      · simp only [Gh.after, h3, h2, or_self, if_false]
        by_cases h1 : b < w.heap.size
        · cases hi : g.imm b with
          | none => rw [(A.same b h1 h2 hi).2] at h'; cases h'
          | some L' => exact (R.imm b L' hi).2.1
        · cases hl : g.nst b with
          | none => rfl
          | some x => exact absurd (R.labsz b (R.nst b x hl).1) h1
  · by_cases h23 : b ∈ nb' ∨ b ∈ nb
    · simp [Gh.after, h23] at h
    · have hn : g.nst b = some L := by simpa [Gh.after, h23] using h
      rw [not_or] at h23
      obtain ⟨a1, arr, ty, a2, a3⟩ := R.nst b L hn
      have h4 : g.imm b = none := by
        cases hi : g.imm b with
        | none => rfl
        | some L => exact absurd (R.imm b L hi).1 a1
      exact ⟨by simp [Gh.after, h23.1, h23.2, a1], arr, ty, ((A.same b (R.labsz b a1) h23.2 h4).1).trans a2, a3⟩
  · by_cases h3 : b ∈ nb'
    · exact (A.frm b h3).2.2
    · by_cases h2 : b ∈ nb
      · simp [Gh.after, h3, h2] at h
      · exact Nat.lt_of_lt_of_le (R.labsz b (by simpa [Gh.after, h3, h2] using h)) A.size
  · obtain ⟨f1, f2, f3⟩ := R.frame b hb hl hi
    have h2 : b ∉ nb := fun hm => by rw [hp0.2 b hm] at f1; cases f1
    have h1 : b < w.heap.size := Nat.lt_of_lt_of_le hb R.size
    have h3 := old b h1 h2
    obtain ⟨s1, s2⟩ := A.same b h1 h2 f2
    exact ⟨by simp [Gh.after, h2, h3, f1], s2, s1.trans f3⟩
theorem HRel.unlend {B : Base} {g : Gh} {hp : List (Nat × Obj)} {w : World} (R : HRel B g hp w) {id gen b : Nat} {bs : Nat × List Cell} (hb : g.lab b = some 0) (hn : g.nst b = none) (hl : look hp id = some (.lent gen bs))
    {ob : Obj} (hgen : ob.gen = gen) (hobj : ObjRel { g with lab := open Classical in fun x => if x = b then some (id + 1) else g.lab x } w id ob) :
    HRel B { g with lab := open Classical in fun x => if x = b then some (id + 1) else g.lab x } ((id, ob) :: hp) w := by
  have hle : Le g { g with lab := open Classical in fun x => if x = b then some (id + 1) else g.lab x } := ⟨fun _ _ h => h, fun _ => Nat.le_refl _, fun _ _ _ => rfl⟩
  refine ⟨fun i => ?_, fun i oi hi => ?_, fun x L hx => ?_, fun x L hx => ?_, fun x hx => ?_, R.imm0, fun x hx hl' hi => ?_, R.size, R.os, R.tape, R.output, R.fix⟩
  · show g.top i = _
    rw [R.top i]
    by_cases e : id = i
    · subst e; rw [look_same, hl]; show (Obj.lent gen bs).gen + 1 = ob.gen + 1; rw [hgen]; rfl
    · rw [look_other _ _ e]
  · by_cases e : id = i
    · subst e; rw [look_same] at hi; injection hi with hi; subst hi; exact hobj
    · rw [look_other _ _ e] at hi
      refine (R.objs i oi hi).tr hle (fun x hx => ?_) rfl (live_of R hi)
      have hxb : x ≠ b := fun e' => by subst e'; rw [hb] at hx; simp at hx
      exact ⟨by simp [hxb, hx], rfl, rfl⟩
  · obtain ⟨a1, a2, a3⟩ := R.imm x L hx
    have hxb : x ≠ b := fun e' => by subst e'; rw [hb] at a1; cases a1
    exact ⟨by simp [hxb, a1], a2, a3⟩
  · obtain ⟨a1, a2⟩ := R.nst x L hx
    refine ⟨?_, a2⟩
    by_cases hxb : x = b
    · simp [hxb]
    · simpa [hxb] using a1
  · by_cases hxb : x = b
    · subst hxb; exact R.labsz x (by rw [hb]; simp)
    · exact R.labsz x (by simpa [hxb] using hx)
  · obtain ⟨f1, f2, f3⟩ := R.frame x hx hl' hi
    have hxb : x ≠ b := fun e' => by subst e'; rw [hb] at f1; cases f1
    exact ⟨by simp [hxb, f1], f2, f3⟩
open Classical in
noncomputable def Gh.adopt (g : Gh) (w : World) (id gen b : Nat) (u : Value) (nb : List Nat) : Gh :=
  { g with top := fun i => if i = id then gen + 1 else g.top i
           cv := fun i k => if i = id ∧ k = gen then u else g.cv i k
           lab := fun x => if x = b ∨ x ∈ nb then some (id + 1) else g.lab x
           nst := fun x => if x ∈ nb then rdW w x else g.nst x
           outer := fun i => if i = id then [] else g.outer i }
theorem HRel.adopt {B : Base} {g : Gh} {hp : List (Nat × Obj)} {w : World} (R : HRel B g hp w) {id b cap : Nat} {arr : Array Value} {ty : TypeId} {τ : Ty} {deep : Bool} {xs : List τ.den} {nb : List Nat}
    (hb : g.lab b = some 0) (hn : g.nst b = none) (hbn : b ∉ nb) (ha : w.heap[b]? = some (.cells arr ty (0, 0))) (hl : xs.length ≤ cap) (hs : arr.size = cap * τ.size) (hnd : nb.Nodup) (hnb : ∀ x ∈ nb, g.lab x = some 0 ∧ rdW w x ≠ none)
    (hh : OwnEls g.imm w (deep && !τ.flat) τ xs arr.toList nb) :
    ∃ g', Le g g' ∧ (∀ x, x ≠ b → x ∉ nb → g'.lab x = g.lab x ∧ g'.nst x = g.nst x) ∧ (∀ i, i ≠ id → g'.outer i = g.outer i) ∧ HRel B g' ((id, .own (g.top id) τ deep xs) :: hp) w ∧ CellRel g' (.own id (g.top id)) (.slice (some ⟨b, 0, none⟩) xs.length cap) := by
  have hle : Le g (g.adopt w id (g.top id) b (.slice (some ⟨b, 0, none⟩) xs.length cap) nb) := by
    refine ⟨fun _ _ h => h, fun i => ?_, fun i k hk => ?_⟩
    · show g.top i ≤ if i = id then g.top id + 1 else g.top i
      split
      · rename_i e; subst e; omega
      · exact Nat.le_refl _
    · show (if i = id ∧ k = g.top id then _ else g.cv i k) = g.cv i k
      rw [if_neg]
      rintro ⟨rfl, rfl⟩
      omega
  refine ⟨_, hle, fun x h1 h2 => ⟨by simp [Gh.adopt, h1, h2], by simp [Gh.adopt, h2]⟩, fun i hi => by simp [Gh.adopt, hi], ⟨fun i => ?_, fun i oi hi => ?_, fun x L hx => ?_, fun x L hx => ?_, fun x hx => ?_, R.imm0, fun x hx hl' hi => ?_, R.size, R.os, R.tape, R.output, R.fix⟩,
    ⟨by simp [Gh.adopt], by simp [Gh.adopt], rfl⟩⟩
  · show (if i = id then g.top id + 1 else g.top i) = _
    by_cases e : id = i
    · subst e; rw [look_same, if_pos rfl]; rfl
    · rw [look_other _ _ e, if_neg (fun h => e h.symm)]; exact R.top i
  · by_cases e : id = i
    · subst e; rw [look_same] at hi; injection hi with hi; subst hi
      refine .inr ⟨b, cap, arr, ty, by simp [Gh.adopt], by simp [Gh.adopt], by simp [Gh.adopt, hbn, hn], ha, hl, hs, ?_⟩
      unfold OwnEls at hh
      unfold ownEls
      split
      · rename_i ec
        rw [if_pos ec] at hh
        exact ⟨nb, hh.mono (fun x hx L hL => by simp [Gh.adopt, hx, hL]), hnd, fun x hx => by simp [Gh.adopt, hx]⟩
      · rename_i ec
        rw [if_neg ec] at hh
        exact hh.1
    · rw [look_other _ _ e] at hi
      refine (R.objs i oi hi).tr hle (fun x hx => ?_) (by simp only [Gh.adopt]; rw [if_neg (fun h => e h.symm)]) (live_of R hi)
      have hxb : x ≠ b := fun e' => by subst e'; rw [hb] at hx; simp at hx
      have hxn : x ∉ nb := fun hm => by rw [(hnb x hm).1] at hx; simp at hx
      exact ⟨by simp [Gh.adopt, hxb, hxn, hx], by simp [Gh.adopt, hxn], rfl⟩
  · have hy : g.imm x = some L := hx
    obtain ⟨a1, a2, a3⟩ := R.imm x L hy
    have hxb : x ≠ b := fun e' => by subst e'; rw [hb] at a1; cases a1
    have hxn : x ∉ nb := fun hm => by rw [(hnb x hm).1] at a1; cases a1
    exact ⟨by simp [Gh.adopt, hxb, hxn, a1], by simp [Gh.adopt, hxn, a2], a3⟩
  · by_cases hxn : x ∈ nb
    · have hy : rdW w x = some L := by simpa [Gh.adopt, hxn] using hx
      refine ⟨by simp [Gh.adopt, hxn], ?_⟩
      unfold rdW at hy
      split at hy
      · rename_i arr' ty' hh'
        injection hy with hy
        exact ⟨arr', ty', hh', hy⟩
      · cases hy
    · have hy : g.nst x = some L := by simpa [Gh.adopt, hxn] using hx
      obtain ⟨a1, a2⟩ := R.nst x L hy
      refine ⟨?_, a2⟩
      have hxb : x ≠ b := fun e' => by subst e'; rw [hn] at hy; cases hy
      simp [Gh.adopt, hxb, hxn, a1]
  · by_cases hxb : x = b
    · subst hxb; exact R.labsz x (by rw [hb]; simp)
    · by_cases hxn : x ∈ nb
      · exact R.labsz x (by rw [(hnb x hxn).1]; simp)
      · exact R.labsz x (by simpa [Gh.adopt, hxb, hxn] using hx)
  · obtain ⟨f1, f2, f3⟩ := R.frame x hx hl' hi
    have hxb : x ≠ b := fun e' => by subst e'; rw [hb] at f1; cases f1
    have hxn : x ∉ nb := fun hm => by rw [(hnb x hm).1] at f1; cases f1
    exact ⟨by simp [Gh.adopt, hxb, hxn, f1], f2, f3⟩
open Classical in
noncomputable def Gh.readopt (g : Gh) (w : World) (id b : Nat) (nb : List Nat) : Gh :=
  { g with lab := fun x => if x = b ∨ x ∈ nb then some (id + 1) else g.lab x
           nst := fun x => if x ∈ nb then rdW w x else g.nst x }
theorem HRel.readopt {B : Base} {g : Gh} {hp : List (Nat × Obj)} {w : World} (R : HRel B g hp w) {id gen b cap : Nat} {arr : Array Value} {ty : TypeId} {τ : Ty} {deep : Bool} {xs : List τ.den} {nb : List Nat} {bs : Nat × List Cell}
    (hlk : look hp id = some (.lent gen bs)) (hcv : g.cv id gen = .slice (some ⟨b, 0, none⟩) xs.length cap)
    (hb : g.lab b = some 0) (hn : g.nst b = none) (hbn : b ∉ nb) (ha : w.heap[b]? = some (.cells arr ty (0, 0))) (hl : xs.length ≤ cap) (hs : arr.size = cap * τ.size) (hnd : nb.Nodup) (hnb : ∀ x ∈ nb, g.lab x = some 0 ∧ rdW w x ≠ none)
    (hh : OwnEls g.imm w (deep && !τ.flat) τ xs arr.toList nb) :
    ∃ g', Le g g' ∧ (∀ x, x ≠ b → x ∉ nb → g'.lab x = g.lab x ∧ g'.nst x = g.nst x) ∧ g'.outer = g.outer ∧ HRel B g' ((id, .own gen τ deep xs) :: hp) w := by
  have hle : Le g (g.readopt w id b nb) := ⟨fun _ _ h => h, fun _ => Nat.le_refl _, fun _ _ _ => rfl⟩
  refine ⟨_, hle, fun x h1 h2 => ⟨by simp [Gh.readopt, h1, h2], by simp [Gh.readopt, h2]⟩, rfl, ⟨fun i => ?_, fun i oi hi => ?_, fun x L hx => ?_, fun x L hx => ?_, fun x hx => ?_, R.imm0, fun x hx hl' hi => ?_, R.size, R.os, R.tape, R.output, R.fix⟩⟩
  · show g.top i = _
    rw [R.top i]
    by_cases e : id = i
    · subst e; rw [look_same, hlk]; rfl
    · rw [look_other _ _ e]
  · by_cases e : id = i
    · subst e; rw [look_same] at hi; injection hi with hi; subst hi
      refine .inr ⟨b, cap, arr, ty, hcv, by simp [Gh.readopt], by simp [Gh.readopt, hbn, hn], ha, hl, hs, ?_⟩
      unfold OwnEls at hh
      unfold ownEls
      split
      · rename_i ec
        rw [if_pos ec] at hh
        exact ⟨nb, hh.mono (fun x hx L hL => by simp [Gh.readopt, hx, hL]), hnd, fun x hx => by simp [Gh.readopt, hx]⟩
      · rename_i ec
        rw [if_neg ec] at hh
        exact hh.1
    · rw [look_other _ _ e] at hi
      refine (R.objs i oi hi).tr hle (fun x hx => ?_) rfl (live_of R hi)
      have hxb : x ≠ b := fun e' => by subst e'; rw [hb] at hx; simp at hx
      have hxn : x ∉ nb := fun hm => by rw [(hnb x hm).1] at hx; simp at hx
      exact ⟨by simp [Gh.readopt, hxb, hxn, hx], by simp [Gh.readopt, hxn], rfl⟩
  · have hy : g.imm x = some L := hx
    obtain ⟨a1, a2, a3⟩ := R.imm x L hy
    have hxb : x ≠ b := fun e' => by subst e'; rw [hb] at a1; cases a1
    have hxn : x ∉ nb := fun hm => by rw [(hnb x hm).1] at a1; cases a1
    exact ⟨by simp [Gh.readopt, hxb, hxn, a1], by simp [Gh.readopt, hxn, a2], a3⟩
  · by_cases hxn : x ∈ nb
    · have hy : rdW w x = some L := by simpa [Gh.readopt, hxn] using hx
      refine ⟨by simp [Gh.readopt, hxn], ?_⟩
      unfold rdW at hy
      split at hy
      · rename_i arr' ty' hh'
        injection hy with hy
        exact ⟨arr', ty', hh', hy⟩
      · cases hy
    · have hy : g.nst x = some L := by simpa [Gh.readopt, hxn] using hx
      obtain ⟨a1, a2⟩ := R.nst x L hy
      refine ⟨?_, a2⟩
      have hxb : x ≠ b := fun e' => by subst e'; rw [hn] at hy; cases hy
      simp [Gh.readopt, hxb, hxn, a1]
  · by_cases hxb : x = b
    · subst hxb; exact R.labsz x (by rw [hb]; simp)
    · by_cases hxn : x ∈ nb
      · exact R.labsz x (by rw [(hnb x hxn).1]; simp)
      · exact R.labsz x (by simpa [Gh.readopt, hxb, hxn] using hx)
  · obtain ⟨f1, f2, f3⟩ := R.frame x hx hl' hi
    have hxb : x ≠ b := fun e' => by subst e'; rw [hb] at f1; cases f1
    have hxn : x ∉ nb := fun hm => by rw [(hnb x hm).1] at f1; cases f1
    exact ⟨by simp [Gh.readopt, hxb, hxn, f1], f2, f3⟩
open Classical in
noncomputable def Gh.adoptB (g : Gh) (id gen : Nat) (u : Value) (bo : Option Nat) : Gh :=
  { g with top := fun i => if i = id then gen + 1 else g.top i
           cv := fun i k => if i = id ∧ k = gen then u else g.cv i k
           lab := fun x => if bo = some x then some (id + 1) else g.lab x }
theorem HRel.adoptBld {B : Base} {g : Gh} {hp : List (Nat × Obj)} {w : World} (R : HRel B g hp w) {id a ag bid bg off : Nat} {xs : List Int} {u2 : Value} {nb : List Nat} {bb oo : Nat}
    (hag : ag < g.top a) (hbg : bg < g.top bid) (hne : a ≠ id) (hO : PendOk g nb) (hn : ∀ b ∈ nb, g.nst b = none) (hcv : g.cv bid bg = .pointer (some ⟨bb, oo, none⟩)) (hb : BldAt g.imm w (bb, oo + off) xs [g.cv a ag, u2] nb) :
    ∃ g', Le g g' ∧ (∀ x, x ∉ nb → g'.lab x = g.lab x ∧ g'.nst x = g.nst x) ∧ g'.outer = g.outer ∧ HRel B g' ((id, .bld (g.top id) xs a ag bid bg off) :: hp) w ∧ CellRel g' (.own id (g.top id)) u2 := by
  have hoa : oc (g.cv a ag) = true := by
    rcases hb with ⟨e, _⟩ | ⟨v, e, _⟩
    · injection e with e; rw [e]; rfl
    · injection e with e; rw [e]; rfl
  have key : ∀ bo : Option Nat, (∀ x, bo = some x → x ∈ nb) → (∀ x ∈ nb, bo = some x) → oc u2 = true →
      ((g.cv a ag = .pointer none ∧ u2 = .slice none 0 0 ∧ xs = []) ∨ (g.cv a ag = .pointer (some ⟨bb, oo + off, none⟩) ∧ ((u2 = .slice none 0 0 ∧ xs = []) ∨
        ∃ b cap arr ty, bo = some b ∧ u2 = .slice (some ⟨b, 0, none⟩) xs.length cap ∧ w.heap[b]? = some (.cells arr ty (0, 0)) ∧ xs.length ≤ cap ∧ arr.size = cap ∧ Els g.imm (.int .u8) xs arr.toList 0 ∧ ty = byteTy))) →
      ∃ g', Le g g' ∧ (∀ x, x ∉ nb → g'.lab x = g.lab x ∧ g'.nst x = g.nst x) ∧ g'.outer = g.outer ∧ HRel B g' ((id, .bld (g.top id) xs a ag bid bg off) :: hp) w ∧ CellRel g' (.own id (g.top id)) u2 := by
    intro bo hbo hbo' hoc hd
    have hle : Le g (g.adoptB id (g.top id) u2 bo) := by
      refine ⟨fun _ _ h => h, fun i => ?_, fun i k hk => ?_⟩
      · show g.top i ≤ if i = id then g.top id + 1 else g.top i
        split
        · rename_i e; subst e; omega
        · exact Nat.le_refl _
      · show (if i = id ∧ k = g.top id then _ else g.cv i k) = g.cv i k
        rw [if_neg]
        rintro ⟨rfl, rfl⟩
        omega
    have hlab : ∀ x, bo = some x → g.lab x = some 0 := fun x hx => hO.2 x (hbo x hx)
    have hcvn : (g.adoptB id (g.top id) u2 bo).cv id (g.top id) = u2 := by simp [Gh.adoptB]
    refine ⟨_, hle, fun x hx => ⟨?_, rfl⟩, rfl, ⟨fun i => ?_, fun i oi hi => ?_, fun x L hx => ?_, fun x L hx => ?_, fun x hx => ?_, R.imm0, fun x hx hl' hi => ?_, R.size, R.os, R.tape, R.output, R.fix⟩, ⟨by simp [Gh.adoptB], hcvn.symm, hoc⟩⟩
    · have : bo ≠ some x := fun e => hx (hbo x e)
      simp [Gh.adoptB, this]
    · show (if i = id then g.top id + 1 else g.top i) = _
      by_cases e : id = i
      · subst e; rw [look_same, if_pos rfl]; rfl
      · rw [look_other _ _ e, if_neg (fun h => e h.symm)]; exact R.top i
    · by_cases e : id = i
      · subst e; rw [look_same] at hi; injection hi with hi; subst hi
        refine ⟨Nat.lt_of_lt_of_le hag (hle.top _), Nat.lt_of_lt_of_le hbg (hle.top _), by rw [hle.cv _ _ hag]; exact hoa, ?_⟩
        rw [hle.cv _ _ hag, hle.cv _ _ hbg, hcvn]
        rcases hd with hd | ⟨d1, d2⟩
        · exact .inl hd
        · refine .inr ⟨bb, oo, hcv, d1, ?_⟩
          rcases d2 with d2 | ⟨b, cap, arr, ty, e0, e1, e2, e3, e4, e5⟩
          · exact .inl d2
          · exact .inr ⟨b, cap, arr, ty, e1, by simp [Gh.adoptB, e0], hn b (hbo b e0), e2, e3, e4, e5⟩
      · rw [look_other _ _ e] at hi
        refine (R.objs i oi hi).tr hle (fun x hx => ?_) rfl (live_of R hi)
        have : bo ≠ some x := fun e' => by rw [hlab x e'] at hx; simp at hx
        exact ⟨by simp [Gh.adoptB, this, hx], rfl, rfl⟩
    · have hy : g.imm x = some L := hx
      obtain ⟨a1, a2, a3⟩ := R.imm x L hy
      have : bo ≠ some x := fun e' => by rw [hlab x e'] at a1; cases a1
      exact ⟨by simp [Gh.adoptB, this, a1], a2, a3⟩
    · have hy : g.nst x = some L := hx
      obtain ⟨a1, a2⟩ := R.nst x L hy
      refine ⟨?_, a2⟩
      by_cases e : bo = some x
      · simp [Gh.adoptB, e]
      · simp [Gh.adoptB, e, a1]
    · by_cases e : bo = some x
      · exact R.labsz x (by rw [hlab x e]; simp)
      · exact R.labsz x (by simpa [Gh.adoptB, e] using hx)
    · obtain ⟨f1, f2, f3⟩ := R.frame x hx hl' hi
      have : bo ≠ some x := fun e' => by rw [hlab x e'] at f1; cases f1
      exact ⟨by simp [Gh.adoptB, this, f1], f2, f3⟩
  rcases hb with ⟨e, hx, rfl⟩ | ⟨v, e, hr, hty⟩
  · injection e with e1 e2; injection e2 with e2 _
    refine key none (fun x h => by cases h) (fun x h => by simp at h) (by rw [e2]; rfl) (.inl ⟨e1, e2, hx⟩)
  · injection e with e1 e2; injection e2 with e2 _
    subst e2
    rcases hr with ⟨k1, k2, rfl⟩ | ⟨b, cap, arr, ty, nb', k1, rfl, ha, hl, hs, hE⟩
    · injection k1 with k1 _
      exact key none (fun x h => by cases h) (fun x h => by simp at h) (by rw [k1]; rfl) (.inr ⟨e1, .inl ⟨k1, k2⟩⟩)
    · injection k1 with k1 _
      have hnb : nb' = [] := by
        unfold OwnEls at hE
        simpa using hE.2
      subst hnb
      unfold OwnEls at hE
      have hbt : ty = byteTy := by
        obtain ⟨arr', h'⟩ := hty b (by simp)
        rw [ha] at h'
        injection h' with h'; injection h' with _ h'
      exact key (some b) (fun x h => by injection h with h; subst h; simp) (fun x h => by simp only [List.mem_singleton] at h; rw [h]) (by rw [k1]; rfl) (.inr ⟨e1, .inr ⟨b, cap, arr, ty, rfl, k1, ha, hl, by simpa [Ty.size] using hs, by simpa using hE.1, hbt⟩⟩)
end Go.Abs
end

section
namespace Go.Abs
theorem Lent.mono' {hp hp' : List (Nat × Obj)} {g g' : Gh} {imm : Rd} {w0 w : World} (l : Le g g') (ht : ∀ id gn cs, look hp id = some (.lent gn cs) → gn < g.top id) :
    ∀ {s : Sp} {x : s.ty.den} {pl : Nat × Nat} {cs : List Cell} {us news : List Value} {nb : List Nat}, (∀ i gn cs b o, look hp i = some (.lent gn cs) → g.cv i gn = .pointer (some ⟨b, o, none⟩) → b ∈ nb → look hp' i = some (.lent gn cs) ∧ g'.outer i = g.outer i) →
      Back imm w0 w s x pl us news nb → Lent hp g w0 s cs us → Lent hp' g' w0 s cs us
  | .un, _, _, _, _, _, _, _, _, _ => trivial
  | .pub _, _, _, _, _, _, _, _, _, _ => trivial
  | .own _ _, _, _, _, _, _, _, _, _, _ => trivial
  | .bld, _, _, _, _, _, _, _, _, _ => trivial
  | .tak _, _, _, _, _, _, _, _, _, _ => trivial
  | .err, _, _, _, _, _, _, _, _, _ => trivial
  | .np, _, _, _, _, _, _, _, _, _ => trivial
  | .lnd _ _, _, _, _, _, _, _, _, _, .inl h => .inl h
  | .lnd _ _, _, _, _, _, _, _, _, _, .inr ⟨id, gen, e, e', h, hoc⟩ => .inr ⟨id, gen, e, by rw [l.cv _ _ h]; exact e', Nat.lt_of_lt_of_le h (l.top _), by rw [l.cv _ _ h]; exact hoc⟩
  | .pr _ _, _, _, _, _, _, _, ho, ⟨u1, u2, n1, n2, e, e', k1, k2⟩, ⟨h1, h2⟩ => by
    subst e'
    exact ⟨Lent.mono' l ht (fun i gn cs b o a1 a2 a3 => ho i gn cs b o a1 a2 (List.mem_append_left _ a3)) k1 h1, Lent.mono' l ht (fun i gn cs b o a1 a2 a3 => ho i gn cs b o a1 a2 (List.mem_append_right _ a3)) k2 h2⟩
  | .ptr _ _ _, _, _, _, _, _, _, ho, ⟨b1, o1, arr0, ty0, arr', L', nb', e, e', e2, a0, a1, hL', hl', hs, k⟩, ⟨id, gen, off, bs, b, o, arr, ty, L, e1, e3, hl, hcv, ha, hL, hle, hid, hoff, hc, hr⟩ => by
    subst e2
    rw [e] at e3
    injection e3 with e3; injection e3 with e3; injection e3 with e3; injection e3 with e3 e4
    subst e3; subst e4
    obtain ⟨k1, k2⟩ := ho _ _ _ _ _ hl hcv (List.mem_cons_self ..)
    rw [ha] at a0
    injection a0 with a0; injection a0 with a0
    subst a0
    have hseg := seg_of (n := _) hL hle (show off + _ ≤ L.length by rw [hc.length]; exact hoff)
    rw [← hseg] at k
    exact ⟨id, gen, off, bs, b1, o, arr, ty, L, e1, e, k1, (l.cv _ _ (ht _ _ _ hl)).trans hcv, ha, by rw [k2]; exact hL, by rw [k2]; exact hle, by rw [k2]; exact hid, hoff, hc.mono l,
      Lent.mono' l ht (fun i gn cs b o a1 a2 a3 => ho i gn cs b o a1 a2 (List.mem_cons_of_mem _ a3)) k hr⟩
theorem splice_two {α : Type} {O L N arr0 arr : List α} {o off : Nat} (h0 : arr0 = O.take o ++ L ++ O.drop (o + L.length)) (ho : o + L.length ≤ O.length) (hn : off + N.length ≤ L.length)
    (h1 : arr = arr0.take (o + off) ++ N ++ arr0.drop (o + off + N.length)) :
    arr = O.take o ++ (L.take off ++ N ++ L.drop (off + N.length)) ++ O.drop (o + (L.take off ++ N ++ L.drop (off + N.length)).length) := by
  have hlen : (L.take off ++ N ++ L.drop (off + N.length)).length = L.length := by simp; omega
  have hot : (O.take o).length = o := by simp; omega
  rw [hlen]
  subst h1; subst h0
  have e1 : (O.take o ++ L ++ O.drop (o + L.length)).take (o + off) = O.take o ++ L.take off := by
    rw [List.append_assoc, List.take_append, hot, List.take_of_length_le (by omega), List.take_append]
    rw [show o + off - o - L.length = 0 by omega, List.take_zero, List.append_nil]
    congr 2
    omega
  have e2 : (O.take o ++ L ++ O.drop (o + L.length)).drop (o + off + N.length) = L.drop (off + N.length) ++ O.drop (o + L.length) := by
    rw [List.append_assoc, List.drop_append, hot, List.drop_of_length_le (by omega), List.nil_append, List.drop_append]
    rw [show o + off + N.length - o = off + N.length by omega, show off + N.length - L.length = 0 by omega, List.drop_zero]
  rw [e1, e2]
  simp [List.append_assoc]
def PutOk (sp : Sp) (x : sp.ty.den) (pl : Plc) (old : List Cell) (s : St) (cells rest : List Cell) (s' : St) : Prop :=
  s'.env = s.env ∧ rest = old.drop sp.size ∧ ∀ B g w0 w, HRel B g s.hp w → ∀ rp olds news nb, PlaceOk g pl rp → Lent s.hp g w0 sp (old.take sp.size) olds → Back g.imm w0 w sp x rp olds news nb → PendOk g nb → (∀ b ∈ nb, g.nst b = none) →
    ∃ g', Le g g' ∧ (∀ x, x ∉ nb → g'.lab x = g.lab x ∧ g'.nst x = g.nst x) ∧ HRel B g' s'.hp w ∧ CellsRel g' cells news ∧
      ∀ i gn cs b o, look s.hp i = some (.lent gn cs) → g.cv i gn = .pointer (some ⟨b, o, none⟩) → b ∉ nb → look s'.hp i = some (.lent gn cs) ∧ g'.outer i = g.outer i
theorem putSp_sound : ∀ (sp : Sp) (x : sp.ty.den) (pl : Plc) (old : List Cell) (n : Nat) (s : St) (cells rest : List Cell) (n' : Nat) (s' : St), (putSp sp x pl old n).run s = some ((cells, rest, n'), s') → PutOk sp x pl old s cells rest s' := by
  intro sp
  induction sp with
  | un =>
    intro x pl old n s cells rest n' s' h
    obtain ⟨h1, rfl⟩ := run_ret h
    injection h1 with h1 h2; injection h2 with h2 h3
    subst h1; subst h2
    exact ⟨rfl, rfl, fun B g w0 w R rp olds news nb hpl hL hB hp hn => ⟨g, Le.refl g, fun _ _ => ⟨rfl, rfl⟩, R, hB.1, fun i gn cs b o h _ _ => ⟨h, rfl⟩⟩⟩
  | pub τ =>
    intro x pl old n s cells rest n' s' h
    obtain ⟨h1, rfl⟩ := run_ret h
    injection h1 with h1 h2; injection h2 with h2 h3
    subst h1; subst h2
    refine ⟨rfl, by simp [Sp.size], fun B g w0 w R rp olds news nb hpl hL hB hp hn => ⟨g, Le.refl g, fun _ _ => ⟨rfl, rfl⟩, R, ?_, fun i gn cs b o h _ _ => ⟨h, rfl⟩⟩⟩
    obtain ⟨_, h1, u, rfl, hr⟩ := hB
    exact ⟨u, [], rfl, ⟨h1, hr⟩, rfl⟩
  | err =>
    intro x pl old n s cells rest n' s' h
    obtain ⟨h1, rfl⟩ := run_ret h
    injection h1 with h1 h2; injection h2 with h2 h3
    subst h1; subst h2
    refine ⟨rfl, by simp [Sp.size], fun B g w0 w R rp olds news nb hpl hL hB hp hn => ⟨g, Le.refl g, fun _ _ => ⟨rfl, rfl⟩, R, ?_, fun i gn cs b o h _ _ => ⟨h, rfl⟩⟩⟩
    obtain ⟨_, u, rfl, hr⟩ := hB
    exact ⟨u, [], rfl, hr, rfl⟩
  | np =>
    intro x pl old n s cells rest n' s' h
    obtain ⟨h1, rfl⟩ := run_ret h
    injection h1 with h1 h2; injection h2 with h2 h3
    subst h1; subst h2
    refine ⟨rfl, by simp [Sp.size], fun B g w0 w R rp olds news nb hpl hL hB hp hn => ⟨g, Le.refl g, fun _ _ => ⟨rfl, rfl⟩, R, ?_, fun i gn cs b o h _ _ => ⟨h, rfl⟩⟩⟩
    obtain ⟨_, rfl⟩ := hB
    exact ⟨_, [], rfl, rfl, rfl⟩
  | own τ dp =>
    intro x pl old n s cells rest n' s' h
    obtain ⟨c, t, h1, h2⟩ := AM.bind_run h
    obtain ⟨h3, rfl⟩ := run_ret h2
    injection h3 with h3 h4; injection h4 with h4 h5
    subst h3; subst h4
    obtain ⟨gen, hg, rfl, rfl⟩ := newOwn_run h1
    have hnl := (freshGen_st hg).2
    have hlk : ∀ i gn cs, look s.hp i = some (.lent gn cs) → i ≠ n := fun i gn cs hi e => by subst e; exact hnl gn cs hi
    refine ⟨rfl, by simp [Sp.size], fun B g w0 w R rp olds news nb hpl hL hB hp hn => ?_⟩
    obtain ⟨rfl, _⟩ := run_freshGen R hg
    rcases hB with ⟨rfl, hx, rfl⟩ | ⟨b, cap, arr, ty, nb', rfl, rfl, ha, hl, hs, hE⟩
    · have hx : x = [] := hx
      subst hx
      obtain ⟨l, R'⟩ := R.named (id := n) (u := .slice none 0 0) (o' := .own (g.top n) τ (dp || τ.flat) []) rfl (.inl ⟨by simp [Gh.name], rfl⟩)
      refine ⟨_, l.le, fun x _ => ⟨rfl, rfl⟩, R', ⟨_, [], rfl, ⟨by simp [Gh.name], by simp [Gh.name], rfl⟩, rfl⟩, fun i gn cs b o hi _ _ => ⟨?_, by rw [l.out]⟩⟩
      · show look ((n, _) :: s.hp) i = _
        rw [look_other _ _ (Ne.symm (hlk i gn cs hi))]; exact hi
    · have hb0 := hp.2 b (List.mem_cons_self ..)
      have hnd := List.nodup_cons.1 hp.1
      have hflag : ((dp || τ.flat) && !τ.flat) = (dp && !τ.flat) := by cases dp <;> cases τ.flat <;> rfl
      obtain ⟨g', l, hk, ho, R', hc⟩ := R.adopt (id := n) (deep := dp || τ.flat) (τ := τ) (xs := x) (nb := nb') hb0 (hn b (List.mem_cons_self ..)) hnd.1 ha hl hs hnd.2 (fun y hy => ⟨hp.2 y (List.mem_cons_of_mem _ hy), by
        unfold OwnEls at hE
        split at hE
        · exact hE.nst_some y hy
        · rw [hE.2] at hy; simp at hy⟩) (by rw [hflag]; exact hE)
      refine ⟨g', l, fun y hy => ?_, R', ⟨_, [], rfl, hc, rfl⟩, fun i gn cs b o hi _ _ => ⟨?_, ho i (hlk i gn cs hi)⟩⟩
      · rw [List.mem_cons, not_or] at hy
        exact hk y hy.1 hy.2
      · show look ((n, _) :: s.hp) i = _
        rw [look_other _ _ (Ne.symm (hlk i gn cs hi))]; exact hi
  | lnd τ dp =>
    intro x pl old n s cells rest n' s' h
    cases old with
    | nil => exact nomatch h
    | cons c cs =>
      cases c with
      | nil =>
        obtain ⟨h1, rfl⟩ := run_ret h
        injection h1 with h1 h2; injection h2 with h2 h3
        subst h1; subst h2
        refine ⟨rfl, by simp [Sp.size], fun B g w0 w R rp olds news nb hpl hL hB hp hn => ?_⟩
        obtain ⟨rfl, hO⟩ := hB
        rcases hL with ⟨_, rfl⟩ | ⟨id, gen, e, _⟩
        · have hnb : nb = [] := by
            rcases hO with ⟨_, _, h⟩ | ⟨b, cap, arr, ty, nb', e, _⟩
            · exact h
            · cases e
          subst hnb
          exact ⟨g, Le.refl g, fun _ _ => ⟨rfl, rfl⟩, R, ⟨_, [], rfl, rfl, rfl⟩, fun i gn cs b o h _ _ => ⟨h, rfl⟩⟩
        · simp [Sp.size] at e
      | own id gen =>
        simp only [putSp, AM.run] at h
        split at h
        · rename_i g0 bs heq
          obtain ⟨hb, h'⟩ := run_if h
          obtain rfl := beq_eq hb
          simp only [AM.run, Option.some.injEq, Prod.mk.injEq] at h'
          obtain ⟨⟨rfl, rfl, rfl⟩, rfl⟩ := h'
          refine ⟨rfl, by simp [Sp.size], fun B g w0 w R rp olds news nb hpl hL hB hp hn => ?_⟩
          obtain ⟨rfl, hO⟩ := hB
          rcases hL with ⟨e, _⟩ | ⟨id', gen', e, rfl, ht, hoc⟩
          · simp [Sp.size] at e
          · have e : [Cell.own id g0] = [Cell.own id' gen'] := by simpa [Sp.size] using e
            injection e with e _; injection e with e1 e2
            subst e1; subst e2
            have hflag : ((dp || τ.flat) && !τ.flat) = (dp && !τ.flat) := by cases dp <;> cases τ.flat <;> rfl
            rcases hO with ⟨k1, k2, rfl⟩ | ⟨b, cap, arr, ty, nb', k1, rfl, ha, hl, hs, hE⟩
            · have k2 : x = [] := k2
              subst k2
              injection k1 with k1 _
              have R' : HRel B g ((id, .own g0 τ (dp || τ.flat) []) :: s.hp) w := R.put heq rfl (.inl ⟨k1, rfl⟩)
              refine ⟨g, Le.refl g, fun _ _ => ⟨rfl, rfl⟩, R', ⟨_, [], rfl, ⟨ht, rfl, hoc⟩, rfl⟩, fun i gn cs b o hi hcv _ => ⟨?_, rfl⟩⟩
              have hne : id ≠ i := fun e => by
                subst e
                rw [heq] at hi
                injection hi with hi; injection hi with hi _
                subst hi
                rw [k1] at hcv; cases hcv
              show look ((id, _) :: s.hp) i = _
              rw [look_other _ _ hne]; exact hi
            · injection k1 with k1 _
              have hnd := List.nodup_cons.1 hp.1
              obtain ⟨g', l, hk, ho, R'⟩ := R.readopt (deep := dp || τ.flat) (τ := τ) (xs := x) (nb := nb') heq k1 (hp.2 b (List.mem_cons_self ..)) (hn b (List.mem_cons_self ..)) hnd.1 ha hl hs hnd.2 (fun y hy => ⟨hp.2 y (List.mem_cons_of_mem _ hy), by
                unfold OwnEls at hE
                split at hE
                · exact hE.nst_some y hy
                · rw [hE.2] at hy; simp at hy⟩) (by rw [hflag]; exact hE)
              refine ⟨g', l, fun y hy => ?_, R', ⟨_, [], rfl, ⟨Nat.lt_of_lt_of_le ht (l.top _), (l.cv _ _ ht).symm, hoc⟩, rfl⟩, fun i gn cs b' o hi hcv _ => ⟨?_, by rw [ho]⟩⟩
              · rw [List.mem_cons, not_or] at hy
                exact hk y hy.1 hy.2
              · have hne : id ≠ i := fun e => by
                  subst e
                  rw [heq] at hi
                  injection hi with hi; injection hi with hi _
                  subst hi
                  rw [k1] at hcv; cases hcv
                show look ((id, _) :: s.hp) i = _
                rw [look_other _ _ hne]; exact hi
        · cases h
      | _ => exact nomatch h
  | tak ok => intro x pl old n s cells rest n' s' h; exact nomatch h
  | bld =>
    intro x pl old n s cells rest n' s' h
    obtain ⟨c, t, h1, h2⟩ := AM.bind_run h
    obtain ⟨h3, rfl⟩ := run_ret h2
    injection h3 with h3 h4; injection h4 with h4 h5
    subst h3; subst h4
    cases pl with
    | none => cases h1
    | some q =>
      obtain ⟨id, bg, off⟩ := q
      obtain ⟨gn1, t1, h6, h7⟩ := AM.bind_run h1
      obtain ⟨rfl, hnl1⟩ := freshGen_st h6
      simp only [AM.run] at h7
      obtain ⟨gn2, t2, h8, h9⟩ := AM.bind_run h7
      obtain ⟨rfl, hnl2⟩ := freshGen_st h8
      simp only [AM.run, Option.some.injEq, Prod.mk.injEq] at h9
      obtain ⟨rfl, rfl⟩ := h9
      refine ⟨rfl, by simp [Sp.size], fun B g w0 w R rp olds news nb hpl hL hB hp hn => ?_⟩
      have hB : BldAt g.imm w rp x news nb := hB
      obtain ⟨hbg, bb, oo, hcv, rfl⟩ := hpl id bg off rfl
      obtain ⟨rfl, _⟩ := run_freshGen R h6
      have two : ∃ u1 u2, news = [u1, u2] ∧ oc u1 = true := by
        rcases hB with ⟨e, _⟩ | ⟨u2, e, _⟩
        · exact ⟨_, _, e, rfl⟩
        · exact ⟨_, _, e, rfl⟩
      obtain ⟨u1, u2, rfl, ho1⟩ := two
      obtain ⟨l1, R1⟩ := R.named (id := n) (u := u1) (o' := .dead (g.top n)) rfl trivial
      have hcv1 : (g.name n (g.top n) u1).cv n (g.top n) = u1 := by simp [Gh.name]
      have ht1 : g.top n < (g.name n (g.top n) u1).top n := by simp [Gh.name]
      obtain ⟨rfl, _⟩ := run_freshGen (s := ⟨t1.env, (n, .dead (g.top n)) :: t1.hp⟩) R1 h8
      obtain ⟨g2, l2, k2, o2, R2, c2⟩ := R1.adoptBld (id := n + 1) (a := n) (ag := g.top n) (bid := id) (bg := bg) (off := off) (xs := x) (u2 := u2) (nb := nb) ht1 (Nat.lt_of_lt_of_le hbg (l1.le.top _)) (by omega) (hp.mono l1) hn ((l1.le.cv _ _ hbg).trans hcv) (by rw [hcv1]; exact hB)
      refine ⟨g2, l1.le.trans l2, k2, R2, ⟨u1, [u2], rfl, ⟨Nat.lt_of_lt_of_le ht1 (l2.top _), ?_, ho1⟩, u2, [], rfl, c2, rfl⟩, fun i gn cs b o hi _ _ => ⟨?_, by rw [o2, l1.out]⟩⟩
      · rw [l2.cv _ _ ht1, hcv1]
      · have e1 : n ≠ i := fun e => by subst e; exact hnl1 gn cs hi
        have e2 : n + 1 ≠ i := fun e => by
          subst e
          exact hnl2 gn cs (by show look ((n, _) :: t1.hp) (n + 1) = _; rw [look_other _ _ e1]; exact hi)
        show look ((n + 1, _) :: (n, _) :: t1.hp) i = _
        rw [look_other _ _ e2, look_other _ _ e1]; exact hi
  | pr a b iha ihb =>
    intro x pl old n s cells rest n' s' h
    obtain ⟨⟨p1, p2, p3⟩, t, h1, h2⟩ := AM.bind_run h
    obtain ⟨⟨q1, q2, q3⟩, t2, h3, h4⟩ := AM.bind_run h2
    obtain ⟨h5, rfl⟩ := run_ret h4
    injection h5 with h5 h6; injection h6 with h6 h7
    subst h5; subst h6
    obtain ⟨ea, ra, sa⟩ := iha _ _ _ _ _ _ _ _ _ h1
    obtain ⟨eb, rb, sb⟩ := ihb _ _ _ _ _ _ _ _ _ h3
    have ra : p2 = old.drop a.size := ra
    have rb : rest = p2.drop b.size := rb
    refine ⟨eb.trans ea, by rw [rb, ra, List.drop_drop], fun B g w0 w R rp olds news nb hpl hL hB hp hn => ?_⟩
    obtain ⟨u1, u2, n1, n2, rfl, rfl, B1, B2⟩ := hB
    obtain ⟨L1, L2⟩ := hL
    have hnd := List.nodup_append.1 hp.1
    have hd : ∀ y ∈ n2, y ∉ n1 := fun y h2 h1 => hnd.2.2 y h1 y h2 rfl
    have e1 : ((old.take (a.size + b.size)).take a.size) = old.take a.size := by rw [List.take_take]; congr 1; omega
    have e2 : ((old.take (a.size + b.size)).drop a.size) = p2.take b.size := by rw [ra, List.drop_take]; congr 1; omega
    have L1' : Lent s.hp g w0 a (old.take a.size) (olds.take a.size) := by rw [← e1]; exact L1
    have L2' : Lent s.hp g w0 b (p2.take b.size) (olds.drop a.size) := by rw [← e2]; exact L2
    obtain ⟨g1, l1, k1, R1, c1, t1⟩ := sa B g w0 w R rp _ _ _ hpl L1' B1 ⟨hnd.1, fun y hy => hp.2 y (List.mem_append_left _ hy)⟩ (fun y hy => hn y (List.mem_append_left _ hy))
    have L3 : Lent t.hp g1 w0 b (p2.take b.size) (olds.drop a.size) := Lent.mono' l1 R.lentLt (fun i gn cs b' o a1 a2 a3 => t1 i gn cs b' o a1 a2 (hd b' a3)) B2 L2'
    obtain ⟨g2, l2, k2, R2, c2, t2'⟩ := sb B g1 w0 w R1 (rp.1, rp.2 + a.size) _ _ _ ((hpl.mono l1).on a.size) L3 (B2.mono l1.imm) ⟨hnd.2.1, fun y hy => by rw [(k1 y (hd y hy)).1]; exact hp.2 y (List.mem_append_right _ hy)⟩
      (fun y hy => by rw [(k1 y (hd y hy)).2]; exact hn y (List.mem_append_right _ hy))
    refine ⟨g2, l1.trans l2, fun y hy => ?_, R2, (c1.mono l2).append c2, fun i gn cs b' o hi hcv hb => ?_⟩
    · rw [List.mem_append, not_or] at hy
      obtain ⟨a1, a2⟩ := k1 y hy.1
      obtain ⟨b1, b2⟩ := k2 y hy.2
      exact ⟨b1.trans a1, b2.trans a2⟩
    · rw [List.mem_append, not_or] at hb
      obtain ⟨a1, a2⟩ := t1 i gn cs b' o hi hcv hb.1
      obtain ⟨b1, b2⟩ := t2' i gn cs b' o a1 ((l1.cv _ _ (R.lentLt _ _ _ hi)).trans hcv) hb.2
      exact ⟨b1, b2.trans a2⟩
  | ptr wh st sp ih =>
    intro x pl old n s cells rest n' s' h
    cases old with
    | nil => exact nomatch h
    | cons c cs =>
      cases c with
      | ptr id gen off =>
        simp only [putSp, AM.run] at h
        split at h
        · rename_i g0 bt bs heq
          obtain ⟨hb, h'⟩ := run_if h
          obtain rfl := beq_eq hb
          obtain ⟨⟨p1, p2, p3⟩, t, h1, h2⟩ := AM.bind_run h'
          simp only [AM.run, Option.some.injEq, Prod.mk.injEq] at h2
          obtain ⟨⟨rfl, rfl, rfl⟩, rfl⟩ := h2
          obtain ⟨e1, r1, s1⟩ := ih _ _ _ _ _ _ _ _ _ h1
          refine ⟨e1, by simp [Sp.size], fun B g w0 w R rp olds news nb hpl hL hB hp hn => ?_⟩
          obtain ⟨id', gen', off', bs', b, o, arr0, ty0, L, ec, eo, hlk, hcv, ha0, hL0, hle, hid, hoff, hbs, hLi⟩ := hL
          have ec : [Cell.ptr id g0 off] = [Cell.ptr id' gen' off'] := by simpa [Sp.size] using ec
          injection ec with ec _; injection ec with ec1 ec2 ec3
          subst ec1; subst ec2; subst ec3
          rw [heq] at hlk
          injection hlk with hlk; injection hlk with _ hlk; injection hlk with hlk1 hlk
          subst hlk; subst hlk1
          obtain ⟨b1, o1, arr1, ty1, arr, N, nb', f1, f2, f3, f4, f5, f6, f7, f8, f9⟩ := hB
          rw [f1] at eo
          injection eo with eo; injection eo with eo; injection eo with eo; injection eo with eo1 eo2
          subst eo1; subst eo2
          rw [ha0] at f4
          injection f4 with f4; injection f4 with f4 f4t
          subst f4
          subst f4t
          subst f3
          have hnd := List.nodup_cons.1 hp.1
          have hbl := hbs.length
          have hseg := seg_of (n := sp.size) hL0 hle (show off + sp.size ≤ L.length by rw [hbl]; exact hoff)
          rw [← hseg] at f9
          have hcl : (cut off sp.size bs).take sp.size = cut off sp.size bs := by unfold cut; rw [List.take_take, Nat.min_self]
          obtain ⟨g1, l1, k1, R1, c1, t1⟩ := s1 B g w0 w R (b1, o + off) _ _ _ (fun id' gen' off' e => by
            injection e with e; injection e with e1 e; injection e with e2 e3
            subst e1; subst e2; subst e3
            exact ⟨R.lentLt _ _ _ heq, b1, o, hcv, rfl⟩) (by rw [hcl]; exact hLi) f9 ⟨hnd.2, fun y hy => hp.2 y (List.mem_cons_of_mem _ hy)⟩ (fun y hy => hn y (List.mem_cons_of_mem _ hy))
          obtain ⟨q1, q2⟩ := k1 b1 hnd.1
          obtain ⟨w1, w2⟩ := t1 id g0 (_, bs) b1 o heq hcv hnd.1
          have hcv1 : g1.cv id g0 = .pointer (some ⟨b1, o, none⟩) := (l1.cv _ _ (R.lentLt _ _ _ heq)).trans hcv
          have hN := c1.length
          let g2 : Gh := { g1 with lab := open Classical in fun x => if x = b1 then some (id + 1) else g1.lab x }
          have hle2 : Le g1 g2 := ⟨fun _ _ h => h, fun _ => Nat.le_refl _, fun _ _ _ => rfl⟩
          have hsp := splice_two (off := off) hL0 hle (by rw [f8, hbl]; exact hoff) f6
          have hlen : (L.take off ++ N ++ L.drop (off + N.length)).length = L.length := by simp; omega
          have hset : CellsRel g2 (setCells off p1 bs) (L.take off ++ N ++ L.drop (off + N.length)) := CellsRel.set (c1.mono hle2) off (hbs.mono (l1.trans hle2))
          have R2 : HRel B g2 ((id, .box g0 (bt, setCells off p1 bs)) :: t.hp) w := by
            refine R1.unlend (q1.trans (hp.2 b1 (List.mem_cons_self ..))) (q2.trans (hn b1 (List.mem_cons_self ..))) w1 rfl ?_
            refine ⟨b1, o, arr, _, _, hcv1, ⟨by simp, q2.trans (hn b1 (List.mem_cons_self ..))⟩, f5, hset, ?_, ?_, ?_⟩
            · show arr.toList = (g1.outer id).take o ++ _ ++ (g1.outer id).drop _
              rw [w2]
              exact hsp
            · show _ ≤ (g1.outer id).length
              rw [w2, hlen]
              exact hle
            · refine ⟨hid.1, ?_, rfl⟩
              show (g1.outer id).length = (setCells off p1 bs).length
              rw [w2, ← hset.length, hlen, hbl]
              exact hid.2
          refine ⟨g2, l1.trans hle2, fun y hy => ?_, R2, ⟨_, [], by rw [f2, f1], ⟨R2.top id ▸ by rw [look_same]; exact Nat.lt_succ_self _, b1, o, hcv1, rfl⟩, rfl⟩, fun i gn cs b' o' hi hcv' hb' => ?_⟩
          · rw [List.mem_cons, not_or] at hy
            obtain ⟨a1, a2⟩ := k1 y hy.2
            exact ⟨by simp [g2, hy.1, a1], a2⟩
          · rw [List.mem_cons, not_or] at hb'
            obtain ⟨a1, a2⟩ := t1 i gn cs b' o' hi hcv' hb'.2
            refine ⟨?_, a2⟩
            have hne : id ≠ i := fun e => by
              subst e
              rw [heq] at hi
              injection hi with hi; injection hi with hi _
              subst hi
              rw [hcv] at hcv'
              injection hcv' with hcv'; injection hcv' with hcv'; injection hcv' with hcv' _
              exact hb'.1 hcv'.symm
            show look ((id, _) :: t.hp) i = _
            rw [look_other _ _ hne]; exact a1
        · cases h
      | _ => exact nomatch h
end Go.Abs
end

section
namespace Go.Abs
def PassVal (imm : Rd) (w : World) : (a : VSp) → a.sp.ty.den → Value → List Nat → Prop
  | .one s, x, u, nb => oc u = true ∧ Pass imm w s x (0, 0) [u] nb
  | .agg s, x, u, nb => ∃ us : List Value, u = .agg us.toArray ∧ Pass imm w s x (0, 0) us nb
def PassArgs (imm : Rd) (w : World) : (as : List VSp) → (argsTy as).den → List Value → List Nat → Prop
  | [], _, us, nb => us = [] ∧ nb = []
  | a :: as, x, us, nb => ∃ u r n1 n2, us = u :: r ∧ nb = n1 ++ n2 ∧ PassVal imm w a x.1 u n1 ∧ PassArgs imm w as x.2 r n2
def Outs (imm : Rd) (w0 w : World) : (s : Sp) → s.outTy.den → List Value → List Nat → Prop
  | .pr a b, x, us, nb => ∃ n1 n2, nb = n1 ++ n2 ∧ Outs imm w0 w a x.1 (us.take a.size) n1 ∧ Outs imm w0 w b x.2 (us.drop a.size) n2
  | .ptr wh st s, x, us, nb => Back imm w0 w (.ptr wh st s) x (0, 0) us us nb
  | .lnd τ dp, x, us, nb => Back imm w0 w (.lnd τ dp) x (0, 0) us us nb
  | _, _, _, nb => nb = []
def OutsArgs (imm : Rd) (w0 w : World) : (as : List VSp) → (outsTy as).den → List Value → List Nat → Prop
  | [], _, us, nb => us = [] ∧ nb = []
  | a :: as, x, us, nb => ∃ u r n1 n2, us = u :: r ∧ nb = n1 ++ n2 ∧ Outs imm w0 w a.sp x.1 u.cells.toList n1 ∧ OutsArgs imm w0 w as x.2 r n2
def ResVal (imm : Rd) (w : World) : (a : VSp) → a.sp.ty.den → Value → List Nat → Prop
  | .one s, x, u, nb => oc u = true ∧ Back imm w w s x (0, 0) [] [u] nb
  | .agg s, x, u, nb => ∃ us : List Value, u = .agg us.toArray ∧ Back imm w w s x (0, 0) [] us nb
def ResVals (imm : Rd) (w : World) : (as : List VSp) → (argsTy as).den → List Value → List Nat → Prop
  | [], _, us, nb => us = [] ∧ nb = []
  | a :: as, x, us, nb => ∃ u r n1 n2, us = u :: r ∧ nb = n1 ++ n2 ∧ ResVal imm w a x.1 u n1 ∧ ResVals imm w as x.2 r n2
def ResOk (imm : Rd) (w : World) : (r : RSp) → r.ty.den → Value → List Nat → Prop
  | .val a, x, v, nb => ResVal imm w a x v nb
  | .tup as, x, v, nb => ∃ vs : List Value, v = .tuple vs.toArray ∧ ResVals imm w as x vs nb
  | .none, _, v, nb => v = .tuple #[] ∧ nb = []
def GlobOk (glob : Nat → Option (List Cell)) (imm : Rd) : Prop := ∀ k cs, glob k = some cs → ∃ us, imm k = some us ∧ ∀ g : Gh, (∀ b L, imm b = some L → g.imm b = some L) → CellsRel g cs us
theorem GlobOk.mono {glob : Nat → Option (List Cell)} {imm imm' : Rd} (h : ∀ b L, imm b = some L → imm' b = some L) (k : GlobOk glob imm) : GlobOk glob imm' := fun i c hi => by
  obtain ⟨u, h1, h2⟩ := k i c hi
  exact ⟨u, h _ _ h1, fun g hg => h2 g fun b L hb => hg b L (h b L hb)⟩
theorem GlobOk.one {glob : Nat → Option (List Cell)} {g : Gh} (h : GlobOk glob g.imm) : ∀ k c, glob k = some [c] → ∃ u, g.imm k = some [u] ∧ CellRel g c u := fun k c hk => by
  obtain ⟨us, h1, h2⟩ := h k [c] hk
  obtain ⟨u, r, rfl, hu, hr⟩ := h2 g fun _ _ hb => hb
  have hr : r = [] := hr
  subst hr
  exact ⟨u, h1, hu⟩
def Invokes (P : Program) (f : FuncId) (args : Array Value) (w : World) (R : Value → World → Prop) : Prop :=
  match (callFunc f args).run P w with
  | .ok (.enter f' a') w1 => Calls P f' a' w1 fun e w' => ∃ v, e = .returned v ∧ R v w'
  | .ok (.value v) w1 => R v w1
  | _ => False
def CallOk (P : Program) (glob : Nat → Option (List Cell)) (f : FuncId) (c : Callee) : Prop :=
  ∀ x y, c.F x = some y → ∀ (imm : Rd) (w : World) (args : List Value) (nb : List Nat), GlobOk glob imm → (∀ b L, imm b = some L → ∃ arr ty fr, w.heap[b]? = some (.cells arr ty fr) ∧ arr.toList = L) →
    PassArgs imm w c.sig.args x args nb → nb.Nodup → (∀ b ∈ nb, imm b = none ∧ b < w.heap.size) →
    Invokes P f args.toArray w fun v w' => ∃ imm' n1 n2, After imm w nb imm' w' (n1 ++ n2) ∧ ResOk imm' w' c.sig.res y.1 v n1 ∧ OutsArgs imm' w w' c.sig.args y.2 args n2
theorem cells_one {u : Value} (h : oc u = true) : u.cells.toList = [u] := by rw [cells_of_one h]
def LentArgs (hp : List (Nat × Obj)) (g : Gh) (w : World) : List VSp → List Val → List Value → Prop
  | [], vs, us => vs = [] ∧ us = []
  | a :: as, vs, us => ∃ v r u q, vs = v :: r ∧ us = u :: q ∧ v.cells.length = a.sp.size ∧ Lent hp g w a.sp v.cells u.cells.toList ∧ LentArgs hp g w as r q
theorem LentArgs.mono {hp hp' : List (Nat × Obj)} {g g' : Gh} {w : World} (l : Le g g') (ho : ∀ id gn cs, look hp id = some (.lent gn cs) → look hp' id = some (.lent gn cs) ∧ g'.outer id = g.outer id) (ht : ∀ id gn cs, look hp id = some (.lent gn cs) → gn < g.top id) :
    ∀ {as : List VSp} {vs : List Val} {us : List Value}, LentArgs hp g w as vs us → LentArgs hp' g' w as vs us
  | [], _, _, h => h
  | _ :: _, _, _, ⟨v, r, u, q, e, e', hl, h1, h2⟩ => ⟨v, r, u, q, e, e', hl, h1.mono l ho ht, LentArgs.mono l ho ht h2⟩
theorem rdVal_sound {a : VSp} {v : Val} {s s' : St} {x : a.sp.ty.den} (h : (rdVal a v).run s = some (x, s')) : Keeps s s' ∧ ∀ B g w, HRel B g s.hp w → ∃ g', Lk g g' ∧ HRel B g' s'.hp w ∧ ∀ u, ValRel g v u →
    ∃ nb, PassVal g'.imm w a x u nb ∧ PendOk g' nb ∧ (∀ b ∈ nb, g.lab b ≠ some 0) ∧ v.cells.length = a.sp.size ∧ Lent s'.hp g' w a.sp v.cells u.cells.toList := by
  cases a with
  | one sp =>
    cases v with
    | agg cs => exact nomatch h
    | one c =>
      obtain ⟨⟨p1, p2⟩, t, h1, h2⟩ := AM.bind_run h
      simp only at h2
      split at h2
      · obtain ⟨rfl, rfl⟩ := run_ret h2
        obtain ⟨k, ⟨used, eu, lu⟩, hs⟩ := rdSp_sound _ _ _ _ _ _ _ h1
        have hsz : sp.size = 1 := by rw [← lu, ← List.append_nil used, ← eu]; rfl
        refine ⟨k, fun B g w R => ?_⟩
        obtain ⟨g', l, R', hc⟩ := hs B g w R
        refine ⟨g', l, R', fun u hu => ?_⟩
        have hu : CellRel g c u := hu
        have hoc := hu.oneCell
        obtain ⟨u1, u2, nb, e, hP, hO, hr, hf, hL⟩ := hc [u] (0, 0) ⟨u, [], rfl, hu, rfl⟩ (PlaceOk.none _ _)
        have hu2 : u2 = [] := hr
        subst hu2
        rw [List.append_nil] at e
        subst e
        refine ⟨nb, ⟨hoc, hP⟩, hO, hf, hsz.symm, ?_⟩
        rw [cells_one hoc]
        rw [hsz] at hL
        exact hL
      · cases h2
  | agg sp =>
    cases v with
    | one c => exact nomatch h
    | agg cs =>
      obtain ⟨⟨p1, p2⟩, t, h1, h2⟩ := AM.bind_run h
      simp only at h2
      split at h2
      · obtain ⟨rfl, rfl⟩ := run_ret h2
        obtain ⟨k, ⟨used, eu, lu⟩, hs⟩ := rdSp_sound _ _ _ _ _ _ _ h1
        rw [List.append_nil] at eu
        subst eu
        refine ⟨k, fun B g w R => ?_⟩
        obtain ⟨g', l, R', hc⟩ := hs B g w R
        refine ⟨g', l, R', fun u hu => ?_⟩
        obtain ⟨us, rfl, hu⟩ := hu
        obtain ⟨u1, u2, nb, e, hP, hO, hr, hf, hL⟩ := hc us (0, 0) hu (PlaceOk.none _ _)
        have hu2 : u2 = [] := hr
        subst hu2
        rw [List.append_nil] at e
        subst e
        refine ⟨nb, ⟨us, rfl, hP⟩, hO, hf, lu, ?_⟩
        have : cs.take sp.size = cs := by rw [← lu, List.take_length]
        rw [this] at hL
        exact hL
      · cases h2
theorem PassVal.mono {imm imm' : Rd} (h : ∀ b L, imm b = some L → imm' b = some L) {w : World} {a : VSp} {x : a.sp.ty.den} {u : Value} {nb : List Nat} (k : PassVal imm w a x u nb) : PassVal imm' w a x u nb := by
  cases a with
  | one s => exact ⟨k.1, Pass.mono h k.2⟩
  | agg s => obtain ⟨us, e, k⟩ := k; exact ⟨us, e, Pass.mono h k⟩
theorem rdArgs_sound : ∀ {as : List VSp} {vs : List Val} {s s' : St} {x : (argsTy as).den}, (rdArgs as vs).run s = some (x, s') → Keeps s s' ∧ ∀ B g w, HRel B g s.hp w → ∃ g', Lk g g' ∧ HRel B g' s'.hp w ∧ ∀ us, ValsRel g vs us →
    ∃ nb, PassArgs g'.imm w as x us nb ∧ PendOk g' nb ∧ (∀ b ∈ nb, g.lab b ≠ some 0) ∧ LentArgs s'.hp g' w as vs us
  | [], vs, s, s', x, h => by
    cases vs with
    | nil =>
      obtain ⟨rfl, rfl⟩ := run_ret h
      exact ⟨Keeps.refl _, fun B g w R => ⟨g, Lk.refl g, R, fun us hu => ⟨[], ⟨hu, rfl⟩, ⟨List.nodup_nil, fun b hb => by simp at hb⟩, fun b hb => by simp at hb, rfl, hu⟩⟩⟩
    | cons v r => exact nomatch h
  | a :: as, vs, s, s', x, h => by
    cases vs with
    | nil => exact nomatch h
    | cons v r =>
      obtain ⟨p, t, h1, h2⟩ := AM.bind_run h
      obtain ⟨q, t2, h3, h4⟩ := AM.bind_run h2
      obtain ⟨rfl, rfl⟩ := run_ret h4
      obtain ⟨k1, s1⟩ := rdVal_sound h1
      obtain ⟨k2, s2⟩ := rdArgs_sound h3
      refine ⟨k1.trans k2, fun B g w R => ?_⟩
      obtain ⟨g1, l1, R1, c1⟩ := s1 B g w R
      obtain ⟨g2, l2, R2, c2⟩ := s2 B g1 w R1
      refine ⟨g2, l1.trans l2, R2, fun us hu => ?_⟩
      obtain ⟨u, us', rfl, hu1, hu2⟩ := hu
      obtain ⟨n1, P1, O1, f1, z1, L1⟩ := c1 u hu1
      obtain ⟨n2, P2, O2, f2, L2⟩ := c2 us' (hu2.mono l1.le)
      refine ⟨n1 ++ n2, ⟨u, us', n1, n2, rfl, rfl, P1.mono l2.le.imm, P2⟩, PendOk.append l2 O1 O2 f2, fun b hb => ?_, v, r, u, us', rfl, rfl, z1, L1.mono l2.le (fun id gn cs hl => ⟨k2.2 id gn cs hl, by rw [l2.out]⟩) R1.lentLt, L2⟩
      rcases List.mem_append.1 hb with hb | hb
      · exact f1 b hb
      · exact fun e => f2 b hb (l1.kp b e).1
def OutOk (sp : Sp) (x : sp.outTy.den) (cells : List Cell) (s : St) (rest : List Cell) (s' : St) : Prop :=
  s'.env = s.env ∧ rest = cells.drop sp.size ∧ ∀ B g w0 w, HRel B g s.hp w → ∀ us nb, Lent s.hp g w0 sp (cells.take sp.size) us → Outs g.imm w0 w sp x us nb → PendOk g nb → (∀ b ∈ nb, g.nst b = none) →
    ∃ g', Le g g' ∧ (∀ x, x ∉ nb → g'.lab x = g.lab x ∧ g'.nst x = g.nst x) ∧ HRel B g' s'.hp w ∧
      ∀ i gn cs b o, look s.hp i = some (.lent gn cs) → g.cv i gn = .pointer (some ⟨b, o, none⟩) → b ∉ nb → look s'.hp i = some (.lent gn cs) ∧ g'.outer i = g.outer i
theorem outs_mono {imm imm' : Rd} (h : ∀ b L, imm b = some L → imm' b = some L) {w0 w : World} : ∀ {s : Sp} {x : s.outTy.den} {us : List Value} {nb : List Nat}, Outs imm w0 w s x us nb → Outs imm' w0 w s x us nb
  | .un, _, _, _, k => k
  | .pr _ _, _, _, _, ⟨n1, n2, e, k1, k2⟩ => ⟨n1, n2, e, outs_mono h k1, outs_mono h k2⟩
  | .pub _, _, _, _, k => k
  | .own _ _, _, _, _, k => k
  | .ptr _ _ _, x, _, _, k => Back.mono h (s := .ptr _ _ _) (x := x) k
  | .lnd _ _, x, _, _, k => Back.mono h (s := .lnd _ _) (x := x) (pl := (0, 0)) k
  | .bld, _, _, _, k => k
  | .tak _, _, _, _, k => k
  | .err, _, _, _, k => k
  | .np, _, _, _, k => k
theorem lent_outs {hp hp' : List (Nat × Obj)} {g g' : Gh} {imm : Rd} {w0 w : World} (l : Le g g') (ht : ∀ id gn cs, look hp id = some (.lent gn cs) → gn < g.top id) :
    ∀ {s : Sp} {x : s.outTy.den} {cs : List Cell} {us : List Value} {nb : List Nat}, (∀ i gn cs b o, look hp i = some (.lent gn cs) → g.cv i gn = .pointer (some ⟨b, o, none⟩) → b ∈ nb → look hp' i = some (.lent gn cs) ∧ g'.outer i = g.outer i) →
      Outs imm w0 w s x us nb → Lent hp g w0 s cs us → Lent hp' g' w0 s cs us
  | .un, _, _, _, _, _, _, _ => trivial
  | .pub _, _, _, _, _, _, _, _ => trivial
  | .own _ _, _, _, _, _, _, _, _ => trivial
  | .err, _, _, _, _, _, _, _ => trivial
  | .np, _, _, _, _, _, _, _ => trivial
  | .pr _ _, _, _, _, _, ho, ⟨n1, n2, e', k1, k2⟩, ⟨h1, h2⟩ => by
    subst e'
    exact ⟨lent_outs l ht (fun i gn cs b o a1 a2 a3 => ho i gn cs b o a1 a2 (List.mem_append_left _ a3)) k1 h1, lent_outs l ht (fun i gn cs b o a1 a2 a3 => ho i gn cs b o a1 a2 (List.mem_append_right _ a3)) k2 h2⟩
  | .bld, _, _, _, _, _, _, _ => trivial
  | .tak _, _, _, _, _, _, _, _ => trivial
  | .ptr _ _ _, x, _, _, _, ho, k, h => Lent.mono' (s := .ptr _ _ _) (x := x) l ht ho k h
  | .lnd _ _, x, _, _, _, ho, k, h => Lent.mono' (s := .lnd _ _) (x := x) (pl := (0, 0)) l ht ho k h
theorem outSp_sound : ∀ (sp : Sp) (x : sp.outTy.den) (cells : List Cell) (s : St) (rest : List Cell) (s' : St), (outSp sp x cells).run s = some (rest, s') → OutOk sp x cells s rest s' := by
  intro sp
  have one : ∀ (sp : Sp) (x : sp.outTy.den) (c : Cell) (cs : List Cell) (s : St) (rest : List Cell) (s' : St), sp.size = 1 → (∀ imm w0 w us nb, Outs imm w0 w sp x us nb → nb = []) → (AM.ret cs).run s = some (rest, s') → OutOk sp x (c :: cs) s rest s' := by
    intro sp x c cs s rest s' hs ho h
    obtain ⟨rfl, rfl⟩ := run_ret h
    refine ⟨rfl, by rw [hs]; rfl, fun B g w0 w R us nb hL hO hp hn => ?_⟩
    obtain rfl := ho _ _ _ _ _ hO
    exact ⟨g, Le.refl g, fun _ _ => ⟨rfl, rfl⟩, R, fun i gn cs b o h _ _ => ⟨h, rfl⟩⟩
  induction sp with
  | un =>
    intro x cells s rest s' h
    obtain ⟨rfl, rfl⟩ := run_ret h
    refine ⟨rfl, rfl, fun B g w0 w R us nb hL hO hp hn => ?_⟩
    have hO : nb = [] := hO
    subst hO
    exact ⟨g, Le.refl g, fun _ _ => ⟨rfl, rfl⟩, R, fun i gn cs b o h _ _ => ⟨h, rfl⟩⟩
  | pub τ => intro x cells s rest s' h; cases cells with | nil => exact nomatch h | cons c cs => exact one _ x c cs s rest s' rfl (fun _ _ _ _ _ h => h) h
  | own τ dp => intro x cells s rest s' h; cases cells with | nil => exact nomatch h | cons c cs => exact one _ x c cs s rest s' rfl (fun _ _ _ _ _ h => h) h
  | err => intro x cells s rest s' h; cases cells with | nil => exact nomatch h | cons c cs => exact one _ x c cs s rest s' rfl (fun _ _ _ _ _ h => h) h
  | np => intro x cells s rest s' h; cases cells with | nil => exact nomatch h | cons c cs => exact one _ x c cs s rest s' rfl (fun _ _ _ _ _ h => h) h
  | pr a b iha ihb =>
    intro x cells s rest s' h
    obtain ⟨r, t, h1, h2⟩ := AM.bind_run h
    obtain ⟨ea, ra, sa⟩ := iha _ _ _ _ _ h1
    obtain ⟨eb, rb, sb⟩ := ihb _ _ _ _ _ h2
    refine ⟨eb.trans ea, by rw [rb, ra, List.drop_drop], fun B g w0 w R us nb hL hO hp hn => ?_⟩
    obtain ⟨n1, n2, rfl, B1, B2⟩ := hO
    obtain ⟨L1, L2⟩ := hL
    have hnd := List.nodup_append.1 hp.1
    have hd : ∀ y ∈ n2, y ∉ n1 := fun y h2 h1 => hnd.2.2 y h1 y h2 rfl
    have e1 : ((cells.take (a.size + b.size)).take a.size) = cells.take a.size := by rw [List.take_take]; congr 1; omega
    have e2 : ((cells.take (a.size + b.size)).drop a.size) = r.take b.size := by rw [ra, List.drop_take]; congr 1; omega
    have L1' : Lent s.hp g w0 a (cells.take a.size) (us.take a.size) := by rw [← e1]; exact L1
    have L2' : Lent s.hp g w0 b (r.take b.size) (us.drop a.size) := by rw [← e2]; exact L2
    obtain ⟨g1, l1, k1, R1, t1⟩ := sa B g w0 w R _ _ L1' B1 ⟨hnd.1, fun y hy => hp.2 y (List.mem_append_left _ hy)⟩ (fun y hy => hn y (List.mem_append_left _ hy))
    have L3 : Lent t.hp g1 w0 b (r.take b.size) (us.drop a.size) := lent_outs l1 R.lentLt (fun i gn cs b' o a1 a2 a3 => t1 i gn cs b' o a1 a2 (hd b' a3)) B2 L2'
    obtain ⟨g2, l2, k2, R2, t2'⟩ := sb B g1 w0 w R1 _ _ L3 (outs_mono l1.imm B2) ⟨hnd.2.1, fun y hy => by rw [(k1 y (hd y hy)).1]; exact hp.2 y (List.mem_append_right _ hy)⟩
      (fun y hy => by rw [(k1 y (hd y hy)).2]; exact hn y (List.mem_append_right _ hy))
    refine ⟨g2, l1.trans l2, fun y hy => ?_, R2, fun i gn cs b' o hi hcv hb => ?_⟩
    · rw [List.mem_append, not_or] at hy
      obtain ⟨a1, a2⟩ := k1 y hy.1
      obtain ⟨b1, b2⟩ := k2 y hy.2
      exact ⟨b1.trans a1, b2.trans a2⟩
    · rw [List.mem_append, not_or] at hb
      obtain ⟨a1, a2⟩ := t1 i gn cs b' o hi hcv hb.1
      obtain ⟨b1, b2⟩ := t2' i gn cs b' o a1 ((l1.cv _ _ (R.lentLt _ _ _ hi)).trans hcv) hb.2
      exact ⟨b1, b2.trans a2⟩
  | tak ok =>
    intro x cells s rest s' h
    cases cells with
    | nil => exact nomatch h
    | cons c cs => exact one (.tak ok) x c cs s rest s' rfl (fun _ _ _ _ _ k => k) h
  | bld =>
    intro x cells s rest s' h
    cases cells with
    | nil => exact nomatch h
    | cons c cs =>
      cases cs with
      | nil => exact nomatch h
      | cons c2 cs =>
        obtain ⟨rfl, rfl⟩ := run_ret h
        refine ⟨rfl, rfl, fun B g w0 w R us nb hL hO hp hn => ?_⟩
        have hO : nb = [] := hO
        subst hO
        exact ⟨g, Le.refl g, fun _ _ => ⟨rfl, rfl⟩, R, fun i gn cs b o h _ _ => ⟨h, rfl⟩⟩
  | ptr wh st sp _ =>
    intro x cells s rest s' h
    cases cells with
    | nil => exact nomatch h
    | cons c cs =>
      obtain ⟨⟨p1, p2, p3⟩, t, h1, h2⟩ := AM.bind_run h
      obtain ⟨rfl, rfl⟩ := run_ret h2
      obtain ⟨e1, _, s1⟩ := putSp_sound (.ptr wh st sp) x _ _ _ _ _ _ _ _ h1
      refine ⟨e1, rfl, fun B g w0 w R us nb hL hO hp hn => ?_⟩
      obtain ⟨g', l, k, R', _, t'⟩ := s1 B g w0 w R (0, 0) us us nb (PlaceOk.none _ _) hL hO hp hn
      exact ⟨g', l, k, R', t'⟩
  | lnd τ dp =>
    intro x cells s rest s' h
    cases cells with
    | nil => exact nomatch h
    | cons c cs =>
      obtain ⟨⟨p1, p2, p3⟩, t, h1, h2⟩ := AM.bind_run h
      obtain ⟨rfl, rfl⟩ := run_ret h2
      obtain ⟨e1, _, s1⟩ := putSp_sound (.lnd τ dp) x _ _ _ _ _ _ _ _ h1
      refine ⟨e1, rfl, fun B g w0 w R us nb hL hO hp hn => ?_⟩
      obtain ⟨g', l, k, R', _, t'⟩ := s1 B g w0 w R (0, 0) us us nb (PlaceOk.none _ _) hL hO hp hn
      exact ⟨g', l, k, R', t'⟩
end Go.Abs
end

section
namespace Go.Abs
theorem lentArgs_outs {hp hp' : List (Nat × Obj)} {g g' : Gh} {imm : Rd} {w0 w : World} (l : Le g g') (ht : ∀ id gn cs, look hp id = some (.lent gn cs) → gn < g.top id) :
    ∀ {as : List VSp} {x : (outsTy as).den} {vs : List Val} {us : List Value} {nb : List Nat}, (∀ i gn cs b o, look hp i = some (.lent gn cs) → g.cv i gn = .pointer (some ⟨b, o, none⟩) → b ∈ nb → look hp' i = some (.lent gn cs) ∧ g'.outer i = g.outer i) →
      OutsArgs imm w0 w as x us nb → LentArgs hp g w0 as vs us → LentArgs hp' g' w0 as vs us
  | [], _, _, _, _, _, _, h => h
  | _ :: _, x, _, _, _, ho, ⟨u, r, n1, n2, e, e', k1, k2⟩, ⟨v, q, u', r', e1, e2, hl, h1, h2⟩ => by
    subst e'
    rw [e] at e2
    injection e2 with e2 e3
    subst e2; subst e3
    exact ⟨v, q, u, r, e1, e, hl, lent_outs l ht (fun i gn cs b o a1 a2 a3 => ho i gn cs b o a1 a2 (List.mem_append_left _ a3)) k1 h1, lentArgs_outs l ht (fun i gn cs b o a1 a2 a3 => ho i gn cs b o a1 a2 (List.mem_append_right _ a3)) k2 h2⟩
theorem outsArgs_mono {imm imm' : Rd} (h : ∀ b L, imm b = some L → imm' b = some L) {w0 w : World} : ∀ {as : List VSp} {x : (outsTy as).den} {us : List Value} {nb : List Nat}, OutsArgs imm w0 w as x us nb → OutsArgs imm' w0 w as x us nb
  | [], _, _, _, k => k
  | _ :: _, _, _, _, ⟨u, r, n1, n2, e, e', k1, k2⟩ => ⟨u, r, n1, n2, e, e', outs_mono h k1, outsArgs_mono h k2⟩
theorem outArgs_sound : ∀ {as : List VSp} {x : (outsTy as).den} {vs : List Val} {s s' : St}, (outArgs as x vs).run s = some ((), s') → s'.env = s.env ∧ ∀ B g w0 w, HRel B g s.hp w → ∀ us nb, LentArgs s.hp g w0 as vs us → OutsArgs g.imm w0 w as x us nb → PendOk g nb → (∀ b ∈ nb, g.nst b = none) →
    ∃ g', Le g g' ∧ (∀ x, x ∉ nb → g'.lab x = g.lab x ∧ g'.nst x = g.nst x) ∧ HRel B g' s'.hp w
  | [], x, vs, s, s', h => by
    cases vs with
    | nil =>
      obtain ⟨_, rfl⟩ := run_ret h
      exact ⟨rfl, fun B g w0 w R us nb _ _ _ _ => ⟨g, Le.refl g, fun _ _ => ⟨rfl, rfl⟩, R⟩⟩
    | cons v r => exact nomatch h
  | a :: as, x, vs, s, s', h => by
    cases vs with
    | nil => exact nomatch h
    | cons v r =>
      obtain ⟨rest, t, h1, h2⟩ := AM.bind_run h
      obtain ⟨e1, _, s1⟩ := outSp_sound _ _ _ _ _ _ h1
      obtain ⟨e2, s2⟩ := outArgs_sound h2
      refine ⟨e2.trans e1, fun B g w0 w R us nb hL hO hp hn => ?_⟩
      obtain ⟨v', r', u, q, ev, eu, hl, L1, L2⟩ := hL
      injection ev with ev1 ev2
      subst ev1; subst ev2
      obtain ⟨u', q', n1, n2, eu', rfl, O1, O2⟩ := hO
      rw [eu] at eu'
      injection eu' with eu1 eu2
      subst eu1; subst eu2
      have hnd := List.nodup_append.1 hp.1
      have hd : ∀ y ∈ n2, y ∉ n1 := fun y h2 h1 => hnd.2.2 y h1 y h2 rfl
      have ht : v.cells.take a.sp.size = v.cells := by rw [← hl, List.take_length]
      obtain ⟨g1, l1, k1, R1, t1⟩ := s1 B g w0 w R _ n1 (by rw [ht]; exact L1) O1 ⟨hnd.1, fun y hy => hp.2 y (List.mem_append_left _ hy)⟩ (fun y hy => hn y (List.mem_append_left _ hy))
      have L3 := lentArgs_outs l1 R.lentLt (fun i gn cs b' o a1 a2 a3 => t1 i gn cs b' o a1 a2 (hd b' a3)) O2 L2
      obtain ⟨g2, l2, k2, R2⟩ := s2 B g1 w0 w R1 _ n2 L3 (outsArgs_mono l1.imm O2) ⟨hnd.2.1, fun y hy => by rw [(k1 y (hd y hy)).1]; exact hp.2 y (List.mem_append_right _ hy)⟩
        (fun y hy => by rw [(k1 y (hd y hy)).2]; exact hn y (List.mem_append_right _ hy))
      refine ⟨g2, l1.trans l2, fun y hy => ?_, R2⟩
      rw [List.mem_append, not_or] at hy
      obtain ⟨a1, a2⟩ := k1 y hy.1
      obtain ⟨b1, b2⟩ := k2 y hy.2
      exact ⟨b1.trans a1, b2.trans a2⟩
theorem back_lent {imm : Rd} {hp : List (Nat × Obj)} {g : Gh} {w0 w1 w : World} : ∀ {s : Sp} {x : s.ty.den} {pl : Nat × Nat} {new : List Value} {nb : List Nat}, Back imm w0 w s x pl [] new nb → Lent hp g w1 s [] []
  | .un, _, _, _, _, _ => trivial
  | .pub _, _, _, _, _, _ => trivial
  | .own _ _, _, _, _, _, _ => trivial
  | .bld, _, _, _, _, _ => trivial
  | .tak _, _, _, _, _, _ => trivial
  | .err, _, _, _, _, _ => trivial
  | .np, _, _, _, _, _ => trivial
  | .lnd _ _, _, _, _, _, k => by
    obtain ⟨rfl, k⟩ := k
    have := k.length
    simp at this
  | .pr _ _, _, _, _, _, ⟨u1, u2, n1, n2, e, e', k1, k2⟩ => by
    rw [List.take_nil] at k1
    rw [List.drop_nil] at k2
    refine ⟨?_, ?_⟩
    · rw [List.take_nil, List.take_nil]; exact back_lent k1
    · rw [List.drop_nil, List.drop_nil]; exact back_lent k2
  | .ptr _ _ _, _, _, _, _, ⟨b, o, arr0, ty0, arr, L, nb', e, _⟩ => by cases e
theorem resVal_sound {a : VSp} {x : a.sp.ty.den} {n n' : Nat} {v : Val} {s s' : St} (h : (resVal a x n).run s = some ((v, n'), s')) : s'.env = s.env ∧ ∀ B g w, HRel B g s.hp w → ∀ u nb, ResVal g.imm w a x u nb → PendOk g nb → (∀ b ∈ nb, g.nst b = none) →
    ∃ g', Le g g' ∧ (∀ x, x ∉ nb → g'.lab x = g.lab x ∧ g'.nst x = g.nst x) ∧ HRel B g' s'.hp w ∧ ValRel g' v u := by
  cases a with
  | one sp =>
    obtain ⟨⟨p1, p2, p3⟩, t, h1, h2⟩ := AM.bind_run h
    simp only at h2
    split at h2
    · obtain ⟨h3, rfl⟩ := run_ret h2
      injection h3 with h3 h4
      subst h3
      obtain ⟨e1, _, s1⟩ := putSp_sound sp x _ _ _ _ _ _ _ _ h1
      refine ⟨e1, fun B g w R u nb hR hp hn => ?_⟩
      obtain ⟨g', l, k, R', hc, _⟩ := s1 B g w w R (0, 0) [] [u] nb (PlaceOk.none _ _) (by rw [List.take_nil]; exact back_lent hR.2) hR.2 hp hn
      obtain ⟨u', r, e, hu, hr⟩ := hc
      injection e with e _
      subst e
      exact ⟨g', l, k, R', hu⟩
    · cases h2
  | agg sp =>
    obtain ⟨⟨p1, p2, p3⟩, t, h1, h2⟩ := AM.bind_run h
    obtain ⟨h3, rfl⟩ := run_ret h2
    injection h3 with h3 h4
    subst h3
    obtain ⟨e1, _, s1⟩ := putSp_sound sp x _ _ _ _ _ _ _ _ h1
    refine ⟨e1, fun B g w R u nb hR hp hn => ?_⟩
    obtain ⟨us, rfl, hB⟩ := hR
    obtain ⟨g', l, k, R', hc, _⟩ := s1 B g w w R (0, 0) [] us nb (PlaceOk.none _ _) (by rw [List.take_nil]; exact back_lent hB) hB hp hn
    exact ⟨g', l, k, R', us, rfl, hc⟩
theorem resVal_mono {imm imm' : Rd} (h : ∀ b L, imm b = some L → imm' b = some L) {w : World} {a : VSp} {x : a.sp.ty.den} {u : Value} {nb : List Nat} (k : ResVal imm w a x u nb) : ResVal imm' w a x u nb := by
  cases a with
  | one s => exact ⟨k.1, Back.mono h k.2⟩
  | agg s => obtain ⟨us, e, k⟩ := k; exact ⟨us, e, Back.mono h k⟩
theorem resVals_mono {imm imm' : Rd} (h : ∀ b L, imm b = some L → imm' b = some L) {w : World} : ∀ {as : List VSp} {x : (argsTy as).den} {us : List Value} {nb : List Nat}, ResVals imm w as x us nb → ResVals imm' w as x us nb
  | [], _, _, _, k => k
  | _ :: _, _, _, _, ⟨u, r, n1, n2, e, e', k1, k2⟩ => ⟨u, r, n1, n2, e, e', resVal_mono h k1, resVals_mono h k2⟩
theorem resVals_sound : ∀ {as : List VSp} {x : (argsTy as).den} {n : Nat} {vs : List Val} {s s' : St}, (resVals as x n).run s = some (vs, s') → s'.env = s.env ∧ ∀ B g w, HRel B g s.hp w → ∀ us nb, ResVals g.imm w as x us nb → PendOk g nb → (∀ b ∈ nb, g.nst b = none) →
    ∃ g', Le g g' ∧ HRel B g' s'.hp w ∧ ValsRel g' vs us
  | [], x, n, vs, s, s', h => by
    obtain ⟨rfl, rfl⟩ := run_ret h
    exact ⟨rfl, fun B g w R us nb hR _ _ => ⟨g, Le.refl g, R, hR.1⟩⟩
  | a :: as, x, n, vs, s, s', h => by
    obtain ⟨⟨p1, p2⟩, t, h1, h2⟩ := AM.bind_run h
    obtain ⟨q, t2, h3, h4⟩ := AM.bind_run h2
    obtain ⟨rfl, rfl⟩ := run_ret h4
    obtain ⟨e1, s1⟩ := resVal_sound h1
    obtain ⟨e2, s2⟩ := resVals_sound h3
    refine ⟨e2.trans e1, fun B g w R us nb hR hp hn => ?_⟩
    obtain ⟨u, r, n1, n2, rfl, rfl, k1, k2⟩ := hR
    have hnd := List.nodup_append.1 hp.1
    have hd : ∀ y ∈ n2, y ∉ n1 := fun y h2 h1 => hnd.2.2 y h1 y h2 rfl
    obtain ⟨g1, l1, t1, R1, c1⟩ := s1 B g w R u n1 k1 ⟨hnd.1, fun y hy => hp.2 y (List.mem_append_left _ hy)⟩ (fun y hy => hn y (List.mem_append_left _ hy))
    obtain ⟨g2, l2, R2, c2⟩ := s2 B g1 w R1 r n2 (resVals_mono l1.imm k2) ⟨hnd.2.1, fun y hy => by rw [(t1 y (hd y hy)).1]; exact hp.2 y (List.mem_append_right _ hy)⟩
      (fun y hy => by rw [(t1 y (hd y hy)).2]; exact hn y (List.mem_append_right _ hy))
    exact ⟨g2, l1.trans l2, R2, u, r, rfl, c1.mono l2, c2⟩
theorem resOk_mono {imm imm' : Rd} (h : ∀ b L, imm b = some L → imm' b = some L) {w : World} {r : RSp} {x : r.ty.den} {v : Value} {nb : List Nat} (k : ResOk imm w r x v nb) : ResOk imm' w r x v nb := by
  cases r with
  | val a => exact resVal_mono h k
  | tup as => obtain ⟨us, e, k⟩ := k; exact ⟨us, e, resVals_mono h k⟩
  | none => exact k
theorem resSlot_sound {r : RSp} {x : r.ty.den} {n : Nat} {sl : Slot} {s s' : St} (h : (resSlot r x n).run s = some (sl, s')) : s'.env = s.env ∧ ∀ B g w, HRel B g s.hp w → ∀ v nb, ResOk g.imm w r x v nb → PendOk g nb → (∀ b ∈ nb, g.nst b = none) →
    ∃ g', Le g g' ∧ HRel B g' s'.hp w ∧ SlotRel g' sl v := by
  cases r with
  | val a =>
    obtain ⟨⟨p1, p2⟩, t, h1, h2⟩ := AM.bind_run h
    obtain ⟨rfl, rfl⟩ := run_ret h2
    obtain ⟨e1, s1⟩ := resVal_sound h1
    refine ⟨e1, fun B g w R v nb hR hp hn => ?_⟩
    obtain ⟨g', l, _, R', hv⟩ := s1 B g w R v nb hR hp hn
    exact ⟨g', l, R', hv⟩
  | tup as =>
    obtain ⟨p, t, h1, h2⟩ := AM.bind_run h
    obtain ⟨rfl, rfl⟩ := run_ret h2
    obtain ⟨e1, s1⟩ := resVals_sound h1
    refine ⟨e1, fun B g w R v nb hR hp hn => ?_⟩
    obtain ⟨us, rfl, hR⟩ := hR
    obtain ⟨g', l, R', hv⟩ := s1 B g w R us nb hR hp hn
    exact ⟨g', l, R', us, rfl, hv⟩
  | none =>
    obtain ⟨rfl, rfl⟩ := run_ret h
    exact ⟨rfl, fun B g w R v nb hR hp hn => ⟨g, Le.refl g, R, [], by rw [hR.1], rfl⟩⟩
theorem Invokes.mono {P : Program} {f : FuncId} {args : Array Value} {w : World} {R R' : Value → World → Prop} (h : ∀ v w', R v w' → R' v w') (k : Invokes P f args w R) : Invokes P f args w R' := by
  unfold Invokes at k ⊢
  split
  · rename_i he
    rw [he] at k
    exact Calls.mono k fun e w' ⟨v, e1, hr⟩ => ⟨v, e1, h _ _ hr⟩
  · rename_i he
    rw [he] at k
    exact h _ _ k
  · rename_i h1 h2
    split at k
    · rename_i he; exact h1 _ _ _ he
    · rename_i he; exact h2 _ _ he
    · exact k
theorem run_opt {α : Type} (c : Ty) (x : Option c.den) (k : c.den → AM α) (s : St) : (AM.opt c x k).run s = x.bind fun d => (k d).run s := by cases x <;> rfl
theorem call_sound {P : Program} {glob : Nat → Option (List Cell)} {f : FuncId} {c : Callee} {dd : Nat} {vs : List Val} {s s' : St} {sl : Slot} (hc : CallOk P glob f c) (h : (call c dd vs).run s = some (sl, s')) :
    s'.env = s.env ∧ ∀ B g w, GlobOk glob g.imm → HRel B g s.hp w → ∀ us, ValsRel g vs us → Invokes P f us.toArray w fun v w' => ∃ g', Le g g' ∧ HRel B g' s'.hp w' ∧ SlotRel g' sl v := by
  obtain ⟨x, t1, h1, h2⟩ := AM.bind_run h
  have h2 := (run_opt _ _ _ _).symm.trans h2
  cases hF : c.F x with
  | none => rw [hF] at h2; cases h2
  | some y =>
    rw [hF] at h2
    obtain ⟨⟨⟩, t2, h3, h4⟩ := AM.bind_run h2
    obtain ⟨k1, s1⟩ := rdArgs_sound h1
    obtain ⟨e2, s2⟩ := outArgs_sound h3
    obtain ⟨e3, s3⟩ := resSlot_sound h4
    refine ⟨(e3.trans e2).trans k1.1, fun B g w hG R us hu => ?_⟩
    obtain ⟨g1, l1, R1, c1⟩ := s1 B g w R
    obtain ⟨nb, hP, hO, hf, hL⟩ := c1 us hu
    have hcells : ∀ b L, g1.imm b = some L → ∃ arr ty fr, w.heap[b]? = some (.cells arr ty fr) ∧ arr.toList = L := fun b L hb => (R1.imm b L hb).2.2
    have hnb : ∀ b ∈ nb, g1.imm b = none ∧ b < w.heap.size := fun b hb => by
      have hl := hO.2 b hb
      refine ⟨?_, R1.labsz b (by rw [hl]; simp)⟩
      cases hi : g1.imm b with
      | none => rfl
      | some L => have := (R1.imm b L hi).1; rw [hl] at this; cases this
    refine Invokes.mono ?_ (hc x y hF g1.imm w us nb (hG.mono l1.le.imm) hcells hP hO.1 hnb)
    rintro v w' ⟨imm', n1, n2, A, hR, hOut⟩
    obtain ⟨l2, R2, hO2, hn2⟩ := R1.after hO A
    have hL2 : LentArgs t1.hp (g1.after nb imm' (n1 ++ n2)) w c.sig.args vs us := hL.mono l2 (fun id gn cs hl => ⟨hl, rfl⟩) R1.lentLt
    have hnd := List.nodup_append.1 hO2.1
    have hd : ∀ y ∈ n1, y ∉ n2 := fun y h1 h2 => hnd.2.2 y h1 y h2 rfl
    obtain ⟨g3, l3, k3, R3⟩ := s2 B _ w w' R2 us n2 hL2 hOut ⟨hnd.2.1, fun y hy => hO2.2 y (List.mem_append_right _ hy)⟩ (fun y hy => hn2 y (List.mem_append_right _ hy))
    have hR3 : ResOk g3.imm w' c.sig.res y.1 v n1 := resOk_mono l3.imm hR
    obtain ⟨g4, l4, R4, hs⟩ := s3 B g3 w' R3 v n1 hR3 ⟨hnd.1, fun y hy => by rw [(k3 y (hd y hy)).1]; exact hO2.2 y (List.mem_append_left _ hy)⟩ (fun y hy => by rw [(k3 y (hd y hy)).2]; exact hn2 y (List.mem_append_left _ hy))
    exact ⟨g4, ((l1.le.trans l2).trans l3).trans l4, R4, hs⟩
end Go.Abs
end

section
namespace Go.Abs
structure EnvOk (E : Env) : Prop where
  calls : ∀ f c, E.callee f = some c → CallOk E.P E.glob f c
structure ActRel (E : Env) (B : Base) (g : Gh) (env : List (Nat × Slot)) (a : Act) : Prop where
  env : EnvRel g env a
  size : a.tmps.size = E.nt
  defers : a.defers = []
  kept : ∀ t ∈ E.keep, a.tmps.getD t undef = B.arg t
theorem ActRel.mono {E : Env} {B : Base} {g g' : Gh} (h : Le g g') {env : List (Nat × Slot)} {a : Act} (H : ActRel E B g env a) : ActRel E B g' env a := ⟨H.env.mono h, H.size, H.defers, H.kept⟩
def OpOk (E : Env) (op : Op) (s : St) (sl : Slot) (s' : St) : Prop :=
  s'.env = s.env ∧ ∀ (o : Oper), o.op = op → ∀ B g a w, GlobOk E.glob g.imm → HRel B g s.hp w → EnvRel g s.env a → ∀ (next : Act → World → Prop) (Q : Exit → Act → World → Prop),
    (∀ v w' g', Le g g' → HRel B g' s'.hp w' → SlotRel g' sl v → next (a.put o.dst v) w') → o.wp E.P a w next Q
theorem Yld.ok {E : Env} {op : Op} {s s' : St} {sl : Slot} (h : Yld E op s sl s') : OpOk E op s sl s' := by
  refine ⟨h.1, fun o ho B g a w _ R V next Q hn => ?_⟩
  obtain ⟨v, w', g', e, l, R', hs⟩ := h.2 o ho B g a w R V
  unfold Oper.wp
  rw [e]
  exact hn v w' g' l R' hs
theorem capsOf_vals {g : Gh} : ∀ {caps : List (Nat × Nat)} {us : List Value}, Caps g caps us → ValsRel g (caps.map fun p => .one (.ptr p.1 p.2 0)) us
  | [], _, h => h
  | p :: r, us, ⟨b, o, v, e, h1, h2, h3⟩ => ⟨_, _, e, ⟨h1, b, o, h2, rfl⟩, capsOf_vals h3⟩
theorem ValsRel.append {g : Gh} : ∀ {a b : List Val} {us vs : List Value}, ValsRel g a us → ValsRel g b vs → ValsRel g (a ++ b) (us ++ vs)
  | [], _, _, _, h, k => by have h : _ = _ := h; subst h; exact k
  | _ :: _, _, _, _, ⟨u, r, e, hu, hr⟩, k => by subst e; exact ⟨u, _, rfl, hu, hr.append k⟩
theorem callOp_sound {E : Env} (hE : EnvOk E) {c : Call} {f : Operand} (hc : c.callee = .value f) {d : Nat} {s s' : St} {sl : Slot} (h : (stepOp E d (.call c)).run s = some (sl, s')) : OpOk E (.call c) s sl s' := by
  unfold stepOp at h
  simp only [hc] at h
  obtain ⟨vs, t1, h1, h2⟩ := AM.bind_run h
  obtain ⟨v, t2, h3, h4⟩ := AM.bind_run h2
  obtain ⟨cl, t3, h5, h6⟩ := AM.bind_run h4
  obtain ⟨rfl, r1⟩ := evArgs_sound h1
  obtain ⟨rfl, r2⟩ := evV_sound h3
  obtain ⟨rfl, rfl⟩ := one_sound h5
  unfold callFn at h6
  split at h6
  · rename_i fid caps
    cases hcl : E.callee fid with
    | none => rw [hcl] at h6; cases h6
    | some cal =>
      rw [hcl] at h6
      obtain ⟨e1, hs⟩ := call_sound (hE.calls fid cal hcl) h6
      refine ⟨e1, fun o ho B g a w hG R V next Q hn => ?_⟩
      obtain ⟨us, eu, hcaps⟩ := r2 V
      have hI := hs B g w hG R _ ((r1 V).append (capsOf_vals hcaps))
      unfold Oper.wp
      have hexec : (execOp a.eval o).run E.P w = (callFunc fid ((c.args.toList.map a.eval) ++ us).toArray).run E.P w := by
        unfold execOp; rw [ho]
        have ea : (List.map a.eval c.args.toList ++ us).toArray = c.args.map a.eval ++ us.toArray := by
          apply Array.ext'
          simp
        rw [ea]
        simp only [resolve, hc]
        rw [show a.eval f = _ from eu]
        simp [Deferred.ofValue, invoke]
      rw [hexec]
      unfold Invokes at hI
      split at hI
      · rename_i f' a' w1 hrun
        rw [hrun]
        refine Calls.mono hI fun e w' ⟨v, ee, hv⟩ => ?_
        subst ee
        obtain ⟨g', l, R', hsl⟩ := hv
        exact hn v w' g' l R' hsl
      · rename_i v w1 hrun
        rw [hrun]
        obtain ⟨g', l, R', hsl⟩ := hI
        exact hn v w1 g' l R' hsl
      · exact hI.elim
  · cases h6
theorem stepOp_sound {E : Env} (hE : EnvOk E) {op : Op} {d : Nat} {s s' : St} {sl : Slot} (h : (stepOp E d op).run s = some (sl, s')) : OpOk E op s sl s' := by
  cases op with
  | move x => exact (move_sound h).1.ok
  | assign x => exact (move_sound h).2.ok
  | pick c a b => exact (pick_sound h).ok
  | alloc t => exact (alloc_sound h).ok
  | box t x => exact (box_sound h).ok
  | build t ps => exact (build_sound h).ok
  | buildSlice t n ps => exact (buildSlice_sound h).ok
  | load t x =>
    obtain ⟨e, hs⟩ := load_sound h
    refine ⟨e, fun o ho B g a w hG R V next Q hn => ?_⟩
    obtain ⟨v, w', g', e', l, R', hsl⟩ := hs o ho B g a w hG.one R V
    unfold Oper.wp
    rw [e']
    exact hn v w' g' l R' hsl
  | store t x y =>
    obtain ⟨e, rfl, hs⟩ := store_sound h
    refine ⟨e, fun o ho B g a w hG R V next Q hn => ?_⟩
    obtain ⟨w', g', e', l, R'⟩ := hs o ho B g a w R V
    unfold Oper.wp
    rw [e']
    exact hn undef w' g' l R' trivial
  | nilCheck x => exact (nilCheck_sound h).ok
  | binOp op t x y ty => exact (bin_sound h).ok
  | unOp op t x =>
    cases op with
    | not => exact (not_sound h).ok
    | neg => exact (neg_sound h).ok
    | _ => cases h
  | convert a b x => exact (convert_sound h).ok
  | makeInterface t x => exact (makeInterface_sound h).ok
  | makeFunc f a b => exact (makeFunc_sound h).ok
  | makeSlice t l c => exact (makeSlice_sound h).ok
  | slice t x lo hi mx =>
    cases mx with
    | none => exact (slice_sound h).ok
    | some m => cases h
  | fieldAddr t x i => exact (fieldAddr_sound h).ok
  | field t x i => exact (field_sound h).ok
  | indexAddr t x i => exact (indexAddr_sound h).ok
  | index t x i => exact (index_sound h).ok
  | extract t i => exact (extract_sound h).ok
  | call c =>
    cases hc : c.callee with
    | value f => exact callOp_sound hE hc h
    | builtin b =>
      cases b with
      | len => exact (len_sound hc h).ok
      | max => exact (max_sound hc h).ok
      | append => exact (append_sound hc h).ok
      | _ => unfold stepOp at h; simp only [hc] at h; cases h
    | invoke r m => unfold stepOp at h; simp only [hc] at h; cases h
  | _ => cases h
theorem getD_put (a : Act) {d t : Nat} (v : Value) (e : d ≠ t) : (a.put (some d) v).tmps.getD t undef = a.tmps.getD t undef := by
  simp [Act.put, Array.getD_eq_getD_getElem?, Array.getElem?_setIfInBounds_ne e]
theorem keep_ne {E : Env} {d : Nat} (h : (!E.keep.any (Nat.beq d)) = true) : ∀ t ∈ E.keep, d ≠ t := by
  intro t ht e
  subst e
  have : E.keep.any (Nat.beq d) = true := List.any_eq_true.2 ⟨d, ht, Nat.beq_refl d⟩
  rw [this] at h
  cases h
theorem put_rel {E : Env} {B : Base} {g : Gh} {env : List (Nat × Slot)} {a : Act} (H : ActRel E B g env a) {d : Nat} {sl : Slot} {v : Value} (hd : d < E.nt) (hk : ∀ t ∈ E.keep, d ≠ t) (hs : SlotRel g sl v) : ActRel E B g ((d, sl) :: env) (a.put (some d) v) := by
  refine ⟨fun t s ht => ?_, by simpa [Act.put] using H.size, H.defers, fun t ht => by rw [getD_put a v (hk t ht)]; exact H.kept t ht⟩
  by_cases e : d = t
  · subst e
    rw [look_same] at ht
    injection ht with ht
    subst ht
    have : (a.put (some d) v).tmps.getD d undef = v := by
      have hlt : d < a.tmps.size := by rw [H.size]; exact hd
      simp [Act.put, Array.getD, hlt]
    rw [this]
    exact hs
  · rw [look_other _ _ e] at ht
    have : (a.put (some d) v).tmps.getD t undef = a.tmps.getD t undef := by
      simp [Act.put, Array.getD_eq_getD_getElem?, Array.getElem?_setIfInBounds_ne e]
    rw [this]
    exact H.env t s ht
theorem ActRel.of_env {E : Env} {B : Base} {g : Gh} {env env' : List (Nat × Slot)} {a : Act} (H : ActRel E B g env a) (e : env' = env) : ActRel E B g env' a := by subst e; exact H
def StepOk (E : Env) (o : Oper) (s s' : St) : Prop :=
  ∀ B g a w, GlobOk E.glob g.imm → HRel B g s.hp w → ActRel E B g s.env a → ∀ (next : Act → World → Prop) (Q : Exit → Act → World → Prop),
    (∀ a' w' g', Le g g' → HRel B g' s'.hp w' → ActRel E B g' s'.env a' → next a' w') → o.wp E.P a w next Q
theorem step_sound {E : Env} (hE : EnvOk E) {n : Nat} {o : Oper} {s s' : St} (h : (step E n o).run s = some ((), s')) : StepOk E o s s' := by
  intro B g a w hG R V next Q hn
  unfold step at h
  split at h
  · rename_i d hd
    obtain ⟨hb, h1⟩ := run_if h
    obtain ⟨sl, t, h2, h3⟩ := AM.bind_run h1
    simp only [AM.run, Option.some.injEq, Prod.mk.injEq] at h3
    obtain ⟨_, rfl⟩ := h3
    obtain ⟨e, hs⟩ := stepOp_sound hE h2
    refine hs o rfl B g a w hG R V.env next Q fun v w' g' l R' hsl => hn _ w' g' l R' ?_
    rw [hd]
    simp only [Bool.and_eq_true] at hb
    refine put_rel ?_ (Nat.le_of_ble_eq_true hb.1) (keep_ne hb.2) hsl
    exact (V.mono l).of_env e
  · rename_i hd
    obtain ⟨sl, t, h2, h3⟩ := AM.bind_run h
    obtain ⟨_, rfl⟩ := run_ret h3
    obtain ⟨e, hs⟩ := stepOp_sound hE h2
    refine hs o rfl B g a w hG R V.env next Q fun v w' g' l R' hsl => hn _ w' g' l R' ?_
    rw [hd]
    exact (V.mono l).of_env e
end Go.Abs
end

section
namespace Go.Abs
def St.Eqv (s t : St) : Prop := (∀ i, look s.env i = look t.env i) ∧ ∀ i, look s.hp i = look t.hp i
theorem St.Eqv.refl (s : St) : St.Eqv s s := ⟨fun _ => rfl, fun _ => rfl⟩
theorem St.Eqv.symm {s t : St} (h : St.Eqv s t) : St.Eqv t s := ⟨fun i => (h.1 i).symm, fun i => (h.2 i).symm⟩
theorem St.Eqv.trans {s t u : St} (h : St.Eqv s t) (k : St.Eqv t u) : St.Eqv s u := ⟨fun i => (h.1 i).trans (k.1 i), fun i => (h.2 i).trans (k.2 i)⟩
theorem ActRel.congr {E : Env} {B : Base} {g : Gh} {e e' : List (Nat × Slot)} {a : Act} (h : ∀ i, look e' i = look e i) (H : ActRel E B g e a) : ActRel E B g e' a := ⟨fun t s hs => H.env t s (by rw [← h t]; exact hs), H.size, H.defers, H.kept⟩
theorem skip_ok {E : Env} {o : Oper} {s s' : St} (h : (skip E o).run s = some ((), s')) : s'.hp = s.hp ∧ ∀ B g a, ActRel E B g s.env a → ActRel E B g s'.env (a.put o.dst undef) := by
  unfold skip at h
  split at h
  · rename_i d hdst
    obtain ⟨hb, h1⟩ := run_if h
    simp only [AM.run, Option.some.injEq, Prod.mk.injEq] at h1
    obtain ⟨_, rfl⟩ := h1
    simp only [Bool.and_eq_true] at hb
    exact ⟨rfl, fun B g a V => by rw [hdst]; exact put_rel V (Nat.le_of_ble_eq_true hb.1) (keep_ne hb.2) rfl⟩
  · rename_i hdst
    obtain ⟨_, rfl⟩ := run_ret h
    exact ⟨rfl, fun B g a V => by rw [hdst]; exact V⟩
theorem nthOp_eq : ∀ (ops : List Oper) (j : Nat), nthOp ops j = ops[j]?
  | [], _ => by simp [nthOp]
  | _ :: _, 0 => rfl
  | _ :: r, j + 1 => by simp [nthOp, nthOp_eq r j]
theorem slotOf_eq (ops : List Oper) (j : Nat) : slotOf ops j = (ops.toArray[j]?).bind (·.dst) := by simp [slotOf, nthOp_eq]
theorem stepG_sound {E : Env} (hE : EnvOk E) {ops : List Oper} {n i : Nat} {o : Oper} {s s' : St} (ho : ops[i]? = some o) (h : (stepG E ops n o).run s = some ((), s')) {B : Base} {g : Gh} {a : Act} {w : World} (hG : GlobOk E.glob g.imm) (R : HRel B g s.hp w) (V : ActRel E B g s.env a)
    {K : Act → World → Prop} {Q : Exit → Act → World → Prop} (hK : ∀ a' w' g', Le g g' → HRel B g' s'.hp w' → ActRel E B g' s'.env a' → K a' w') : wpOp E.P ops.toArray Q i K a w := by
  unfold wpOp
  have ho' : ops.toArray[i]? = some o := by simpa using ho
  rw [ho']
  simp only
  unfold stepG at h
  split at h
  · rename_i hg
    have hw : Region.wanted o (yielded ops.toArray a.tmps) = true := by simp [Region.wanted, hg]
    rw [if_pos hw]
    exact .inl (step_sound hE h B g a w hG R V K Q hK)
  · rename_i j want hg
    obtain ⟨d, t, h1, h2⟩ := AM.bind_run h
    obtain ⟨hd, rfl⟩ := run_ofOpt h1
    simp only [AM.run] at h2
    split at h2
    · rename_i sl hsl
      split at h2
      · rename_i gv
        have hv : a.tmps.getD d undef = .bool gv := bool_rel (V.env d _ hsl)
        have hy : yielded ops.toArray a.tmps j = some gv := by
          unfold yielded
          rw [← slotOf_eq, hd]
          have : a.tmps[d]? = some (.bool gv) := by
            rw [Array.getD_eq_getD_getElem?] at hv
            cases hx : a.tmps[d]? with
            | none => rw [hx] at hv; simp [undef] at hv
            | some u => rw [hx] at hv; simpa using hv
          simp [this]
        rcases run_br h2 with ⟨hb, h3⟩ | ⟨hb, h3⟩
        · have hw : Region.wanted o (yielded ops.toArray a.tmps) = true := by
            simp only [Region.wanted, hg, hy]
            simpa using hb
          rw [if_pos hw]
          exact .inl (step_sound hE h3 B g a w hG R V K Q hK)
        · have hw : Region.wanted o (yielded ops.toArray a.tmps) ≠ true := by
            simp only [Region.wanted, hg, hy]
            simpa using hb
          rw [if_neg hw]
          obtain ⟨e, k⟩ := skip_ok h3
          exact hK _ _ g (Le.refl g) (by rw [e]; exact R) (k B g a V)
      · have hv : a.tmps.getD d undef = undef := V.env d _ hsl
        have hy : yielded ops.toArray a.tmps j = none := by
          unfold yielded
          rw [← slotOf_eq, hd]
          rw [Array.getD_eq_getD_getElem?] at hv
          cases hx : a.tmps[d]? with
          | none => simp [hx]
          | some u => rw [hx] at hv; simp only [Option.getD_some] at hv; subst hv; simp [hx, undef]
        have hw : Region.wanted o (yielded ops.toArray a.tmps) ≠ true := by
          simp [Region.wanted, hg, hy]
        rw [if_neg hw]
        obtain ⟨e, k⟩ := skip_ok h2
        exact hK _ _ g (Le.refl g) (by rw [e]; exact R) (k B g a V)
      · cases h2
    · cases h2
theorem stepG_bool {E : Env} {ops : List Oper} {n j d : Nat} {o : Oper} {want gv : Bool} {s : St} (hg : o.guard = some (j, want)) (hd : slotOf ops j = some d) (hs : look s.env d = some (.val (.one (.v .bool gv)))) :
    (stepG E ops n o).run s = (bif gv == want then step E (alt n) o else skip E o).run s := by
  unfold stepG
  rw [hg]
  simp only [hd, ofOpt, AM.run_bind, AM.run, Option.bind_some, hs]
  cases gv == want <;> rfl
theorem stepG_sk {E : Env} {ops : List Oper} {n j d : Nat} {o : Oper} {want : Bool} {s : St} (hg : o.guard = some (j, want)) (hd : slotOf ops j = some d) (hs : look s.env d = some .sk) :
    (stepG E ops n o).run s = (skip E o).run s := by
  unfold stepG
  rw [hg]
  simp only [hd, ofOpt, AM.run_bind, AM.run, Option.bind_some, hs]
theorem brk_some {ρ : Type} {b : Bool} {t e : Option ρ} {r : ρ} (h : brk b t e = some r) : (b = true ∧ t = some r) ∨ (b = false ∧ e = some r) := by
  rw [brk_eq] at h
  cases b
  · exact .inr ⟨rfl, h⟩
  · exact .inl ⟨rfl, h⟩
theorem exec_some {α ρ : Type} {m : AM α} {s : St} {K : α → St → Option ρ} {r : ρ} (h : m.exec s K = some r) : ∃ a t, m.run s = some (a, t) ∧ K a t = some r := by
  rw [AM.exec_run] at h
  cases hm : m.run s with
  | none => rw [hm] at h; cases h
  | some p => rw [hm] at h; exact ⟨p.1, p.2, rfl, h⟩
theorem env_eqv {s : St} {d : Nat} {x : Slot} (h : look s.env d = some x) : St.Eqv { s with env := (d, x) :: s.env } s := by
  refine ⟨fun i => ?_, fun _ => rfl⟩
  by_cases e : d = i
  · subst e; show look ((d, x) :: s.env) d = _; rw [look_same, h]
  · exact look_other _ _ e
theorem execOps_step {ρ : Type} {E : Env} {ops : List Oper} {o : Oper} {r : List Oper} {n : Nat} {s : St} {K : St → Option ρ} {x : ρ} (h : execOps E ops (o :: r) n s K = some x) :
    ∃ s0 t, St.Eqv s0 s ∧ (stepG E ops n o).run s0 = some ((), t) ∧ execOps E ops r (n + 1) t K = some x := by
  unfold execOps at h
  split at h
  · rename_i hg
    obtain ⟨⟨⟩, t, h1, h2⟩ := exec_some h
    exact ⟨s, t, St.Eqv.refl s, by unfold stepG; rw [hg]; exact h1, h2⟩
  · rename_i j want hg
    split at h
    · rename_i d hd
      split at h
      · rename_i gv hs
        rcases brk_some h with ⟨rfl, h'⟩ | ⟨rfl, h'⟩
        · obtain ⟨⟨⟩, t, h1, h2⟩ := exec_some h'
          refine ⟨_, t, env_eqv hs, ?_, h2⟩
          rw [stepG_bool hg hd (look_same _ _ _)]
          cases want <;> exact h1
        · obtain ⟨⟨⟩, t, h1, h2⟩ := exec_some h'
          refine ⟨_, t, env_eqv hs, ?_, h2⟩
          rw [stepG_bool hg hd (look_same _ _ _)]
          cases want <;> exact h1
      · rename_i hs
        obtain ⟨⟨⟩, t, h1, h2⟩ := exec_some h
        exact ⟨s, t, St.Eqv.refl s, by rw [stepG_sk hg hd hs]; exact h1, h2⟩
      · cases h
    · cases h
def KOk {ρ : Type} (E : Env) (B : Base) (K : St → Option ρ) (x : ρ) (Q : Act → World → Prop) : Prop :=
  ∀ s g a w, K s = some x → GlobOk E.glob g.imm → HRel B g s.hp w → ActRel E B g s.env a → Q a w
theorem execOps_sound {ρ : Type} {E : Env} (hE : EnvOk E) {B : Base} {ops : List Oper} {K : St → Option ρ} {x : ρ} {Q : Exit → Act → World → Prop} (hK : KOk E B K x (Q .normal)) :
    ∀ (r : List Oper) (n : Nat) (s : St), ops.drop n = r → execOps E ops r n s K = some x → ∀ g a w, GlobOk E.glob g.imm → HRel B g s.hp w → ActRel E B g s.env a → wpOps E.P ops.toArray Q (List.range' n r.length) a w
  | [], n, s, hr, h, g, a, w, hG, R, V => hK s g a w h hG R V
  | o :: r, n, s, hr, h, g, a, w, hG, R, V => by
    obtain ⟨s0, t, e, h1, h2⟩ := execOps_step h
    rw [List.length_cons, List.range'_succ, wpOps_cons]
    have ho : ops[n]? = some o := by
      have := congrArg (·[0]?) hr
      simpa [List.getElem?_drop] using this
    have hr' : ops.drop (n + 1) = r := by
      rw [← List.drop_drop, hr]; rfl
    exact stepG_sound hE ho h1 hG (R.congr e.2) (V.congr e.1) fun a' w' g' l R' V' => execOps_sound hE hK r (n + 1) t hr' h2 g' a' w' (hG.mono l.imm) R' V'
end Go.Abs
end

section
namespace Go.Abs
def AM.runL {α : Type} : AM α → St → List Nat → List Nat → Option (α × St × List Nat × List Nat)
  | .ret a, s, r, w => some (a, s, r, w)
  | .br b t e, s, r, w => bif b then t.runL s r w else e.runL s r w
  | .fail, _, _, _ => none
  | .getS t k, s, r, w => match look s.env t with
    | some x => (k x).runL s ((2 * t) :: r) w
    | none => none
  | .putS t x k, s, r, w => k.runL { s with env := (t, x) :: s.env } r ((2 * t) :: w)
  | .getO i k, s, r, w => (k (look s.hp i)).runL s ((2 * i + 1) :: r) w
  | .putO i o k, s, r, w => k.runL { s with hp := (i, o) :: s.hp } r ((2 * i + 1) :: w)
  | .opt _ x k, s, r, w => match x with
    | some d => (k d).runL s r w
    | none => none
theorem AM.execL_runL {α ρ : Type} (m : AM α) : ∀ (s : St) (r w : List Nat) (K : α → St → List Nat → List Nat → Option ρ), m.execL s r w K = (m.runL s r w).bind fun p => K p.1 p.2.1 p.2.2.1 p.2.2.2 := by
  induction m with
  | ret a => intro s r w K; rfl
  | br b t e iht ihe => intro s r w K; cases b <;> simp [execL, runL, iht, ihe, brk_eq]
  | fail => intro s r w K; rfl
  | getS t k ih => intro s r w K; simp only [execL, runL]; cases look s.env t <;> simp [ih]
  | putS t x k ih => intro s r w K; simp [execL, runL, ih]
  | getO i k ih => intro s r w K; simp [execL, runL, ih]
  | putO i o k ih => intro s r w K; simp [execL, runL, ih]
  | opt c x k ih => intro s r w K; cases x <;> simp [execL, runL, ih]
theorem AM.runL_run {α : Type} (m : AM α) : ∀ {s s' : St} {r w r' w' : List Nat} {a : α}, m.runL s r w = some (a, s', r', w') → m.run s = some (a, s') := by
  induction m with
  | ret a => intro s s' r w r' w' x h; simp only [runL, Option.some.injEq, Prod.mk.injEq] at h; simp [run, h.1, h.2.1]
  | br b t e iht ihe => intro s s' r w r' w' x h; cases b <;> simp only [runL, run, cond_true, cond_false] at h ⊢ <;> first | exact iht h | exact ihe h
  | fail => intro s s' r w r' w' x h; cases h
  | getS t k ih =>
    intro s s' r w r' w' x h
    simp only [runL, run] at h ⊢
    cases hl : look s.env t with
    | none => rw [hl] at h; cases h
    | some y => rw [hl] at h; exact ih _ h
  | putS t x k ih => intro s s' r w r' w' x h; exact ih h
  | getO i k ih => intro s s' r w r' w' x h; exact ih _ h
  | putO i o k ih => intro s s' r w r' w' x h; exact ih h
  | opt c x k ih =>
    intro s s' r w r' w' y h
    cases x with
    | none => cases h
    | some d => exact ih d h
def St.get (s : St) (p : Nat) : Option Slot ⊕ Option Obj := if p % 2 = 0 then .inl (look s.env (p / 2)) else .inr (look s.hp (p / 2))
theorem get_slot (s : St) (t : Nat) : s.get (2 * t) = .inl (look s.env t) := by unfold St.get; rw [if_pos (by omega), show 2 * t / 2 = t by omega]
theorem get_obj (s : St) (i : Nat) : s.get (2 * i + 1) = .inr (look s.hp i) := by unfold St.get; rw [if_neg (by omega), show (2 * i + 1) / 2 = i by omega]
theorem get_putS (s : St) (t : Nat) (x : Slot) (p : Nat) : St.get { s with env := (t, x) :: s.env } p = if p = 2 * t then .inl (some x) else s.get p := by
  unfold St.get
  by_cases hp : p % 2 = 0
  · simp only [hp, if_true]
    by_cases e : p = 2 * t
    · subst e; rw [if_pos rfl, show 2 * t / 2 = t by omega, look_same]
    · rw [if_neg e, look_other _ _ (by omega)]
  · simp only [hp, if_false]
    rw [if_neg (by omega)]
theorem get_putO (s : St) (i : Nat) (o : Obj) (p : Nat) : St.get { s with hp := (i, o) :: s.hp } p = if p = 2 * i + 1 then .inr (some o) else s.get p := by
  unfold St.get
  by_cases hp : p % 2 = 0
  · simp only [hp, if_true]
    rw [if_neg (by omega)]
  · simp only [hp, if_false]
    by_cases e : p = 2 * i + 1
    · subst e; rw [if_pos rfl, show (2 * i + 1) / 2 = i by omega, look_same]
    · rw [if_neg e, look_other _ _ (by omega)]
theorem eqv_get {s t : St} : St.Eqv s t ↔ ∀ p, s.get p = t.get p := by
  constructor
  · intro h p
    unfold St.get
    rw [h.1, h.2]
  · intro h
    refine ⟨fun i => ?_, fun i => ?_⟩
    · have := h (2 * i)
      rw [get_slot, get_slot] at this
      injection this
    · have := h (2 * i + 1)
      rw [get_obj, get_obj] at this
      injection this
theorem AM.runL_local {α : Type} (m : AM α) : ∀ {s s' : St} {r0 w0 r w : List Nat} {a : α}, m.runL s r0 w0 = some (a, s', r, w) →
    (∀ p ∈ r0, p ∈ r) ∧ (∀ p ∈ w0, p ∈ w) ∧ (∀ p, p ∉ w → s'.get p = s.get p) ∧ ∀ t : St, (∀ p ∈ r, t.get p = s.get p) →
      ∃ t', m.runL t r0 w0 = some (a, t', r, w) ∧ (∀ p, p ∉ w → t'.get p = t.get p) ∧ (∀ p, t.get p = s.get p → t'.get p = s'.get p) ∧ ∀ p ∈ w, p ∉ w0 → t'.get p = s'.get p := by
  induction m with
  | ret a =>
    intro s s' r0 w0 r w x h
    simp only [runL, Option.some.injEq, Prod.mk.injEq] at h
    obtain ⟨rfl, rfl, rfl, rfl⟩ := h
    exact ⟨fun _ h => h, fun _ h => h, fun _ _ => rfl, fun t ht => ⟨t, rfl, fun _ _ => rfl, fun _ h => h, fun p h1 h2 => absurd h1 h2⟩⟩
  | br b t e iht ihe =>
    intro s s' r0 w0 r w x h
    cases b
    · exact ihe h
    · exact iht h
  | fail => intro s s' r0 w0 r w x h; cases h
  | getS t k ih =>
    intro s s' r0 w0 r w x h
    simp only [runL] at h
    split at h
    · rename_i sl hsl
      obtain ⟨h1, h2, h3, h4⟩ := ih _ h
      refine ⟨fun p hp => h1 p (List.mem_cons_of_mem _ hp), h2, h3, fun u hu => ?_⟩
      have hx := hu (2 * t) (h1 _ (List.mem_cons_self ..))
      rw [get_slot, get_slot] at hx
      injection hx with hx
      obtain ⟨t', a1, a2⟩ := h4 u hu
      refine ⟨t', ?_, a2⟩
      simp only [runL, hx, hsl]
      exact a1
    · cases h
  | putS t x k ih =>
    intro s s' r0 w0 r w y h
    obtain ⟨h1, h2, h3, h4⟩ := ih h
    have hm : 2 * t ∈ w := h2 _ (List.mem_cons_self ..)
    refine ⟨h1, fun p hp => h2 p (List.mem_cons_of_mem _ hp), fun p hp => ?_, fun u hu => ?_⟩
    · rw [h3 p hp, get_putS, if_neg (show p ≠ 2 * t from fun e => hp (by rw [e]; exact hm))]
    · obtain ⟨t', a1, a2, a3, a4⟩ := h4 { u with env := (t, x) :: u.env } (fun p hp => by rw [get_putS, get_putS, hu p hp])
      refine ⟨t', a1, fun p hp => ?_, fun p hp => a3 p (by rw [get_putS, get_putS, hp]), fun p hp hp0 => ?_⟩
      · rw [a2 p hp, get_putS, if_neg (show p ≠ 2 * t from fun e => hp (by rw [e]; exact hm))]
      · by_cases e : p = 2 * t
        · exact a3 p (by rw [get_putS, get_putS, if_pos e, if_pos e])
        · exact a4 p hp (fun hm => by rcases List.mem_cons.1 hm with h | h; exact e h; exact hp0 h)
  | getO i k ih =>
    intro s s' r0 w0 r w x h
    obtain ⟨h1, h2, h3, h4⟩ := ih _ h
    refine ⟨fun p hp => h1 p (List.mem_cons_of_mem _ hp), h2, h3, fun u hu => ?_⟩
    have hx := hu (2 * i + 1) (h1 _ (List.mem_cons_self ..))
    rw [get_obj, get_obj] at hx
    injection hx with hx
    obtain ⟨t', a1, a2⟩ := h4 u hu
    refine ⟨t', ?_, a2⟩
    simp only [runL, hx]
    exact a1
  | putO i o k ih =>
    intro s s' r0 w0 r w y h
    obtain ⟨h1, h2, h3, h4⟩ := ih h
    have hm : 2 * i + 1 ∈ w := h2 _ (List.mem_cons_self ..)
    refine ⟨h1, fun p hp => h2 p (List.mem_cons_of_mem _ hp), fun p hp => ?_, fun u hu => ?_⟩
    · rw [h3 p hp, get_putO, if_neg (show p ≠ 2 * i + 1 from fun e => hp (by rw [e]; exact hm))]
    · obtain ⟨t', a1, a2, a3, a4⟩ := h4 { u with hp := (i, o) :: u.hp } (fun p hp => by rw [get_putO, get_putO, hu p hp])
      refine ⟨t', a1, fun p hp => ?_, fun p hp => a3 p (by rw [get_putO, get_putO, hp]), fun p hp hp0 => ?_⟩
      · rw [a2 p hp, get_putO, if_neg (show p ≠ 2 * i + 1 from fun e => hp (by rw [e]; exact hm))]
      · by_cases e : p = 2 * i + 1
        · exact a3 p (by rw [get_putO, get_putO, if_pos e, if_pos e])
        · exact a4 p hp (fun hm => by rcases List.mem_cons.1 hm with h | h; exact e h; exact hp0 h)
  | opt c x k ih =>
    intro s s' r0 w0 r w y h
    cases x with
    | none => cases h
    | some d => exact ih d h
theorem execL_some {α ρ : Type} {m : AM α} {s : St} {r w : List Nat} {K : α → St → List Nat → List Nat → Option ρ} {x : ρ} (h : m.execL s r w K = some x) : ∃ a t rd wr, m.runL s r w = some (a, t, rd, wr) ∧ K a t rd wr = some x := by
  rw [AM.execL_runL] at h
  cases hm : m.runL s r w with
  | none => rw [hm] at h; cases h
  | some p => rw [hm] at h; exact ⟨p.1, p.2.1, p.2.2.1, p.2.2.2, rfl, h⟩
theorem AM.runL_bind {α β : Type} (m : AM α) (f : α → AM β) : ∀ s r w, (m.bind f).runL s r w = (m.runL s r w).bind fun p => (f p.1).runL p.2.1 p.2.2.1 p.2.2.2 := by
  induction m with
  | ret a => intro s r w; rfl
  | br b t e iht ihe => intro s r w; cases b <;> simp [AM.bind, AM.runL, iht, ihe]
  | fail => intro s r w; rfl
  | getS t k ih => intro s r w; simp only [AM.bind, AM.runL]; cases look s.env t <;> simp [ih]
  | putS t x k ih => intro s r w; simp [AM.bind, AM.runL, ih]
  | getO i k ih => intro s r w; simp [AM.bind, AM.runL, ih]
  | putO i o k ih => intro s r w; simp [AM.bind, AM.runL, ih]
  | opt c x k ih => intro s r w; cases x <;> simp [AM.bind, AM.runL, ih]
theorem stepG_boolL {E : Env} {ops : List Oper} {n j d : Nat} {o : Oper} {want gv : Bool} {s : St} (hg : o.guard = some (j, want)) (hd : slotOf ops j = some d) (hs : look s.env d = some (.val (.one (.v .bool gv)))) :
    (stepG E ops n o).runL s [] [] = (bif gv == want then step E (alt n) o else skip E o).runL s [2 * d] [] := by
  unfold stepG
  rw [hg]
  simp only [hd, ofOpt, AM.runL_bind, AM.runL, Option.bind_some, hs]
  cases gv == want <;> rfl
theorem stepG_skL {E : Env} {ops : List Oper} {n j d : Nat} {o : Oper} {want : Bool} {s : St} (hg : o.guard = some (j, want)) (hd : slotOf ops j = some d) (hs : look s.env d = some .sk) :
    (stepG E ops n o).runL s [] [] = (skip E o).runL s [2 * d] [] := by
  unfold stepG
  rw [hg]
  simp only [hd, ofOpt, AM.runL_bind, AM.runL, Option.bind_some, hs]
theorem execOpsL_step {ρ : Type} {E : Env} {ops : List Oper} {o : Oper} {r : List Oper} {n : Nat} {s : St} {L : Log} {K : St → Log → Option ρ} {x : ρ} (h : execOpsL E ops (o :: r) n s L K = some x) :
    ∃ s0 t rd wr, St.Eqv s0 s ∧ (stepG E ops n o).runL s0 [] [] = some ((), t, rd, wr) ∧ execOpsL E ops r (n + 1) t ((rd, wr) :: L) K = some x := by
  unfold execOpsL at h
  split at h
  · rename_i hg
    obtain ⟨⟨⟩, t, rd, wr, h1, h2⟩ := execL_some h
    exact ⟨s, t, rd, wr, St.Eqv.refl s, by unfold stepG; rw [hg]; exact h1, h2⟩
  · rename_i j want hg
    split at h
    · rename_i d hd
      split at h
      · rename_i gv hs
        rcases brk_some h with ⟨rfl, h'⟩ | ⟨rfl, h'⟩
        · obtain ⟨⟨⟩, t, rd, wr, h1, h2⟩ := execL_some h'
          refine ⟨_, t, rd, wr, env_eqv hs, ?_, h2⟩
          rw [stepG_boolL hg hd (look_same _ _ _)]
          cases want <;> exact h1
        · obtain ⟨⟨⟩, t, rd, wr, h1, h2⟩ := execL_some h'
          refine ⟨_, t, rd, wr, env_eqv hs, ?_, h2⟩
          rw [stepG_boolL hg hd (look_same _ _ _)]
          cases want <;> exact h1
      · rename_i hs
        obtain ⟨⟨⟩, t, rd, wr, h1, h2⟩ := execL_some h
        exact ⟨s, t, rd, wr, St.Eqv.refl s, by rw [stepG_skL hg hd hs]; exact h1, h2⟩
      · cases h
    · cases h
structure Way (E : Env) (ops : List Oper) (n : Nat) (st : Nat → St) (rw_ : Nat → List Nat × List Nat) : Prop where
  step : ∀ i o, n ≤ i → ops[i]? = some o → ∃ pre, St.Eqv pre (st i) ∧ (stepG E ops i o).runL pre [] [] = some ((), st (i + 1), (rw_ i).1, (rw_ i).2)
theorem way_of {ρ : Type} {E : Env} {ops : List Oper} {K : St → Log → Option ρ} {x : ρ} : ∀ (r : List Oper) (n : Nat) (s : St) (L : Log), ops.drop n = r → execOpsL E ops r n s L K = some x →
    ∃ st rw_, st n = s ∧ Way E ops n st rw_ ∧ K (st (n + r.length)) (((List.range' n r.length).map rw_).reverse ++ L) = some x
  | [], n, s, L, hr, h => by
    refine ⟨fun _ => s, fun _ => ([], []), rfl, ⟨fun i o hi ho => ?_⟩, h⟩
    have : ops.length ≤ n := List.drop_eq_nil_iff.1 hr
    rw [List.getElem?_eq_none (by omega)] at ho
    cases ho
  | o :: r, n, s, L, hr, h => by
    obtain ⟨s0, t, rd, wr, e, h1, h2⟩ := execOpsL_step h
    have ho : ops[n]? = some o := by
      have := congrArg (·[0]?) hr
      simpa [List.getElem?_drop] using this
    have hr' : ops.drop (n + 1) = r := by rw [← List.drop_drop, hr]; rfl
    obtain ⟨st, rw_, k1, k2, k3⟩ := way_of r (n + 1) t _ hr' h2
    refine ⟨fun i => if i = n then s else st i, fun i => if i = n then (rd, wr) else rw_ i, by simp, ⟨fun i o' hi ho' => ?_⟩, ?_⟩
    · by_cases e' : i = n
      · subst e'
        rw [ho] at ho'
        injection ho' with ho'
        subst ho'
        refine ⟨s0, by simpa using e, ?_⟩
        rw [if_neg (by omega), if_pos rfl, k1]
        exact h1
      · obtain ⟨pre, a1, a2⟩ := k2.step i o' (by omega) ho'
        refine ⟨pre, by simpa [e'] using a1, ?_⟩
        simp only [e', if_false]
        rw [if_neg (by omega)]
        exact a2
    · rw [List.length_cons, List.range'_succ, List.map_cons, List.reverse_cons, List.append_assoc, if_pos rfl]
      have em : (List.range' (n + 1) r.length).map (fun i => if i = n then (rd, wr) else rw_ i) = (List.range' (n + 1) r.length).map rw_ := by
        apply List.map_congr_left
        intro i hi
        have := (List.mem_range'_1.1 hi).1
        rw [if_neg (by omega)]
      rw [em]
      have es : (fun i => if i = n then s else st i) (n + (r.length + 1)) = st (n + 1 + r.length) := by
        show (if n + (r.length + 1) = n then s else st (n + (r.length + 1))) = _
        rw [if_neg (by omega), show n + (r.length + 1) = n + 1 + r.length by omega]
      rw [es]
      exact k3
end Go.Abs
end

section
namespace Go.Abs
theorem mem_eq (n : Nat) : ∀ l : List Nat, mem n l = true ↔ n ∈ l
  | [] => by simp [mem]
  | m :: r => by
    simp only [mem, Bool.or_eq_true, mem_eq n r, List.mem_cons]
    constructor
    · rintro (h | h)
      · exact .inl (beq_eq h).symm
      · exact .inr h
    · rintro (h | h)
      · exact .inl (by rw [h]; exact Nat.beq_refl m)
      · exact .inr h
theorem meet_false {a b : List Nat} (h : meet a b = false) : ∀ p ∈ a, p ∉ b := by
  induction a with
  | nil => intro p hp; simp at hp
  | cons x r ih =>
    simp only [meet, Bool.or_eq_false_iff] at h
    intro p hp hb
    rcases List.mem_cons.1 hp with rfl | hp
    · have := (mem_eq p b).2 hb
      rw [this] at h; cases h.1
    · exact ih h.2 p hp hb
def Apart (x y : List Nat × List Nat) : Prop := (∀ p ∈ x.2, p ∉ y.2) ∧ (∀ p ∈ x.2, p ∉ y.1) ∧ ∀ p ∈ x.1, p ∉ y.2
theorem apartOne_sound {x : List Nat × List Nat} {bx : List Nat} : ∀ {L : Log} {n : Nat}, apartOne x bx L n = true → ∀ k y, L[k]? = some y → (n - 1 - k) ∈ bx ∨ Apart x y
  | [], _, _, k, y, hy => by simp at hy
  | z :: r, n, h, k, y, hy => by
    simp only [apartOne, Bool.and_eq_true, Bool.or_eq_true, Bool.not_eq_true', Bool.or_eq_false_iff] at h
    cases k with
    | zero =>
      have hz : z = y := by simpa using hy
      subst hz
      rcases h.1 with h1 | h1
      · exact .inl (by simpa using (mem_eq _ _).1 h1)
      · exact .inr ⟨meet_false h1.1.1, meet_false h1.1.2, meet_false h1.2⟩
    | succ k =>
      have := apartOne_sound h.2 k y (by simpa using hy)
      rw [show n - 1 - (k + 1) = n - 1 - 1 - k by omega]
      exact this
theorem apart_sound : ∀ {L : Log} {bs : List (List Nat)} {n : Nat}, apart L bs n = true → ∀ k x, L[k]? = some x → ∃ bx, bs[k]? = some bx ∧ ∀ k' y, k < k' → L[k']? = some y → (n - 1 - k') ∈ bx ∨ Apart x y
  | [], _, _, _, k, x, hx => by simp at hx
  | z :: r, [], _, h, _, _, _ => by cases h
  | z :: r, bz :: bs, n, h, k, x, hx => by
    simp only [apart, Bool.and_eq_true] at h
    cases k with
    | zero =>
      have hz : z = x := by simpa using hx
      subst hz
      refine ⟨bz, rfl, fun k' y hk hy => ?_⟩
      cases k' with
      | zero => omega
      | succ k' =>
        have := apartOne_sound h.1 k' y (by simpa using hy)
        rw [show n - 1 - (k' + 1) = n - 1 - 1 - k' by omega]
        exact this
    | succ k =>
      obtain ⟨bx, h1, h2⟩ := apart_sound h.2 k x (by simpa using hx)
      refine ⟨bx, by simpa using h1, fun k' y hk hy => ?_⟩
      cases k' with
      | zero => omega
      | succ k' =>
        have := h2 k' y (by omega) (by simpa using hy)
        rw [show n - 1 - (k' + 1) = n - 1 - 1 - k' by omega]
        exact this
theorem befs_get : ∀ (es acc : List (List Nat)), ∀ j, acc.length ≤ j → ∀ e, es[j - acc.length]? = some e → ∃ b, (befs es acc)[j]? = some b ∧ ∀ i, i ∈ b → i ∈ e ∨ ∃ k ∈ e, k < j ∧ ∃ bk, (befs es acc)[k]? = some bk ∧ i ∈ bk := by
  have pre : ∀ (es acc : List (List Nat)), ∃ tl, befs es acc = acc ++ tl := by
    intro es
    induction es with
    | nil => intro acc; exact ⟨[], by simp [befs]⟩
    | cons e es ih =>
      intro acc
      obtain ⟨tl, h⟩ := ih (acc ++ [e.flatMap fun i => i :: acc.getD i []])
      exact ⟨_, by rw [befs, h, List.append_assoc]⟩
  intro es
  induction es with
  | nil => intro acc j hj e he; simp at he
  | cons e0 es ih =>
    intro acc j hj e he
    by_cases hj' : j = acc.length
    · subst hj'
      have : e0 = e := by simpa using he
      subst this
      obtain ⟨tl, h⟩ := pre es (acc ++ [e0.flatMap fun i => i :: acc.getD i []])
      refine ⟨e0.flatMap fun i => i :: acc.getD i [], by rw [befs, h]; simp, fun i hi => ?_⟩
      obtain ⟨k, hk, hi⟩ := List.mem_flatMap.1 hi
      rcases List.mem_cons.1 hi with rfl | hi
      · exact .inl hk
      · right
        rw [List.getD_eq_getElem?_getD] at hi
        cases hak : acc[k]? with
        | none => rw [hak] at hi; simp at hi
        | some bk =>
          have hlt := (List.getElem?_eq_some_iff.1 hak).1
          rw [hak] at hi
          refine ⟨k, hk, hlt, bk, ?_, by simpa using hi⟩
          rw [befs, h, List.append_assoc, List.getElem?_append_left hlt, hak]
    · rw [befs]
      exact ih _ j (by simp; omega) e (by
        have : j - acc.length = (j - (acc ++ [e0.flatMap fun i => i :: acc.getD i []]).length) + 1 := by simp; omega
        rw [this] at he
        simpa using he)
theorem edgesOk_sound : ∀ {es : List (List Nat)} {n : Nat}, edgesOk es n = true → ∀ j e, es[j]? = some e → ∀ i ∈ e, i < n + j
  | [], _, _, j, e, he => by simp at he
  | e0 :: es, n, h, j, e, he => by
    simp only [edgesOk, Bool.and_eq_true, List.all_eq_true] at h
    cases j with
    | zero =>
      have : e0 = e := by simpa using he
      subst this
      intro i hi
      exact Nat.le_of_ble_eq_true (h.1 i hi)
    | succ j =>
      intro i hi
      have := edgesOk_sound h.2 j e (by simpa using he) i hi
      omega
section
variable {E : Env} {ops : List Oper} {st : Nat → St} {lg : Nat → List Nat × List Nat}
def held (st : Nat → St) (lg : Nat → List Nat × List Nat) (D : Nat → Bool) (p : Nat) : Nat → Option Slot ⊕ Option Obj
  | 0 => (st 0).get p
  | k + 1 => open Classical in if D k = true ∧ p ∈ (lg k).2 then (st (k + 1)).get p else held st lg D p k
theorem held_none {D : Nat → Bool} {p : Nat} {i : Nat} : ∀ {n : Nat}, i ≤ n → (∀ k, i ≤ k → k < n → D k = true → p ∉ (lg k).2) → held st lg D p n = held st lg D p i
  | 0, hi, _ => by have : i = 0 := by omega
                   subst this; rfl
  | n + 1, hi, h => by
    by_cases e : i = n + 1
    · subst e; rfl
    · rw [held, if_neg (fun hc => h n (by omega) (by omega) hc.1 hc.2)]
      exact held_none (by omega) fun k h1 h2 => h k h1 (by omega)
theorem held_all (W : Way E ops 0 st lg) {D : Nat → Bool} {p : Nat} : ∀ {i : Nat}, i ≤ ops.length → (∀ k, k < i → p ∈ (lg k).2 → D k = true) → held st lg D p i = (st i).get p
  | 0, _, _ => rfl
  | i + 1, hi, h => by
    rw [held]
    split
    · rfl
    · rename_i hc
      have hp : p ∉ (lg i).2 := fun hm => hc ⟨h i (by omega) hm, hm⟩
      rw [held_all W (by omega) fun k hk => h k (by omega)]
      have ho : ops[i]? = some (ops[i]'(by omega)) := List.getElem?_eq_getElem _
      obtain ⟨pre, a1, a2⟩ := W.step i _ (Nat.zero_le _) ho
      have := (AM.runL_local _ a2).2.2.1 p hp
      rw [this, (eqv_get.1 a1 p)]
structure Order (ops : List Oper) (lg : Nat → List Nat × List Nat) (b : Nat → List Nat) : Prop where
  direct : ∀ j o, ops[j]? = some o → ∀ e ∈ o.after, Region.binds .any e = true → e.on < j
  closed : ∀ j o, ops[j]? = some o → ∀ i ∈ b j, (∃ e ∈ o.after, Region.binds .any e = true ∧ e.on = i) ∨ ∃ e ∈ o.after, Region.binds .any e = true ∧ i ∈ b e.on
  apart : ∀ i j, i < j → j < ops.length → i ∈ b j ∨ Apart (lg j) (lg i)
theorem order_of (he : edgesOk (edges ops) 0 = true) (ha : apart ((List.range' 0 ops.length).map lg).reverse (befs (edges ops) []).reverse ops.length = true) :
    ∃ b, Order ops lg b := by
  have hedge : ∀ (j : Nat) (o : Oper), ops[j]? = some o → (edges ops)[j]? = some (o.after.toList.filterMap fun e => bif Region.binds .any e then some e.on else none) := by
    intro j o ho
    unfold edges
    rw [List.getElem?_map, ho]
    rfl
  have hmemE : ∀ (o : Oper) (i : Nat), i ∈ (o.after.toList.filterMap fun e => bif Region.binds .any e then some e.on else none) ↔ ∃ e ∈ o.after, Region.binds .any e = true ∧ e.on = i := by
    intro o i
    rw [List.mem_filterMap]
    constructor
    · rintro ⟨e, h1, h2⟩
      cases hb : Region.binds .any e with
      | false => rw [hb] at h2; cases h2
      | true => rw [hb] at h2; injection h2 with h2; exact ⟨e, by simpa using h1, hb, h2⟩
    · rintro ⟨e, h1, h2, h3⟩
      exact ⟨e, by simpa using h1, by rw [h2]; simp [h3]⟩
  refine ⟨fun j => ((befs (edges ops) [])[j]?).getD [], ⟨fun j o ho e hm hb => ?_, fun j o ho i hi => ?_, fun i j hij hj => ?_⟩⟩
  · have := edgesOk_sound he j _ (hedge j o ho) e.on ((hmemE o _).2 ⟨e, hm, hb, rfl⟩)
    omega
  · obtain ⟨b, h1, h2⟩ := befs_get (edges ops) [] j (Nat.zero_le _) _ (by simpa using hedge j o ho)
    rw [h1] at hi
    rcases h2 i (by simpa using hi) with h | ⟨k, hk, _, bk, hbk, hik⟩
    · exact .inl ((hmemE o i).1 h)
    · obtain ⟨e, a1, a2, a3⟩ := (hmemE o k).1 hk
      refine .inr ⟨e, a1, a2, ?_⟩
      rw [a3, hbk]
      simpa using hik
  · have hx : (((List.range' 0 ops.length).map lg).reverse)[ops.length - 1 - j]? = some (lg j) := by
      rw [List.getElem?_reverse (by simp; omega)]
      simp only [List.length_map, List.length_range']
      rw [show ops.length - 1 - (ops.length - 1 - j) = j by omega, List.getElem?_map, List.getElem?_range' (by omega)]
      simp
    have hy : (((List.range' 0 ops.length).map lg).reverse)[ops.length - 1 - i]? = some (lg i) := by
      rw [List.getElem?_reverse (by simp; omega)]
      simp only [List.length_map, List.length_range']
      rw [show ops.length - 1 - (ops.length - 1 - i) = i by omega, List.getElem?_map, List.getElem?_range' (by omega)]
      simp
    obtain ⟨bx, h1, h2⟩ := apart_sound ha _ _ hx
    rcases h2 _ _ (by omega) hy with h | h
    · left
      rw [show ops.length - 1 - (ops.length - 1 - i) = i by omega] at h
      have hlen : (befs (edges ops) []).length = ops.length := by
        have : ∀ (es acc : List (List Nat)), (befs es acc).length = acc.length + es.length := by
          intro es
          induction es with
          | nil => intro acc; simp [befs]
          | cons e es ih => intro acc; rw [befs, ih]; simp; omega
        rw [this]; simp [edges]
      rw [List.getElem?_reverse (by omega), hlen, show ops.length - 1 - (ops.length - 1 - j) = j by omega] at h1
      rw [h1]
      exact h
    · exact .inr h
def done (listed : Array Bool) (i : Nat) : Bool := listed.getD i false
theorem drawn_sound {ρ : Type} (hE : EnvOk E) {B : Base} {K : St → Option ρ} {x : ρ} {Q : Exit → Act → World → Prop} (hK : KOk E B K x (Q .normal)) (W : Way E ops 0 st lg) {b : Nat → List Nat} (O : Order ops lg b) (hfin : K (st ops.length) = some x)
    (hcongr : ∀ s t, St.Eqv s t → K s = some x → ∀ g a w, GlobOk E.glob g.imm → HRel B g t.hp w → ActRel E B g t.env a → Q .normal a w) :
    ∀ (fuel : Nat) (listed : Array Bool) (t : St), listed.size = ops.length → ((List.range ops.length).filter fun i => !done listed i).length = fuel →
      (∀ j, j < ops.length → done listed j = true → ∀ i ∈ b j, done listed i = true) → (∀ p, t.get p = held st lg (done listed) p ops.length) →
      ∀ g a w, GlobOk E.glob g.imm → HRel B g t.hp w → ActRel E B g t.env a → wpAny E.P .any ops.toArray Q fuel listed a w := by
  have full : ∀ (listed : Array Bool) (t : St), (∀ i, i < ops.length → done listed i = true) → (∀ p, t.get p = held st lg (done listed) p ops.length) → St.Eqv (st ops.length) t := by
    intro listed t hall ht
    rw [eqv_get]
    intro p
    rw [ht p, held_all W (Nat.le_refl _) fun k hk _ => hall k hk]
  have empty : ∀ (listed : Array Bool), listed.size = ops.length → Region.ready .any ops.toArray listed = [] → ∀ i, i < ops.length → done listed i = true := by
    intro listed hsz hr i
    induction i using Nat.strongRecOn with
    | _ i ih =>
      intro hi
      cases hd : done listed i with
      | true => rfl
      | false =>
        exfalso
        have hm : i ∈ Region.ready .any ops.toArray listed := by
          rw [mem_ready]
          refine ⟨?_, ops[i], by simp [hi], fun e he hb => ?_⟩
          · unfold done at hd
            have hlt : i < listed.size := by omega
            simp [Array.getD, hlt] at hd ⊢
            exact hd
          · have := O.direct i ops[i] (List.getElem?_eq_getElem hi) e he hb
            exact ih e.on this (by omega)
        rw [hr] at hm
        simp at hm
  intro fuel
  induction fuel with
  | zero =>
    intro listed t hsz hcount hclosed ht g a w hG R V
    have hall : ∀ i, i < ops.length → done listed i = true := by
      intro i hi
      have h0 := List.eq_nil_of_length_eq_zero hcount
      rw [List.filter_eq_nil_iff] at h0
      have := h0 i (List.mem_range.2 hi)
      simpa using this
    refine ⟨?_, hcongr _ _ (full listed t hall ht) hfin g a w hG R V⟩
    rw [List.eq_nil_iff_forall_not_mem]
    intro i hm
    obtain ⟨h1, o, h2, _⟩ := mem_ready.1 hm
    have hi : i < ops.length := by
      rcases Nat.lt_or_ge i ops.length with h | h
      · exact h
      · simp [h] at h2
    have := hall i hi
    have hlt : i < listed.size := by omega
    unfold done at this
    simp [Array.getD, hlt] at this h1
    rw [this] at h1; cases h1
  | succ fuel ih =>
    intro listed t hsz hcount hclosed ht g a w hG R V
    refine ⟨fun hr => hcongr _ _ (full listed t (empty listed hsz hr) ht) hfin g a w hG R V, fun i hi => ?_⟩
    obtain ⟨h1, o, h2, h3⟩ := mem_ready.1 hi
    have hil : i < ops.length := by
      rcases Nat.lt_or_ge i ops.length with h | h
      · exact h
      · simp [h] at h2
    have ho : ops[i]? = some o := by simpa using h2
    have hnd : done listed i = false := by
      have hlt : i < listed.size := by omega
      unfold done
      simp [Array.getD, hlt] at h1 ⊢
      exact h1
    obtain ⟨pre, a1, a2⟩ := W.step i o (Nat.zero_le _) ho
    have hbi : ∀ k ∈ b i, done listed k = true := by
      intro k hk
      rcases O.closed i o ho k hk with ⟨e, e1, e2, e3⟩ | ⟨e, e1, e2, e3⟩
      · rw [← e3]; exact h3 e e1 e2
      · have hlt := O.direct i o ho e e1 e2
        exact hclosed e.on (by omega) (h3 e e1 e2) k e3
    have later : ∀ k, i < k → k < ops.length → done listed k = true → Apart (lg k) (lg i) := by
      intro k hik hk hdk
      rcases O.apart i k hik hk with h | h
      · have := hclosed k hk hdk i h
        rw [hnd] at this; cases this
      · exact h
    have agree : ∀ p ∈ (lg i).1, t.get p = pre.get p := by
      intro p hp
      rw [ht p, eqv_get.1 a1 p]
      rw [held_none (i := i) (by omega) (fun k h1 h2 hdk hm => by
        by_cases e : k = i
        · subst e; rw [hnd] at hdk; cases hdk
        · exact (later k (by omega) h2 hdk).2.1 p hm hp)]
      exact held_all W (by omega) fun k hk hm => by
        rcases O.apart k i hk hil with h | h
        · exact hbi k h
        · exact absurd hm (h.2.2 p hp)
    obtain ⟨_, _, _, hloc⟩ := AM.runL_local _ a2
    obtain ⟨t', b1, b2, b3, b4⟩ := hloc t agree
    have hrun := AM.runL_run _ b1
    refine stepG_sound hE ho hrun hG R V fun a' w' g' l R' V' => ?_
    have hset : ∀ k, done (listed.setIfInBounds i true) k = (done listed k || decide (k = i)) := by
      intro k
      unfold done
      by_cases e : k = i
      · subst e
        have hlt : k < listed.size := by omega
        simp [Array.getD, hlt]
      · have : (listed.setIfInBounds i true).getD k false = listed.getD k false := getD_set_ne false (Ne.symm e)
        rw [this]; simp [e]
    refine ih (listed.setIfInBounds i true) t' (by simpa using hsz) ?_ ?_ ?_ g' a' w' (hG.mono l.imm) R' V'
    · have key : ∀ (l : List Nat), l.Nodup → i ∈ l → (l.filter fun k => !done listed k).length = (l.filter fun k => !done (listed.setIfInBounds i true) k).length + 1 := by
        intro l
        induction l with
        | nil => intro _ h; simp at h
        | cons y r ihl =>
          intro hn hm
          rw [List.nodup_cons] at hn
          by_cases e : y = i
          · subst e
            have hr : (r.filter fun k => !done (listed.setIfInBounds y true) k) = (r.filter fun k => !done listed k) := by
              apply List.filter_congr
              intro k hk
              have : k ≠ y := fun e => hn.1 (e ▸ hk)
              rw [hset k]; simp [this]
            rw [List.filter_cons_of_pos (by simp [hnd]), List.filter_cons_of_neg (by simp [hset]), hr]
            rfl
          · have hm' : i ∈ r := by
              rcases List.mem_cons.1 hm with h | h
              · exact absurd h.symm e
              · exact h
            have he : (!done (listed.setIfInBounds i true) y) = (!done listed y) := by rw [hset y]; simp [e]
            have := ihl hn.2 hm'
            cases hd : done listed y with
            | true => rw [List.filter_cons_of_neg (by simp [hd]), List.filter_cons_of_neg (by simp [hset, hd])]; exact this
            | false => rw [List.filter_cons_of_pos (by simp [hd]), List.filter_cons_of_pos (by simp [hset, hd, e])]; simp [this]
      have := key (List.range ops.length) List.nodup_range (List.mem_range.2 hil)
      omega
    · intro j hj hdj k hk
      rw [hset] at hdj ⊢
      simp only [Bool.or_eq_true, decide_eq_true_eq] at hdj ⊢
      rcases hdj with h | h
      · exact .inl (hclosed j hj h k hk)
      · subst h; exact .inl (hbi k hk)
    · intro p
      by_cases hp : p ∈ (lg i).2
      · rw [b4 p hp (by simp)]
        rw [held_none (i := i + 1) (by omega) (fun k h1 h2 hdk hm => by
          rw [hset] at hdk
          simp only [Bool.or_eq_true, decide_eq_true_eq] at hdk
          rcases hdk with h | h
          · exact (later k (by omega) h2 h).1 p hm hp
          · omega)]
        rw [held, if_pos ⟨by rw [hset]; simp, hp⟩]
      · rw [b2 p hp, ht p]
        have : ∀ n, held st lg (done listed) p n = held st lg (done (listed.setIfInBounds i true)) p n := by
          intro n
          induction n with
          | zero => rfl
          | succ n ihn =>
            rw [held, held, ihn]
            by_cases e : n = i
            · subst e
              rw [if_neg (fun h => hp h.2), if_neg (fun h => hp h.2)]
            · have : done (listed.setIfInBounds i true) n = done listed n := by rw [hset]; simp [e]
              rw [this]
        exact this _
end
theorem HRel.drew {B : Base} {g : Gh} {hp : List (Nat × Obj)} {w : World} (R : HRel B g hp w) (n : Nat) : HRel B g hp { w with drawn := n } :=
  ⟨R.top, R.objs, R.imm, R.nst, R.labsz, R.imm0, R.frame, R.size, R.os, R.tape, R.output, R.fix⟩
theorem execRegion_sound {ρ : Type} {E : Env} (hE : EnvOk E) (hm : E.P.follows .mixedOrders = true) {B : Base} {id : Nat} {ops : Array Oper} {draw : Bool} {K : St → Option ρ} {x : ρ} {Q : Exit → Act → World → Prop} (hK : KOk E B K x (Q .normal))
    {s : St} (h : execRegion E ops.toList draw s K = some x) {g : Gh} {a : Act} {w : World} (hG : GlobOk E.glob g.imm) (R : HRel B g s.hp w) (V : ActRel E B g s.env a) : (Code.region id ops draw).wp E.P Q a w := by
  cases draw with
  | false =>
    have h : execOps E ops.toList ops.toList 0 s K = some x := h
    apply wp_region
    have := execOps_sound hE hK ops.toList 0 s rfl h g a w hG R V
    rw [List.range_eq_range']
    simpa using this
  | true =>
    have h : execOpsL E ops.toList ops.toList 0 s [] (fun s' L => bif edgesOk (edges ops.toList) 0 && apart L (befs (edges ops.toList) []).reverse ops.toList.length then K s' else none) = some x := h
    obtain ⟨st, lg, k1, W, k3⟩ := way_of ops.toList 0 s [] rfl h
    cases hc : (edgesOk (edges ops.toList) 0 && apart (((List.range' 0 ops.toList.length).map lg).reverse ++ []) (befs (edges ops.toList) []).reverse ops.toList.length) with
    | false => rw [hc] at k3; cases k3
    | true =>
      rw [hc] at k3
      simp only [Bool.and_eq_true, List.append_nil] at hc
      obtain ⟨b, O⟩ := order_of hc.1 hc.2
      apply wp_region_any hm
      have := drawn_sound hE (Q := Q) hK W O (by simpa using k3) (fun s t e hs g a w hG R V => hK s g a w hs hG (R.congr e.2) (V.congr e.1)) ops.toList.length (Array.replicate ops.toList.length false) s (by simp) (by
          have : ∀ i, done (Array.replicate ops.toList.length false) i = false := by
            intro i
            unfold done
            simp [Array.getD_eq_getD_getElem?, Array.getElem?_replicate]
            split <;> rfl
          rw [List.filter_eq_self.2 (fun i _ => by rw [this]; rfl), List.length_range]) (fun j _ hd => by
          exfalso
          unfold done at hd
          simp [Array.getD_eq_getD_getElem?, Array.getElem?_replicate] at hd
          split at hd <;> cases hd) (fun p => by
          rw [held_none (i := 0) (Nat.zero_le _) (fun k _ _ hd => by
            exfalso
            unfold done at hd
            simp [Array.getD_eq_getD_getElem?, Array.getElem?_replicate] at hd
            split at hd <;> cases hd)]
          show _ = (st 0).get p
          rw [k1]) g a { w with drawn := w.drawn + 1 } hG (R.drew _) V
      simpa using this
end Go.Abs
end

section
namespace Go.Abs
noncomputable def Gh.nameBox (g : Gh) (id gen : Nat) (u : Value) (L : List Value) : Gh :=
  open Classical in
  { g with top := fun i => if i = id then gen + 1 else g.top i
           cv := fun i k => if i = id ∧ k = gen then u else g.cv i k
           outer := fun i => if i = id then L else g.outer i }
theorem HRel.namedBox {B : Base} {g : Gh} {hp : List (Nat × Obj)} {w : World} (R : HRel B g hp w) (id : Nat) (u : Value) (L : List Value) :
    Le g (g.nameBox id (g.top id) u L) ∧ HRel B (g.nameBox id (g.top id) u L) ((id, .lent (g.top id) (0, [])) :: hp) w := by
  have hle : Le g (g.nameBox id (g.top id) u L) := by
    refine ⟨fun _ _ h => h, fun i => ?_, fun i k hk => ?_⟩
    · show g.top i ≤ if i = id then g.top id + 1 else g.top i
      split
      · rename_i e; subst e; omega
      · exact Nat.le_refl _
    · show (if i = id ∧ k = g.top id then u else g.cv i k) = g.cv i k
      rw [if_neg]
      rintro ⟨rfl, rfl⟩
      omega
  refine ⟨hle, fun i => ?_, fun i oi hi => ?_, R.imm, R.nst, R.labsz, R.imm0, R.frame, R.size, R.os, R.tape, R.output, R.fix⟩
  · show (if i = id then g.top id + 1 else g.top i) = _
    by_cases e : id = i
    · subst e; rw [look_same, if_pos rfl]; rfl
    · rw [look_other _ _ e, if_neg (fun h => e h.symm)]; exact R.top i
  · by_cases e : id = i
    · subst e; rw [look_same] at hi; injection hi with hi; subst hi; trivial
    · rw [look_other _ _ e] at hi
      exact (R.objs i oi hi).tr hle (fun b hb => ⟨hb, rfl, rfl⟩) (by simp only [Gh.nameBox]; rw [if_neg (fun h => e h.symm)]) (live_of R hi)
def FreeFrom (hp : List (Nat × Obj)) (n : Nat) : Prop := ∀ i, n ≤ i → look hp i = none
theorem HRel.top_free {B : Base} {g : Gh} {hp : List (Nat × Obj)} {w : World} (R : HRel B g hp w) {i : Nat} (h : look hp i = none) : g.top i = 0 := by rw [R.top i, h]
def MkOk (cells : List Cell) (objs : List (Nat × Obj)) (n n' : Nat) (B : Base) (g : Gh) (hp : List (Nat × Obj)) (w : World) (us : List Value) (nb : List Nat) : Prop :=
  n ≤ n' ∧ FreeFrom (objs ++ hp) n' ∧ (∀ i, i < n → look (objs ++ hp) i = look hp i) ∧ ∃ g', Le g g' ∧ (∀ y, y ∉ nb → g'.lab y = g.lab y ∧ g'.nst y = g.nst y) ∧ (∀ i, i < n → g'.outer i = g.outer i) ∧ HRel B g' (objs ++ hp) w ∧ CellsRel g' cells us
theorem mk0_row {τ : Ty} {dp : Bool} {x : List τ.den} {n : Nat} {B : Base} {g : Gh} {hp : List (Nat × Obj)} {w : World} {us : List Value} {nb : List Nat} (R : HRel B g hp w) (hP : OwnAt g.imm w (dp && !τ.flat) τ x us nb) (hO : PendOk g nb) (hn : ∀ b ∈ nb, g.nst b = none) (hf : FreeFrom hp n) :
    MkOk [.own n 0] [(n, .own 0 τ (dp || τ.flat) x)] n (n + 1) B g hp w us nb := by
  have ht := R.top_free (hf n (Nat.le_refl _))
  have hfree : ∀ o : Obj, FreeFrom ([(n, o)] ++ hp) (n + 1) := fun o i hi => by
    show look ((n, o) :: hp) i = none
    rw [look_other _ _ (by omega)]; exact hf i (by omega)
  have hold : ∀ o : Obj, ∀ i, i < n → look ([(n, o)] ++ hp) i = look hp i := fun o i hi => look_other _ _ (by omega)
  rcases hP with ⟨rfl, hx, rfl⟩ | ⟨b, cap, arr, ty, nb', rfl, rfl, ha, hl, hs, hE⟩
  · subst hx
    obtain ⟨l, R'⟩ := R.named (id := n) (u := .slice none 0 0) (o' := .own (g.top n) τ (dp || τ.flat) []) rfl (.inl ⟨by simp [Gh.name], rfl⟩)
    refine ⟨Nat.le_succ _, hfree _, hold _, _, l.le, fun x _ => ⟨rfl, rfl⟩, fun _ _ => rfl, ?_, ⟨_, [], rfl, ⟨?_, ?_, rfl⟩, rfl⟩⟩
    · rw [ht] at R'; rw [ht]; exact R'
    · simp [Gh.name]
    · simp [Gh.name, ht]
  · have hb0 := hO.2 b (List.mem_cons_self ..)
    have hnd := List.nodup_cons.1 hO.1
    have hflag : ((dp || τ.flat) && !τ.flat) = (dp && !τ.flat) := by cases dp <;> cases τ.flat <;> rfl
    obtain ⟨g', l, hk, ho, R', hc⟩ := R.adopt (id := n) (deep := dp || τ.flat) (τ := τ) (xs := x) (nb := nb') hb0 (hn b (List.mem_cons_self ..)) hnd.1 ha hl hs hnd.2 (fun y hy => ⟨hO.2 y (List.mem_cons_of_mem _ hy), by
      unfold OwnEls at hE
      split at hE
      · exact hE.nst_some y hy
      · rw [hE.2] at hy; simp at hy⟩) (by rw [hflag]; exact hE)
    rw [ht] at R' hc
    refine ⟨Nat.le_succ _, hfree _, hold _, g', l, fun y hy => ?_, fun i hi => ho i (by omega), R', ⟨_, [], rfl, hc, rfl⟩⟩
    rw [List.mem_cons, not_or] at hy
    exact hk y hy.1 hy.2
theorem mk0_sound : ∀ (sp : Sp) (x : sp.ty.den) (pl : Nat × Nat) (n : Nat) (ib : Bool) {B : Base} {g : Gh} {hp : List (Nat × Obj)} {w : World} {rp : Nat × Nat} {us : List Value} {nb : List Nat}, sp.whole ib = true → (ib = true → PlaceOk g (some (pl.1, 0, pl.2)) rp) → HRel B g hp w → Pass g.imm w sp x rp us nb → PendOk g nb → (∀ b ∈ nb, g.nst b = none) → FreeFrom hp n →
    MkOk (mk0 sp x pl n).1 (mk0 sp x pl n).2.1 n (mk0 sp x pl n).2.2 B g hp w us nb := by
  intro sp
  induction sp with
  | un => intro x pl n ib B g hp w rp us nb hw hpl R hP hO hn hf; exact ⟨Nat.le_refl _, hf, fun _ _ => rfl, g, Le.refl g, fun _ _ => ⟨rfl, rfl⟩, fun _ _ => rfl, R, hP.1⟩
  | pub τ =>
    intro x pl n ib B g hp w rp us nb hw hpl R hP hO hn hf
    obtain ⟨_, h1, u, rfl, hr⟩ := hP
    exact ⟨Nat.le_refl _, hf, fun _ _ => rfl, g, Le.refl g, fun _ _ => ⟨rfl, rfl⟩, fun _ _ => rfl, R, u, [], rfl, ⟨h1, hr⟩, rfl⟩
  | err =>
    intro x pl n ib B g hp w rp us nb hw hpl R hP hO hn hf
    obtain ⟨_, u, rfl, hr⟩ := hP
    exact ⟨Nat.le_refl _, hf, fun _ _ => rfl, g, Le.refl g, fun _ _ => ⟨rfl, rfl⟩, fun _ _ => rfl, R, u, [], rfl, hr, rfl⟩
  | np =>
    intro x pl n ib B g hp w rp us nb hw hpl R hP hO hn hf
    obtain ⟨_, rfl⟩ := hP
    exact ⟨Nat.le_refl _, hf, fun _ _ => rfl, g, Le.refl g, fun _ _ => ⟨rfl, rfl⟩, fun _ _ => rfl, R, _, [], rfl, rfl, rfl⟩
  | own τ dp => intro x pl n ib B g hp w rp us nb hw hpl R hP hO hn hf; exact mk0_row R hP hO hn hf
  | lnd τ dp => intro x pl n ib B g hp w rp us nb hw hpl R hP hO hn hf; exact mk0_row R hP hO hn hf
  | tak ok => intro x pl n ib B g hp w rp us nb hw; cases hw
  | bld =>
    intro x pl n ib B g hp w rp us nb hw hpl R hP hO hn hf
    have hib : ib = true := hw
    obtain ⟨hbg, bb, oo, hcv, rfl⟩ := hpl hib _ _ _ rfl
    have hB : BldAt g.imm w (bb, oo + pl.2) x us nb := hP
    have hlt : pl.1 < n := by
      rcases Nat.lt_or_ge pl.1 n with h | h
      · exact h
      · have := R.top_free (hf pl.1 h)
        omega
    have two : ∃ u1 u2, us = [u1, u2] ∧ oc u1 = true := by
      rcases hB with ⟨e, _⟩ | ⟨u2, e, _⟩
      · exact ⟨_, _, e, rfl⟩
      · exact ⟨_, _, e, rfl⟩
    obtain ⟨u1, u2, rfl, ho1⟩ := two
    have ht := R.top_free (hf n (Nat.le_refl _))
    have ht2 := R.top_free (hf (n + 1) (by omega))
    obtain ⟨l1, R1⟩ := R.named (id := n) (u := u1) (o' := .dead (g.top n)) rfl trivial
    have hcv1 : (g.name n (g.top n) u1).cv n (g.top n) = u1 := by simp [Gh.name]
    have ht1 : g.top n < (g.name n (g.top n) u1).top n := by simp [Gh.name]
    have ht3 : (g.name n (g.top n) u1).top (n + 1) = 0 := by simp [Gh.name, ht2]
    obtain ⟨g2, l2, k2, o2, R2, c2⟩ := R1.adoptBld (id := n + 1) (a := n) (ag := g.top n) (bid := pl.1) (bg := 0) (off := pl.2) (xs := x) (u2 := u2) (nb := nb) ht1 (Nat.lt_of_lt_of_le hbg (l1.le.top _)) (by omega) (hO.mono l1) hn ((l1.le.cv _ _ hbg).trans hcv) (by rw [hcv1]; exact hB)
    have hc1 : CellRel g2 (.own n (g.top n)) u1 := ⟨Nat.lt_of_lt_of_le ht1 (l2.top _), by rw [l2.cv _ _ ht1, hcv1], ho1⟩
    rw [ht3] at R2 c2
    rw [ht] at R2 hc1
    refine ⟨Nat.le_add_right n 2, fun i hi => ?_, fun i hi => ?_, g2, l1.le.trans l2, k2, fun i hi => by rw [o2, l1.out], R2, ⟨u1, [u2], rfl, hc1, u2, [], rfl, c2, rfl⟩⟩
    · have hi : n + 2 ≤ i := hi
      show look ((n + 1, _) :: (n, _) :: hp) i = none
      rw [look_other _ _ (by omega), look_other _ _ (by omega)]; exact hf i (by omega)
    · show look ((n + 1, _) :: (n, _) :: hp) i = _
      rw [look_other _ _ (by omega), look_other _ _ (by omega)]
  | pr a b iha ihb =>
    intro x pl n ib B g hp w rp us nb hw hpl R hP hO hn hf
    simp only [Sp.whole, Bool.and_eq_true] at hw
    obtain ⟨u1, u2, n1, n2, rfl, rfl, P1, P2⟩ := hP
    have hnd := List.nodup_append.1 hO.1
    have hd : ∀ y ∈ n2, y ∉ n1 := fun y h2 h1 => hnd.2.2 y h1 y h2 rfl
    obtain ⟨m1, f1, i1, g1, l1, k1, o1, R1, c1⟩ := iha x.1 pl n ib hw.1 hpl R P1 ⟨hnd.1, fun y hy => hO.2 y (List.mem_append_left _ hy)⟩ (fun y hy => hn y (List.mem_append_left _ hy)) hf
    obtain ⟨m2, f2, i2, g2, l2, k2, o2, R2, c2⟩ := ihb x.2 (pl.1, pl.2 + a.size) _ ib hw.2 (fun e => (((hpl e).mono l1).on a.size)) R1 (P2.mono l1.imm) ⟨hnd.2.1, fun y hy => by rw [(k1 y (hd y hy)).1]; exact hO.2 y (List.mem_append_right _ hy)⟩
      (fun y hy => by rw [(k1 y (hd y hy)).2]; exact hn y (List.mem_append_right _ hy)) f1
    refine ⟨Nat.le_trans m1 m2, ?_, fun i hi => ?_, g2, l1.trans l2, fun y hy => ?_, fun i hi => (o2 i (by omega)).trans (o1 i hi), ?_, (c1.mono l2).append c2⟩
    · show FreeFrom ((_ ++ _) ++ hp) _
      rw [List.append_assoc]; exact f2
    · show look ((_ ++ _) ++ hp) i = _
      rw [List.append_assoc, i2 i (by omega), i1 i hi]
    · rw [List.mem_append, not_or] at hy
      obtain ⟨a1, a2⟩ := k1 y hy.1
      obtain ⟨b1, b2⟩ := k2 y hy.2
      exact ⟨b1.trans a1, b2.trans a2⟩
    · show HRel B g2 ((_ ++ _) ++ hp) w
      rw [List.append_assoc]; exact R2
  | ptr wh st sp ih =>
    intro x pl n ib B g hp w rp us nb hw hpl R hP hO hn hf
    simp only [Sp.whole, Bool.and_eq_true] at hw
    obtain ⟨b, o, arr, ty, nb', rfl, rfl, ha, hwh, hle0, P⟩ := hP
    obtain ⟨rfl, hsz, rfl⟩ := hwh.1 hw.1
    have hnd := List.nodup_cons.1 hO.1
    have ht := R.top_free (hf n (Nat.le_refl _))
    obtain ⟨l0, R0⟩ := R.namedBox n (.pointer (some ⟨b, 0, none⟩)) arr.toList
    have hcv0 : (g.nameBox n (g.top n) (.pointer (some ⟨b, 0, none⟩)) arr.toList).cv n 0 = .pointer (some ⟨b, 0, none⟩) := by simp [Gh.nameBox, ht]
    have htop0 : 0 < (g.nameBox n (g.top n) (.pointer (some ⟨b, 0, none⟩)) arr.toList).top n := by simp [Gh.nameBox]
    have hout0 : (g.nameBox n (g.top n) (.pointer (some ⟨b, 0, none⟩)) arr.toList).outer n = arr.toList := by simp [Gh.nameBox]
    have houtn : ∀ i, i < n → (g.nameBox n (g.top n) (.pointer (some ⟨b, 0, none⟩)) arr.toList).outer i = g.outer i := fun i hi => by
      simp only [Gh.nameBox]
      rw [if_neg (by omega)]
    have hlab0 : (g.nameBox n (g.top n) (.pointer (some ⟨b, 0, none⟩)) arr.toList).lab = g.lab := rfl
    have hnst0 : (g.nameBox n (g.top n) (.pointer (some ⟨b, 0, none⟩)) arr.toList).nst = g.nst := rfl
    have P0 : Pass (g.nameBox n (g.top n) (.pointer (some ⟨b, 0, none⟩)) arr.toList).imm w sp x (b, 0) ((arr.toList.drop 0).take sp.size) nb' := P
    generalize g.nameBox n (g.top n) (.pointer (some ⟨b, 0, none⟩)) arr.toList = g0 at l0 R0 hcv0 htop0 hout0 houtn hlab0 hnst0 P0
    rw [ht] at R0
    obtain ⟨m1, f1, i1, g1, l1, k1, o1, R1, c1⟩ := ih x (n, 0) (n + 1) true hw.2 (fun _ id gen off e => by
        injection e with e; injection e with e1 e; injection e with e2 e3
        subst e1; subst e2; subst e3
        exact ⟨htop0, b, 0, hcv0, rfl⟩) R0 P0 ⟨hnd.2, fun y hy => by rw [hlab0]; exact hO.2 y (List.mem_cons_of_mem _ hy)⟩ (fun y hy => by rw [hnst0]; exact hn y (List.mem_cons_of_mem _ hy)) (fun i hi => by rw [look_other _ _ (by omega)]; exact hf i (by omega))
    obtain ⟨q1, q2⟩ := k1 b hnd.1
    rw [hlab0] at q1
    rw [hnst0] at q2
    have hall : (arr.toList.drop 0).take sp.size = arr.toList := by
      rw [List.drop_zero]; exact List.take_of_length_le (by simp [hsz])
    rw [hall] at c1
    have hlk : look ((mk0 sp x (n, 0) (n + 1)).2.1 ++ ((n, Obj.lent 0 (0, [])) :: hp)) n = some (.lent 0 (0, [])) := by rw [i1 n (by omega), look_same]
    have hb0 : g1.lab b = some 0 := q1.trans (hO.2 b (List.mem_cons_self ..))
    have hbn : g1.nst b = none := q2.trans (hn b (List.mem_cons_self ..))
    have hcv1 : g1.cv n 0 = .pointer (some ⟨b, 0, none⟩) := (l1.cv _ _ htop0).trans hcv0
    have hout1 : g1.outer n = arr.toList := (o1 n (by omega)).trans hout0
    let g2 : Gh := { g1 with lab := open Classical in fun x => if x = b then some (n + 1) else g1.lab x }
    have hle2 : Le g1 g2 := ⟨fun _ _ h => h, fun _ => Nat.le_refl _, fun _ _ _ => rfl⟩
    have R2 : HRel B g2 ((n, .box 0 (st.1, (mk0 sp x (n, 0) (n + 1)).1)) :: ((mk0 sp x (n, 0) (n + 1)).2.1 ++ ((n, Obj.lent 0 (0, [])) :: hp))) w := by
      refine R1.unlend hb0 hbn hlk rfl ⟨b, 0, arr, st.1, arr.toList, hcv1, ⟨by simp, hbn⟩, ha, c1.mono hle2, ?_, ?_, rfl, ?_, rfl⟩
      · show arr.toList = (g1.outer n).take 0 ++ arr.toList ++ (g1.outer n).drop (0 + arr.toList.length)
        rw [hout1]; simp
      · show 0 + arr.toList.length ≤ (g1.outer n).length
        rw [hout1]; simp
      · show (g1.outer n).length = (mk0 sp x (n, 0) (n + 1)).1.length
        rw [hout1]; exact c1.length
    have hcong : ∀ i, look ((n, Obj.box 0 (st.1, (mk0 sp x (n, 0) (n + 1)).1)) :: ((mk0 sp x (n, 0) (n + 1)).2.1 ++ hp)) i = look ((n, Obj.box 0 (st.1, (mk0 sp x (n, 0) (n + 1)).1)) :: ((mk0 sp x (n, 0) (n + 1)).2.1 ++ ((n, Obj.lent 0 (0, [])) :: hp))) i := by
      intro i
      by_cases e : n = i
      · subst e; rw [look_same, look_same]
      · rw [look_other _ _ e, look_other _ _ e]
        have app : ∀ (l : List (Nat × Obj)), look (l ++ hp) i = look (l ++ ((n, Obj.lent 0 (0, [])) :: hp)) i := by
          intro l
          induction l with
          | nil => exact (look_other _ _ e).symm
          | cons p l ih =>
            show (bif Nat.beq p.1 i then some p.2 else look (l ++ hp) i) = (bif Nat.beq p.1 i then some p.2 else look (l ++ ((n, Obj.lent 0 (0, [])) :: hp)) i)
            rw [ih]
        exact app _
    refine ⟨by show n ≤ (mk0 sp x (n, 0) (n + 1)).2.2; omega, fun i hi => ?_, fun i hi => ?_, g2, (l0.trans l1).trans hle2, fun y hy => ?_, fun i hi => (o1 i (by omega)).trans (houtn i hi), R2.congr hcong, ⟨_, [], rfl, ⟨Nat.lt_of_lt_of_le htop0 (l1.top n), b, 0, hcv1, rfl⟩, rfl⟩⟩
    · have hi : (mk0 sp x (n, 0) (n + 1)).2.2 ≤ i := hi
      have := f1 i hi
      have h2 := hcong i
      rw [look_other _ _ (by omega), look_other _ _ (by omega)] at h2
      show look ((n, _) :: ((mk0 sp x (n, 0) (n + 1)).2.1 ++ hp)) i = none
      rw [look_other _ _ (by omega), h2]; exact this
    · have h2 := hcong i
      rw [look_other _ _ (by omega), look_other _ _ (by omega)] at h2
      show look ((n, _) :: ((mk0 sp x (n, 0) (n + 1)).2.1 ++ hp)) i = _
      rw [look_other _ _ (by omega), h2, i1 i (by omega), look_other _ _ (by omega)]
    · rw [List.mem_cons, not_or] at hy
      obtain ⟨a1, a2⟩ := k1 y hy.2
      exact ⟨by simp [g2, hy.1, a1, hlab0], by rw [show g2.nst = g1.nst from rfl, a2, hnst0]⟩
def SlotsAre (a : Act) : List Nat → List Value → Prop
  | [], us => us = []
  | t :: ts, us => ∃ u r, us = u :: r ∧ a.tmps.getD t undef = u ∧ SlotsAre a ts r
theorem mkSlots_sound {a : Act} : ∀ (as : List VSp) (ts : List Nat) (x : (argsTy as).den) (n : Nat) {B : Base} {g : Gh} {hp : List (Nat × Obj)} {w : World} {us : List Value} {nb : List Nat}, wholeArgs as = true → HRel B g hp w → PassArgs g.imm w as x us nb → PendOk g nb → (∀ b ∈ nb, g.nst b = none) → FreeFrom hp n →
    SlotsAre a ts us → ∃ g', Le g g' ∧ HRel B g' ((mkSlots as ts x n).2 ++ hp) w ∧ ∀ t s, (t, s) ∈ (mkSlots as ts x n).1 → SlotRel g' s (a.tmps.getD t undef)
  | [], ts, x, n, B, g, hp, w, us, nb, hwa, R, hP, hO, hn, hf, hs => ⟨g, Le.refl g, R, fun t s h => by simp [mkSlots] at h⟩
  | sp :: as, [], x, n, B, g, hp, w, us, nb, hwa, R, hP, hO, hn, hf, hs => ⟨g, Le.refl g, R, fun t s h => by simp [mkSlots] at h⟩
  | sp :: as, t :: ts, x, n, B, g, hp, w, us, nb, hwa, R, hP, hO, hn, hf, hs => by
    simp only [wholeArgs, Bool.and_eq_true] at hwa
    obtain ⟨u, r, n1, n2, rfl, rfl, P1, P2⟩ := hP
    obtain ⟨u', r', e, hu, hs'⟩ := hs
    injection e with e1 e2
    subst e1; subst e2
    have hnd := List.nodup_append.1 hO.1
    have hd : ∀ y ∈ n2, y ∉ n1 := fun y h2 h1 => hnd.2.2 y h1 y h2 rfl
    have hO1 : PendOk g n1 := ⟨hnd.1, fun y hy => hO.2 y (List.mem_append_left _ hy)⟩
    have hn1 : ∀ y ∈ n1, g.nst y = none := fun y hy => hn y (List.mem_append_left _ hy)
    have one : ∃ m g1, n ≤ m ∧ m = (mkVal0 sp x.1 n).2.2 ∧ FreeFrom ((mkVal0 sp x.1 n).2.1 ++ hp) m ∧ Le g g1 ∧ (∀ y, y ∉ n1 → g1.lab y = g.lab y ∧ g1.nst y = g.nst y) ∧ HRel B g1 ((mkVal0 sp x.1 n).2.1 ++ hp) w ∧ ∀ v, (mkVal0 sp x.1 n).1 = some v → ValRel g1 v u := by
      cases sp with
      | one s =>
        obtain ⟨m1, f1, _, g1, l1, k1, _, R1, c1⟩ := mk0_sound s x.1 (0, 0) n false hwa.1 (fun e => by cases e) R P1.2 hO1 hn1 hf
        refine ⟨_, g1, m1, rfl, f1, l1, k1, R1, fun v hv => ?_⟩
        simp only [mkVal0] at hv
        split at hv
        · rename_i c hc
          injection hv with hv
          subst hv
          rw [hc] at c1
          obtain ⟨u'', r'', e'', hu'', _⟩ := c1
          injection e'' with e''
          subst e''
          exact hu''
        · cases hv
      | agg s =>
        obtain ⟨us', rfl, P1⟩ := P1
        obtain ⟨m1, f1, _, g1, l1, k1, _, R1, c1⟩ := mk0_sound s x.1 (0, 0) n false hwa.1 (fun e => by cases e) R P1 hO1 hn1 hf
        refine ⟨_, g1, m1, rfl, f1, l1, k1, R1, fun v hv => ?_⟩
        injection hv with hv
        subst hv
        exact ⟨us', rfl, c1⟩
    obtain ⟨m, g1, m1, em, f1, l1, k1, R1, c1⟩ := one
    subst em
    have P2' : PassArgs g1.imm w as x.2 r n2 := by
      have : ∀ (as : List VSp) (x : (argsTy as).den) (us : List Value) (nb : List Nat), PassArgs g.imm w as x us nb → PassArgs g1.imm w as x us nb := by
        intro as
        induction as with
        | nil => intro x us nb h; exact h
        | cons a as ih => intro x us nb h; obtain ⟨u, r, n1, n2, e, e', h1, h2⟩ := h; exact ⟨u, r, n1, n2, e, e', h1.mono l1.imm, ih _ _ _ h2⟩
      exact this _ _ _ _ P2
    obtain ⟨g2, l2, R2, c2⟩ := mkSlots_sound as ts x.2 (mkVal0 sp x.1 n).2.2 hwa.2 R1 P2' ⟨hnd.2.1, fun y hy => by rw [(k1 y (hd y hy)).1]; exact hO.2 y (List.mem_append_right _ hy)⟩
      (fun y hy => by rw [(k1 y (hd y hy)).2]; exact hn y (List.mem_append_right _ hy)) f1 hs'
    refine ⟨g2, l1.trans l2, ?_, fun t' s ht => ?_⟩
    · show HRel B g2 ((_ ++ _) ++ hp) w
      rw [List.append_assoc]; exact R2
    · simp only [mkSlots] at ht
      split at ht
      · rename_i v hv
        rcases List.mem_cons.1 ht with ht | ht
        · injection ht with h1 h2
          subst h1; subst h2
          show ValRel g2 v _
          rw [hu]
          exact ValRel.mono l2 (c1 v hv)
        · exact c2 t' s ht
      · exact c2 t' s ht
theorem look_mem {β : Type} : ∀ {l : List (Nat × β)} {n : Nat} {b : β}, look l n = some b → (n, b) ∈ l
  | [], _, _, h => by cases h
  | (m, c) :: r, n, b, h => by
    simp only [look] at h
    cases e : Nat.beq m n with
    | true => rw [e] at h; injection h with h; subst h; rw [beq_eq e]; exact List.mem_cons_self ..
    | false => rw [e] at h; exact List.mem_cons_of_mem _ (look_mem h)
theorem dec_sound {E : Env} {B : Base} {g : Gh} {w : World} {as : List VSp} {ts : List Nat} {x : (argsTy as).den} {us : List Value} {nb : List Nat} {a : Act} (hwa : wholeArgs as = true) (R : HRel B g [] w) (hP : PassArgs g.imm w as x us nb) (hO : PendOk g nb) (hn : ∀ b ∈ nb, g.nst b = none)
    (hs : SlotsAre a ts us) (hsz : a.tmps.size = E.nt) (hdf : a.defers = []) (hk : ∀ t ∈ E.keep, a.tmps.getD t undef = B.arg t) :
    ∃ g', Le g g' ∧ HRel B g' (dec ts as x).hp w ∧ ActRel E B g' (dec ts as x).env a := by
  obtain ⟨g', l, R', hc⟩ := mkSlots_sound as ts x base0 hwa R hP hO hn (fun i _ => rfl) hs
  rw [List.append_nil] at R'
  exact ⟨g', l, R', ⟨fun t s ht => hc t s (look_mem ht), hsz, hdf, hk⟩⟩
open Classical in
theorem HRel.fresh {B : Base} {g : Gh} {hp : List (Nat × Obj)} {w : World} (R : HRel B g hp w) {nb : List Nat} (hO : PendOk g nb) :
    ∃ g', g'.imm = g.imm ∧ HRel B g' [] w ∧ PendOk g' nb ∧ ∀ b ∈ nb, g'.nst b = none := by
  refine ⟨{ imm := g.imm, top := fun _ => 0, cv := fun _ _ => .tuple #[], lab := fun x => if x ∈ nb then some 0 else none, nst := fun _ => none, outer := fun _ => [] }, rfl, ⟨fun _ => rfl, (fun i o h => by cases h), fun b L h => ?_, (fun b L h => by cases h), fun b h => ?_, R.imm0, fun b hb hl hi => ?_, R.size, R.os, R.tape, R.output, R.fix⟩,
    ⟨hO.1, fun b hb => by simp [hb]⟩, fun _ _ => rfl⟩
  · obtain ⟨a1, a2, a3⟩ := R.imm b L h
    have : b ∉ nb := fun hm => by rw [hO.2 b hm] at a1; cases a1
    exact ⟨by simp [this], rfl, a3⟩
  · by_cases hm : b ∈ nb
    · exact R.labsz b (by rw [hO.2 b hm]; simp)
    · simp [hm] at h
  · obtain ⟨f1, f2, f3⟩ := R.frame b hb hl hi
    have : b ∉ nb := fun hm => by rw [hO.2 b hm] at f1; cases f1
    exact ⟨by simp [this], f2, f3⟩
theorem slotVals_sound : ∀ {ts : List Nat} {s s' : St} {vs : List Val}, (slotVals ts).run s = some (vs, s') → s' = s ∧ ∀ {g : Gh} {a : Act}, EnvRel g s.env a → ∃ us, SlotsAre a ts us ∧ ValsRel g vs us
  | [], _, _, _, h => by obtain ⟨rfl, rfl⟩ := run_ret h; exact ⟨rfl, fun _ => ⟨[], rfl, rfl⟩⟩
  | t :: ts, s, s', vs, h => by
    obtain ⟨v, t1, h1, h2⟩ := AM.bind_run h
    obtain ⟨vs', t2, h3, h4⟩ := AM.bind_run h2
    obtain ⟨rfl, rfl⟩ := run_ret h4
    simp only [AM.run] at h1
    split at h1
    · rename_i sl hsl
      obtain ⟨rfl, rfl⟩ := asVal_sound h1
      obtain ⟨rfl, hr⟩ := slotVals_sound h3
      refine ⟨rfl, fun V => ?_⟩
      obtain ⟨us, hs, hv⟩ := hr V
      exact ⟨_ :: us, ⟨_, us, rfl, rfl, hs⟩, ⟨_, us, rfl, V t _ hsl, hv⟩⟩
    · cases h1
theorem enc_dec {E : Env} {B : Base} {ts ts' : List Nat} {as : List VSp} {s s' : St} {x : (argsTy as).den} (h : (enc ts as).run s = some (x, s')) {g : Gh} {a : Act} {w : World} (R : HRel B g s.hp w) (V : ActRel E B g s.env a) :
    ∃ g', (∀ b L, g.imm b = some L → g'.imm b = some L) ∧ HRel B g' (dec ts as x).hp w ∧ ActRel E B g' (dec ts as x).env a := by
  obtain ⟨hwa, h⟩ := run_if h
  obtain ⟨vs, t, h1, h2⟩ := AM.bind_run h
  obtain ⟨rfl, hv⟩ := slotVals_sound h1
  obtain ⟨us, hs, hr⟩ := hv V.env
  obtain ⟨_, hrd⟩ := rdArgs_sound h2
  obtain ⟨g1, l1, R1, c1⟩ := hrd B g w R
  obtain ⟨nb, hP, hO, _, _⟩ := c1 us hr
  obtain ⟨g2, e2, R2, hO2, hn2⟩ := R1.fresh hO
  obtain ⟨g3, l3, R3, V3⟩ := dec_sound (E := E) (ts := ts) hwa R2 (by rw [e2]; exact hP) hO2 hn2 hs V.size V.defers V.kept
  exact ⟨g3, fun b L hb => l3.imm b L (by rw [e2]; exact l1.le.imm b L hb), R3, V3⟩
def CapVals (a : Act) : List Nat → List Value → Prop
  | [], us => us = []
  | t :: r, us => ∃ b o v, us = .pointer (some ⟨b, o, none⟩) :: v ∧ a.tmps.getD t undef = .pointer (some ⟨b, o, none⟩) ∧ CapVals a r v
def DerIs (a : Act) : Der → Prop
  | [] => True
  | d :: r => (∃ vs : List Value, a.tmps.getD d.1 undef = .func (.func d.2.1) #[] vs.toArray ∧ CapVals a d.2.2 vs) ∧ DerIs a r
theorem sameCaps_eq : ∀ {a b : List (Nat × Nat)}, sameCaps a b = true → a = b
  | [], [], _ => rfl
  | x :: a, y :: b, h => by
    simp only [sameCaps, Bool.and_eq_true] at h
    rw [sameCaps_eq h.2]
    congr 1
    exact Prod.ext (beq_eq h.1.1) (beq_eq h.1.2)
  | [], _ :: _, h => by cases h
  | _ :: _, [], h => by cases h
theorem caps_vals {g : Gh} {a : Act} {env : List (Nat × Slot)} (V : EnvRel g env a) : ∀ {ts : List Nat} {cs : List (Nat × Nat)} {us : List Value}, capsAt env ts = some cs → Caps g cs us → CapVals a ts us
  | [], cs, us, h, k => by
    injection h with h
    subst h
    exact k
  | t :: ts, cs, us, h, k => by
    simp only [capsAt] at h
    split at h
    · rename_i id gen hl
      simp only [Option.map_eq_some_iff] at h
      obtain ⟨cs', h1, rfl⟩ := h
      obtain ⟨b, o, v, rfl, ht, hcv, hr⟩ := k
      have hs : CellRel g (.ptr id gen 0) (a.tmps.getD t undef) := V t _ hl
      obtain ⟨_, b', o', e1, e2⟩ := hs
      have hcv : g.cv id gen = .pointer (some ⟨b, o, none⟩) := hcv
      rw [hcv] at e1
      injection e1 with e1; injection e1 with e1; injection e1 with e1 e3
      subst e1; subst e3
      exact ⟨b, o, v, rfl, e2, caps_vals V h1 hr⟩
    · cases h
theorem vals_caps {g : Gh} {a : Act} {env : List (Nat × Slot)} (V : EnvRel g env a) : ∀ {ts : List Nat} {cs : List (Nat × Nat)} {us : List Value}, capsAt env ts = some cs → CapVals a ts us → Caps g cs us
  | [], cs, us, h, k => by
    injection h with h
    subst h
    exact k
  | t :: ts, cs, us, h, k => by
    simp only [capsAt] at h
    split at h
    · rename_i id gen hl
      simp only [Option.map_eq_some_iff] at h
      obtain ⟨cs', h1, rfl⟩ := h
      obtain ⟨b, o, v, rfl, hu, hr⟩ := k
      have hs : CellRel g (.ptr id gen 0) (a.tmps.getD t undef) := V t _ hl
      obtain ⟨ht, b', o', e1, e2⟩ := hs
      rw [hu] at e2
      injection e2 with e2; injection e2 with e2; injection e2 with e2 e3
      subst e2
      refine ⟨b, o, v, rfl, ht, ?_, vals_caps V h1 hr⟩
      rw [e1, e3]
      rfl
    · cases h
theorem derIs_of {g : Gh} {a : Act} {env : List (Nat × Slot)} (V : EnvRel g env a) : ∀ {der : Der}, derOk env der = true → DerIs a der
  | [], _ => trivial
  | d :: r, h => by
    simp only [derOk, Bool.and_eq_true] at h
    refine ⟨?_, derIs_of V h.2⟩
    have h1 := h.1
    split at h1
    · rename_i f caps cs hl hc
      simp only [Bool.and_eq_true] at h1
      obtain rfl := beq_eq h1.1
      obtain rfl := sameCaps_eq h1.2
      have hs : CellRel g (.fn d.2.1 caps) (a.tmps.getD d.1 undef) := V d.1 _ hl
      obtain ⟨vs, e, hv⟩ := hs
      exact ⟨vs, e, caps_vals V hc hv⟩
    · cases h1
theorem derive_rel {g : Gh} {a : Act} {env : List (Nat × Slot)} (V : EnvRel g env a) : ∀ {der : Der}, DerIs a der → EnvRel g (derive env der) a
  | [], _ => V
  | d :: r, ⟨⟨vs, e, hv⟩, hr⟩ => by
    simp only [derive]
    split
    · rename_i cs hc
      intro t s hl
      by_cases et : d.1 = t
      · subst et
        rw [look_same] at hl
        injection hl with hl
        subst hl
        exact ⟨vs, e, vals_caps V hc hv⟩
      · rw [look_other _ _ et] at hl
        exact derive_rel V hr t s hl
    · exact derive_rel V hr
theorem enc_decD {E : Env} {B : Base} {ts : List Nat} {as : List VSp} {der : Der} {s s' : St} {x : (argsTy as).den} (hd : derOk s.env der = true) (h : (enc ts as).run s = some (x, s')) {g : Gh} {a : Act} {w : World} (R : HRel B g s.hp w) (V : ActRel E B g s.env a) :
    ∃ g', (∀ b L, g.imm b = some L → g'.imm b = some L) ∧ HRel B g' (decD ts as der x).hp w ∧ ActRel E B g' (decD ts as der x).env a := by
  obtain ⟨g', hi, R', V'⟩ := enc_dec (ts' := ts) h R V
  exact ⟨g', hi, R', ⟨derive_rel V'.env (derIs_of V.env hd), V'.size, V'.defers, V'.kept⟩⟩
end Go.Abs
end

section
namespace Go.Abs
def HandlerOk (E : Env) (c : Code) (h : Handler) : Prop :=
  ∀ (ρ : Type) (B : Base) (s : St) (K : Exit → St → Option ρ) (x : ρ) (Q : Exit → Act → World → Prop), h ρ s K = some x → (∀ e, KOk E B (K e) x (Q e)) →
    ∀ g a w, GlobOk E.glob g.imm → HRel B g s.hp w → ActRel E B g s.env a → c.wp E.P Q a w
def pieces : Code → List (Bool × Code)
  | .seq a b => (false, b) :: (pieces a ++ pieces b)
  | .cond _ a b => pieces a ++ pieces b
  | .block _ c => pieces c
  | .loop c => [(true, c)]
  | .scope c => pieces c
  | _ => []
structure CutsOk (E : Env) (H : Cuts) (c : Code) : Prop where
  loop : ∀ b, (true, b) ∈ pieces c → ∀ h : Handler, (first b).bind H.loop = some h → HandlerOk E (.loop b) h
  join : ∀ b, (false, b) ∈ pieces c → ∀ h : Handler, (first b).bind H.join = some h → HandlerOk E b h
theorem CutsOk.sub {E : Env} {H : Cuts} {c d : Code} (h : CutsOk E H c) (hs : ∀ p ∈ pieces d, p ∈ pieces c) : CutsOk E H d :=
  ⟨fun b hb => h.loop b (hs _ hb), fun b hb => h.join b (hs _ hb)⟩
theorem boolSlot_sound {s : St} {c : Operand} {t : Bool} {g : Gh} {a : Act} (h : boolSlot s c = some t) (V : EnvRel g s.env a) : a.eval c = .bool t := by
  unfold boolSlot at h
  split at h
  · rename_i t'
    split at h
    · rename_i b hb
      injection h with h
      subst h
      exact bool_rel (V t' _ hb)
    · cases h
  · injection h with h; subst h; rfl
  · cases h
theorem exec_sound {E : Env} (hE : EnvOk E) (hm : E.P.follows .mixedOrders = true) {ρ : Type} {B : Base} {H : Cuts} : ∀ (c : Code) (s : St) (K : Exit → St → Option ρ) (x : ρ) (Q : Exit → Act → World → Prop), CutsOk E H c → exec E H c s K = some x → (∀ e, KOk E B (K e) x (Q e)) →
    ∀ g a w, GlobOk E.glob g.imm → HRel B g s.hp w → ActRel E B g s.env a → c.wp E.P Q a w := by
  intro c
  induction c with
  | skip => intro s K x Q _ h hK g a w hG R V; exact wp_skip (hK .normal s g a w h hG R V)
  | region id ops draw =>
    intro s K x Q _ h hK g a w hG R V
    exact execRegion_sound hE hm (hK .normal) h hG R V
  | seq c1 c2 ih1 ih2 =>
    intro s K x Q hH h hK g a w hG R V
    have h1 : CutsOk E H c1 := hH.sub fun p hp => List.mem_cons_of_mem _ (List.mem_append_left _ hp)
    have h2 : CutsOk E H c2 := hH.sub fun p hp => List.mem_cons_of_mem _ (List.mem_append_right _ hp)
    refine wp_seq (ih1 s _ x _ h1 h (fun e => ?_) g a w hG R V)
    cases e with
    | normal =>
      intro s' g' a' w' hk hG' R' V'
      simp only at hk
      cases hj : (first c2).bind H.join with
      | none =>
        rw [hj] at hk
        exact ih2 s' K x Q h2 hk hK g' a' w' hG' R' V'
      | some hh =>
        rw [hj] at hk
        exact hH.join c2 (List.mem_cons_self ..) hh hj ρ B s' K x Q hk hK g' a' w' hG' R' V'
    | _ => intro s' g' a' w' hk hG' R' V'; exact hK _ s' g' a' w' hk hG' R' V'
  | cond c c1 c2 ih1 ih2 =>
    intro s K x Q hH h hK g a w hG R V
    simp only [exec] at h
    cases hb : boolSlot s c with
    | none => rw [hb] at h; cases h
    | some t =>
      rw [hb] at h
      refine wp_cond (boolSlot_sound hb V.env) ?_
      have h : brk t (exec E H c1 s K) (exec E H c2 s K) = some x := h
      rcases brk_some h with ⟨rfl, h'⟩ | ⟨rfl, h'⟩
      · exact ih1 s K x Q (hH.sub fun p hp => List.mem_append_left _ hp) h' hK g a w hG R V
      · exact ih2 s K x Q (hH.sub fun p hp => List.mem_append_right _ hp) h' hK g a w hG R V
  | block id c ih =>
    intro s K x Q hH h hK g a w hG R V
    refine wp_block (ih s _ x _ (hH.sub fun p hp => hp) h (fun e => ?_) g a w hG R V)
    cases e with
    | exit i =>
      intro s' g' a' w' hk hG' R' V'
      simp only at hk
      simp only [Exit.inBlock]
      by_cases e : i = id
      · rw [if_pos e]
        subst e
        rw [Nat.beq_refl] at hk
        exact hK .normal s' g' a' w' hk hG' R' V'
      · rw [if_neg e]
        have : Nat.beq i id = false := by rw [Bool.eq_false_iff]; intro he; exact e (beq_eq he)
        rw [this] at hk
        exact hK (.exit i) s' g' a' w' hk hG' R' V'
    | _ => intro s' g' a' w' hk hG' R' V'; exact hK _ s' g' a' w' hk hG' R' V'
  | loop c ih =>
    intro s K x Q hH h hK g a w hG R V
    simp only [exec] at h
    cases hj : (first c).bind H.loop with
    | none => rw [hj] at h; cases h
    | some hh =>
      rw [hj] at h
      exact hH.loop c (List.mem_cons_self ..) hh hj ρ B s K x Q h hK g a w hG R V
  | exit i => intro s K x Q _ h hK g a w hG R V; exact wp_exit (hK (.exit i) s g a w h hG R V)
  | ret => intro s K x Q _ h hK g a w hG R V; exact wp_ret (hK .ret s g a w h hG R V)
  | label l => intro s K x Q _ h hK g a w hG R V; exact wp_label (hK .normal s g a w h hG R V)
  | scope c ih =>
    intro s K x Q hH h hK g a w hG R V
    refine wp_scope_straight (ih s _ x _ (hH.sub fun p hp => hp) h (fun e => ?_) g a w hG R V)
    cases e with
    | goto l => intro s' g' a' w' hk; cases hk
    | _ => intro s' g' a' w' hk hG' R' V'; exact hK _ s' g' a' w' hk hG' R' V'
  | _ => intro s K x Q _ h; cases h
theorem sameExit_eq {e e' : Exit} (h : sameExit e e' = true) : e = e' := by
  cases e <;> cases e' <;> first | rfl | (cases h; done) | skip
  rw [beq_eq h]
theorem encOut_sound {ρ : Type} : ∀ {ws : List Way1} {e : Exit} {s : St} {y : OutTy ws} {K : Exit → St → Option ρ} {z : ρ}, encOut ws e s = some y → goOut ws y K = some z →
    ∃ ts as der x s', derOk s.env der = true ∧ (enc ts as).run s = some (x, s') ∧ K e (decD ts as der x) = some z
  | [], _, _, _, _, _, h, _ => by cases h
  | w :: r, e, s, y, K, z, h, hg => by
    simp only [encOut] at h
    cases hs : sameExit w.e e with
    | true =>
      rw [hs] at h
      simp only [cond_true] at h
      cases hd : derOk s.env w.der with
      | false => rw [hd] at h; cases h
      | true =>
        rw [hd] at h
        obtain ⟨x, s', h1, h2⟩ := exec_some h
        injection h2 with h2
        subst h2
        have hg : K w.e (decD w.ts w.as w.der x) = some z := hg
        rw [sameExit_eq hs] at hg
        exact ⟨_, _, _, x, s', hd, h1, hg⟩
    | false =>
      rw [hs] at h
      simp only [cond_false, Option.bind_eq_some_iff] at h
      obtain ⟨y', h1, h2⟩ := h
      injection h2 with h2
      subst h2
      exact encOut_sound h1 hg
def LoopHead (P : Program) (c : Code) (Q : Exit → Act → World → Prop) (a : Act) (w : World) : Prop :=
  ∀ (b : Frame) (k : List Item) (cs : List Frame), ∃ e a' w', Q e a' w' ∧ Arrives P (lone (b.at a (.code c :: .inLoop c :: k)) cs w) b k cs e a' w'
theorem LoopHead.wp {P : Program} {c : Code} {Q : Exit → Act → World → Prop} {a : Act} {w : World} (h : LoopHead P c Q a w) : (Code.loop c).wp P Q a w := by
  intro b k cs
  obtain ⟨e, a', w', hq, harr⟩ := h b k cs
  exact ⟨e, a', w', hq, .of_steps (.one step_loop) harr⟩
theorem LoopHead.round {P : Program} {c : Code} {Q : Exit → Act → World → Prop} {a : Act} {w : World} (h : c.wp P (Exit.then (LoopHead P c Q) Q) a w) : LoopHead P c Q a w := by
  intro b k cs
  obtain ⟨e, a₁, w₁, hq, harr⟩ := h b (.inLoop c :: k) cs
  cases e with
  | normal =>
    obtain ⟨e₂, a₂, w₂, hq₂, harr₂⟩ := hq b k cs
    exact ⟨e₂, a₂, w₂, hq₂, .of_steps (Steps.trans harr (.one step_inLoop)) harr₂⟩
  | exit id => exact ⟨_, a₁, w₁, hq, .pass (x := .inLoop c) rfl (fun _ _ => .inl (by simp)) harr⟩
  | goto l => exact ⟨_, a₁, w₁, hq, .pass (x := .inLoop c) rfl (fun _ _ => .inl (by simp)) harr⟩
  | ret => exact ⟨_, a₁, w₁, hq, .pass (x := .inLoop c) rfl (fun _ _ => .inl (by simp)) harr⟩
  | panic ch => exact ⟨_, a₁, w₁, hq, .pass (x := .inLoop c) rfl (fun _ _ => .inl (by simp)) harr⟩
  | outgrown => exact ⟨_, a₁, w₁, hq, .pass (x := .inLoop c) rfl (fun _ _ => .inl (by simp)) harr⟩
def PieceOk (E : Env) (c : Cut) (W : (Exit → Act → World → Prop) → Act → World → Prop) (L : (argsTy c.as).den → Option (OutTy c.ws)) : Prop :=
  ∀ x y, L x = some y → ∀ {ρ : Type} (B : Base) (K : Exit → St → Option ρ) (z : ρ) (Q : Exit → Act → World → Prop), goOut c.ws y K = some z → (∀ e, KOk E B (K e) z (Q e)) →
    ∀ g a w, GlobOk E.glob g.imm → HRel B g (decD c.ts c.as c.der x).hp w → ActRel E B g (decD c.ts c.as c.der x).env a → W Q a w
def LoopOk (E : Env) (c : Cut) (body : Code) (L : (argsTy c.as).den → Option (OutTy c.ws)) : Prop := PieceOk E c (LoopHead E.P body) L
def TailOk (E : Env) (c : Cut) (body : Code) (L : (argsTy c.as).den → Option (OutTy c.ws)) : Prop := PieceOk E c (fun Q => body.wp E.P Q) L
theorem LoopOk.none {E : Env} {c : Cut} {body : Code} : LoopOk E c body (fun _ => .none) := fun x y h => by cases h
theorem TailOk.none {E : Env} {c : Cut} {body : Code} : TailOk E c body (fun _ => .none) := fun x y h => by cases h
theorem out_ok {E : Env} {B : Base} {ρ : Type} {ws : List Way1} {y : OutTy ws} {K : Exit → St → Option ρ} {z : ρ} {Q : Exit → Act → World → Prop} (hg : goOut ws y K = some z) (hK : ∀ e, KOk E B (K e) z (Q e)) (e : Exit) : KOk E B (encOut ws e) y (Q e) := by
  intro s g a w hk hG R V
  obtain ⟨ts, as, der, x, s', hd, h1, h2⟩ := encOut_sound hk hg
  obtain ⟨g', hi, R', V'⟩ := enc_decD hd h1 R V
  exact hK e _ g' a w h2 (hG.mono hi) R' V'
theorem round_ok {E : Env} (hE : EnvOk E) (hm : E.P.follows .mixedOrders = true) {H : Cuts} {c : Cut} {body : Code} (hH : CutsOk E H body) {L : (argsTy c.as).den → Option (OutTy c.ws)} (hL : LoopOk E c body L) : LoopOk E c body (c.round E H body L) := by
  intro x y h ρ B K z Q hg hK g a w hG R V
  apply LoopHead.round
  refine exec_sound hE hm body _ _ y _ hH h (fun e => ?_) g a w hG R V
  cases e with
  | normal =>
    intro s' g' a' w' hk hG' R' V'
    have hk : (bif derOk s'.env c.der then (enc c.ts c.as).exec s' fun x' _ => L x' else none) = some y := hk
    cases hd : derOk s'.env c.der with
    | false => rw [hd] at hk; cases hk
    | true =>
      rw [hd] at hk
      obtain ⟨x', s'', h1, h2⟩ := exec_some hk
      obtain ⟨g2, hi, R2, V2⟩ := enc_decD hd h1 R' V'
      exact hL x' y h2 B K z Q hg hK g2 a' w' (hG'.mono hi) R2 V2
  | _ => exact out_ok hg hK _
theorem tail_ok {E : Env} (hE : EnvOk E) (hm : E.P.follows .mixedOrders = true) {H : Cuts} {c : Cut} {body : Code} (hH : CutsOk E H body) : TailOk E c body (c.tail E H body) := by
  intro x y h ρ B K z Q hg hK g a w hG R V
  exact exec_sound hE hm body _ _ y _ hH h (fun e => out_ok hg hK e) g a w hG R V
theorem loop_handler {E : Env} {c : Cut} {body : Code} {L : (argsTy c.as).den → Option (OutTy c.ws)} (hL : LoopOk E c body L) : HandlerOk E (.loop body) (c.handler L) := by
  intro ρ B s K x Q h hK g a w hG R V
  have h : (bif derOk s.env c.der then (enc c.ts c.as).exec s fun x _ => (L x).bind fun y => goOut c.ws y K else none) = some x := h
  cases hd : derOk s.env c.der with
  | false => rw [hd] at h; cases h
  | true =>
    rw [hd] at h
    obtain ⟨x0, s', h1, h2⟩ := exec_some h
    simp only [Option.bind_eq_some_iff] at h2
    obtain ⟨y, h3, h4⟩ := h2
    obtain ⟨g2, hi, R2, V2⟩ := enc_decD hd h1 R V
    exact (hL x0 y h3 B K x Q h4 hK g2 a w (hG.mono hi) R2 V2).wp
theorem tail_handler {E : Env} {c : Cut} {body : Code} {L : (argsTy c.as).den → Option (OutTy c.ws)} (hL : TailOk E c body L) : HandlerOk E body (c.handler L) := by
  intro ρ B s K x Q h hK g a w hG R V
  have h : (bif derOk s.env c.der then (enc c.ts c.as).exec s fun x _ => (L x).bind fun y => goOut c.ws y K else none) = some x := h
  cases hd : derOk s.env c.der with
  | false => rw [hd] at h; cases h
  | true =>
    rw [hd] at h
    obtain ⟨x0, s', h1, h2⟩ := exec_some h
    simp only [Option.bind_eq_some_iff] at h2
    obtain ⟨y, h3, h4⟩ := h2
    obtain ⟨g2, hi, R2, V2⟩ := enc_decD hd h1 R V
    exact hL x0 y h3 B K x Q h4 hK g2 a w (hG.mono hi) R2 V2
end Go.Abs
end
