/- What is here: a whole body keeps the contract that the evaluator tells. What is here: a function that only reads its slices, and gives back nothing that leads to them, may be lent what its caller owns. What is here: all functions of a program at once, level by level. What is here: all functions of a program keep their contracts, level by level. What is here: how a system's equations are told and used. What is here: small laws on numbers, lists and levels, for the plain part of the proofs. What is here: arguments and package variables, read by the row, as plain data. What is here: append to a row of bytes, told by the world alone; for the library's functions. What is here: contracts of library functions: from the kit's Calls; functions over numbers and texts alone. What is here: package variables, read by the row, as plain data. -/
import Derived.Test.YtnoddjddkbhnbaaGreatDoorP2
import Derived.KernelRfl
import Derived.Below
import Derived.Laws.BitsLemmas
import Derived.OpenShut
import Derived.OpenVars
import Derived.Laws.Externs
import Derived.LaidMore
import Derived.LaidHandle
set_option linter.unusedVariables false
set_option linter.unusedSimpArgs false
set_option maxRecDepth 100000
section
namespace Go.Abs
theorem Pass.back {imm : Rd} {w0 w : World} : ∀ {s : Sp} {x : s.ty.den} {pl : Nat × Nat} {old us : List Value} {nb : List Nat}, s.plain = true → Pass imm w s x pl us nb → Back imm w0 w s x pl old us nb
  | .un, _, _, _, _, _, _, k => k
  | .pr _ _, _, _, _, _, _, hp, ⟨u1, u2, n1, n2, e, e', k1, k2⟩ => by
    simp only [Sp.plain, Bool.and_eq_true] at hp
    exact ⟨u1, u2, n1, n2, e, e', Pass.back hp.1 k1, Pass.back hp.2 k2⟩
  | .pub _, _, _, _, _, _, _, k => k
  | .own _ _, _, _, _, _, _, _, k => k
  | .bld, _, _, _, _, _, _, k => k
  | .tak _, _, _, _, _, _, hp, _ => by cases hp
  | .err, _, _, _, _, _, _, k => k
  | .np, _, _, _, _, _, _, k => k
  | .ptr _ _ _, _, _, _, _, _, hp, _ => by cases hp
  | .lnd _ _, _, _, _, _, _, hp, _ => by cases hp
theorem PassVal.res {imm : Rd} {w : World} {a : VSp} {x : a.sp.ty.den} {u : Value} {nb : List Nat} (hp : a.sp.plain = true) (h : PassVal imm w a x u nb) : ResVal imm w a x u nb := by
  cases a with
  | one s => exact ⟨h.1, Pass.back hp h.2⟩
  | agg s => obtain ⟨us, e, h⟩ := h; exact ⟨us, e, Pass.back hp h⟩
theorem PassArgs.res {imm : Rd} {w : World} : ∀ {as : List VSp} {x : (argsTy as).den} {us : List Value} {nb : List Nat}, plainArgs as = true → PassArgs imm w as x us nb → ResVals imm w as x us nb
  | [], _, _, _, _, h => h
  | _ :: _, _, _, _, hp, ⟨u, r, n1, n2, e, e', h1, h2⟩ => by
    simp only [plainArgs, Bool.and_eq_true] at hp
    exact ⟨u, r, n1, n2, e, e', h1.res hp.1, PassArgs.res hp.2 h2⟩
def resSem (tmps : Array Value) : ResultVar → Sem Value
  | .tmp t => pure (tmps.getD t undef)
  | .cell c t => do loadVar t (← asAddr (tmps.getD c undef))
theorem resOne_sound {E : Env} {r : ResultVar} {s s' : St} {v : Val} (h : (resOne E r).run s = some (v, s')) : s'.env = s.env ∧ ∀ {B : Base} {g : Gh} {a : Act} {w : World}, GlobOk E.glob g.imm → HRel B g s.hp w → EnvRel g s.env a →
    ∃ u g', (resSem a.tmps r).run E.P w = .ok u w ∧ Le g g' ∧ HRel B g' s'.hp w ∧ ValRel g' v u := by
  cases r with
  | tmp t =>
    simp only [resOne, AM.run] at h
    split at h
    · rename_i sl hsl
      obtain ⟨rfl, rfl⟩ := asVal_sound h
      exact ⟨rfl, fun _ R V => ⟨_, _, rfl, Le.refl _, R, V t _ hsl⟩⟩
    · cases h
  | cell c t =>
    simp only [resOne, AM.run] at h
    split at h
    · rename_i sl hsl
      obtain ⟨ag, t2, h3, h4⟩ := AM.bind_run h
      obtain ⟨n, t3, h5, h6⟩ := AM.bind_run h4
      obtain ⟨cs, t4, h7, h9⟩ := AM.bind_run h6
      obtain ⟨hag, rfl⟩ := run_ofOpt h3
      obtain ⟨hn, rfl⟩ := run_ofOpt h5
      obtain rfl := mkVal_st h9
      obtain ⟨he, hr⟩ := read_sound h7
      refine ⟨he, fun {B g a w} hG R V => ?_⟩
      obtain ⟨b, o', us, g', e, hat, hlen, l, R', hc⟩ := hr hG.one R (V c _ hsl)
      obtain ⟨_, hv⟩ := mkVal_sound h9 hc
      have hrun := run_loadAt (E := E) (w := w) hag hn hlen hat
      have hrun' : (loadVar t ⟨b, o', none⟩).run E.P w = .ok (if ag then .agg us.toArray else us.getD 0 undef) w := by simpa [Instr.loadAt, Instr.sureAddr] using hrun
      refine ⟨if ag then .agg us.toArray else us.getD 0 undef, g', ?_, l, R', ?_⟩
      · show (do loadVar t (← asAddr (a.tmps.getD c undef)) : Sem Value).run E.P w = _
        rw [e]
        simpa [asAddr] using hrun'
      · rcases hv with ⟨rfl, hv⟩ | ⟨rfl, u, rfl, hv⟩
        · exact hv
        · exact hv
    · cases h
theorem resList_sound {E : Env} : ∀ {rs : List ResultVar} {s s' : St} {vs : List Val}, (resList E rs).run s = some (vs, s') → s'.env = s.env ∧ ∀ {B : Base} {g : Gh} {a : Act} {w : World}, GlobOk E.glob g.imm → HRel B g s.hp w → EnvRel g s.env a →
    ∃ us g', (rs.mapM (resSem a.tmps)).run E.P w = .ok us w ∧ Le g g' ∧ HRel B g' s'.hp w ∧ ValsRel g' vs us
  | [], s, s', vs, h => by
    obtain ⟨rfl, rfl⟩ := run_ret h
    exact ⟨rfl, fun _ R _ => ⟨[], _, by simp, Le.refl _, R, rfl⟩⟩
  | r :: rs, s, s', vs, h => by
    obtain ⟨v, t, h1, h2⟩ := AM.bind_run h
    obtain ⟨vs', t2, h3, h4⟩ := AM.bind_run h2
    obtain ⟨rfl, rfl⟩ := run_ret h4
    obtain ⟨e1, k1⟩ := resOne_sound h1
    obtain ⟨e2, k2⟩ := resList_sound h3
    refine ⟨e2.trans e1, fun {B g a w} hG R V => ?_⟩
    obtain ⟨u, g1, a1, l1, R1, v1⟩ := k1 hG R V
    obtain ⟨us, g2, a2, l2, R2, v2⟩ := k2 (hG.mono l1.imm) R1 (by rw [e1]; exact V.mono l1)
    refine ⟨u :: us, g2, ?_, l1.trans l2, R2, ⟨u, us, rfl, v1.mono l2, v2⟩⟩
    rw [List.mapM_cons]
    simp only [Sem.run_bind, a1, Result.andThen_ok, a2]
    rfl
theorem noOut_sound : ∀ {sp : Sp} {p : sp.outTy.den} {s s' : St}, (noOut sp).run s = some (p, s') → s' = s ∧ ∀ imm w0 w us, Outs imm w0 w sp p us []
  | .un, _, _, _, h => by obtain ⟨rfl, rfl⟩ := run_ret h; exact ⟨rfl, fun _ _ _ _ => rfl⟩
  | .pub _, _, _, _, h => by obtain ⟨rfl, rfl⟩ := run_ret h; exact ⟨rfl, fun _ _ _ _ => rfl⟩
  | .own _ _, _, _, _, h => by obtain ⟨rfl, rfl⟩ := run_ret h; exact ⟨rfl, fun _ _ _ _ => rfl⟩
  | .tak _, _, _, _, h => by obtain ⟨rfl, rfl⟩ := run_ret h; exact ⟨rfl, fun _ _ _ _ => rfl⟩
  | .bld, _, _, _, h => by obtain ⟨rfl, rfl⟩ := run_ret h; exact ⟨rfl, fun _ _ _ _ => rfl⟩
  | .err, _, _, _, h => by obtain ⟨rfl, rfl⟩ := run_ret h; exact ⟨rfl, fun _ _ _ _ => rfl⟩
  | .np, _, _, _, h => by obtain ⟨rfl, rfl⟩ := run_ret h; exact ⟨rfl, fun _ _ _ _ => rfl⟩
  | .ptr _ _ _, _, _, _, h => by cases h
  | .lnd _ _, _, _, _, h => by cases h
  | .pr a b, p, s, s', h => by
    obtain ⟨x, t, h1, h2⟩ := AM.bind_run h
    obtain ⟨y, t2, h3, h4⟩ := AM.bind_run h2
    obtain ⟨rfl, rfl⟩ := run_ret h4
    obtain ⟨rfl, k1⟩ := noOut_sound h1
    obtain ⟨rfl, k2⟩ := noOut_sound h3
    exact ⟨rfl, fun imm w0 w us => ⟨[], [], rfl, k1 _ _ _ _, k2 _ _ _ _⟩⟩
theorem CellsRel.head {g : Gh} {c : Cell} {cs : List Cell} {us : List Value} (h : CellsRel g (c :: cs) us) {n : Nat} {us1 : List Value} (e : us1 = us.take (n + 1)) : ∃ u, CellRel g c u ∧ us1 = u :: (us.drop 1).take n := by
  obtain ⟨u, r, e', hu, _⟩ := h
  subst e'
  exact ⟨u, hu, by rw [e]; rfl⟩
theorem endOut_sound : ∀ {sp : Sp} {cells : List Cell} {s s' : St} {p : sp.outTy.den} {rest : List Cell}, (endOut sp cells).run s = some ((p, rest), s') → s'.env = s.env ∧ rest = cells.drop sp.size ∧
    ∀ {B : Base} {g : Gh} {w0 w : World} {imm0 : Rd} {x0 : sp.ty.den} {rp : Nat × Nat} {us : List Value} {nb0 : List Nat}, HRel B g s.hp w → CellsRel g (cells.take sp.size) us → Pass imm0 w0 sp x0 rp us nb0 →
      ∃ g' nb, Lk g g' ∧ HRel B g' s'.hp w ∧ PendOk g' nb ∧ (∀ b ∈ nb, g.lab b ≠ some 0) ∧ Outs g'.imm w0 w sp p us nb := by
  intro sp
  have nil : ∀ {sp : Sp} {p : sp.outTy.den} {B : Base} {g : Gh} {hp : List (Nat × Obj)} {w0 w : World} {us : List Value}, HRel B g hp w → (∀ imm, Outs imm w0 w sp p us []) →
      ∃ g' nb, Lk g g' ∧ HRel B g' hp w ∧ PendOk g' nb ∧ (∀ b ∈ nb, g.lab b ≠ some 0) ∧ Outs g'.imm w0 w sp p us nb := fun {sp p B g hp w0 w us} R h =>
    ⟨g, [], Lk.refl g, R, ⟨List.nodup_nil, fun b hb => by simp at hb⟩, fun b hb => by simp at hb, h _⟩
  induction sp with
  | un => intro cells s s' p rest h; obtain ⟨h1, rfl⟩ := run_ret h; injection h1 with h1 h2; subst h2; exact ⟨rfl, rfl, fun R _ _ => nil R fun _ => rfl⟩
  | pub τ => intro cells s s' p rest h; cases cells with | nil => exact nomatch h | cons c cs => obtain ⟨h1, rfl⟩ := run_ret h; injection h1 with h1 h2; subst h2; exact ⟨rfl, rfl, fun R _ _ => nil R fun _ => rfl⟩
  | own τ dp => intro cells s s' p rest h; cases cells with | nil => exact nomatch h | cons c cs => obtain ⟨h1, rfl⟩ := run_ret h; injection h1 with h1 h2; subst h2; exact ⟨rfl, rfl, fun R _ _ => nil R fun _ => rfl⟩
  | err => intro cells s s' p rest h; cases cells with | nil => exact nomatch h | cons c cs => obtain ⟨h1, rfl⟩ := run_ret h; injection h1 with h1 h2; subst h2; exact ⟨rfl, rfl, fun R _ _ => nil R fun _ => rfl⟩
  | np => intro cells s s' p rest h; cases cells with | nil => exact nomatch h | cons c cs => obtain ⟨h1, rfl⟩ := run_ret h; injection h1 with h1 h2; subst h2; exact ⟨rfl, rfl, fun R _ _ => nil R fun _ => rfl⟩
  | bld => intro cells s s' p rest h; cases cells <;> exact nomatch h
  | tak ok => intro cells s s' p rest h; cases cells with | nil => exact nomatch h | cons c cs => obtain ⟨h1, rfl⟩ := run_ret h; injection h1 with h1 h2; subst h2; exact ⟨rfl, rfl, fun R _ _ => nil R fun _ => rfl⟩
  | pr a b iha ihb =>
    intro cells s s' p rest h
    obtain ⟨⟨p1, r1⟩, t, h1, h2⟩ := AM.bind_run h
    obtain ⟨⟨q1, q2⟩, t2, h3, h4⟩ := AM.bind_run h2
    obtain ⟨h5, rfl⟩ := run_ret h4
    injection h5 with h5 h6
    subst h5; subst h6
    obtain ⟨ea, ra, sa⟩ := iha h1
    obtain ⟨eb, rb, sb⟩ := ihb h3
    have ra : r1 = cells.drop a.size := ra
    have rb : rest = r1.drop b.size := rb
    refine ⟨eb.trans ea, by rw [rb, ra, List.drop_drop], fun {B g w0 w imm0 x0 rp us nb0} R hc hP => ?_⟩
    obtain ⟨u1, u2, m1, m2, rfl, rfl, P1, P2⟩ := hP
    have hl1 := P1.length
    have c1 : CellsRel g (cells.take a.size) u1 := by
      have := hc.take a.size
      rw [List.take_take, Nat.min_eq_left (by show a.size ≤ a.size + b.size; omega), ← hl1, List.take_left, hl1] at this
      exact this
    have c2 : CellsRel g (r1.take b.size) u2 := by
      have := hc.drop a.size
      rw [show (Sp.pr a b).size = a.size + b.size from rfl, List.drop_take, show a.size + b.size - a.size = b.size by omega, ← ra, ← hl1, List.drop_left] at this
      exact this
    obtain ⟨g1, n1, l1, R1, O1, f1, X1⟩ := sa R c1 P1
    obtain ⟨g2, n2, l2, R2, O2, f2, X2⟩ := sb R1 (c2.mono l1.le) P2
    refine ⟨g2, n1 ++ n2, l1.trans l2, R2, PendOk.append l2 O1 O2 f2, fun b hb => ?_, n1, n2, rfl, ?_, ?_⟩
    · rcases List.mem_append.1 hb with hb | hb
      · exact f1 b hb
      · exact fun e => f2 b hb (l1.kp b e).1
    · rw [← hl1, List.take_left]; exact outs_mono l2.le.imm X1
    · rw [← hl1, List.drop_left]; exact X2
  | lnd τ dp =>
    intro cells s s' p rest h
    cases cells with
    | nil => exact nomatch h
    | cons c cs =>
      obtain ⟨⟨x, r⟩, t, h1, h2⟩ := AM.bind_run h
      obtain ⟨h3, rfl⟩ := run_ret h2
      injection h3 with h3 h4
      subst h3; subst h4
      obtain ⟨k, _, hs⟩ := rdSp_sound (.own τ dp) _ _ _ _ _ _ h1
      refine ⟨k.1, rfl, fun {B g w0 w imm0 x0 rp us nb0} R hc hP => ?_⟩
      obtain ⟨g', l, R', hc'⟩ := hs B g w R
      obtain ⟨u1, u2, nb, e, P1, O1, r1, f1, _⟩ := hc' us (0, 0) hc (PlaceOk.none _ _)
      have hl : us.length = 1 := hP.length
      have hl1 : u1.length = 1 := P1.length
      have hu2 : u2 = [] := List.eq_nil_of_length_eq_zero (by have := congrArg List.length e; simp at this; omega)
      subst hu2
      rw [List.append_nil] at e
      subst e
      exact ⟨g', nb, l, R', O1, f1, rfl, P1⟩
  | ptr wh st sr ih =>
    intro cells s s' p rest h
    cases cells with
    | nil => exact nomatch h
    | cons c cs =>
      obtain ⟨hb, h0⟩ := run_if h
      simp only [Bool.and_eq_true] at hb
      obtain ⟨⟨x, r⟩, t, h1, h2⟩ := AM.bind_run h0
      obtain ⟨h3, rfl⟩ := run_ret h2
      injection h3 with h3 h4
      subst h3; subst h4
      obtain ⟨k, _, hs⟩ := rdSp_sound (.ptr wh st sr) _ _ _ _ _ _ h1
      refine ⟨k.1, rfl, fun {B g w0 w imm0 x0 rp us nb0} R hc hP => ?_⟩
      obtain ⟨g', l, R', hc'⟩ := hs B g w R
      obtain ⟨u1, u2, nb, e, P1, O1, r1, f1, _⟩ := hc' us (0, 0) hc (PlaceOk.none _ _)
      have hl : us.length = 1 := hP.length
      have hl1 : u1.length = 1 := P1.length
      have hu2 : u2 = [] := List.eq_nil_of_length_eq_zero (by have := congrArg List.length e; simp at this; omega)
      subst hu2
      rw [List.append_nil] at e
      subst e
      refine ⟨g', nb, l, R', O1, f1, ?_⟩
      obtain ⟨b, o, arr, ty, nb', e, rfl, ha, hwh, _, hP1⟩ := P1
      obtain ⟨rfl, hsz, rfl⟩ := hwh.1 hb.2
      obtain ⟨b0, o0, arr0, ty0, nb0', e0, _, ha0, hwh0, _, _⟩ := hP
      obtain ⟨rfl, hsz0, rfl⟩ := hwh0.1 hb.2
      rw [e] at e0
      injection e0 with e0 _; injection e0 with e0; injection e0 with e0; injection e0 with e0 _
      subst e0
      have hall : (arr.toList.drop 0).take sr.size = arr.toList := by
        rw [List.drop_zero]; exact List.take_of_length_le (by simp [hsz])
      rw [hall] at hP1
      have hd : arr0.toList.drop (0 + arr.toList.length) = [] := List.drop_eq_nil_of_le (by simp [hsz, hsz0])
      refine ⟨b, 0, arr0, _, arr, arr.toList, nb', e, rfl, rfl, ha0, ha, ?_, by simp [hsz, hsz0], by simpa using hsz, hP1.back hb.1⟩
      rw [hd]; simp
theorem endArgs_sound {E : Env} : ∀ {as : List VSp} {n : Nat} {s s' : St} {y : (outsTy as).den}, (endArgs E.keep as n).run s = some (y, s') →
    ∀ {B : Base} {g : Gh} {a : Act} {w0 w : World} {imm0 : Rd} {x0 : (argsTy as).den} {args : List Value} {nb0 : List Nat}, HRel B g s.hp w → ActRel E B g s.env a → PassArgs imm0 w0 as x0 args nb0 → (∀ k u, args[k]? = some u → B.arg (n + k) = u) →
      ∃ g' nb, Lk g g' ∧ HRel B g' s'.hp w ∧ PendOk g' nb ∧ (∀ b ∈ nb, g.lab b ≠ some 0) ∧ OutsArgs g'.imm w0 w as y args nb := by
  intro as
  induction as with
  | nil =>
    intro n s s' y h B g a w0 w imm0 x0 args nb0 R V hP hA
    obtain ⟨_, rfl⟩ := run_ret h
    exact ⟨g, [], Lk.refl g, R, ⟨List.nodup_nil, fun b hb => by simp at hb⟩, fun b hb => by simp at hb, hP.1, rfl⟩
  | cons sp as ih =>
    intro n s s' y h B g a w0 w imm0 x0 args nb0 R V hP hA
    obtain ⟨u, r, m1, m2, rfl, rfl, P1, P2⟩ := hP
    have hA' : ∀ k v, r[k]? = some v → B.arg (n + 1 + k) = v := fun k v hk => by
      have := hA (k + 1) v (by simpa using hk)
      rw [show n + 1 + k = n + (k + 1) by omega]; exact this
    obtain ⟨p, t, h1, h2⟩ := AM.bind_run h
    obtain ⟨q, t2, h3, h4⟩ := AM.bind_run h2
    obtain ⟨rfl, rfl⟩ := run_ret h4
    cases ho : sp.sp.hasOut with
    | false =>
      rw [ho] at h1
      obtain ⟨rfl, k⟩ := noOut_sound h1
      obtain ⟨g', nb, l, R', hO, hf, hX⟩ := ih h3 R V P2 hA'
      exact ⟨g', nb, l, R', hO, hf, u, r, [], nb, rfl, rfl, k _ _ _ _, hX⟩
    | true =>
      rw [ho] at h1
      obtain ⟨hb, h0⟩ := run_if h1
      obtain ⟨v, t0, h5, h6⟩ := AM.bind_run h0
      obtain ⟨⟨p', rest⟩, t1, h7, h8⟩ := AM.bind_run h6
      obtain ⟨rfl, rfl⟩ := run_ret h8
      simp only [AM.run] at h5
      split at h5
      · rename_i sl hsl
        obtain ⟨rfl, rfl⟩ := asVal_sound h5
        obtain ⟨e1, _, hs⟩ := endOut_sound h7
        have hval : ValRel g v u := by
          have h1 : SlotRel g (.val v) (a.tmps.getD n undef) := V.env n _ hsl
          obtain ⟨k, hk, hkn⟩ := List.any_eq_true.1 hb
          rw [V.kept n (by rw [beq_eq hkn]; exact hk), show B.arg n = u from hA 0 u rfl] at h1
          exact h1
        have hcells := hval.cells
        have P1' : ∃ rp, Pass imm0 w0 sp.sp x0.1 rp u.cells.toList m1 := by
          cases sp with
          | one sq => exact ⟨(0, 0), by rw [cells_one P1.1]; exact P1.2⟩
          | agg sq => obtain ⟨us, rfl, P1⟩ := P1; exact ⟨(0, 0), P1⟩
        obtain ⟨rp, P1'⟩ := P1'
        have hlen := hcells.length
        rw [P1'.length] at hlen
        have htake : v.cells.take sp.sp.size = v.cells := by rw [hlen, List.take_length]
        obtain ⟨g1, n1, l1, R1, hO1, hf1, X1⟩ := hs R (by rw [htake]; exact hcells) P1'
        obtain ⟨g2, n2, l2, R2, hO2, hf2, hX⟩ := ih h3 R1 ((V.mono l1.le).of_env e1) P2 hA'
        refine ⟨g2, n1 ++ n2, l1.trans l2, R2, PendOk.append l2 hO1 hO2 hf2, fun b hb => ?_, u, r, n1, n2, rfl, rfl, outs_mono l2.le.imm X1, hX⟩
        rcases List.mem_append.1 hb with hb | hb
        · exact hf1 b hb
        · exact fun e => hf2 b hb (l1.kp b e).1
      · cases h5
theorem results_run {P : Program} {fn : Func} {tmps : Array Value} {w : World} {us : List Value} (h : (fn.results.toList.mapM (resSem tmps)).run P w = .ok us w) :
    (results fn tmps).run P w = .ok (match us with | [u] => u | us => .tuple us.toArray) w := by
  have e : (fn.results.mapM (resSem tmps)).run P w = .ok us.toArray w := by
    rw [Array.mapM_eq_mapM_toList]
    simp [h]
  have hr : results fn tmps = (do
    let vs ← fn.results.mapM (resSem tmps)
    pure (if h : vs.size = 1 then vs[0] else .tuple vs)) := rfl
  rw [hr]
  simp only [Sem.run_bind, e, Result.andThen_ok, Sem.run_pure]
  match us with
  | [] => rfl
  | [u] => rfl
  | u :: v :: r => rfl
theorem valsRel_length {g : Gh} : ∀ {vs : List Val} {us : List Value}, ValsRel g vs us → us.length = vs.length
  | [], _, h => by have h : _ = _ := h; subst h; rfl
  | _ :: _, _, ⟨_, _, e, _, hr⟩ => by subst e; simp [valsRel_length hr]
theorem endRes_sound {E : Env} {fn : Func} {r : RSp} {s s' : St} {y : r.ty.den} (h : (endRes E fn.results.toList r).run s = some (y, s')) : s'.env = s.env ∧ ∀ {B : Base} {g : Gh} {a : Act} {w : World}, GlobOk E.glob g.imm → HRel B g s.hp w → EnvRel g s.env a →
    ∃ v g' nb, (results fn a.tmps).run E.P w = .ok v w ∧ Le g g' ∧ HRel B g' s'.hp w ∧ PendOk g' nb ∧ ResOk g'.imm w r y v nb := by
  cases r with
  | none =>
    obtain ⟨vs, t, h1, h2⟩ := AM.bind_run h
    split at h2
    · obtain ⟨_, rfl⟩ := run_ret h2
      obtain ⟨e1, k1⟩ := resList_sound h1
      refine ⟨e1, fun {B g a w} hG R V => ?_⟩
      obtain ⟨us, g1, a1, l1, R1, v1⟩ := k1 hG R V
      have v1 : us = [] := v1
      subst v1
      exact ⟨_, g1, [], results_run a1, l1, R1, ⟨List.nodup_nil, fun b hb => by simp at hb⟩, rfl, rfl⟩
    · cases h2
  | val sp =>
    obtain ⟨vs, t, h1, h2⟩ := AM.bind_run h
    obtain ⟨hp, h3⟩ := run_if h2
    split at h3
    · rename_i v
      obtain ⟨e1, k1⟩ := resList_sound h1
      obtain ⟨e2, k2⟩ := rdVal_sound h3
      refine ⟨e2.1.trans e1, fun {B g a w} hG R V => ?_⟩
      obtain ⟨us, g1, a1, l1, R1, v1⟩ := k1 hG R V
      obtain ⟨u, rfl, hv⟩ := vals_one v1 rfl
      obtain ⟨g2, l2, R2, c2⟩ := k2 B g1 w R1
      obtain ⟨nb, hP, hO, _⟩ := c2 u hv
      exact ⟨u, g2, nb, results_run a1, l1.trans l2.le, R2, hO, hP.res hp⟩
    · cases h3
  | tup as =>
    obtain ⟨vs, t, h1, h2⟩ := AM.bind_run h
    obtain ⟨hp, h3⟩ := run_if h2
    split at h3
    · cases h3
    · rename_i hne
      obtain ⟨e1, k1⟩ := resList_sound h1
      obtain ⟨e2, k2⟩ := rdArgs_sound h3
      refine ⟨e2.1.trans e1, fun {B g a w} hG R V => ?_⟩
      obtain ⟨us, g1, a1, l1, R1, v1⟩ := k1 hG R V
      obtain ⟨g2, l2, R2, c2⟩ := k2 B g1 w R1
      obtain ⟨nb, hP, hO, _⟩ := c2 us v1
      have hl := valsRel_length v1
      have hr := results_run a1
      refine ⟨.tuple us.toArray, g2, nb, ?_, l1.trans l2.le, R2, hO, us, rfl, hP.res hp⟩
      rw [hr]
      match us, hl with
      | [], _ => rfl
      | [u], hl =>
        exfalso
        match vs, hl with
        | [v], _ => exact hne v rfl
      | u :: v :: r, _ => rfl
theorem passArgs_length {imm : Rd} {w : World} : ∀ {as : List VSp} {x : (argsTy as).den} {us : List Value} {nb : List Nat}, PassArgs imm w as x us nb → us.length = as.length
  | [], _, _, _, h => by rw [h.1]; rfl
  | _ :: _, _, _, _, ⟨u, r, n1, n2, e, _, _, h⟩ => by rw [e]; simp [passArgs_length h]
theorem slotsAre_upto {a : Act} : ∀ (as : List VSp) (n : Nat) (us : List Value), us.length = as.length → (∀ k u, us[k]? = some u → a.tmps.getD (n + k) undef = u) → SlotsAre a (upto as n) us
  | [], _, us, h, _ => List.eq_nil_of_length_eq_zero h
  | _ :: as, n, [], h, _ => by simp at h
  | _ :: as, n, u :: r, h, hk => ⟨u, r, rfl, hk 0 u rfl, slotsAre_upto as (n + 1) r (by simpa using h) fun k v hv => by
      have := hk (k + 1) v (by simpa using hv)
      rw [show n + 1 + k = n + (k + 1) by omega]; exact this⟩
theorem body_ok {E : Env} (hE : EnvOk E) (hm : E.P.follows .mixedOrders = true) {f : FuncId} {fn : Func} {c : Code} {sg : Sig} {H : Cuts} (hf : E.P.funcs[f]? = some fn) (hb : fn.body = some c) (hname : (fn.name == "runtime.NumGoroutine") = false)
    (hnt : fn.ntmps = E.nt) (hargs : sg.args.length ≤ E.nt) (hkeep : (E.keep.all fun t => Nat.blt t sg.args.length) = true) (hwa : wholeArgs sg.args = true) (hH : CutsOk E H c) : CallOk E.P E.glob f ⟨sg, bodyF E fn sg H⟩ := by
  classical
  intro x y hF imm w args nb hG hcells hP hnd hnb
  have hF : bodyF E fn sg H x = some y := hF
  unfold bodyF at hF
  rw [hb] at hF
  have hcall : (callFunc f args.toArray).run E.P w = .ok (.enter f args.toArray) w := by
    have h1 : fn.name ≠ "runtime.NumGoroutine" := by simpa using hname
    simp [callFunc, hf, h1, hb]
  unfold Invokes
  rw [hcall]
  simp only
  have hlen : args.length = sg.args.length := passArgs_length hP
  let B : Base := { imm := imm, lab := fun b => if b ∈ nb then some 0 else none, w := w, arg := fun t => args.getD t undef }
  let g0 : Gh := { imm := imm, top := fun _ => 0, cv := fun _ _ => .tuple #[], lab := fun b => if b ∈ nb then some 0 else none, nst := fun _ => none, outer := fun _ => [] }
  have R0 : HRel B g0 [] w := by
    refine ⟨fun _ => rfl, (fun i o h => by cases h), fun b L h => ?_, (fun b L h => by cases h), fun b h => ?_, fun b L h => h, fun b hb hl hi => ⟨hl, hi, rfl⟩, Nat.le_refl _, rfl, rfl, rfl, fun _ _ _ => rfl⟩
    · have : b ∉ nb := fun hm => by
        have h1 := (hnb b hm).1
        have h : imm b = some L := h
        rw [h1] at h; cases h
      exact ⟨by simp [g0, this], rfl, hcells b L h⟩
    · by_cases hm : b ∈ nb
      · exact (hnb b hm).2
      · simp [g0, hm] at h
  refine calls_of_wp hf hb ?_
  let a0 : Act := { tmps := args.toArray ++ Array.replicate (fn.ntmps - args.toArray.size) undef, defers := [] }
  have hget : ∀ k u, args[k]? = some u → a0.tmps.getD k undef = u := by
    intro k u hk
    have hlt := (List.getElem?_eq_some_iff.1 hk).1
    simp only [a0, Array.getD_eq_getD_getElem?]
    rw [Array.getElem?_append_left (by simpa using hlt)]
    simp [hk]
  have hsz : a0.tmps.size = E.nt := by
    simp only [a0, Array.size_append, Array.size_replicate, List.size_toArray, hnt]
    omega
  obtain ⟨g1, l1, R1, V1⟩ := dec_sound (E := E) (ts := upto sg.args 0) (x := x) (a := a0) hwa R0 hP ⟨hnd, fun b hb => by simp [g0, hb]⟩ (fun _ _ => rfl) (slotsAre_upto sg.args 0 args hlen fun k u hk => by rw [Nat.zero_add]; exact hget k u hk) hsz rfl (fun t ht => by
    have := Nat.le_of_ble_eq_true (List.all_eq_true.1 hkeep t ht)
    have hlt : t < args.length := by omega
    rw [hget t args[t] (List.getElem?_eq_getElem hlt)]
    simp [B, hlt])
  refine exec_sound hE hm c _ _ y _ hH hF (fun e => ?_) g1 a0 w (hG.mono l1.imm) R1 V1
  have fin : ∀ s g a w', (finish E fn.results.toList sg).exec s (fun r _ => some r) = some y → GlobOk E.glob g.imm → HRel B g s.hp w' → ActRel E B g s.env a →
      a.defers = [] ∧ ∃ v, (results fn a.tmps).run E.P w' = .ok v w' ∧ (∃ v', Ending.returned v = .returned v' ∧ ∃ imm' n1 n2, After imm w nb imm' w' (n1 ++ n2) ∧ ResOk imm' w' sg.res y.1 v' n1 ∧ OutsArgs imm' w w' sg.args y.2 args n2) := by
    intro s g a w' hk hG' R V
    obtain ⟨y', s', h1, h2⟩ := exec_some hk
    injection h2 with h2
    subst h2
    obtain ⟨r, t, h3, h4⟩ := AM.bind_run h1
    obtain ⟨o, t2, h5, h6⟩ := AM.bind_run h4
    obtain ⟨h7, rfl⟩ := run_ret h6
    obtain ⟨e1, k1⟩ := endRes_sound h3
    obtain ⟨v, g2, n1, hr, l2, R2, hO2, hRes⟩ := k1 hG' R V.env
    obtain ⟨g3, n2, l3, R3, hO3, hf3, hOut⟩ := endArgs_sound h5 R2 ((V.mono l2).of_env e1) hP (fun k u hk => by simp [B, hk])
    have hO := PendOk.append l3 hO2 hO3 hf3
    refine ⟨V.defers, v, hr, v, rfl, g3.imm, n1, n2, ⟨fun b L hb => R3.imm0 b L hb, fun b L hb => (R3.imm b L hb).2.2, fun b h1 h2 h3 => ?_, hO.1, fun b hb => ?_, R3.size, R3.os, R3.tape, R3.output, fun b L hb => R3.fix b L hb⟩, ?_, ?_⟩
    · have hl : B.lab b = none := by simp [B, h2]
      obtain ⟨_, f2, f3⟩ := R3.frame b h1 hl h3
      exact ⟨f3, f2⟩
    · have hlb := hO.2 b hb
      have hi : g3.imm b = none := by
        cases hi : g3.imm b with
        | none => rfl
        | some L => have := (R3.imm b L hi).1; rw [hlb] at this; cases this
      refine ⟨hi, ?_, R3.labsz b (by rw [hlb]; simp)⟩
      rcases Nat.lt_or_ge b w.heap.size with h1 | h1
      · left
        apply Classical.byContradiction
        intro h2
        have hl : B.lab b = none := by simp [B, h2]
        have h3 : imm b = none := by
          cases h3 : imm b with
          | none => rfl
          | some L => have := R3.imm0 b L h3; rw [hi] at this; cases this
        obtain ⟨f1, _⟩ := R3.frame b h1 hl h3
        rw [f1] at hlb; cases hlb
      · exact .inr h1
    · rw [h7]; exact resOk_mono l3.le.imm hRes
    · rw [h7]; exact hOut
  cases e with
  | normal => intro s g a w' hk hG' R V; exact fin s g a w' hk hG' R V
  | ret => intro s g a w' hk hG' R V; exact fin s g a w' hk hG' R V
  | _ => intro s g a w' hk; cases hk
end Go.Abs
end

section
namespace Go.Abs
@[reducible] def borS : Sp → Sp
  | .pr a b => .pr (borS a) (borS b)
  | .pub (.sl τ) => .lnd τ true
  | s => s
def plainS : Sp → Bool
  | .un => true
  | .pr a b => plainS a && plainS b
  | .pub _ => true
  | .err => true
  | .np => true
  | _ => false
def indepS : Sp → Bool
  | .un => true
  | .pr a b => indepS a && indepS b
  | .pub τ => τ.flat
  | .own τ dp => τ.flat || dp
  | .err => true
  | .np => true
  | _ => false
def unbor : (s : Sp) → (borS s).ty.den → s.ty.den
  | .un, x => x
  | .pr a b, x => (unbor a x.1, unbor b x.2)
  | .pub (.sl _), x => x
  | .pub (.int _), x => x
  | .pub .bool, x => x
  | .pub .str, x => x
  | .pub .un, x => x
  | .pub (.pr _ _), x => x
  | .pub .cl, x => x
  | .own _ _, x => x
  | .lnd _ _, x => x
  | .ptr _ _ _, x => x
  | .tak _, x => x
  | .bld, x => x
  | .err, x => x
  | .np, x => x
def outB : (s : Sp) → (borS s).ty.den → (borS s).outTy.den
  | .un, _ => ()
  | .pr a b, x => (outB a x.1, outB b x.2)
  | .pub (.sl _), x => x
  | .pub (.int _), _ => ()
  | .pub .bool, _ => ()
  | .pub .str, _ => ()
  | .pub .un, _ => ()
  | .pub (.pr _ _), _ => ()
  | .pub .cl, _ => ()
  | .own _ _, _ => ()
  | .lnd _ _, x => x
  | .ptr _ _ _, x => x
  | .tak _, _ => ()
  | .bld, _ => ()
  | .err, _ => ()
  | .np, _ => ()
@[reducible] def borV : VSp → VSp
  | .one s => .one (borS s)
  | .agg s => .agg (borS s)
def unborV : (a : VSp) → (borV a).sp.ty.den → a.sp.ty.den
  | .one s, x => unbor s x
  | .agg s, x => unbor s x
def outBV : (a : VSp) → (borV a).sp.ty.den → (borV a).sp.outTy.den
  | .one s, x => outB s x
  | .agg s, x => outB s x
@[reducible] def borAs : List VSp → List VSp
  | [] => []
  | a :: r => borV a :: borAs r
def unborAs : (as : List VSp) → (argsTy (borAs as)).den → (argsTy as).den
  | [], _ => ()
  | a :: r, x => (unborV a x.1, unborAs r x.2)
def outBAs : (as : List VSp) → (argsTy (borAs as)).den → (outsTy (borAs as)).den
  | [], _ => ()
  | a :: r, x => (outBV a x.1, outBAs r x.2)
def borCallee (c : Callee) : Callee := ⟨⟨borAs c.sig.args, c.sig.res⟩, fun x => (c.F (unborAs c.sig.args x)).map fun y => (y.1, outBAs c.sig.args x)⟩
def plainAs (as : List VSp) : Bool := as.all fun a => plainS a.sp
def indepR : RSp → Bool
  | .val v => indepS v.sp
  | .tup vs => vs.all fun v => indepS v.sp
  | .none => true
open Classical in
noncomputable def immB (imm : Rd) (w : World) (nb : List Nat) : Rd := fun b => if b ∈ nb then rdW w b else imm b
theorem rdW_of {w : World} {b : Nat} {arr : Array Value} {ty : TypeId} (h : w.heap[b]? = some (.cells arr ty (0, 0))) : rdW w b = some arr.toList := by
  unfold rdW; rw [h]
  rfl
def Here (w : World) (nb : List Nat) : Prop := ∀ b ∈ nb, ∃ arr ty, w.heap[b]? = some (.cells arr ty (0, 0))
theorem here_rdW {w : World} {b : Nat} (h : rdW w b ≠ none) : ∃ arr ty, w.heap[b]? = some (.cells arr ty (0, 0)) := by
  unfold rdW at h
  split at h
  · rename_i arr ty e; exact ⟨arr, ty, e⟩
  · exact absurd rfl h
theorem OwnAt.here {imm : Rd} {w : World} {mv : Bool} {τ : Ty} {xs : List τ.den} {us : List Value} {nb : List Nat} (h : OwnAt imm w mv τ xs us nb) : Here w nb := by
  rcases h with ⟨_, _, rfl⟩ | ⟨b, cap, arr, ty, nb', _, rfl, ha, _, _, hE⟩
  · exact fun b hb => by simp at hb
  · intro x hx
    rcases List.mem_cons.1 hx with rfl | hx
    · exact ⟨arr, ty, ha⟩
    · unfold OwnEls at hE
      split at hE
      · exact here_rdW (hE.nst_some x hx)
      · rw [hE.2] at hx; simp at hx
theorem OwnAt.rc {imm imm1 : Rd} {w : World} {τ : Ty} {xs : List τ.den} {us : List Value} {nb : List Nat} (h1 : ∀ b ∈ nb, imm1 b = rdW w b) (h : OwnAt imm w (true && !τ.flat) τ xs us nb) : Rc imm1 (.sl τ) xs us := by
  rcases h with ⟨rfl, rfl, rfl⟩ | ⟨b, cap, arr, ty, nb', rfl, rfl, ha, hl, _, hE⟩
  · exact ⟨none, 0, rfl, Nat.le_refl _, .inl rfl⟩
  · refine ⟨some ⟨b, 0, none⟩, cap, rfl, hl, .inr ⟨b, 0, arr.toList, rfl, ?_, ?_⟩⟩
    · rw [h1 b (List.mem_cons_self ..), rdW_of ha]
    · show Els imm1 τ xs arr.toList 0
      unfold OwnEls at hE
      split at hE
      · exact (LinEls.mono (r' := imm1) (fun x hx L hL => by rw [h1 x (List.mem_cons_of_mem _ hx)]; exact hL) hE).els
      · rename_i hf
        have hf : τ.flat = true := by simpa using hf
        exact hE.1.flat hf
theorem pass_bor {imm imm1 : Rd} {w : World} (hm : ∀ b L, imm b = some L → imm1 b = some L) : ∀ {s : Sp} {x : (borS s).ty.den} {pl : Nat × Nat} {us : List Value} {nb : List Nat}, plainS s = true → (∀ b ∈ nb, imm1 b = rdW w b) → Pass imm w (borS s) x pl us nb →
    Pass imm1 w s (unbor s x) pl us [] ∧ Here w nb := by
  intro s
  induction s with
  | un => intro x pl us nb _ _ h; exact ⟨⟨h.1, rfl⟩, by rw [h.2]; exact fun b hb => by simp at hb⟩
  | pr a b iha ihb =>
    intro x pl us nb hp h1 h
    simp only [plainS, Bool.and_eq_true] at hp
    obtain ⟨u1, u2, n1, n2, rfl, rfl, k1, k2⟩ := h
    obtain ⟨a1, a2⟩ := iha hp.1 (fun b hb => h1 b (List.mem_append_left _ hb)) k1
    obtain ⟨b1, b2⟩ := ihb hp.2 (fun b hb => h1 b (List.mem_append_right _ hb)) k2
    refine ⟨⟨u1, u2, [], [], rfl, rfl, a1, ?_⟩, fun b hb => ?_⟩
    · have hsz : ∀ s, plainS s = true → (borS s).size = s.size := by
        intro s
        induction s with
        | pr a b iha ihb => intro h; simp only [plainS, Bool.and_eq_true] at h; show (borS a).size + (borS b).size = a.size + b.size; rw [iha h.1, ihb h.2]
        | pub τ => intro _; cases τ <;> rfl
        | _ => intro _; rfl
      rw [hsz a hp.1] at b1
      exact b1
    · rcases List.mem_append.1 hb with hb | hb
      · exact a2 b hb
      · exact b2 b hb
  | pub τ =>
    intro x pl us nb _ h1 h
    cases τ with
    | sl e =>
      have h : OwnAt imm w (true && !e.flat) e x us nb := h
      refine ⟨⟨rfl, rfl, ?_⟩, h.here⟩
      have hr := h.rc h1
      obtain ⟨A, c, e', _⟩ := id hr
      exact ⟨_, e', by rw [← e']; exact hr⟩
    | _ =>
      obtain ⟨rfl, h2, u, rfl, h3⟩ := h
      exact ⟨⟨rfl, h2, u, rfl, h3.mono hm⟩, fun b hb => by simp at hb⟩
  | err =>
    intro x pl us nb _ _ h
    obtain ⟨rfl, h⟩ := h
    exact ⟨⟨rfl, h⟩, fun b hb => by simp at hb⟩
  | np =>
    intro x pl us nb _ _ h
    obtain ⟨rfl, h⟩ := h
    exact ⟨⟨rfl, h⟩, fun b hb => by simp at hb⟩
  | _ => intro x pl us nb hp; cases hp
theorem passV_bor {imm imm1 : Rd} {w : World} (hm : ∀ b L, imm b = some L → imm1 b = some L) {a : VSp} {x : (borV a).sp.ty.den} {u : Value} {nb : List Nat} (hp : plainS a.sp = true) (h1 : ∀ b ∈ nb, imm1 b = rdW w b) (h : PassVal imm w (borV a) x u nb) :
    PassVal imm1 w a (unborV a x) u [] ∧ Here w nb := by
  cases a with
  | one s => obtain ⟨ho, h⟩ := h; obtain ⟨k1, k2⟩ := pass_bor hm hp h1 h; exact ⟨⟨ho, k1⟩, k2⟩
  | agg s => obtain ⟨us, e, h⟩ := h; obtain ⟨k1, k2⟩ := pass_bor hm hp h1 h; exact ⟨⟨us, e, k1⟩, k2⟩
theorem passAs_bor {imm imm1 : Rd} {w : World} (hm : ∀ b L, imm b = some L → imm1 b = some L) : ∀ {as : List VSp} {x : (argsTy (borAs as)).den} {us : List Value} {nb : List Nat}, plainAs as = true → (∀ b ∈ nb, imm1 b = rdW w b) → PassArgs imm w (borAs as) x us nb →
    PassArgs imm1 w as (unborAs as x) us [] ∧ Here w nb
  | [], x, us, nb, _, _, h => ⟨⟨h.1, rfl⟩, by rw [h.2]; exact fun b hb => by simp at hb⟩
  | a :: r, x, us, nb, hp, h1, ⟨u, q, n1, n2, e, e', k1, k2⟩ => by
    subst e; subst e'
    simp only [plainAs, List.all_cons, Bool.and_eq_true] at hp
    obtain ⟨a1, a2⟩ := passV_bor hm hp.1 (fun b hb => h1 b (List.mem_append_left _ hb)) k1
    obtain ⟨b1, b2⟩ := passAs_bor hm hp.2 (fun b hb => h1 b (List.mem_append_right _ hb)) k2
    refine ⟨⟨u, q, [], [], rfl, rfl, a1, b1⟩, fun b hb => ?_⟩
    rcases List.mem_append.1 hb with hb | hb
    · exact a2 b hb
    · exact b2 b hb
theorem OwnAt.still {imm imm' : Rd} {w w' : World} {τ : Ty} {xs : List τ.den} {us : List Value} {nb : List Nat} (hs : ∀ b ∈ nb, w'.heap[b]? = w.heap[b]?) (h : OwnAt imm w (true && !τ.flat) τ xs us nb) : OwnAt imm' w' (true && !τ.flat) τ xs us nb := by
  rcases h with h | ⟨b, cap, arr, ty, nb', e, rfl, ha, hl, hz, hE⟩
  · exact .inl h
  · refine .inr ⟨b, cap, arr, ty, nb', e, rfl, (hs b (List.mem_cons_self ..)).trans ha, hl, hz, ?_⟩
    unfold OwnEls at hE ⊢
    split
    · rename_i hc
      rw [if_pos hc] at hE
      refine LinEls.mono (fun x hx L hL => ?_) hE
      have := hs x (List.mem_cons_of_mem _ hx)
      unfold rdW at hL ⊢
      rw [this]; exact hL
    · rename_i hc
      rw [if_neg hc] at hE
      have hf : τ.flat = true := by simpa using hc
      exact ⟨hE.1.flat hf, hE.2⟩
theorem outs_bor {imm imm' : Rd} {w w' : World} : ∀ {s : Sp} {x : (borS s).ty.den} {pl : Nat × Nat} {us : List Value} {nb : List Nat}, plainS s = true → (∀ b ∈ nb, w'.heap[b]? = w.heap[b]?) → Pass imm w (borS s) x pl us nb → Outs imm' w w' (borS s) (outB s x) us nb := by
  intro s
  induction s with
  | un => intro x pl us nb _ _ h; exact h.2
  | pr a b iha ihb =>
    intro x pl us nb hp h1 h
    simp only [plainS, Bool.and_eq_true] at hp
    obtain ⟨u1, u2, n1, n2, rfl, rfl, k1, k2⟩ := h
    have hl := k1.length
    refine ⟨n1, n2, rfl, ?_, ?_⟩
    · rw [← hl, List.take_left]
      exact iha hp.1 (fun b hb => h1 b (List.mem_append_left _ hb)) k1
    · rw [← hl, List.drop_left]
      exact ihb hp.2 (fun b hb => h1 b (List.mem_append_right _ hb)) k2
  | pub τ =>
    intro x pl us nb _ h1 h
    cases τ with
    | sl e =>
      have h : OwnAt imm w (true && !e.flat) e x us nb := h
      exact ⟨rfl, h.still h1⟩
    | _ => exact h.1
  | err => intro x pl us nb _ _ h; exact h.1
  | np => intro x pl us nb _ _ h; exact h.1
  | _ => intro x pl us nb hp; cases hp
theorem outsAs_bor {imm imm' : Rd} {w w' : World} : ∀ {as : List VSp} {x : (argsTy (borAs as)).den} {us : List Value} {nb : List Nat}, plainAs as = true → (∀ b ∈ nb, w'.heap[b]? = w.heap[b]?) → PassArgs imm w (borAs as) x us nb → OutsArgs imm' w w' (borAs as) (outBAs as x) us nb
  | [], x, us, nb, _, _, h => h
  | a :: r, x, us, nb, hp, h1, ⟨u, q, n1, n2, e, e', k1, k2⟩ => by
    subst e; subst e'
    simp only [plainAs, List.all_cons, Bool.and_eq_true] at hp
    refine ⟨u, q, n1, n2, rfl, rfl, ?_, outsAs_bor hp.2 (fun b hb => h1 b (List.mem_append_right _ hb)) k2⟩
    have h1' := fun b hb => h1 b (List.mem_append_left n2 hb)
    cases a with
    | one s => obtain ⟨ho, k1⟩ := k1; rw [cells_one ho]; exact outs_bor hp.1 h1' k1
    | agg s => obtain ⟨us, e, k1⟩ := k1; subst e; exact outs_bor hp.1 h1' k1
theorem Back.indep {imm imm' : Rd} {w : World} : ∀ {s : Sp} {x : s.ty.den} {pl : Nat × Nat} {old us : List Value} {nb : List Nat}, indepS s = true → Back imm w w s x pl old us nb → Back imm' w w s x pl old us nb := by
  intro s
  induction s with
  | un => intro x pl old us nb _ h; exact h
  | pr a b iha ihb =>
    intro x pl old us nb hp h
    simp only [indepS, Bool.and_eq_true] at hp
    obtain ⟨u1, u2, n1, n2, e, e', k1, k2⟩ := h
    exact ⟨u1, u2, n1, n2, e, e', iha hp.1 k1, ihb hp.2 k2⟩
  | pub τ =>
    intro x pl old us nb hp h
    obtain ⟨h1, h2, u, h3, h4⟩ := h
    exact ⟨h1, h2, u, h3, h4.flat hp⟩
  | own τ dp =>
    intro x pl old us nb hp h
    have hp : (τ.flat || dp) = true := hp
    have h : OwnAt imm w (dp && !τ.flat) τ x us nb := h
    show OwnAt imm' w (dp && !τ.flat) τ x us nb
    rcases h with h | ⟨b, cap, arr, ty, nb', e, e', ha, hl, hs, hE⟩
    · exact .inl h
    · refine .inr ⟨b, cap, arr, ty, nb', e, e', ha, hl, hs, ?_⟩
      unfold OwnEls at hE ⊢
      split
      · rename_i hc; rw [if_pos hc] at hE; exact hE
      · rename_i hc
        rw [if_neg hc] at hE
        have hf : τ.flat = true := by
          revert hp hc
          cases τ.flat <;> cases dp <;> simp
        exact ⟨hE.1.flat hf, hE.2⟩
  | err => intro x pl old us nb _ h; exact h
  | np => intro x pl old us nb _ h; exact h
  | _ => intro x pl old us nb hp; cases hp
theorem resV_indep {imm imm' : Rd} {w : World} {a : VSp} {x : a.sp.ty.den} {u : Value} {nb : List Nat} (hp : indepS a.sp = true) (h : ResVal imm w a x u nb) : ResVal imm' w a x u nb := by
  cases a with
  | one s => exact ⟨h.1, h.2.indep hp⟩
  | agg s => obtain ⟨us, e, h⟩ := h; exact ⟨us, e, h.indep hp⟩
theorem resVs_indep {imm imm' : Rd} {w : World} : ∀ {as : List VSp} {x : (argsTy as).den} {us : List Value} {nb : List Nat}, (as.all fun v => indepS v.sp) = true → ResVals imm w as x us nb → ResVals imm' w as x us nb
  | [], _, _, _, _, h => h
  | a :: r, x, us, nb, hp, ⟨u, q, n1, n2, e, e', k1, k2⟩ => by
    simp only [List.all_cons, Bool.and_eq_true] at hp
    exact ⟨u, q, n1, n2, e, e', resV_indep hp.1 k1, resVs_indep hp.2 k2⟩
theorem res_indep {imm imm' : Rd} {w : World} {r : RSp} {x : r.ty.den} {u : Value} {nb : List Nat} (hp : indepR r = true) (h : ResOk imm w r x u nb) : ResOk imm' w r x u nb := by
  cases r with
  | val a => exact resV_indep hp h
  | tup as => obtain ⟨vs, e, h⟩ := h; exact ⟨vs, e, resVs_indep hp h⟩
  | none => exact h
theorem outs_plain {imm : Rd} {w w' : World} : ∀ {s : Sp} {x : s.outTy.den} {us : List Value} {nb : List Nat}, plainS s = true → Outs imm w w' s x us nb → nb = [] := by
  intro s
  induction s with
  | pr a b iha ihb =>
    intro x us nb hp ⟨n1, n2, e, h1, h2⟩
    simp only [plainS, Bool.and_eq_true] at hp
    rw [e, iha hp.1 h1, ihb hp.2 h2]; rfl
  | un => intro x us nb _ h; exact h
  | pub τ => intro x us nb _ h; exact h
  | err => intro x us nb _ h; exact h
  | np => intro x us nb _ h; exact h
  | _ => intro x us nb hp; cases hp
theorem outsAs_plain {imm : Rd} {w w' : World} : ∀ {as : List VSp} {x : (outsTy as).den} {us : List Value} {nb : List Nat}, plainAs as = true → OutsArgs imm w w' as x us nb → nb = []
  | [], _, _, _, _, h => h.2
  | a :: r, x, us, nb, hp, ⟨u, q, n1, n2, e, e', k1, k2⟩ => by
    simp only [plainAs, List.all_cons, Bool.and_eq_true] at hp
    rw [e', outs_plain hp.1 k1, outsAs_plain hp.2 k2]; rfl
theorem bor_ok {P : Program} {glob : Nat → Option (List Cell)} {f : FuncId} {c : Callee} (hp : plainAs c.sig.args = true) (hr : indepR c.sig.res = true) (H : CallOk P glob f c) : CallOk P glob f (borCallee c) := by
  intro x y hF imm w args nb hG hcells hP hnd hnb
  have hF : (c.F (unborAs c.sig.args x)).map (fun y => (y.1, outBAs c.sig.args x)) = some y := hF
  obtain ⟨z, hz, rfl⟩ := Option.map_eq_some_iff.1 hF
  have hP : PassArgs imm w (borAs c.sig.args) x args nb := hP
  have hm : ∀ b L, imm b = some L → immB imm w nb b = some L := fun b L h => by
    unfold immB
    rw [if_neg]
    · exact h
    · intro hb; rw [(hnb b hb).1] at h; cases h
  obtain ⟨P1, here⟩ := passAs_bor (imm1 := immB imm w nb) hm hp (fun b hb => by unfold immB; rw [if_pos hb]) hP
  refine (H _ _ hz (immB imm w nb) w args [] (hG.mono hm) (fun b L h => ?_) P1 List.nodup_nil (fun b hb => by simp at hb)).mono ?_
  · unfold immB at h
    split at h
    · rename_i hb
      obtain ⟨arr, ty, ha⟩ := here b hb
      rw [rdW_of ha] at h
      injection h with h
      exact ⟨arr, ty, _, ha, h⟩
    · exact hcells b L h
  · rintro v w' ⟨imm', n1, n2, A, hR, hO⟩
    have hn2 := outsAs_plain hp hO
    subst hn2
    rw [List.append_nil] at A
    have hst : ∀ b ∈ nb, w'.heap[b]? = w.heap[b]? := fun b hb => by
      obtain ⟨arr, ty, ha⟩ := here b hb
      exact A.fix b arr.toList (by unfold immB; rw [if_pos hb, rdW_of ha])
    refine ⟨fun b => open Classical in if b ∈ nb then none else imm' b, n1, nb, ⟨fun b L h => ?_, fun b L h => ?_, fun b h1 h2 h3 => ?_, ?_, fun b hb => ?_, A.size, A.os, A.tape, A.output, fun b L h => A.fix b L (hm b L h)⟩, res_indep hr hR, outsAs_bor hp hst hP⟩
    · rw [if_neg (fun hb => by rw [(hnb b hb).1] at h; cases h)]
      exact A.mono b L (hm b L h)
    · have h : (if b ∈ nb then none else imm' b) = some L := h
      split at h
      · cases h
      · exact A.cells b L h
    · have e : immB imm w nb b = none := by unfold immB; rw [if_neg h2]; exact h3
      obtain ⟨a1, a2⟩ := A.same b h1 (by simp) e
      exact ⟨a1, by rw [if_neg h2]; exact a2⟩
    · rw [List.nodup_append]
      refine ⟨A.nodup, hnd, fun a ha b hb e => ?_⟩
      subst e
      have h1 := (hnb a hb).2
      rcases (A.frm a ha).2.1 with h | h
      · simp at h
      · omega
    · rcases List.mem_append.1 hb with hb | hb
      · obtain ⟨a1, a2, a3⟩ := A.frm b hb
        refine ⟨?_, ?_, a3⟩
        · split
          · rfl
          · exact a1
        · rcases a2 with h | h
          · simp at h
          · exact .inr h
      · refine ⟨by rw [if_pos hb], .inl hb, ?_⟩
        have := (hnb b hb).2
        have := A.size
        omega
end Go.Abs
end

section
namespace Go.Abs
def allPieces : Code → List (Bool × Code)
  | .seq a b => (false, b) :: (allPieces a ++ allPieces b)
  | .cond _ a b => allPieces a ++ allPieces b
  | .block _ c => allPieces c
  | .loop c => (true, c) :: allPieces c
  | .scope c => allPieces c
  | _ => []
def atFirst (k : Bool) (r : Nat) : List (Bool × Code) → Code
  | [] => .skip
  | p :: q => bif (p.1 == k) && (match first p.2 with | some n => Nat.beq n r | none => false) then p.2 else atFirst k r q
def keyOf (p : Bool × Code) : Bool × Option Nat := (p.1, first p.2)
theorem pieces_all : ∀ (c : Code), ∀ p ∈ pieces c, p ∈ allPieces c := by
  intro c
  induction c with
  | seq a b iha ihb =>
    intro p hp
    simp only [pieces, allPieces, List.mem_cons, List.mem_append] at hp ⊢
    rcases hp with h | h | h
    · exact .inl h
    · exact .inr (.inl (iha p h))
    · exact .inr (.inr (ihb p h))
  | cond c a b iha ihb =>
    intro p hp
    simp only [pieces, allPieces, List.mem_append] at hp ⊢
    exact hp.imp (iha p) (ihb p)
  | block id c ih => exact ih
  | loop c ih => intro p hp; simp only [pieces, allPieces, List.mem_cons, List.not_mem_nil, or_false] at hp ⊢; exact .inl hp
  | scope c ih => exact ih
  | _ => intro p hp; cases hp
theorem allPieces_trans : ∀ (c : Code), ∀ p ∈ allPieces c, ∀ q ∈ allPieces p.2, q ∈ allPieces c := by
  intro c
  induction c with
  | seq a b iha ihb =>
    intro p hp q hq
    simp only [allPieces, List.mem_cons, List.mem_append] at hp ⊢
    rcases hp with rfl | h | h
    · exact .inr (.inr hq)
    · exact .inr (.inl (iha p h q hq))
    · exact .inr (.inr (ihb p h q hq))
  | cond c a b iha ihb =>
    intro p hp q hq
    simp only [allPieces, List.mem_append] at hp ⊢
    rcases hp with h | h
    · exact .inl (iha p h q hq)
    · exact .inr (ihb p h q hq)
  | block id c ih => exact ih
  | loop c ih =>
    intro p hp q hq
    simp only [allPieces, List.mem_cons] at hp ⊢
    rcases hp with rfl | h
    · exact .inr hq
    · exact .inr (ih p h q hq)
  | scope c ih => exact ih
  | _ => intro p hp; cases hp
theorem atFirst_eq {k : Bool} {b : Code} {r : Nat} : ∀ {l : List (Bool × Code)}, (∀ p ∈ l, first p.2 = some r → p.1 = k → p = (k, b)) → (k, b) ∈ l → first b = some r → atFirst k r l = b
  | [], _, h, _ => by simp at h
  | p :: q, hu, h, hf => by
    simp only [atFirst]
    cases hc : ((p.1 == k) && (match first p.2 with | some n => Nat.beq n r | none => false)) with
    | true =>
      simp only [Bool.and_eq_true, beq_iff_eq] at hc
      have h2 : first p.2 = some r := by
        cases hp : first p.2 with
        | none => rw [hp] at hc; cases hc.2
        | some n => rw [hp] at hc; rw [beq_eq hc.2]
      rw [hu p (List.mem_cons_self ..) h2 hc.1]
      rfl
    | false =>
      simp only [cond_false]
      refine atFirst_eq (fun p' hp' => hu p' (List.mem_cons_of_mem _ hp')) ?_ hf
      rcases List.mem_cons.1 h with h | h
      · exfalso
        subst h
        simp [hf] at hc
      · exact h
theorem unique_of_nodup {l : List (Bool × Code)} (h : (l.map keyOf).Nodup) {p q : Bool × Code} (hp : p ∈ l) (hq : q ∈ l) (e : keyOf p = keyOf q) : p = q := by
  induction l with
  | nil => simp at hp
  | cons x r ih =>
    rw [List.map_cons, List.nodup_cons] at h
    rcases List.mem_cons.1 hp with rfl | hp' <;> rcases List.mem_cons.1 hq with rfl | hq'
    · rfl
    · exact absurd (List.mem_map.2 ⟨q, hq', e.symm⟩) h.1
    · exact absurd (List.mem_map.2 ⟨p, hp', e⟩) h.1
    · exact ih h.2 hp' hq'
def cutKeys (isCut : Bool → Nat → Bool) (c : Code) : List (Bool × Nat) := (allPieces c).filterMap fun p => match first p.2 with
  | some r => bif isCut p.1 r then some (p.1, r) else none
  | none => none
theorem unique_cut {isCut : Bool → Nat → Bool} : ∀ {l : List (Bool × Code)}, (l.filterMap fun p => match first p.2 with | some r => bif isCut p.1 r then some (p.1, r) else none | none => none).Nodup → ∀ {p q : Bool × Code} {r : Nat}, p ∈ l → q ∈ l → first p.2 = some r → first q.2 = some r → p.1 = q.1 → isCut p.1 r = true → p = q
  | [], _, p, q, r, hp, _, _, _, _, _ => by simp at hp
  | x :: l, h, p, q, r, hp, hq, h1, h2, h3, h4 => by
    have mem : ∀ y ∈ l, first y.2 = some r → y.1 = p.1 → (p.1, r) ∈ (l.filterMap fun p => match first p.2 with | some r => bif isCut p.1 r then some (p.1, r) else none | none => none) := fun y hy hf hk =>
      List.mem_filterMap.2 ⟨y, hy, by rw [hf]; simp [hk, h4]⟩
    rcases List.mem_cons.1 hp with rfl | hp' <;> rcases List.mem_cons.1 hq with rfl | hq'
    · rfl
    · exfalso
      rw [List.filterMap_cons] at h
      simp only [h1, h4, cond_true, List.nodup_cons] at h
      exact h.1 (mem q hq' h2 h3.symm)
    · exfalso
      rw [List.filterMap_cons] at h
      simp only [h2, ← h3, h4, cond_true, List.nodup_cons] at h
      exact h.1 (mem p hp' h1 rfl)
    · refine unique_cut (l := l) ?_ hp' hq' h1 h2 h3 h4
      rw [List.filterMap_cons] at h
      split at h
      · exact h
      · exact (List.nodup_cons.1 h).2
structure Sys where
  P : Program
  glob : Nat → Option (List Cell)
  cl : TypeId
  sig : FuncId → Sig
  known : FuncId → Bool
  keep : FuncId → List Nat
  isCut : FuncId → Bool → Nat → Bool
  cut : FuncId → Bool → Nat → Cut
  lib : FuncId → Option Callee
  bors : List (FuncId × FuncId) := []
  nest : FuncId → Bool := fun _ => false
  trim : FuncId → Bool := fun _ => false
namespace Sys
variable (S : Sys)
structure Tab where
  fn : (f : FuncId) → (S.sig f).dom.den → Option (S.sig f).cod.den
  pc : (f : FuncId) → (k : Bool) → (r : Nat) → (argsTy (S.cut f k r).as).den → Option (OutTy (S.cut f k r).ws)
def isBor (c f : FuncId) : Bool := S.bors.any fun p => Nat.beq p.1 c && Nat.beq p.2 f
def borsOk : Bool := S.bors.all fun p => plainAs (S.sig p.2).args && indepR (S.sig p.2).res
def callee (T : S.Tab) (c f : FuncId) : Option Callee := bif S.known f then (bif S.isBor c f then some (borCallee ⟨S.sig f, T.fn f⟩) else some ⟨S.sig f, T.fn f⟩) else S.lib f
def env (T : S.Tab) (f : FuncId) (nt : Nat) : Env := { P := S.P, callee := S.callee T f, glob := S.glob, cl := S.cl, nt := nt, keep := S.keep f, nest := S.nest f, trim := S.trim f }
def cuts (T : S.Tab) (f : FuncId) : Cuts :=
  ⟨fun r => bif S.isCut f true r then some ((S.cut f true r).handler (T.pc f true r)) else none,
   fun r => bif S.isCut f false r then some ((S.cut f false r).handler (T.pc f false r)) else none⟩
def stepFn (T : S.Tab) (f : FuncId) (x : (S.sig f).dom.den) : Option (S.sig f).cod.den := match S.P.funcs[f]? with
  | some fn => bodyF (S.env T f fn.ntmps) fn (S.sig f) (S.cuts T f) x
  | none => none
def stepPc (T : S.Tab) (f : FuncId) (k : Bool) (r : Nat) (x : (argsTy (S.cut f k r).as).den) : Option (OutTy (S.cut f k r).ws) := match S.P.funcs[f]? with
  | some fn => match fn.body with
    | some c => bif k then (S.cut f k r).round (S.env T f fn.ntmps) (S.cuts T f) (atFirst k r (allPieces c)) (T.pc f k r) x
        else (S.cut f k r).tail (S.env T f fn.ntmps) (S.cuts T f) (atFirst k r (allPieces c)) x
    | none => none
  | none => none
def step (T : S.Tab) : S.Tab := ⟨S.stepFn T, S.stepPc T⟩
def tab : Nat → S.Tab
  | 0 => ⟨fun _ _ => none, fun _ _ _ _ => none⟩
  | n + 1 => S.step (tab n)
def fnOk (f : FuncId) : Bool := match S.P.funcs[f]? with
  | some fn => match fn.body with
    | some c => (fn.name != "runtime.NumGoroutine") && Nat.ble (S.sig f).args.length fn.ntmps && ((S.keep f).all fun t => Nat.blt t (S.sig f).args.length) && wholeArgs (S.sig f).args &&
        decide (cutKeys (S.isCut f) c).Nodup
    | none => false
  | none => false
end Sys
end Go.Abs
end

section
namespace Go.Abs
theorem ActRel.callee {E E' : Env} (hn : E'.nt = E.nt) (hk : E'.keep = E.keep) {B : Base} {g : Gh} {env : List (Nat × Slot)} {a : Act} (H : ActRel E B g env a) : ActRel E' B g env a :=
  ⟨H.env, H.size.trans hn.symm, H.defers, by rw [hk]; exact H.kept⟩
theorem KOk.callee {ρ : Type} {E E' : Env} (hg : E'.glob = E.glob) (hn : E'.nt = E.nt) (hk : E'.keep = E.keep) {B : Base} {K : St → Option ρ} {x : ρ} {Q : Act → World → Prop} (h : KOk E' B K x Q) : KOk E B K x Q :=
  fun s g a w h1 h2 h3 h4 => h s g a w h1 (by rw [hg]; exact h2) h3 (h4.callee hn hk)
theorem PieceOk.callee {E E' : Env} (hg : E'.glob = E.glob) (hn : E'.nt = E.nt) (hk : E'.keep = E.keep) {c : Cut} {W : (Exit → Act → World → Prop) → Act → World → Prop} {L : (argsTy c.as).den → Option (OutTy c.ws)} (h : PieceOk E c W L) : PieceOk E' c W L :=
  fun x y hxy _ B K z Q hgo hK g a w h1 h2 h3 => h x y hxy B K z Q hgo (fun e => (hK e).callee hg hn hk) g a w (by rw [← hg]; exact h1) h2 (h3.callee hn.symm hk.symm)
namespace Sys
variable {S : Sys}
theorem fnOk_parts {f : FuncId} (h : S.fnOk f = true) : ∃ fn c, S.P.funcs[f]? = some fn ∧ fn.body = some c ∧ (fn.name == "runtime.NumGoroutine") = false ∧ (S.sig f).args.length ≤ fn.ntmps ∧ ((S.keep f).all fun t => Nat.blt t (S.sig f).args.length) = true ∧ wholeArgs (S.sig f).args = true ∧
    (cutKeys (S.isCut f) c).Nodup := by
  unfold fnOk at h
  split at h
  · rename_i fn hf
    split at h
    · rename_i c hc
      simp only [Bool.and_eq_true, decide_eq_true_eq] at h
      exact ⟨fn, c, hf, hc, by have := h.1.1.1.1; simpa [bne] using this, Nat.le_of_ble_eq_true h.1.1.1.2, h.1.1.2, h.1.2, h.2⟩
    · cases h
  · cases h
def W1 (P : Program) (k : Bool) (b : Code) : (Exit → Act → World → Prop) → Act → World → Prop := if k then LoopHead P b else fun Q => b.wp P Q
structure TabOk (S : Sys) (T : S.Tab) : Prop where
  fn : ∀ f, S.known f = true → CallOk S.P S.glob f ⟨S.sig f, T.fn f⟩
  pc : ∀ f, S.known f = true → ∀ fn c, S.P.funcs[f]? = some fn → fn.body = some c → ∀ k r, S.isCut f k r = true → (k, atFirst k r (allPieces c)) ∈ allPieces c → ∀ T' : S.Tab,
    PieceOk (S.env T' f fn.ntmps) (S.cut f k r) (W1 S.P k (atFirst k r (allPieces c))) (T.pc f k r)
theorem cutsOk {T : S.Tab} (hT : TabOk S T) {f : FuncId} (hk : S.known f = true) {fn : Func} {c : Code} (hf : S.P.funcs[f]? = some fn) (hb : fn.body = some c) (hnd : (cutKeys (S.isCut f) c).Nodup) {d : Code} (hd : ∀ p ∈ allPieces d, p ∈ allPieces c) :
    CutsOk (S.env T f fn.ntmps) (S.cuts T f) d := by
  have found : ∀ k b r, (k, b) ∈ pieces d → first b = some r → S.isCut f k r = true → atFirst k r (allPieces c) = b ∧ (k, b) ∈ allPieces c := by
    intro k b r hp hr hcut
    have hm := hd _ (pieces_all d _ hp)
    refine ⟨atFirst_eq (fun p hp' h1 h2 => ?_) hm hr, hm⟩
    exact unique_cut hnd hp' hm h1 hr h2 (by rw [h2]; exact hcut)
  refine ⟨fun b hp h hh => ?_, fun b hp h hh => ?_⟩
  · cases hr : first b with
    | none => rw [hr] at hh; cases hh
    | some r =>
      rw [hr] at hh
      have hh : (bif S.isCut f true r then some ((S.cut f true r).handler (T.pc f true r)) else none) = some h := hh
      cases hc : S.isCut f true r with
      | false => rw [hc] at hh; cases hh
      | true =>
        rw [hc] at hh
        injection hh with hh
        subst hh
        obtain ⟨e, hm⟩ := found true b r hp hr hc
        have := hT.pc f hk fn c hf hb true r hc (by rw [e]; exact hm) T
        rw [e] at this
        exact loop_handler (body := b) this
  · cases hr : first b with
    | none => rw [hr] at hh; cases hh
    | some r =>
      rw [hr] at hh
      have hh : (bif S.isCut f false r then some ((S.cut f false r).handler (T.pc f false r)) else none) = some h := hh
      cases hc : S.isCut f false r with
      | false => rw [hc] at hh; cases hh
      | true =>
        rw [hc] at hh
        injection hh with hh
        subst hh
        obtain ⟨e, hm⟩ := found false b r hp hr hc
        have := hT.pc f hk fn c hf hb false r hc (by rw [e]; exact hm) T
        rw [e] at this
        exact tail_handler (body := b) this
theorem step_ok (hm : S.P.follows .mixedOrders = true) (hk : ∀ f, S.known f = true → S.fnOk f = true) (hl : ∀ f c, S.known f = false → S.lib f = some c → CallOk S.P S.glob f c) (hbs : S.borsOk = true) {T : S.Tab} (hT : TabOk S T) : TabOk S (S.step T) := by
  have hE : ∀ f nt, EnvOk (S.env T f nt) := fun f nt => ⟨fun g c hc => by
    have hc : (bif S.known g then (bif S.isBor f g then some (borCallee ⟨S.sig g, T.fn g⟩) else some ⟨S.sig g, T.fn g⟩) else S.lib g) = some c := hc
    cases hg : S.known g with
    | true =>
      rw [hg] at hc
      cases hib : S.isBor f g with
      | false => rw [hib] at hc; injection hc with hc; subst hc; exact hT.fn g hg
      | true =>
        rw [hib] at hc; injection hc with hc; subst hc
        unfold isBor at hib
        obtain ⟨q, hq, hqe⟩ := List.any_eq_true.1 hib
        simp only [Bool.and_eq_true] at hqe
        obtain rfl := beq_eq hqe.2
        have := List.all_eq_true.1 hbs q hq
        simp only [Bool.and_eq_true] at this
        exact bor_ok this.1 this.2 (hT.fn _ hg)
    | false => rw [hg] at hc; exact hl g c hg hc⟩
  refine ⟨fun f hf => ?_, fun f hf fn c hfn hb k r hcut hmem T' => ?_⟩
  · obtain ⟨fn, c, h1, h2, h3, h4, h5, h6, h7⟩ := fnOk_parts (hk f hf)
    have hbody := body_ok (hE f fn.ntmps) hm (f := f) (fn := fn) (c := c) (sg := S.sig f) (H := S.cuts T f) h1 h2 h3 rfl h4 h5 h6 (cutsOk hT hf h1 h2 h7 fun p hp => hp)
    have e : (S.step T).fn f = bodyF (S.env T f fn.ntmps) fn (S.sig f) (S.cuts T f) := by
      funext x
      show S.stepFn T f x = _
      unfold stepFn
      rw [h1]
    rw [e]
    exact hbody
  · obtain ⟨fn', c', h1, h2, h3, h4, h5, h6, h7⟩ := fnOk_parts (hk f hf)
    rw [hfn] at h1
    injection h1 with h1
    subst h1
    rw [hb] at h2
    injection h2 with h2
    subst h2
    have hsub : ∀ p ∈ allPieces (atFirst k r (allPieces c)), p ∈ allPieces c := fun p hp => allPieces_trans c _ hmem p hp
    have hC := cutsOk hT hf hfn hb h7 hsub
    have e : (S.step T).pc f k r = fun x => bif k then (S.cut f k r).round (S.env T f fn.ntmps) (S.cuts T f) (atFirst k r (allPieces c)) (T.pc f k r) x
        else (S.cut f k r).tail (S.env T f fn.ntmps) (S.cuts T f) (atFirst k r (allPieces c)) x := by
      funext x
      show S.stepPc T f k r x = _
      unfold stepPc
      rw [hfn]
      show (match fn.body with
        | some c => _
        | none => none) = _
      rw [hb]
    rw [e]
    cases k with
    | true => exact PieceOk.callee (E := S.env T f fn.ntmps) (E' := S.env T' f fn.ntmps) rfl rfl rfl (round_ok (hE f fn.ntmps) hm hC (hT.pc f hf fn c hfn hb true r hcut hmem T))
    | false => exact PieceOk.callee (E := S.env T f fn.ntmps) (E' := S.env T' f fn.ntmps) rfl rfl rfl (tail_ok (hE f fn.ntmps) hm hC)
theorem ok (hm : S.P.follows .mixedOrders = true) (hk : ∀ f, S.known f = true → S.fnOk f = true) (hl : ∀ f c, S.known f = false → S.lib f = some c → CallOk S.P S.glob f c) (hbs : S.borsOk = true := by rfl) : ∀ n, TabOk S (S.tab n)
  | 0 => ⟨(fun f _ x y h => by cases h), (fun f _ fn c _ _ k r _ _ T' x y h => by cases h)⟩
  | n + 1 => step_ok hm hk hl hbs (ok hm hk hl hbs n)
end Sys
end Go.Abs
end

section
namespace Go.Abs
def out1 {A ρ : Type} (f : A → Option ρ) : A ⊕ Empty → Option ρ := Sum.elim f Empty.elim
def out2 {A B ρ : Type} (f : A → Option ρ) (g : B → Option ρ) : A ⊕ (B ⊕ Empty) → Option ρ := Sum.elim f (Sum.elim g Empty.elim)
def out3 {A B C ρ : Type} (f : A → Option ρ) (g : B → Option ρ) (h : C → Option ρ) : A ⊕ (B ⊕ (C ⊕ Empty)) → Option ρ := Sum.elim f (Sum.elim g (Sum.elim h Empty.elim))
def updAt {τ : Ty} (xs : List τ.den) (i : Int) (f : τ.den → τ.den) : List τ.den := xs.set i.toNat (f (at_ xs i))
namespace Sys
variable {S : Sys}
theorem step_fn {f : FuncId} {fn : Func} (h : S.P.funcs[f]? = some fn) (T : S.Tab) (x : (S.sig f).dom.den) : (S.step T).fn f x = bodyF (S.env T f fn.ntmps) fn (S.sig f) (S.cuts T f) x := by
  show S.stepFn T f x = _
  unfold stepFn
  rw [h]
theorem step_pc1 {f : FuncId} {fn : Func} {c : Code} (h : S.P.funcs[f]? = some fn) (hb : fn.body = some c) (T : S.Tab) {r : Nat} (x : (argsTy (S.cut f true r).as).den) :
    (S.step T).pc f true r x = (S.cut f true r).round (S.env T f fn.ntmps) (S.cuts T f) (atFirst true r (allPieces c)) (T.pc f true r) x := by
  show S.stepPc T f true r x = _
  unfold stepPc
  rw [h]
  show (match fn.body with
        | some c => _
        | none => none) = _
  rw [hb]
  rfl
theorem step_pc0 {f : FuncId} {fn : Func} {c : Code} (h : S.P.funcs[f]? = some fn) (hb : fn.body = some c) (T : S.Tab) {r : Nat} (x : (argsTy (S.cut f false r).as).den) :
    (S.step T).pc f false r x = (S.cut f false r).tail (S.env T f fn.ntmps) (S.cuts T f) (atFirst false r (allPieces c)) x := by
  show S.stepPc T f false r x = _
  unfold stepPc
  rw [h]
  show (match fn.body with
        | some c => _
        | none => none) = _
  rw [hb]
  rfl
theorem fns_all {fns : List Nat} (h : (fns.all S.fnOk) = true) {f : FuncId} (hf : (fns.any (Nat.beq f)) = true) : S.fnOk f = true := by
  obtain ⟨g, hg, e⟩ := List.any_eq_true.1 hf
  have := Nat.eq_of_beq_eq_true e
  subst this
  exact List.all_eq_true.1 h _ hg
end Sys
theorem calls_of_invokes {P : Program} {f : FuncId} {fn : Func} {c : Code} {args : Array Value} {w : World} {R : Value → World → Prop} (hf : P.funcs[f]? = some fn) (hb : fn.body = some c) (hname : (fn.name == "runtime.NumGoroutine") = false)
    (h : Invokes P f args w R) : Calls P f args w fun e w' => ∃ v, e = .returned v ∧ R v w' := by
  have hcall : (callFunc f args).run P w = .ok (.enter f args) w := by
    have h1 : fn.name ≠ "runtime.NumGoroutine" := by simpa using hname
    simp [callFunc, hf, h1, hb]
  unfold Invokes at h
  rw [hcall] at h
  exact h
theorem After.below {imm imm' : Rd} {w w' : World} {nb' : List Nat} (h : After imm w [] imm' w' nb') : RowKit.Below w.heap.size w w' :=
  ⟨h.os, h.tape, h.output, h.size, fun k hk => by
    cases e : imm k with
    | none => exact (h.same k hk (by simp) e).1
    | some L => exact h.fix k L e⟩
def Evt (p : Nat → Prop) : Prop := ∃ N, ∀ n, N ≤ n → p n
theorem Evt.of {p : Nat → Prop} (h : ∀ n, p n) : Evt p := ⟨0, fun n _ => h n⟩
theorem Evt.and {p q : Nat → Prop} (h : Evt p) (k : Evt q) : Evt fun n => p n ∧ q n := by
  obtain ⟨N, h⟩ := h
  obtain ⟨M, k⟩ := k
  exact ⟨max N M, fun n hn => ⟨h n (by omega), k n (by omega)⟩⟩
theorem Evt.mono {p q : Nat → Prop} (h : Evt p) (k : ∀ n, p n → q n) : Evt q := by
  obtain ⟨N, h⟩ := h
  exact ⟨N, fun n hn => k n (h n hn)⟩
theorem Evt.up {p q : Nat → Prop} (h : Evt p) (k : ∀ n, p n → q (n + 1)) : Evt q := by
  obtain ⟨N, h⟩ := h
  refine ⟨N + 1, fun n hn => ?_⟩
  obtain ⟨m, rfl⟩ : ∃ m, n = m + 1 := ⟨n - 1, by omega⟩
  exact k m (h m (by omega))
end Go.Abs
end

section
namespace Go.Abs
def isByte (c : Int) : Prop := 0 ≤ c ∧ c < 256
theorem and15 : ∀ c : Int, isByte c → intBits .and .u8 c 15 = c % 16 := by
  have h : ∀ n : Fin 256, intBits .and .u8 (n.val : Int) 15 = (n.val : Int) % 16 := by decide +kernel
  intro c hc
  have := h ⟨c.toNat, by have := hc.1; have := hc.2; omega⟩
  simpa [Int.toNat_of_nonneg hc.1] using this
theorem shr4 (c : Int) (h : isByte c) : c.fdiv (2 ^ min (Int.toNat 4) IntKind.u8.bits) = c / 16 := by
  have e : (2 : Int) ^ min (Int.toNat 4) IntKind.u8.bits = 16 := by decide
  rw [e, Int.fdiv_eq_ediv_of_nonneg _ (by decide)]
theorem wrap8 (x : Int) (h0 : 0 ≤ x) (h1 : x < 256) : IntKind.u8.wrap x = x := by
  have : IntKind.u8.wrap x = x % 256 := rfl
  rw [this]; omega
theorem wrap64 (x : Int) (h0 : -9223372036854775808 ≤ x) (h1 : x < 9223372036854775808) : IntKind.i64.wrap x = x := by
  rw [IntKind.wrap_i64]; omega
theorem fits_of {n : Nat} (h : n ≤ lim) : fits n = true := Nat.ble_eq_true_of_le h
theorem isByte_bytesOf (s : ByteArray) : ∀ c ∈ bytesOf s, isByte c := by
  intro c hc
  unfold bytesOf at hc
  obtain ⟨b, _, rfl⟩ := List.mem_map.1 hc
  have := b.toNat_lt
  exact ⟨by omega, by omega⟩
theorem byte_of {c : Int} (h : isByte c) : byte c = c := by
  unfold byte
  obtain ⟨h0, h1⟩ := h
  omega
theorem map_byte {l : List Int} (h : ∀ c ∈ l, isByte c) : l.map byte = l := by
  induction l with
  | nil => rfl
  | cons x r ih =>
    rw [List.map_cons, byte_of (h x (List.mem_cons_self ..)), ih fun c hc => h c (List.mem_cons_of_mem _ hc)]
theorem getD_cut {α : Type} (pre : List α) (x : α) (r : List α) (d : α) : (pre ++ x :: r).getD pre.length d = x := by
  rw [List.getD_eq_getElem?_getD, List.getElem?_append_right (Nat.le_refl _), Nat.sub_self]
  rfl
def stop (q : Nat → Bool) : Nat → Nat → Nat
  | 0, j => j
  | k + 1, j => bif q j then stop q k (j + 1) else j
theorem stop_le {q : Nat → Bool} : ∀ (k j : Nat), stop q k j ≤ j + k
  | 0, j => Nat.le_refl _
  | k + 1, j => by
    unfold stop
    cases q j
    · exact Nat.le_add_right j _
    · have := stop_le (q := q) k (j + 1)
      simp only [cond_true]; omega
theorem le_stop {q : Nat → Bool} : ∀ (k j : Nat), j ≤ stop q k j
  | 0, j => Nat.le_refl _
  | k + 1, j => by
    unfold stop
    cases q j
    · exact Nat.le_refl _
    · have := le_stop (q := q) k (j + 1)
      simp only [cond_true]; omega
theorem stop_end {q : Nat → Bool} {N : Nat} (h : ∀ j, N ≤ j → q j = false) : ∀ (k j : Nat), N ≤ j + k → q (stop q k j) = false
  | 0, j, hk => h j (by omega)
  | k + 1, j, hk => by
    unfold stop
    cases hq : q j
    · exact hq
    · exact stop_end h k (j + 1) (by omega)
theorem stop_run {q : Nat → Bool} : ∀ (k j i : Nat), j ≤ i → i < stop q k j → q i = true
  | 0, j, i, h1, h2 => by simp only [stop] at h2; omega
  | k + 1, j, i, h1, h2 => by
    unfold stop at h2
    cases hq : q j
    · rw [hq] at h2; simp only [cond_false] at h2; omega
    · rw [hq] at h2
      rcases Nat.lt_or_ge j i with h | h
      · exact stop_run k (j + 1) i h h2
      · have : i = j := by omega
        subst this; exact hq
theorem stop_cut {q : Nat → Bool} {N : Nat} (h : ∀ j, N ≤ j → q j = false) : ∀ (k k' j : Nat), N ≤ j + k → N ≤ j + k' → stop q k j = stop q k' j
  | 0, 0, j, _, _ => rfl
  | 0, k' + 1, j, h1, _ => by unfold stop; rw [h j (by omega)]; rfl
  | k + 1, 0, j, _, h2 => by unfold stop; rw [h j (by omega)]; rfl
  | k + 1, k' + 1, j, h1, h2 => by
    unfold stop
    cases q j
    · rfl
    · exact stop_cut h k k' (j + 1) (by omega) (by omega)
theorem stop_step {q : Nat → Bool} {N : Nat} (h : ∀ j, N ≤ j → q j = false) {k j : Nat} (hk : N ≤ j + k) (hq : q j = true) : stop q k j = stop q k (j + 1) := by
  have hj : j < N := by
    rcases Nat.lt_or_ge j N with h' | h'
    · exact h'
    · rw [h j h'] at hq; cases hq
  obtain ⟨k, rfl⟩ : ∃ m, k = m + 1 := ⟨k - 1, by omega⟩
  rw [stop_cut h (k + 1) k (j + 1) (by omega) (by omega)]
  show (bif q j then stop q k (j + 1) else j) = _
  rw [hq]; rfl
theorem stop_here {q : Nat → Bool} {k j : Nat} (hq : q j = false) : stop q k j = j := by
  cases k with
  | zero => rfl
  | succ k => unfold stop; rw [hq]; rfl
theorem adv {S : Sys} {R : Type} {F : S.Tab → Nat → Option R} {q : Nat → Bool} {out : Nat → R} {N : Nat} {p : S.Tab → Prop} (hp : Evt fun n => p (S.tab n)) (hN : ∀ j, N ≤ j → q j = false)
    (h1 : ∀ T j, p T → q j = true → F (S.step T) j = F T (j + 1)) (h2 : ∀ T j, p T → q j = false → F (S.step T) j = some (out j)) :
    ∀ (k j : Nat), N ≤ j + k → Evt fun n => F (S.tab n) j = some (out (stop q k j))
  | 0, j, hk => hp.up fun n h => by
    show F (S.step (S.tab n)) j = _
    rw [h2 _ _ h (hN j (by omega))]; rfl
  | k + 1, j, hk => by
    cases hq : q j with
    | false =>
      refine hp.up fun n h => ?_
      show F (S.step (S.tab n)) j = _
      rw [h2 _ _ h hq, stop_here hq]
    | true =>
      refine ((adv hp hN h1 h2 k (j + 1) (by omega)).and hp).up fun n h => ?_
      show F (S.step (S.tab n)) j = _
      rw [h1 _ _ h.2 hq, h.1]
      show some (out (stop q k (j + 1))) = some (out (bif q j then _ else _))
      rw [hq]; rfl
theorem brkT {ρ : Type} {b : Bool} {x y : Option ρ} (h : b = true) : brk b x y = x := by rw [brk_eq, h]; rfl
theorem brkF {ρ : Type} {b : Bool} {x y : Option ρ} (h : b = false) : brk b x y = y := by rw [brk_eq, h]; rfl
end Go.Abs
end

section
namespace Go.Abs
def snap (W : World) : Rd := fun b => match W.heap[b]? with | some (.cells arr _ _) => some arr.toList | _ => none
theorem snap_heap {W : World} {b : Nat} {L : List Value} (h : snap W b = some L) : ∃ arr ty fr, W.heap[b]? = some (.cells arr ty fr) ∧ arr.toList = L := by
  unfold snap at h
  split at h
  · rename_i arr ty fr e; injection h with h; exact ⟨arr, ty, fr, e, h⟩
  · cases h
def ofD {H : Type} : (τ : Ty) → DataW H → τ.den
  | .int _, d => match d with | .lit (.int _ z) => z | _ => (0 : Int)
  | .bool, d => match d with | .lit (.bool b) => b | _ => false
  | .str, d => match d with | .lit (.string bs) => bs.map fun b => (b.toNat : Int) | _ => ([] : List Int)
  | .sl e, d => match d with | .slice ds _ => ds.map (ofD e) | _ => []
  | .un, _ => ()
  | .pr a b, d => match d with | .agg (x :: r) => (ofD a x, ofD b (.agg r)) | _ => (ofD a (DataW.nil (H := H)), ofD b (DataW.nil (H := H)))
  | .cl, _ => ([] : List Int)
def Good : (τ : Ty) → τ.den → Prop
  | .int k, x => k.min ≤ x ∧ x ≤ k.max
  | .str, l => (∀ c ∈ l, isByte c) ∧ l.length ≤ maxLen
  | .sl e, xs => (∀ x ∈ xs, Good e x) ∧ xs.length ≤ maxLen
  | .pr a b, x => Good a x.1 ∧ Good b x.2
  | _, _ => True
def fitsF (P : Program) (g : TypeId → Ty → Bool) : List Field → Nat → Ty → Bool
  | [], _, .un => true
  | f :: r, off, .pr a b => Nat.beq f.offset off && g f.type a && Nat.beq (P.cellsOf f.type) a.size && fitsF P g r (off + a.size) b
  | _, _, _ => false
def fitsT (P : Program) : Nat → TypeId → Ty → Bool
  | 0, _, _ => false
  | n + 1, t, τ => match P.underlying t with
    | some .bool => (match τ with | .bool => true | _ => false)
    | some (.int k) => (match τ with | .int k' => decide (k = k') | _ => false)
    | some .string => (match τ with | .str => true | _ => false)
    | some (.slice e) => (match τ with | .sl τ' => fitsT P n e τ' && Nat.beq (P.cellsOf e) τ'.size && Nat.blt 0 τ'.size | _ => false)
    | some (.struct fs) => fitsF P (fitsT P n) fs.toList 0 τ && Nat.beq (P.cellsOf t) τ.size
    | _ => false
theorem mapM_some_all {α β : Type} {f : α → Option β} : ∀ {l : List α} {r : List β}, l.mapM f = some r → r.length = l.length ∧ ∀ i (h : i < l.length), f l[i] = r[i]?
  | [], r, h => by
    simp at h
    subst h
    exact ⟨rfl, fun i h => absurd h (by simp)⟩
  | x :: l, r, h => by
    rw [List.mapM_cons] at h
    obtain ⟨y, h1, h2⟩ := Option.bind_eq_some_iff.1 h
    obtain ⟨ys, h3, h4⟩ := Option.bind_eq_some_iff.1 h2
    have h4 : some (y :: ys) = some r := h4
    injection h4 with h4
    subst h4
    obtain ⟨hl, hx⟩ := mapM_some_all h3
    refine ⟨by simp [hl], fun i hi => ?_⟩
    cases i with
    | zero => exact h1
    | succ i => exact hx i (by simpa using hi)
theorem add_block (a : Addr) (n : Nat) : (a.add n).block = a.block := by unfold Addr.add; split <;> rfl
theorem add_off (a : Addr) (n : Nat) : (a.add n).off = a.off + n := by
  unfold Addr.add
  split
  · rename_i h; rw [h]; rfl
  · rfl
theorem add_spot {a : Addr} (h : a.spot = none) (n : Nat) : (a.add n).spot = none := by unfold Addr.add; split <;> simp [h]
theorem add_zero' (a : Addr) : a.add 0 = a := by unfold Addr.add; rw [if_pos rfl]
theorem cells_snap {W : World} {base : Nat} {a : Addr} {n : Nat} {cs : List Value} (h : W.cells? base a n = some cs) (hn : 0 < n) : a.spot = none ∧ ∃ L, snap W a.block = some L ∧ (L.drop a.off).take n = cs := by
  unfold World.cells? at h
  split at h
  · obtain ⟨hl, hx⟩ := mapM_some_all h
    rw [List.length_range] at hl
    have h0 := hx 0 (by simpa using hn)
    have hc : ∀ i, i < n → W.cell? (a.add i) = cs[i]? := fun i hi => by
      have := hx i (by simpa using hi)
      simpa using this
    have e0 := hc 0 hn
    rw [List.getElem?_eq_getElem (show 0 < cs.length by omega)] at e0
    rw [add_zero'] at e0
    unfold World.cell? at e0
    cases hh : W.heap[a.block]? with
    | none => rw [hh] at e0; cases e0
    | some o =>
      cases o with
      | cells arr ty fr =>
        rw [hh] at e0
        have hsp : a.spot = none := by
          cases hs : a.spot with
          | none => rfl
          | some v => simp [hs] at e0
        refine ⟨hsp, arr.toList, ?_, ?_⟩
        · unfold snap
          rw [hh]
        · refine List.ext_getElem? fun i => ?_
          rw [List.getElem?_take]
          by_cases hi : i < n
          · rw [if_pos hi, List.getElem?_drop, ← hc i hi]
            unfold World.cell?
            rw [add_block, hh]
            simp [add_spot hsp, add_off]
          · rw [if_neg hi, List.getElem?_eq_none (by omega)]
      | _ => rw [hh] at e0; cases e0
  · cases h
theorem fitsF_ok {H : Type} {enc : TypeId × Value → H} {P : Program} {W : World} {sp : Nat → Bool} {held : Bool} {n : Nat} {g : TypeId → Ty → Bool}
    (hg : ∀ t τ cs (x : DataW H × List MemPlace), g t τ = true → DataW.trod enc P W 0 sp held n t cs = some x → Rc (snap W) τ (ofD τ x.1) cs ∧ Good τ (ofD τ x.1)) :
    ∀ (fs : List Field) (off : Nat) (τ : Ty) (cs : List Value) (xs : List (DataW H × List MemPlace)), fitsF P g fs off τ = true → (fs.mapM fun f => DataW.trod enc P W 0 sp held n f.type ((cs.drop f.offset).take (P.cellsOf f.type))) = some xs → off + τ.size ≤ cs.length →
      Rc (snap W) τ (ofD τ (.agg (xs.map (·.1)))) ((cs.drop off).take τ.size) ∧ Good τ (ofD τ (.agg (xs.map (·.1))))
  | [], off, τ, cs, xs, hf, hm, hl => by
    cases τ with
    | un => exact ⟨by show List.take 0 _ = []; rfl, trivial⟩
    | _ => cases hf
  | f :: fs, off, τ, cs, xs, hf, hm, hl => by
    cases τ with
    | pr a b =>
      unfold fitsF at hf
      simp only [Bool.and_eq_true] at hf
      obtain ⟨⟨⟨h1, h2⟩, h3⟩, h4⟩ := hf
      have h1 := Nat.eq_of_beq_eq_true h1
      have h3 := Nat.eq_of_beq_eq_true h3
      rw [List.mapM_cons] at hm
      obtain ⟨y, hy, hm⟩ := Option.bind_eq_some_iff.1 hm
      obtain ⟨ys, hys, hm⟩ := Option.bind_eq_some_iff.1 hm
      have hm : some (y :: ys) = some xs := hm
      injection hm with hm
      subst hm
      have hsz : (Ty.pr a b).size = a.size + b.size := rfl
      rw [hsz] at hl
      rw [h1, h3] at hy
      obtain ⟨r1, g1⟩ := hg _ _ _ _ h2 hy
      obtain ⟨r2, g2⟩ := fitsF_ok hg fs (off + a.size) b cs ys h4 hys (by omega)
      refine ⟨⟨(cs.drop off).take a.size, (cs.drop (off + a.size)).take b.size, ?_, r1, r2⟩, g1, g2⟩
      rw [hsz, List.take_add, List.drop_drop]
    | _ => cases hf
theorem trod_in {H : Type} {enc : TypeId × Value → H} {P : Program} {W : World} {sp : Nat → Bool} {held : Bool} : ∀ (k n : Nat) (t : TypeId) (τ : Ty) (cs : List Value) (x : DataW H × List MemPlace), fitsT P k t τ = true → DataW.trod enc P W 0 sp held n t cs = some x →
    Rc (snap W) τ (ofD τ x.1) cs ∧ Good τ (ofD τ x.1)
  | 0, _, _, _, _, _, h, _ => by cases h
  | k + 1, n, t, τ, cs, x, h, hx => by
    unfold fitsT at h
    cases hu : P.underlying t with
    | none => rw [hu] at h; cases h
    | some d =>
    rw [hu] at h
    cases d with
    | bool =>
      cases τ with
      | bool =>
        obtain ⟨b, rfl, rfl⟩ := DataW.trod_bool hu hx
        exact ⟨rfl, trivial⟩
      | _ => cases h
    | int j =>
      cases τ with
      | int j' =>
        have h : decide (j = j') = true := h
        have h := of_decide_eq_true h
        subst h
        obtain ⟨z, rfl, rfl, hw⟩ := DataW.trod_int hu hx
        refine ⟨rfl, ?_⟩
        simp only [Lit.wf, Bool.and_eq_true, decide_eq_true_eq] at hw
        exact hw
      | _ => cases h
    | string =>
      cases τ with
      | str =>
        obtain ⟨s, rfl, rfl, hs⟩ := DataW.trod_string hu hx
        refine ⟨⟨s, rfl, rfl⟩, isByte_bytesOf s, ?_⟩
        show (List.map _ s.data.toList).length ≤ maxLen
        rw [List.length_map, Array.length_toList]
        exact hs
      | _ => cases h
    | slice e =>
      cases τ with
      | sl τ' =>
        have h : (fitsT P k e τ' && Nat.beq (P.cellsOf e) τ'.size && Nat.blt 0 τ'.size) = true := h
        rw [Bool.and_eq_true, Bool.and_eq_true] at h
        obtain ⟨h, hpos⟩ := h
        have hpos : 0 < τ'.size := by unfold Nat.blt at hpos; exact Nat.le_of_ble_eq_true hpos
        have hz := Nat.eq_of_beq_eq_true h.2
        rcases DataW.trod_slice hu hx with ⟨rfl, rfl⟩ | ⟨a, len, cap, elems, rest, m, rfl, rfl, rfl, _, hle, hcap, hlen, hel, _, _⟩
        · refine ⟨⟨none, 0, rfl, Nat.le_refl _, .inl rfl⟩, ?_⟩
          show (∀ x ∈ ([] : List τ'.den), Good τ' x) ∧ 0 ≤ maxLen
          exact ⟨(fun x hx => by cases hx), Nat.zero_le _⟩
        · have hL : ((elems.map (·.1)).map (ofD τ')).length = len := by simp [hlen]
          have one : ∀ i (hi : i < len), ∃ cs', W.cells? 0 (a.add (i * τ'.size)) τ'.size = some cs' ∧ Rc (snap W) τ' (ofD τ' (elems[i]'(by omega)).1) cs' ∧ Good τ' (ofD τ' (elems[i]'(by omega)).1) := fun i hi => by
            have hi' := hel i hi
            rw [List.getElem?_eq_getElem (show i < elems.length by omega), hz] at hi'
            obtain ⟨cs', h1, h2⟩ := Option.bind_eq_some_iff.1 hi'
            obtain ⟨h3, h4⟩ := trod_in k _ _ _ _ _ h.1 h2
            exact ⟨cs', h1, h3, h4⟩
          refine ⟨?_, ?_⟩
          · show Rc (snap W) (.sl τ') ((elems.map (·.1)).map (ofD τ')) _
            by_cases h0 : len = 0
            · subst h0
              refine ⟨some a, cap, by rw [hL], by rw [hL]; exact hle, .inl ?_⟩
              exact List.eq_nil_of_length_eq_zero hL
            · obtain ⟨cs0, c1, c2, c3⟩ := one 0 (by omega)
              obtain ⟨hsp, L, hb, _⟩ := cells_snap c1 (by omega)
              rw [Nat.zero_mul, add_zero'] at hsp hb
              obtain ⟨b, o, spt⟩ := a
              have hsp : spt = none := hsp
              subst hsp
              refine ⟨some ⟨b, o, none⟩, cap, by rw [hL], by rw [hL]; exact hle, .inr ⟨b, o, L, rfl, hb, fun i hi => ?_⟩⟩
              rw [hL] at hi
              obtain ⟨cs', d1, d2, d3⟩ := one i hi
              obtain ⟨_, L', hb', e'⟩ := cells_snap d1 (by omega)
              rw [add_block] at hb'
              have hb' : snap W b = some L' := hb'
              rw [hb] at hb'
              injection hb' with hb'
              subst hb'
              rw [add_off] at e'
              have e' : (L.drop (o + i * τ'.size)).take τ'.size = cs' := e'
              rw [e']
              simpa using d2
          · refine ⟨fun y hy => ?_, ?_⟩
            · have hy : y ∈ (elems.map (·.1)).map (ofD τ') := hy
              obtain ⟨i, hi, rfl⟩ := List.getElem_of_mem hy
              rw [hL] at hi
              obtain ⟨_, _, _, d3⟩ := one i hi
              simpa using d3
            · show ((elems.map (·.1)).map (ofD τ')).length ≤ maxLen
              omega
      | _ => cases h
    | struct fs =>
      have h : (fitsF P (fitsT P k) fs.toList 0 τ && Nat.beq (P.cellsOf t) τ.size) = true := h
      rw [Bool.and_eq_true] at h
      have hz := Nat.eq_of_beq_eq_true h.2
      cases n with
      | zero => simp [DataW.trod] at hx
      | succ n =>
        unfold DataW.trod at hx
        rw [hu] at hx
        simp only at hx
        split at hx
        · rename_i hl
          obtain ⟨xs, h1, rfl⟩ := Option.map_eq_some_iff.1 hx
          have := fitsF_ok (fun t τ cs x h1 h2 => trod_in k n t τ cs x h1 h2) fs.toList 0 τ cs xs h.1 h1 (by omega)
          rw [List.drop_zero, List.take_of_length_le (by omega)] at this
          exact this
        · cases hx
    | _ => cases h
end Go.Abs
end

section
namespace Go.Abs
theorem alloc_new (w : World) (o : Go.Obj) : (w.drew.alloc o).heap[w.heap.size]? = some o := by
  show (w.heap.push _)[w.heap.size]? = _
  rw [Array.getElem?_push, if_pos rfl]
theorem append_ty {P : Program} {imm : Rd} {w : World} {t tx ty e : TypeId} {i : TypeInfo} {z : Value} (ht : P.underlying t = some (.slice e)) (hi : P.info? e = some i) (hz : i.zero = some z)
    (hsz : i.size = 1) (hby : i.bytes ≤ 128) {xs ys : List Int} {u x : Value} {nb : List Nat} (hT : OwnAt imm w false (.int .u8) xs [u] nb) (hty : ∀ b ∈ nb, ∃ arr, w.heap[b]? = some (.cells arr e (0, 0))) (hS : Src P 1 tx x ys.length (ys.map (Value.int .u8)) w)
    (hfit : xs.length + ys.length ≤ 1099511627776) {v : Value} {w' : World} (hr : (Builtin.append_ #[t, tx] ty #[u, x]).run P w = .ok v w') {b n cap : Nat} (hv : v = .slice (some ⟨b, 0, none⟩) n cap) :
    ∃ arr, w'.heap[b]? = some (.cells arr e (0, 0)) := by
  have hS' := hS
  rw [← hsz] at hS'
  have grow : ∀ {base : Option Addr} {sCap : Nat} {olds : List Value}, u = .slice base xs.length sCap → (Builtin.firstCells i.size xs.length (.slice base xs.length sCap)).run P w.drew = .ok olds.toArray w.drew → sCap < xs.length + ys.length →
      ∃ arr, w'.heap[b]? = some (.cells arr e (0, 0)) := by
    intro base sCap olds hu hold hg
    have hb : (xs.length + ys.length) * i.bytes ≤ 140737488355328 := by
      have : (xs.length + ys.length) * i.bytes ≤ 1099511627776 * 128 := Nat.mul_le_mul hfit hby
      omega
    have hr2 := run_append_grow_src (P := P) w t tx ty e i z ht hi hz base xs.length sCap olds hold x ys.length _ hS' hg (by omega) (growslice_fits hg hb)
    rw [hu, hr2] at hr
    injection hr with h1 h2
    rw [hv] at h1
    injection h1 with h1 _
    injection h1 with h1; injection h1 with h1
    subst h2
    rw [← h1]
    exact ⟨_, alloc_new w _⟩
  rcases hT with ⟨h1, rfl, _⟩ | ⟨b', cap', arr, ty', nb', h1, h2, h3, h4, h5, h6⟩
  · injection h1 with h1 _
    subst h1
    by_cases h0 : ys = []
    · subst h0
      have hr2 := run_append_nothing w t tx ty e i ht hi none 0 0 (Nat.le_refl _) x hS'
      rw [hr2] at hr
      injection hr with h1 h2
      rw [hv] at h1
      cases h1
    · have hpos : 0 < ys.length := List.length_pos_iff.2 h0
      exact grow rfl (olds := []) (by simp [run_firstCells_none]) (by simpa using hpos)
  · injection h1 with h1 _
    subst h1
    obtain ⟨arr2, k1⟩ := hty b' (by rw [h2]; simp)
    rw [h3] at k1
    injection k1 with k1; injection k1 with _ k2
    subst k2
    have h5' : arr.size = cap' := by simpa [Ty.size] using h5
    by_cases hroom : xs.length + ys.length ≤ cap'
    · obtain ⟨a1, a2, a3⟩ := setCells_eq (P := P) (us := ys.map (Value.int .u8)) (o := xs.length) h3 (by simp; omega) hS.one
      have hr2 := run_append_room_src (P := P) w t tx ty ty' i ht hi b' 0 xs.length cap' x ys.length _ hS' hroom (by simpa [hsz] using a1) (by simpa [hsz] using a2)
      rw [hsz, Nat.zero_add, Nat.mul_one, a3] at hr2
      rw [hr2] at hr
      injection hr with h1 h2
      rw [hv] at h1
      injection h1 with h1 _
      injection h1 with h1; injection h1 with h1
      subst h2
      rw [← h1]
      exact ⟨_, setRow_heap w b' arr _ ty' (0, 0) h3⟩
    · have hE : Els imm (.int .u8) xs arr.toList 0 := h6.1
      obtain ⟨hc1, hc2⟩ := els_cut hE
      refine grow (olds := arr.toList.take (xs.length * 1)) rfl ?_ (by omega)
      rw [hsz]
      refine run_firstCells_some (P := P) w.drew 1 xs.length _ xs.length cap' _ (by simpa [Ty.size] using hc2) (fun j v hj => ?_)
      rw [Addr.add_lit, World.cell?_drew]
      exact cellsAt_of h3 (o := 0) _ j v (by simpa using hj)
open Classical in
theorem app_after {P : Program} {imm : Rd} {w : World} {t tx ty e : TypeId} {i : TypeInfo} {z : Value} (ht : P.underlying t = some (.slice e)) (hi : P.info? e = some i) (hz : i.zero = some z)
    (hsz : i.size = 1) (hby : i.bytes ≤ 128) (hzl : z.cells.size = 1) {xs ys : List Int} {u x : Value} {nb : List Nat} (hT : OwnAt imm w false (.int .u8) xs [u] nb) (hS : Src P 1 tx x ys.length (ys.map (Value.int .u8)) w)
    (hfit : xs.length + ys.length ≤ 1099511627776) (hc : ∀ b L, imm b = some L → ∃ arr ty fr, w.heap[b]? = some (.cells arr ty fr) ∧ arr.toList = L) (hn : ∀ b ∈ nb, imm b = none ∧ b < w.heap.size) (hty : ∀ b ∈ nb, ∃ arr, w.heap[b]? = some (.cells arr e (0, 0))) :
    ∃ v w' nb', (Builtin.append_ #[t, tx] ty #[u, x]).run P w = .ok v w' ∧ After imm w nb imm w' nb' ∧ OwnAt imm w' false (.int .u8) (xs ++ ys) [v] nb' ∧ ∀ b ∈ nb', ∃ arr, w'.heap[b]? = some (.cells arr e (0, 0)) := by
  let g : Gh := { imm := imm, top := fun _ => 0, cv := fun _ _ => .nilIface, lab := fun y => if y ∈ nb then some 1 else none, nst := fun _ => none, outer := fun _ => [] }
  let B : Base := { imm := imm, lab := g.lab, w := w, arg := fun _ => .nilIface }
  have R : HRel B g [] w := by
    refine ⟨fun id => rfl, fun id o h => (by cases h), fun b L h => ?_, fun b L h => (by cases h), fun b h => ?_, fun b L h => h, fun b _ h1 h2 => ⟨h1, h2, rfl⟩, Nat.le_refl _, rfl, rfl, rfl, fun _ _ _ => rfl⟩
    · obtain ⟨arr, ty, fr, h1, h2⟩ := hc b L h
      refine ⟨?_, rfl, arr, ty, fr, h1, h2⟩
      show (if b ∈ nb then some 1 else none) = none
      rw [if_neg]
      intro hm
      have h' : imm b = some L := h
      rw [(hn b hm).1] at h'
      cases h'
    · by_cases hm : b ∈ nb
      · exact (hn b hm).2
      · exact absurd (if_neg hm) h
  have ez : (Value.cells z).size = (Ty.int .u8).size := hzl
  have hT' : Tgt g [] w (false && !(Ty.int IntKind.u8).flat) (.int .u8) xs u [] := by
    rcases hT with ⟨h1, h2, h3⟩ | ⟨b, cap, arr, ty', nb', h1, h2, h3, h4, h5, h6⟩
    · injection h1 with h1 _
      exact .inl ⟨h1, h2, rfl⟩
    · injection h1 with h1 _
      obtain ⟨h6, h7⟩ := h6
      subst h7
      have hb : b ∈ nb := by rw [h2]; simp
      refine .inr ⟨b, cap, arr, ty', h1, ⟨fun _ _ _ h => (by cases h), ?_, (hn b hb).1, rfl, fun h => ?_⟩, by simp, (hn b hb).2, h3, h4, h5, h6, rfl⟩
      · show (if b ∈ nb then some 1 else none) ≠ some 0
        rw [if_pos hb]; simp
      · have h : (if b ∈ nb then some 1 else none) = none := h
        rw [if_pos hb] at h; cases h
  have hQ : Held g (false && !(Ty.int IntKind.u8).flat) (.int .u8) ys (ys.map (Value.int .u8)) [] := by
    refine ⟨fun j hj => ?_, rfl⟩
    show List.take 1 (List.drop (0 + j * 1) (ys.map (Value.int .u8))) = [Value.int .u8 ys[j]]
    rw [Nat.zero_add, Nat.mul_one]
    have : j < (ys.map (Value.int .u8)).length := by simpa using hj
    rw [List.drop_eq_getElem_cons this]
    simp
  obtain ⟨v, w', g', hr, l, R', hcell⟩ := append_run (τ := .int .u8) (ty := ty) ht hi hz hsz hby ez R hT' hS hQ (fun _ h => by simp at h) hfit (fun _ _ h => by simp at h) 7
  have hcv : v = g'.cv 7 0 := hcell.2.1
  have keep : ∀ b, b < w.heap.size → b ∉ nb → imm b = none → w'.heap[b]? = w.heap[b]? ∧ g'.lab b = none := fun b h1 h2 h3 => by
    obtain ⟨a1, _, a3⟩ := R'.frame b h1 (if_neg h2) h3
    exact ⟨a3, a1⟩
  have immc : ∀ b L, imm b = some L → g'.lab b = none ∧ ∃ arr ty fr, w'.heap[b]? = some (.cells arr ty fr) ∧ arr.toList = L := fun b L h => by
    obtain ⟨a1, _, a3⟩ := R'.imm b L (R'.imm0 b L h)
    exact ⟨a1, a3⟩
  have hO := R'.objs 7 _ (look_same _ _ _)
  rcases hO with ⟨h1, h2⟩ | ⟨b, cap, arr, ty', h1, h2, h3, h4, h5, h6, h7⟩
  · refine ⟨v, w', [], hr, ⟨fun _ _ h => h, fun b L h => (immc b L h).2, fun b h1 h2 h3 => ⟨(keep b h1 h2 h3).1, h3⟩, List.nodup_nil, fun b h => by simp at h, R'.size, R'.os, R'.tape, R'.output, fun b L h => R'.fix b L h⟩, .inl ⟨by rw [hcv]; exact congrArg (fun v => [v]) h1, h2, rfl⟩, fun b hb => by simp at hb⟩
  · have hbi : imm b = none := by
      cases e : imm b with
      | none => rfl
      | some L =>
        have := (immc b L e).1
        rw [h2] at this
        cases this
    refine ⟨v, w', [b], hr, ⟨fun _ _ h => h, fun b L h => (immc b L h).2, fun b h1 h2 h3 => ⟨(keep b h1 h2 h3).1, h3⟩, by simp, fun y hy => ?_, R'.size, R'.os, R'.tape, R'.output, fun b L h => R'.fix b L h⟩, .inr ⟨b, cap, arr, ty', [], by rw [hcv]; exact congrArg (fun v => [v]) h1, rfl, h4, h5, h6, ?_, rfl⟩, fun y hy => ?_⟩
    · have hy : y = b := by simpa using hy
      subst hy
      refine ⟨hbi, ?_, R'.labsz _ (by rw [h2]; simp)⟩
      by_cases hm : y ∈ nb
      · exact .inl hm
      · refine .inr (Nat.le_of_not_lt fun hlt => ?_)
        have := (keep y hlt hm hbi).2
        rw [h2] at this
        cases this
    · exact Els.flat rfl h7
    · have hy : y = b := by simpa using hy
      subst hy
      exact append_ty ht hi hz hsz hby hT hty hS hfit hr (hcv.trans h1)
theorem setCell_box {w : World} {b k : Nat} {arr : Array Value} {ty : TypeId} (h : w.heap[b]? = some (.cells arr ty (0, 0))) (v : Value) :
    (w.setCell ⟨b, k, none⟩ v).heap[b]? = some (.cells (arr.setIfInBounds k v) ty (0, 0)) ∧ (∀ x, x ≠ b → (w.setCell ⟨b, k, none⟩ v).heap[x]? = w.heap[x]?) ∧ (w.setCell ⟨b, k, none⟩ v).heap.size = w.heap.size :=
  ⟨heap_setCell_same w b k arr ty v h, fun x hx => heap_setCell_other w _ x v hx, by simp [World.setCell]⟩
theorem lt_of_heap {w : World} {b : Nat} {o : Go.Obj} (h : w.heap[b]? = some o) : b < w.heap.size := by
  rcases Nat.lt_or_ge b w.heap.size with h' | h'
  · exact h'
  · rw [Array.getElem?_eq_none h'] at h; cases h
theorem OwnAt.other {imm : Rd} {w w' : World} {xs : List Int} {us : List Value} {nb : List Nat} (h : OwnAt imm w false (.int .u8) xs us nb) (k : ∀ b ∈ nb, w'.heap[b]? = w.heap[b]?) : OwnAt imm w' false (.int .u8) xs us nb := by
  rcases h with h | ⟨b, cap, arr, ty, nb', h1, h2, h3, h4, h5, h6, h7⟩
  · exact .inl h
  · exact .inr ⟨b, cap, arr, ty, nb', h1, h2, by rw [k b (by rw [h2]; simp)]; exact h3, h4, h5, h6, h7⟩
theorem bld_write {imm : Rd} {w w1 w2 : World} {b o : Nat} {arr : Array Value} {ty : TypeId} {xs : List Int} {v : Value} {self : Value} {nb0 nb1 : List Nat}
    (ha : w.heap[b]? = some (.cells arr ty (0, 0))) (hle : o + 2 ≤ arr.size) (hn : (b :: nb0).Nodup) (hi : ∀ y ∈ b :: nb0, imm y = none ∧ y < w.heap.size)
    (hc : ∀ b L, imm b = some L → ∃ arr ty fr, w.heap[b]? = some (.cells arr ty fr) ∧ arr.toList = L)
    (e1 : w1 = w.setCell ⟨b, o, none⟩ self) (A : After imm w1 nb0 imm w2 nb1) (hO : OwnAt imm w2 false (.int .u8) xs [v] nb1) :
    After imm w (b :: nb0) imm (w2.setCell ⟨b, o + 1, none⟩ v) (b :: nb1) ∧ b ∉ nb1 ∧ ∃ arr', (w2.setCell ⟨b, o + 1, none⟩ v).heap[b]? = some (.cells arr' ty (0, 0)) ∧
      arr'.toList = arr.toList.take o ++ [self, v] ++ arr.toList.drop (o + 2) ∧ OwnAt imm (w2.setCell ⟨b, o + 1, none⟩ v) false (.int .u8) xs [v] nb1 ∧ w2.heap[b]? = some (.cells (arr.setIfInBounds o self) ty (0, 0)) := by
  obtain ⟨s1, s2, s3⟩ := setCell_box (k := o) ha self
  rw [← e1] at s1 s2 s3
  have hb1 : b < w1.heap.size := lt_of_heap s1
  have hnb := List.nodup_cons.1 hn
  have hib := (hi b (List.mem_cons_self ..)).1
  have h2 : w2.heap[b]? = some (.cells (arr.setIfInBounds o self) ty (0, 0)) := by rw [(A.same b hb1 hnb.1 hib).1]; exact s1
  have hbn : b ∉ nb1 := fun hm => by
    rcases (A.frm b hm).2.1 with h | h
    · exact hnb.1 h
    · omega
  obtain ⟨t1, t2, t3⟩ := setCell_box (k := o + 1) h2 v
  refine ⟨⟨fun _ _ h => h, fun y L h => ?_, fun y h1 hm h3 => ?_, List.nodup_cons.2 ⟨hbn, A.nodup⟩, fun y hy => ?_, ?_, ?_, ?_, ?_, fun y L h => ?_⟩, hbn, _, t1, ?_, hO.other fun y hy => t2 y (fun e => hbn (e ▸ hy)), h2⟩
  · have hyb : y ≠ b := fun e => by subst e; rw [hib] at h; cases h
    obtain ⟨a, t, f, k1, k2⟩ := A.cells y L h
    exact ⟨a, t, f, by rw [t2 y hyb]; exact k1, k2⟩
  · have hyb : y ≠ b := fun e => hm (e ▸ List.mem_cons_self ..)
    have hy0 : y ∉ nb0 := fun e => hm (List.mem_cons_of_mem _ e)
    rw [t2 y hyb, (A.same y (by rw [s3]; exact h1) hy0 h3).1, s2 y hyb]
    exact ⟨rfl, h3⟩
  · rcases List.mem_cons.1 hy with rfl | hy
    · exact ⟨hib, .inl (List.mem_cons_self ..), by rw [t3]; exact lt_of_heap h2⟩
    · obtain ⟨k1, k2, k3⟩ := A.frm y hy
      refine ⟨k1, ?_, by rw [t3]; exact k3⟩
      rcases k2 with k2 | k2
      · exact .inl (List.mem_cons_of_mem _ k2)
      · exact .inr (by rw [← s3]; exact k2)
  · rw [t3, ← s3]; exact A.size
  · show w2.os = w.os
    rw [A.os, e1]; rfl
  · show w2.tape = w.tape
    rw [A.tape, e1]; rfl
  · show w2.output = w.output
    rw [A.output, e1]; rfl
  · have hyb : y ≠ b := fun e => by subst e; rw [hib] at h; cases h
    rw [t2 y hyb, A.fix y L h, s2 y hyb]
  · simp only [Array.toList_setIfInBounds]
    apply List.ext_getElem?
    intro j
    have hl : arr.toList.length = arr.size := rfl
    simp only [List.getElem?_set, List.length_set, List.append_assoc, List.getElem?_append, List.length_take, List.getElem?_take, List.length_cons, List.length_nil, List.getElem?_drop]
    rcases Nat.lt_trichotomy j o with h | h | h
    · rw [if_neg (by omega), if_neg (by omega), if_pos (by omega), if_pos h]
    · subst h
      rw [if_neg (by omega), if_pos rfl, if_pos (by omega), if_neg (by omega), if_pos (by omega)]
      rw [show j - min j arr.toList.length = 0 by omega]
      rfl
    · by_cases h2 : j = o + 1
      · subst h2
        rw [if_pos rfl, if_pos (by omega), if_neg (by omega), if_pos (by omega), show o + 1 - min o arr.toList.length = 1 by omega]
        rfl
      · rw [if_neg (by omega), if_neg (by omega), if_neg (by omega), if_neg (by omega)]
        congr 1
        omega
theorem wpList_run_append {P : Program} {w : World} {ops : Array Oper} {rest : List Oper} {o : Oper} {a : Act} {Q : Exit → Act → World → Prop} (hgd : o.guard = none) (s x : Operand) (t u : TypeId)
    (ho : o.op = .call { callee := .builtin .append, args := #[s, x], argTypes := #[t, u] }) (vs vx : Value) (hs : a.eval s = vs) (hx : a.eval x = vx) (R : Value → World → Prop)
    (hr : ∃ v w', (Builtin.append_ #[t, u] o.type #[vs, vx]).run P w = .ok v w' ∧ R v w') (h : ∀ v w', R v w' → wpList P ops Q rest (a.put o.dst v) w') : wpList P ops Q (o :: rest) a w := by
  obtain ⟨v, w', hr, hR⟩ := hr
  refine wpList_plain hgd fun K hK => ?_
  unfold Oper.wp execOp
  simp only [ho, resolve, invoke, builtin, Sem.run_bind, Sem.run_pure, Result.andThen_ok, List.map_toArray, List.map_cons, List.map_nil, hs, hx, hr]
  exact hK _ _ (h v w' hR)
theorem After.ofAlloc {imm : Rd} {w w' : World} {nb nb' : List Nat} {o : Go.Obj} (hc : ∀ b L, imm b = some L → b < w.heap.size) (h : After imm (w.alloc o) nb imm w' nb') : After imm w nb imm w' nb' := by
  have hs : (w.alloc o).heap.size = w.heap.size + 1 := by show (w.heap.push _).size = _; simp
  refine ⟨h.mono, h.cells, fun b h1 h2 h3 => ?_, h.nodup, fun b hb => ?_, ?_, h.os, h.tape, h.output, fun b L hb => ?_⟩
  · rw [(h.same b (by omega) h2 h3).1]
    refine ⟨?_, h3⟩
    show (w.heap.push _)[b]? = _
    rw [Array.getElem?_push, if_neg (by omega)]
  · obtain ⟨a1, a2, a3⟩ := h.frm b hb
    refine ⟨a1, a2.imp id fun k => ?_, a3⟩
    omega
  · have := h.size
    omega
  · rw [h.fix b L hb]
    have := hc b L hb
    show (w.heap.push _)[b]? = _
    rw [Array.getElem?_push, if_neg (by omega)]
theorem OwnAt.alloc {imm : Rd} {w : World} {xs : List Int} {us : List Value} {nb : List Nat} (h : OwnAt imm w false (.int .u8) xs us nb) (k : ∀ b ∈ nb, b < w.heap.size) (o : Go.Obj) : OwnAt imm (w.alloc o) false (.int .u8) xs us nb :=
  h.other fun b hb => by
    have := k b hb
    show (w.heap.push _)[b]? = _
    rw [Array.getElem?_push, if_neg (by omega)]
end Go.Abs
end

section
namespace Go.Abs
theorem invokes_of_calls {P : Program} {f : FuncId} {fn : Func} {c : Code} {args : Array Value} {w : World} {R : Value → World → Prop} (hf : P.funcs[f]? = some fn) (hb : fn.body = some c) (hname : (fn.name == "runtime.NumGoroutine") = false)
    (h : Calls P f args w fun e w' => ∃ v, e = .returned v ∧ R v w') : Invokes P f args w R := by
  have hcall : (callFunc f args).run P w = .ok (.enter f args) w := by
    have h1 : fn.name ≠ "runtime.NumGoroutine" := by simpa using hname
    simp [callFunc, hf, h1, hb]
  unfold Invokes
  rw [hcall]
  exact h
structure Same (w w' : World) : Prop where
  other : ∀ b, b < w.heap.size → w'.heap[b]? = w.heap[b]?
  size : w.heap.size ≤ w'.heap.size
  os : w'.os = w.os
  tape : w'.tape = w.tape
  output : w'.output = w.output
theorem Same.refl (w : World) : Same w w := ⟨fun _ _ => rfl, Nat.le_refl _, rfl, rfl, rfl⟩
theorem Same.after {imm : Rd} {w w' : World} (h : Same w w') (hc : ∀ b L, imm b = some L → ∃ arr ty fr, w.heap[b]? = some (.cells arr ty fr) ∧ arr.toList = L) : After imm w [] imm w' [] :=
  ⟨fun _ _ h => h, fun b L k => by
    obtain ⟨a, t, f, k1, k2⟩ := hc b L k
    exact ⟨a, t, f, by rw [h.other b (lt_of_heap k1)]; exact k1, k2⟩, fun b h1 _ h3 => ⟨h.other b h1, h3⟩, List.nodup_nil, (fun b hb => by simp at hb), h.size, h.os, h.tape, h.output, fun b L k => by
    obtain ⟨a, t, f, k1, k2⟩ := hc b L k
    exact h.other b (lt_of_heap k1)⟩
def Is : (τ : Ty) → τ.den → Value → Prop
  | .int k, x, u => u = .int k x
  | .bool, b, u => u = .bool b
  | .str, l, u => ∃ s, u = .string s ∧ l = bytesOf s
  | _, _, _ => False
def IsArgs : List Ty → List VSp
  | [] => []
  | τ :: r => .one (.pub τ) :: IsArgs r
def AreAll : (ts : List Ty) → (argsTy (IsArgs ts)).den → List Value → Prop
  | [], _, us => us = []
  | τ :: r, x, us => ∃ u v, us = u :: v ∧ Is τ x.1 u ∧ AreAll r x.2 v
def simple : Ty → Bool
  | .int _ => true
  | .bool => true
  | .str => true
  | _ => false
theorem is_of_rc {r : Rd} {τ : Ty} {x : τ.den} {u : Value} (hs : simple τ = true) (h : Rc r τ x [u]) : Is τ x u := by
  cases τ with
  | int k => have h : _ = _ := h; injection h
  | bool => have h : _ = _ := h; injection h
  | str => obtain ⟨s, e, h⟩ := h; injection e with e; exact ⟨s, e, h⟩
  | _ => cases hs
theorem rc_of_is {r : Rd} {τ : Ty} {x : τ.den} {u : Value} (hs : simple τ = true) (h : Is τ x u) : Rc r τ x [u] ∧ oc u = true ∧ τ.one = true := by
  cases τ with
  | int k => have h : _ = _ := h; subst h; exact ⟨rfl, rfl, rfl⟩
  | bool => have h : _ = _ := h; subst h; exact ⟨rfl, rfl, rfl⟩
  | str => obtain ⟨s, e, h⟩ := h; subst e; exact ⟨⟨s, rfl, h⟩, rfl, rfl⟩
  | _ => cases hs
theorem areAll_of {imm : Rd} {w : World} : ∀ {ts : List Ty} {x : (argsTy (IsArgs ts)).den} {us : List Value} {nb : List Nat}, (ts.all simple) = true → PassArgs imm w (IsArgs ts) x us nb → AreAll ts x us ∧ nb = []
  | [], _, _, _, _, h => h
  | τ :: r, x, us, nb, hs, ⟨u, v, n1, n2, e, e', ⟨_, h1, _, u', e2, h2⟩, h3⟩ => by
    simp only [List.all_cons, Bool.and_eq_true] at hs
    injection e2 with e2
    subst e2
    obtain ⟨k1, k2⟩ := areAll_of hs.2 h3
    exact ⟨⟨u, v, e, is_of_rc hs.1 h2, k1⟩, by rw [e', h1, k2]; rfl⟩
theorem outs_none {imm : Rd} {w w' : World} : ∀ {ts : List Ty} {x : (outsTy (IsArgs ts)).den} {y : (argsTy (IsArgs ts)).den} {us : List Value}, AreAll ts y us → OutsArgs imm w w' (IsArgs ts) x us []
  | [], _, _, _, h => ⟨h, rfl⟩
  | _ :: _, _, _, _, ⟨u, v, e, _, h⟩ => ⟨u, v, [], [], e, rfl, rfl, outs_none h⟩
def IsRes : List Ty → RSp
  | [τ] => .val (.one (.pub τ))
  | ts => .tup (IsArgs ts)
theorem simple_ok {P : Program} {glob : Nat → Option (List Cell)} {f : FuncId} {ts : List Ty} {τ : Ty} (hts : ts.all simple = true) (hτ : simple τ = true) {F : (argsTy (IsArgs ts)).den → Option (Ty.pr τ (outsTy (IsArgs ts))).den}
    (h : ∀ x y, F x = some y → ∀ w us, AreAll ts x us → Invokes P f us.toArray w fun v w' => Same w w' ∧ Is τ y.1 v) : CallOk P glob f ⟨⟨IsArgs ts, .val (.one (.pub τ))⟩, F⟩ := by
  intro x y hF imm w args nb hG hcells hP hnd hnb
  obtain ⟨hA, rfl⟩ := areAll_of hts hP
  refine Invokes.mono (fun v w' hk => ?_) (h x y hF w args hA)
  obtain ⟨hs, hv⟩ := hk
  obtain ⟨k1, k2, k3⟩ := rc_of_is (r := imm) hτ hv
  exact ⟨imm, [], [], hs.after hcells, ⟨k2, rfl, k3, v, rfl, k1⟩, outs_none hA⟩
theorem AreAll.map {imm : Rd} {w : World} : ∀ {ts : List Ty} {x : (argsTy (IsArgs ts)).den} {us : List Value}, (ts.all simple) = true → AreAll ts x us → ResVals imm w (IsArgs ts) x us []
  | [], _, _, _, h => ⟨h, rfl⟩
  | τ :: r, x, us, hs, ⟨u, v, e, h1, h2⟩ => by
    simp only [List.all_cons, Bool.and_eq_true] at hs
    obtain ⟨k1, k2, k3⟩ := rc_of_is (r := imm) hs.1 h1
    exact ⟨u, v, [], [], e, rfl, ⟨k2, rfl, k3, u, rfl, k1⟩, AreAll.map hs.2 h2⟩
end Go.Abs
end

section
namespace Go.Abs
theorem var_snap {P : Program} {W : World} {n : String} {g : Nat} {cs : Array Value} (hg : P.globalNamed n = some g) (h : W.var? P n = some cs) : snap W g = some cs.toList := by
  unfold World.var? at h
  rw [hg, Option.bind_some] at h
  unfold snap
  split at h
  · rename_i arr a b e
    rw [e]
    injection h with h
    rw [h]
  · cases h
theorem glob_one {H : Type} {enc : TypeId × Value → H} {P : Program} {W : World} {n : String} {g g' t : Nat} {cs : Array Value} {fuel : Nat} {d : DataW H} {p : List MemPlace} {τ : Ty} {x : τ.den} {sp : Nat → Bool} {held : Bool} {k : Nat}
    (hg : P.globalNamed n = some g) (ht : (P.globals[g]?).map (·.type) = some t) (hv : W.var? P n = some cs) (hd : DataW.trod enc P W 0 sp held fuel t cs.toList = some (d, p))
    (eg : P.globalNamed n = some g') (ef : ((P.globals[g']?).map (·.type)).all (fun t => fitsT P k t τ) = true) (ho : τ.one = true) (hs : ∀ us, Rc (snap W) τ x us → us.length = 1) (ex : ofD τ d = x) :
    ∃ us, snap W g' = some us ∧ ∀ gh : Gh, (∀ b L, snap W b = some L → gh.imm b = some L) → CellsRel gh [.v τ x] us := by
  obtain rfl := Option.some.inj (hg.symm.trans eg)
  rw [ht] at ef
  have h := (trod_in k fuel t τ cs.toList (d, p) ef hd).1
  rw [ex] at h
  have hl := hs _ h
  refine ⟨cs.toList, var_snap hg hv, fun gh hi => ?_⟩
  match hc : cs.toList, hl with
  | [u], _ =>
    rw [hc] at h
    exact ⟨u, [], rfl, ⟨ho, h.mono hi⟩, rfl⟩
theorem one_sl {r : Rd} {e : Ty} {xs : List e.den} : ∀ us, Rc r (.sl e) xs us → us.length = 1 := by
  rintro us ⟨A, c, rfl, _⟩; rfl
theorem glob_err {H : Type} {enc : TypeId × Value → H} {P : Program} {W : World} {n : String} {g g' t : Nat} {cs : Array Value} {fuel : Nat} {d : DataW H} {p : List MemPlace} {sp : Nat → Bool} {nm : String}
    (hg : P.globalNamed n = some g) (ht : (P.globals[g]?).map (·.type) = some t) (hv : W.var? P n = some cs) (hd : DataW.trod enc P W 0 sp false fuel t cs.toList = some (.iface nm d, p))
    (eg : P.globalNamed n = some g') (ef : ((P.globals[g']?).map (·.type)).all (fun t => match P.underlying t with | some (.interface _) => true | _ => false) = true) :
    ∃ us, snap W g' = some us ∧ ∀ gh : Gh, (∀ b L, snap W b = some L → gh.imm b = some L) → CellsRel gh [.err false] us := by
  obtain rfl := Option.some.inj (hg.symm.trans eg)
  rw [ht] at ef
  refine ⟨cs.toList, var_snap hg hv, fun gh hi => ?_⟩
  have ef : (match P.underlying t with | some (.interface _) => true | _ => false) = true := ef
  cases hu : P.underlying t with
  | none => rw [hu] at ef; cases ef
  | some k =>
    cases k with
    | interface ms =>
      cases fuel with
      | zero => simp [DataW.trod] at hd
      | succ m =>
        unfold DataW.trod at hd
        rw [hu] at hd
        simp only at hd
        split at hd <;> simp_all
        rename_i u v hc _
        exact ⟨_, _, rfl, .inr ⟨rfl, _, _, rfl⟩, rfl⟩
    | _ => rw [hu] at ef; cases ef
theorem cells_ints {gh : Gh} {k : IntKind} : ∀ zs : List Int, CellsRel gh (zs.map fun z => .v (.int k) z) (zs.map fun z => .int k z)
  | [] => rfl
  | z :: zs => ⟨_, _, rfl, ⟨rfl, rfl⟩, cells_ints zs⟩
theorem glob_ints {H : Type} {enc : TypeId × Value → H} {P : Program} {W : World} {n : String} {g g' t m e : Nat} {cs : Array Value} {fuel : Nat} {ds : List (DataW H)} {p : List MemPlace} {sp : Nat → Bool} {held : Bool} {k : IntKind}
    (hg : P.globalNamed n = some g) (ht : (P.globals[g]?).map (·.type) = some t) (hv : W.var? P n = some cs) (hd : DataW.trod enc P W 0 sp held fuel t cs.toList = some (.agg ds, p))
    (eg : P.globalNamed n = some g') (zs : List Int) (ez : ds.map (ofD (.int k)) = zs)
    (et : ((P.globals[g']?).bind fun gl => P.underlying gl.type) = some (.array m e)) (ee : P.underlying e = some (.int k)) (e1 : P.cellsOf e = 1) (en : ((P.globals[g']?).map fun gl => P.cellsOf gl.type) = some m) :
    ∃ us, snap W g' = some us ∧ ∀ gh : Gh, (∀ b L, snap W b = some L → gh.imm b = some L) → CellsRel gh (zs.map fun z => .v (.int k) z) us := by
  obtain rfl := Option.some.inj (hg.symm.trans eg)
  refine ⟨cs.toList, var_snap hg hv, fun gh hi => ?_⟩
  obtain ⟨gl, hgl, rfl⟩ := Option.map_eq_some_iff.1 ht
  rw [hgl] at et en
  have et : P.underlying gl.type = some (.array m e) := et
  have en : some (P.cellsOf gl.type) = some m := en
  injection en with en
  obtain ⟨xs, q, _, ex, hl, hx, hel⟩ := DataW.trod_array et hd
  rw [en] at hl
  simp only [Prod.mk.injEq, DataW.agg.injEq] at ex
  have : cs.toList = zs.map fun z => .int k z := by
    refine List.ext_getElem? fun i => ?_
    by_cases hi : i < m
    · have h := hel i hi
      rw [e1, Nat.mul_one, List.getElem?_eq_getElem (show i < xs.length by omega)] at h
      obtain ⟨z, h1, h2, _⟩ := DataW.trod_int ee h
      have h3 : cs.toList[i]? = some (.int k z) := by
        have : ((cs.toList.drop i).take 1)[0]? = some (.int k z) := by rw [h1]; rfl
        simpa using this
      rw [h3, ← ez, ex.1, List.map_map, List.map_map, List.getElem?_map, List.getElem?_eq_getElem (show i < xs.length by omega)]
      simp only [Option.map_some, Function.comp, h2]
      rfl
    · rw [List.getElem?_eq_none (by omega), List.getElem?_eq_none (by rw [← ez, ex.1]; simp; omega)]
  rw [this]
  exact cells_ints zs
end Go.Abs
end
