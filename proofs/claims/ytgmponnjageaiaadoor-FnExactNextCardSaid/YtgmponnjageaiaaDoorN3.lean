/- What is here: all functions of a program at once, level by level. What is here: all functions of a program keep their contracts, level by level. What is here: how a system's equations are told and used. What is here: small laws on numbers, lists and levels, for the plain part of the proofs. What is here: arguments and package variables, read by the row, as plain data. What is here: append to a row of bytes, told by the world alone; for the library's functions. What is here: contracts of library functions: from the kit's Calls; functions over numbers and texts alone. What is here: package variables, read by the row, as plain data. -/
import Derived.Test.YtgmponnjageaiaaDoorN2
import Derived.KernelRfl
import Derived.Below
import Derived.Laws.BitsLemmas
import Derived.OpenShut
import Derived.OpenVars
import Derived.Laws.Externs
import Derived.LaidMore
import Derived.LaidHandle
set_option linter.unusedVariables false
set_option linter.unusedSimpArgs false
set_option maxRecDepth 100000
section
namespace Go.Abs
def r9 : Code → List (Bool × Code)
 | .seq a b => (false, b) :: (r9 a ++ r9 b)
 | .cond _ a b => r9 a ++ r9 b
 | .block _ c => r9 c
 | .loop c => (true, c) :: r9 c
 | .scope c => r9 c
 | _ => []
def T5 (k : Bool) (r : Nat) : List (Bool × Code) → Code
 | [] => .skip
 | p :: q => bif (p.1 == k) && (match first p.2 with | some n => Nat.beq n r | none => false) then p.2 else T5 k r q
theorem bl4 : ∀ (c : Code), ∀ p ∈ pieces c, p ∈ r9 c := by
 intro c
 induction c with
 | seq a b iha ihb =>
  intro p hp
  simp only [pieces, r9, List.mem_cons, List.mem_append] at hp ⊢
  rcases hp with h | h | h
  ·exact .inl h
  ·exact .inr (.inl (iha p h))
  ·exact .inr (.inr (ihb p h))
 | cond c a b iha ihb =>
  intro p hp
  simp only [pieces, r9, List.mem_append] at hp ⊢
  exact hp.imp (iha p) (ihb p)
 | block id c ih => exact ih
 | loop c ih => intro p hp; simp only [pieces, r9, List.mem_cons, List.not_mem_nil, or_false] at hp ⊢; exact .inl hp
 | scope c ih => exact ih
 | _ => intro p hp; cases hp
theorem aN1 : ∀ (c : Code), ∀ p ∈ r9 c, ∀ q ∈ r9 p.2, q ∈ r9 c := by
 intro c
 induction c with
 | seq a b iha ihb =>
  intro p hp q hq
  simp only [r9, List.mem_cons, List.mem_append] at hp ⊢
  rcases hp with rfl | h | h
  ·exact .inr (.inr hq)
  ·exact .inr (.inl (iha p h q hq))
  ·exact .inr (.inr (ihb p h q hq))
 | cond c a b iha ihb =>
  intro p hp q hq
  simp only [r9, List.mem_append] at hp ⊢
  rcases hp with h | h
  ·exact .inl (iha p h q hq)
  ·exact .inr (ihb p h q hq)
 | block id c ih => exact ih
 | loop c ih =>
  intro p hp q hq
  simp only [r9, List.mem_cons] at hp ⊢
  rcases hp with rfl | h
  ·exact .inr hq
  ·exact .inr (ih p h q hq)
 | scope c ih => exact ih
 | _ => intro p hp; cases hp
theorem aV9 {k : Bool} {b : Code} {r : Nat} : ∀ {l : List (Bool × Code)}, (∀ p ∈ l, first p.2 = some r → p.1 = k → p = (k, b)) → (k, b) ∈ l → first b = some r → T5 k r l = b
 | [], _, h, _ => by simp at h
 | p :: q, hu, h, hf => by
  simp only [T5]
  cases hc : ((p.1 == k) && (match first p.2 with | some n => Nat.beq n r | none => false)) with
  | true =>
   simp only [Bool.and_eq_true, beq_iff_eq] at hc
   have h2 : first p.2 = some r := by
    cases hp : first p.2 with
    | none => rw [hp] at hc; cases hc.2
    | some n => rw [hp] at hc; rw [beq_eq hc.2]
   rw [hu p (List.mem_cons_self ..) h2 hc.1]
   rfl
  | false =>
   simp only [cond_false]
   refine aV9 (fun p' hp' => hu p' (List.mem_cons_of_mem _ hp')) ?_ hf
   rcases List.mem_cons.1 h with h | h
   ·exfalso
    subst h
    simp [hf] at hc
   ·exact h
def be6 (aj2 : Bool → Nat → Bool) (c : Code) : List (Bool × Nat) := (r9 c).filterMap fun p => match first p.2 with
 | some r => bif aj2 p.1 r then some (p.1, r) else none
 | none => none
theorem aT5 {aj2 : Bool → Nat → Bool} : ∀ {l : List (Bool × Code)}, (l.filterMap fun p => match first p.2 with | some r => bif aj2 p.1 r then some (p.1, r) else none | none => none).Nodup → ∀ {p q : Bool × Code} {r : Nat}, p ∈ l → q ∈ l → first p.2 = some r → first q.2 = some r → p.1 = q.1 → aj2 p.1 r = true → p = q
 | [], _, p, q, r, hp, _, _, _, _, _ => by simp at hp
 | x :: l, h, p, q, r, hp, hq, h1, h2, h3, h4 => by
  have mem : ∀ y ∈ l, first y.2 = some r → y.1 = p.1 → (p.1, r) ∈ (l.filterMap fun p => match first p.2 with | some r => bif aj2 p.1 r then some (p.1, r) else none | none => none) := fun y hy hf hk =>
   List.mem_filterMap.2 ⟨y, hy, by rw [hf]; simp [hk, h4]⟩
  rcases List.mem_cons.1 hp with rfl | hp' <;> rcases List.mem_cons.1 hq with rfl | hq'
  ·rfl
  ·exfalso
   rw [List.filterMap_cons] at h
   simp only [h1, h4, cond_true, List.nodup_cons] at h
   exact h.1 (mem q hq' h2 h3.symm)
  ·exfalso
   rw [List.filterMap_cons] at h
   simp only [h2, ← h3, h4, cond_true, List.nodup_cons] at h
   exact h.1 (mem p hp' h1 rfl)
  ·refine aT5 (l := l) ?_ hp' hq' h1 h2 h3 h4
   rw [List.filterMap_cons] at h
   split at h
   ·exact h
   ·exact (List.nodup_cons.1 h).2
structure Sys where
 P : Program
 glob : Nat → Option (List Cell)
 cl : TypeId
 sig : FuncId → Sig
 known : FuncId → Bool
 av4 : FuncId → List Nat
 aj2 : FuncId → Bool → Nat → Bool
 cut : FuncId → Bool → Nat → Cut
 lib : FuncId → Option Callee
 bors : List (FuncId × FuncId) := []
 nest : FuncId → Bool := fun _ => false
 trim : FuncId → Bool := fun _ => false
namespace Sys
variable (S : Sys)
structure Tab where
 fn : (f : FuncId) → (S.sig f).dom.den → Option (S.sig f).cod.den
 pc : (f : FuncId) → (k : Bool) → (r : Nat) → (A6 (S.cut f k r).as).den → Option (ai4 (S.cut f k r).ws)
def bA8 (c f : FuncId) : Bool := S.bors.any fun p => Nat.beq p.1 c && Nat.beq p.2 f
def bD3 : Bool := S.bors.all fun p => ag8 (S.sig p.2).args && bo0 (S.sig p.2).res
def callee (T : S.Tab) (c f : FuncId) : Option Callee := bif S.known f then (bif S.bA8 c f then some (aO8 ⟨S.sig f, T.fn f⟩) else some ⟨S.sig f, T.fn f⟩) else S.lib f
def env (T : S.Tab) (f : FuncId) (nt : Nat) : Env := { P := S.P, callee := S.callee T f, glob := S.glob, cl := S.cl, nt := nt, av4 := S.av4 f, nest := S.nest f, trim := S.trim f, slf := aZ9 (S.sig f).args }
def bk1 (T : S.Tab) (f : FuncId) : Cuts :=
  ⟨fun r => bif S.aj2 f true r then some ((S.cut f true r).aC7 (T.pc f true r)) else none,
   fun r => bif S.aj2 f false r then some ((S.cut f false r).aC7 (T.pc f false r)) else none⟩
def a69 (T : S.Tab) (f : FuncId) (x : (S.sig f).dom.den) : Option (S.sig f).cod.den := match S.P.funcs[f]? with
 | some fn => bb0 (S.env T f fn.ntmps) fn (S.sig f) (S.bk1 T f) x
 | none => none
def aJ6 (T : S.Tab) (f : FuncId) (k : Bool) (r : Nat) (x : (A6 (S.cut f k r).as).den) : Option (ai4 (S.cut f k r).ws) := match S.P.funcs[f]? with
 | some fn => match fn.body with
  | some c => bif k then (S.cut f k r).round (S.env T f fn.ntmps) (S.bk1 T f) (T5 k r (r9 c)) (T.pc f k r) x
    else (S.cut f k r).tail (S.env T f fn.ntmps) (S.bk1 T f) (T5 k r (r9 c)) x
  | none => none
 | none => none
def step (T : S.Tab) : S.Tab := ⟨S.a69 T, S.aJ6 T⟩
def tab : Nat → S.Tab
 | 0 => ⟨fun _ _ => none, fun _ _ _ _ => none⟩
 | n + 1 => S.step (tab n)
def bI3 (f : FuncId) : Bool := match S.P.funcs[f]? with
 | some fn => match fn.body with
  | some c => (fn.name != "runtime.NumGoroutine") && Nat.ble (S.sig f).args.length fn.ntmps && ((S.av4 f).all fun t => Nat.blt t (S.sig f).args.length) && Y7 (S.sig f).args &&
    decide (be6 (S.aj2 f) c).Nodup
  | none => false
 | none => false
end Sys
end Go.Abs
end

section
namespace Go.Abs
theorem ActRel.callee {E E' : Env} (hn : E'.nt = E.nt) (hk : E'.av4 = E.av4) (hs : E'.slf = E.slf) {B : Base} {g : Gh} {env : List (Nat × Slot)} {a : Act} (H : ActRel E B g env a) : ActRel E' B g env a :=
 ⟨H.env, H.size.trans hn.symm, H.defers, by rw [hk]; exact H.kept, fun f ts h h2 => H.slf f ts (by rw [← hs]; exact h) h2⟩
theorem KOk.callee {ρ : Type} {E E' : Env} (hg : E'.glob = E.glob) (hn : E'.nt = E.nt) (hk : E'.av4 = E.av4) (hs : E'.slf = E.slf) {B : Base} {K : St → Option ρ} {x : ρ} {Q : Act → World → Prop} (h : KOk E' B K x Q) : KOk E B K x Q :=
 fun s g a w h1 h2 h3 h4 => h s g a w h1 (by rw [hg]; exact h2) h3 (h4.callee hn hk hs)
theorem ao8.callee {E E' : Env} (hg : E'.glob = E.glob) (hn : E'.nt = E.nt) (hk : E'.av4 = E.av4) (hs : E'.slf = E.slf) {c : Cut} {W : (Exit → Act → World → Prop) → Act → World → Prop} {L : (A6 c.as).den → Option (ai4 c.ws)} (h : ao8 E c W L) : ao8 E' c W L :=
 fun x y hxy _ B K z Q hgo hK g a w h1 h2 h3 => h x y hxy B K z Q hgo (fun e => (hK e).callee hg hn hk hs) g a w (by rw [← hg]; exact h1) h2 (h3.callee hn.symm hk.symm hs.symm)
namespace Sys
variable {S : Sys}
theorem aU5 {f : FuncId} (h : S.bI3 f = true) : ∃ fn c, S.P.funcs[f]? = some fn ∧ fn.body = some c ∧ (fn.name == "runtime.NumGoroutine") = false ∧ (S.sig f).args.length ≤ fn.ntmps ∧ ((S.av4 f).all fun t => Nat.blt t (S.sig f).args.length) = true ∧ Y7 (S.sig f).args = true ∧
  (be6 (S.aj2 f) c).Nodup := by
 unfold bI3 at h
 split at h
 ·rename_i fn hf
  split at h
  ·rename_i c hc
   simp only [Bool.and_eq_true, decide_eq_true_eq] at h
   exact ⟨fn, c, hf, hc, by have := h.1.1.1.1; simpa [bne] using this, Nat.le_of_ble_eq_true h.1.1.1.2, h.1.1.2, h.1.2, h.2⟩
  ·cases h
 ·cases h
def W1 (P : Program) (k : Bool) (b : Code) : (Exit → Act → World → Prop) → Act → World → Prop := if k then ag1 P b else fun Q => b.wp P Q
structure TabOk (S : Sys) (T : S.Tab) : Prop where
 fn : ∀ f, S.known f = true → au9 S.P S.glob f ⟨S.sig f, T.fn f⟩
 pc : ∀ f, S.known f = true → ∀ fn c, S.P.funcs[f]? = some fn → fn.body = some c → ∀ k r, S.aj2 f k r = true → (k, T5 k r (r9 c)) ∈ r9 c → ∀ T' : S.Tab,
  ao8 (S.env T' f fn.ntmps) (S.cut f k r) (W1 S.P k (T5 k r (r9 c))) (T.pc f k r)
theorem bB7 {T : S.Tab} (hT : TabOk S T) {f : FuncId} (hk : S.known f = true) {fn : Func} {c : Code} (hf : S.P.funcs[f]? = some fn) (hb : fn.body = some c) (hnd : (be6 (S.aj2 f) c).Nodup) {d : Code} (hd : ∀ p ∈ r9 d, p ∈ r9 c) :
  CutsOk (S.env T f fn.ntmps) (S.bk1 T f) d := by
 have found : ∀ k b r, (k, b) ∈ pieces d → first b = some r → S.aj2 f k r = true → T5 k r (r9 c) = b ∧ (k, b) ∈ r9 c := by
  intro k b r hp hr hcut
  have hm := hd _ (bl4 d _ hp)
  refine ⟨aV9 (fun p hp' h1 h2 => ?_) hm hr, hm⟩
  exact aT5 hnd hp' hm h1 hr h2 (by rw [h2]; exact hcut)
 refine ⟨fun b hp h hh => ?_, fun b hp h hh => ?_⟩
 ·cases hr : first b with
  | none => rw [hr] at hh; cases hh
  | some r =>
   rw [hr] at hh
   have hh : (bif S.aj2 f true r then some ((S.cut f true r).aC7 (T.pc f true r)) else none) = some h := hh
   cases hc : S.aj2 f true r with
   | false => rw [hc] at hh; cases hh
   | true =>
    rw [hc] at hh
    injection hh with hh
    subst hh
    obtain ⟨e, hm⟩ := found true b r hp hr hc
    have := hT.pc f hk fn c hf hb true r hc (by rw [e]; exact hm) T
    rw [e] at this
    exact a68 (body := b) this
 ·cases hr : first b with
  | none => rw [hr] at hh; cases hh
  | some r =>
   rw [hr] at hh
   have hh : (bif S.aj2 f false r then some ((S.cut f false r).aC7 (T.pc f false r)) else none) = some h := hh
   cases hc : S.aj2 f false r with
   | false => rw [hc] at hh; cases hh
   | true =>
    rw [hc] at hh
    injection hh with hh
    subst hh
    obtain ⟨e, hm⟩ := found false b r hp hr hc
    have := hT.pc f hk fn c hf hb false r hc (by rw [e]; exact hm) T
    rw [e] at this
    exact a65 (body := b) this
theorem a89 : ∀ {as : List VSp}, ag8 as = true → aG8 as = none
 | [], _ => rfl
 | [.one s], h => by
  cases s with
  | slf f m => cases h
  | _ => rfl
 | [.agg s], _ => rfl
 | x :: a :: r, h => by
  have h : (ai2 x.sp && ag8 (a :: r)) = true := h
  rw [Bool.and_eq_true] at h
  have ih := a89 h.2
  have e : aG8 (x :: a :: r) = aG8 (a :: r) := by
   cases x with
   | one s => cases s <;> rfl
   | agg s => rfl
  rw [e]; exact ih
theorem aY9 (hm : S.P.follows .mixedOrders = true) (hk : ∀ f, S.known f = true → S.bI3 f = true) (hl : ∀ f c, S.known f = false → S.lib f = some c → an9 S.P S.glob f c) (hbs : S.bD3 = true) {T : S.Tab} (hT : TabOk S T) : TabOk S (S.step T) := by
 have hE : ∀ f nt, EnvOk (S.env T f nt) := fun f nt => ⟨fun g c hc => by
  have hc : (bif S.known g then (bif S.bA8 f g then some (aO8 ⟨S.sig g, T.fn g⟩) else some ⟨S.sig g, T.fn g⟩) else S.lib g) = some c := hc
  cases hg : S.known g with
  | true =>
   rw [hg] at hc
   cases hib : S.bA8 f g with
   | false => rw [hib] at hc; injection hc with hc; subst hc; exact hT.fn g hg
   | true =>
    rw [hib] at hc; injection hc with hc; subst hc
    unfold bA8 at hib
    obtain ⟨q, hq, hqe⟩ := List.any_eq_true.1 hib
    simp only [Bool.and_eq_true] at hqe
    obtain rfl := beq_eq hqe.2
    have := List.all_eq_true.1 hbs q hq
    simp only [Bool.and_eq_true] at this
    exact (bJ8 this.1 this.2 ((hT.fn _ hg).plain (a89 this.1))).slf
  | false => rw [hg] at hc; exact (hl g c hg hc).slf⟩
 refine ⟨fun f hf => ?_, fun f hf fn c hfn hb k r hcut hmem T' => ?_⟩
 ·obtain ⟨fn, c, h1, h2, h3, h4, h5, h6, h7⟩ := aU5 (hk f hf)
  have hbody := bG7 (hE f fn.ntmps) hm (f := f) (fn := fn) (c := c) (sg := S.sig f) (H := S.bk1 T f) h1 h2 h3 rfl h4 h5 h6 rfl (bB7 hT hf h1 h2 h7 fun p hp => hp)
  have e : (S.step T).fn f = bb0 (S.env T f fn.ntmps) fn (S.sig f) (S.bk1 T f) := by
   funext x
   show S.a69 T f x = _
   unfold a69
   rw [h1]
  rw [e]
  exact hbody
 ·obtain ⟨fn', c', h1, h2, h3, h4, h5, h6, h7⟩ := aU5 (hk f hf)
  rw [hfn] at h1
  injection h1 with h1
  subst h1
  rw [hb] at h2
  injection h2 with h2
  subst h2
  have hsub : ∀ p ∈ r9 (T5 k r (r9 c)), p ∈ r9 c := fun p hp => aN1 c _ hmem p hp
  have hC := bB7 hT hf hfn hb h7 hsub
  have e : (S.step T).pc f k r = fun x => bif k then (S.cut f k r).round (S.env T f fn.ntmps) (S.bk1 T f) (T5 k r (r9 c)) (T.pc f k r) x
    else (S.cut f k r).tail (S.env T f fn.ntmps) (S.bk1 T f) (T5 k r (r9 c)) x := by
   funext x
   show S.aJ6 T f k r x = _
   unfold aJ6
   rw [hfn]
   show (match fn.body with
    | some c => _
    | none => none) = _
   rw [hb]
  rw [e]
  cases k with
  | true => exact ao8.callee (E := S.env T f fn.ntmps) (E' := S.env T' f fn.ntmps) rfl rfl rfl rfl (bB4 (hE f fn.ntmps) hm hC (hT.pc f hf fn c hfn hb true r hcut hmem T))
  | false => exact ao8.callee (E := S.env T f fn.ntmps) (E' := S.env T' f fn.ntmps) rfl rfl rfl rfl (av6 (hE f fn.ntmps) hm hC)
theorem ok (hm : S.P.follows .mixedOrders = true) (hk : ∀ f, S.known f = true → S.bI3 f = true) (hl : ∀ f c, S.known f = false → S.lib f = some c → an9 S.P S.glob f c) (hbs : S.bD3 = true := by rfl) : ∀ n, TabOk S (S.tab n)
 | 0 => ⟨(fun f _ x y h => by cases h), (fun f _ fn c _ _ k r _ _ T' x y h => by cases h)⟩
 | n + 1 => aY9 hm hk hl hbs (ok hm hk hl hbs n)
end Sys
end Go.Abs
end

section
namespace Go.Abs
def A9 {A ρ : Type} (f : A → Option ρ) : A ⊕ Empty → Option ρ := Sum.elim f Empty.elim
def N0 {A B ρ : Type} (f : A → Option ρ) (g : B → Option ρ) : A ⊕ (B ⊕ Empty) → Option ρ := Sum.elim f (Sum.elim g Empty.elim)
def bI9 {A B C ρ : Type} (f : A → Option ρ) (g : B → Option ρ) (h : C → Option ρ) : A ⊕ (B ⊕ (C ⊕ Empty)) → Option ρ := Sum.elim f (Sum.elim g (Sum.elim h Empty.elim))
namespace Sys
variable {S : Sys}
theorem bH6 {f : FuncId} {fn : Func} (h : S.P.funcs[f]? = some fn) (T : S.Tab) (x : (S.sig f).dom.den) : (S.step T).fn f x = bb0 (S.env T f fn.ntmps) fn (S.sig f) (S.bk1 T f) x := by
 show S.a69 T f x = _
 unfold a69
 rw [h]
theorem bx3 {f : FuncId} {fn : Func} {c : Code} (h : S.P.funcs[f]? = some fn) (hb : fn.body = some c) (T : S.Tab) {r : Nat} (x : (A6 (S.cut f true r).as).den) :
  (S.step T).pc f true r x = (S.cut f true r).round (S.env T f fn.ntmps) (S.bk1 T f) (T5 true r (r9 c)) (T.pc f true r) x := by
 show S.aJ6 T f true r x = _
 unfold aJ6
 rw [h]
 show (match fn.body with
    | some c => _
    | none => none) = _
 rw [hb]
 rfl
theorem by4 {f : FuncId} {fn : Func} {c : Code} (h : S.P.funcs[f]? = some fn) (hb : fn.body = some c) (T : S.Tab) {r : Nat} (x : (A6 (S.cut f false r).as).den) :
  (S.step T).pc f false r x = (S.cut f false r).tail (S.env T f fn.ntmps) (S.bk1 T f) (T5 false r (r9 c)) x := by
 show S.aJ6 T f false r x = _
 unfold aJ6
 rw [h]
 show (match fn.body with
    | some c => _
    | none => none) = _
 rw [hb]
 rfl
theorem bH5 {fns : List Nat} (h : (fns.all S.bI3) = true) {f : FuncId} (hf : (fns.any (Nat.beq f)) = true) : S.bI3 f = true := by
 obtain ⟨g, hg, e⟩ := List.any_eq_true.1 hf
 have := Nat.eq_of_beq_eq_true e
 subst this
 exact List.all_eq_true.1 h _ hg
end Sys
theorem aI0 {P : Program} {f : FuncId} {fn : Func} {c : Code} {args : Array Value} {w : World} {R : Value → World → Prop} (hf : P.funcs[f]? = some fn) (hb : fn.body = some c) (hname : (fn.name == "runtime.NumGoroutine") = false)
  (h : M7 P f args w R) : Calls P f args w fun e w' => ∃ v, e = .returned v ∧ R v w' := by
 have hcall : (callFunc f args).run P w = .ok (.enter f args) w := by
  have h1 : fn.name ≠ "runtime.NumGoroutine" := by simpa using hname
  simp [callFunc, hf, h1, hb]
 unfold M7 at h
 rw [hcall] at h
 exact h
theorem After.below {imm imm' : Rd} {w w' : World} {nb' : List Nat} (h : After imm w [] imm' w' nb') : RowKit.Below w.heap.size w w' :=
 ⟨h.os, h.tape, h.output, h.size, fun k hk => by
  cases e : imm k with
  | none => exact (h.same k hk (by simp) e).1
  | some L => exact h.fix k L e⟩
def Evt (p : Nat → Prop) : Prop := ∃ N, ∀ n, N ≤ n → p n
theorem Evt.of {p : Nat → Prop} (h : ∀ n, p n) : Evt p := ⟨0, fun n _ => h n⟩
theorem Evt.and {p q : Nat → Prop} (h : Evt p) (k : Evt q) : Evt fun n => p n ∧ q n := by
 obtain ⟨N, h⟩ := h
 obtain ⟨M, k⟩ := k
 exact ⟨max N M, fun n hn => ⟨h n (by omega), k n (by omega)⟩⟩
theorem Evt.mono {p q : Nat → Prop} (h : Evt p) (k : ∀ n, p n → q n) : Evt q := by
 obtain ⟨N, h⟩ := h
 exact ⟨N, fun n hn => k n (h n hn)⟩
theorem Evt.up {p q : Nat → Prop} (h : Evt p) (k : ∀ n, p n → q (n + 1)) : Evt q := by
 obtain ⟨N, h⟩ := h
 refine ⟨N + 1, fun n hn => ?_⟩
 obtain ⟨m, rfl⟩ : ∃ m, n = m + 1 := ⟨n - 1, by omega⟩
 exact k m (h m (by omega))
end Go.Abs
end

section
namespace Go.Abs
def isByte (c : Int) : Prop := 0 ≤ c ∧ c < 256
theorem a43 (x : Int) (h0 : 0 ≤ x) (h1 : x < 256) : IntKind.u8.wrap x = x := by
 have : IntKind.u8.wrap x = x % 256 := rfl
 rw [this]; omega
theorem wrap64 (x : Int) (h0 : -9223372036854775808 ≤ x) (h1 : x < 9223372036854775808) : IntKind.i64.wrap x = x := by
 rw [IntKind.wrap_i64]; omega
theorem Z1 {n : Nat} (h : n ≤ lim) : fits n = true := Nat.ble_eq_true_of_le h
theorem at4 (s : ByteArray) : ∀ c ∈ bytesOf s, isByte c := by
 intro c hc
 unfold bytesOf at hc
 obtain ⟨b, _, rfl⟩ := List.mem_map.1 hc
 have := b.toNat_lt
 exact ⟨by omega, by omega⟩
theorem bI5 {c : Int} (h : isByte c) : byte c = c := by
 unfold byte
 obtain ⟨h0, h1⟩ := h
 omega
theorem bx4 {α : Type} (pre : List α) (x : α) (r : List α) (d : α) : (pre ++ x :: r).getD pre.length d = x := by
 rw [List.getD_eq_getElem?_getD, List.getElem?_append_right (Nat.le_refl _), Nat.sub_self]
 rfl
def stop (q : Nat → Bool) : Nat → Nat → Nat
 | 0, j => j
 | k + 1, j => bif q j then stop q k (j + 1) else j
theorem al5 {q : Nat → Bool} : ∀ (k j : Nat), j ≤ stop q k j
 | 0, j => Nat.le_refl _
 | k + 1, j => by
  unfold stop
  cases q j
  ·exact Nat.le_refl _
  ·have := al5 (q := q) k (j + 1)
   simp only [cond_true]; omega
theorem aj8 {q : Nat → Bool} {N : Nat} (h : ∀ j, N ≤ j → q j = false) : ∀ (k j : Nat), N ≤ j + k → q (stop q k j) = false
 | 0, j, hk => h j (by omega)
 | k + 1, j, hk => by
  unfold stop
  cases hq : q j
  ·exact hq
  ·exact aj8 h k (j + 1) (by omega)
theorem ar4 {q : Nat → Bool} : ∀ (k j i : Nat), j ≤ i → i < stop q k j → q i = true
 | 0, j, i, h1, h2 => by simp only [stop] at h2; omega
 | k + 1, j, i, h1, h2 => by
  unfold stop at h2
  cases hq : q j
  ·rw [hq] at h2; simp only [cond_false] at h2; omega
  ·rw [hq] at h2
   rcases Nat.lt_or_ge j i with h | h
   ·exact ar4 k (j + 1) i h h2
   ·have : i = j := by omega
    subst this; exact hq
theorem bf4 {q : Nat → Bool} {N : Nat} (h : ∀ j, N ≤ j → q j = false) : ∀ (k k' j : Nat), N ≤ j + k → N ≤ j + k' → stop q k j = stop q k' j
 | 0, 0, j, _, _ => rfl
 | 0, k' + 1, j, h1, _ => by unfold stop; rw [h j (by omega)]; rfl
 | k + 1, 0, j, _, h2 => by unfold stop; rw [h j (by omega)]; rfl
 | k + 1, k' + 1, j, h1, h2 => by
  unfold stop
  cases q j
  ·rfl
  ·exact bf4 h k k' (j + 1) (by omega) (by omega)
theorem a33 {q : Nat → Bool} {N : Nat} (h : ∀ j, N ≤ j → q j = false) {k j : Nat} (hk : N ≤ j + k) (hq : q j = true) : stop q k j = stop q k (j + 1) := by
 have hj : j < N := by
  rcases Nat.lt_or_ge j N with h' | h'
  ·exact h'
  ·rw [h j h'] at hq; cases hq
 obtain ⟨k, rfl⟩ : ∃ m, k = m + 1 := ⟨k - 1, by omega⟩
 rw [bf4 h (k + 1) k (j + 1) (by omega) (by omega)]
 show (bif q j then stop q k (j + 1) else j) = _
 rw [hq]; rfl
theorem ax2 {q : Nat → Bool} {k j : Nat} (hq : q j = false) : stop q k j = j := by
 cases k with
 | zero => rfl
 | succ k => unfold stop; rw [hq]; rfl
theorem adv {S : Sys} {R : Type} {F : S.Tab → Nat → Option R} {q : Nat → Bool} {out : Nat → R} {N : Nat} {p : S.Tab → Prop} (hp : Evt fun n => p (S.tab n)) (hN : ∀ j, N ≤ j → q j = false)
  (h1 : ∀ T j, p T → q j = true → F (S.step T) j = F T (j + 1)) (h2 : ∀ T j, p T → q j = false → F (S.step T) j = some (out j)) :
  ∀ (k j : Nat), N ≤ j + k → Evt fun n => F (S.tab n) j = some (out (stop q k j))
 | 0, j, hk => hp.up fun n h => by
  show F (S.step (S.tab n)) j = _
  rw [h2 _ _ h (hN j (by omega))]; rfl
 | k + 1, j, hk => by
  cases hq : q j with
  | false =>
   refine hp.up fun n h => ?_
   show F (S.step (S.tab n)) j = _
   rw [h2 _ _ h hq, ax2 hq]
  | true =>
   refine ((adv hp hN h1 h2 k (j + 1) (by omega)).and hp).up fun n h => ?_
   show F (S.step (S.tab n)) j = _
   rw [h1 _ _ h.2 hq, h.1]
   show some (out (stop q k (j + 1))) = some (out (bif q j then _ else _))
   rw [hq]; rfl
theorem l7 {ρ : Type} {b : Bool} {x y : Option ρ} (h : b = true) : brk b x y = x := by rw [J7, h]; rfl
theorem q8 {ρ : Type} {b : Bool} {x y : Option ρ} (h : b = false) : brk b x y = y := by rw [J7, h]; rfl
end Go.Abs
end

section
namespace Go.Abs
def snap (W : World) : Rd := fun b => match W.heap[b]? with | some (.cells arr _ _) => some arr.toList | _ => none
theorem bu3 {W : World} {b : Nat} {L : List Value} (h : snap W b = some L) : ∃ arr ty fr, W.heap[b]? = some (.cells arr ty fr) ∧ arr.toList = L := by
 unfold snap at h
 split at h
 ·rename_i arr ty fr e; injection h with h; exact ⟨arr, ty, fr, e, h⟩
 ·cases h
def ofD {H : Type} : (τ : Ty) → DataW H → τ.den
 | .int _, d => match d with | .lit (.int _ z) => z | _ => (0 : Int)
 | .bool, d => match d with | .lit (.bool b) => b | _ => false
 | .str, d => match d with | .lit (.string bs) => bs.map fun b => (b.toNat : Int) | _ => ([] : List Int)
 | .sl e, d => match d with | .slice ds _ => ds.map (ofD e) | _ => []
 | .un, _ => ()
 | .pr a b, d => match d with | .agg (x :: r) => (ofD a x, ofD b (.agg r)) | _ => (ofD a (DataW.nil (H := H)), ofD b (DataW.nil (H := H)))
 | .cl, _ => ([] : List Int)
def Good : (τ : Ty) → τ.den → Prop
 | .int k, x => k.min ≤ x ∧ x ≤ k.max
 | .str, l => (∀ c ∈ l, isByte c) ∧ l.length ≤ maxLen
 | .sl e, xs => (∀ x ∈ xs, Good e x) ∧ xs.length ≤ maxLen
 | .pr a b, x => Good a x.1 ∧ Good b x.2
 | _, _ => True
def bt8 (P : Program) (g : TypeId → Ty → Bool) : List Field → Nat → Ty → Bool
 | [], _, .un => true
 | f :: r, off, .pr a b => Nat.beq f.offset off && g f.type a && Nat.beq (P.cellsOf f.type) a.size && bt8 P g r (off + a.size) b
 | _, _, _ => false
def bd7 (P : Program) : Nat → TypeId → Ty → Bool
 | 0, _, _ => false
 | n + 1, t, τ => match P.underlying t with
  | some .bool => (match τ with | .bool => true | _ => false)
  | some (.int k) => (match τ with | .int k' => decide (k = k') | _ => false)
  | some .string => (match τ with | .str => true | _ => false)
  | some (.slice e) => (match τ with | .sl τ' => bd7 P n e τ' && Nat.beq (P.cellsOf e) τ'.size && Nat.blt 0 τ'.size | _ => false)
  | some (.struct fs) => bt8 P (bd7 P n) fs.toList 0 τ && Nat.beq (P.cellsOf t) τ.size
  | _ => false
theorem az0 {α β : Type} {f : α → Option β} : ∀ {l : List α} {r : List β}, l.mapM f = some r → r.length = l.length ∧ ∀ i (h : i < l.length), f l[i] = r[i]?
 | [], r, h => by
  simp at h
  subst h
  exact ⟨rfl, fun i h => absurd h (by simp)⟩
 | x :: l, r, h => by
  rw [List.mapM_cons] at h
  obtain ⟨y, h1, h2⟩ := Option.bind_eq_some_iff.1 h
  obtain ⟨ys, h3, h4⟩ := Option.bind_eq_some_iff.1 h2
  have h4 : some (y :: ys) = some r := h4
  injection h4 with h4
  subst h4
  obtain ⟨hl, hx⟩ := az0 h3
  refine ⟨by simp [hl], fun i hi => ?_⟩
  cases i with
  | zero => exact h1
  | succ i => exact hx i (by simpa using hi)
theorem a99 (a : Addr) (n : Nat) : (a.add n).block = a.block := by unfold Addr.add; split <;> rfl
theorem br4 (a : Addr) (n : Nat) : (a.add n).off = a.off + n := by
 unfold Addr.add
 split
 ·rename_i h; rw [h]; rfl
 ·rfl
theorem bA1 {a : Addr} (h : a.spot = none) (n : Nat) : (a.add n).spot = none := by unfold Addr.add; split <;> simp [h]
theorem add_zero' (a : Addr) : a.add 0 = a := by unfold Addr.add; rw [if_pos rfl]
theorem aT4 {W : World} {base : Nat} {a : Addr} {n : Nat} {cs : List Value} (h : W.cells? base a n = some cs) (hn : 0 < n) : a.spot = none ∧ ∃ L, snap W a.block = some L ∧ (L.drop a.off).take n = cs := by
 unfold World.cells? at h
 split at h
 ·obtain ⟨hl, hx⟩ := az0 h
  rw [List.length_range] at hl
  have h0 := hx 0 (by simpa using hn)
  have hc : ∀ i, i < n → W.cell? (a.add i) = cs[i]? := fun i hi => by
   have := hx i (by simpa using hi)
   simpa using this
  have e0 := hc 0 hn
  rw [List.getElem?_eq_getElem (show 0 < cs.length by omega)] at e0
  rw [add_zero'] at e0
  unfold World.cell? at e0
  cases hh : W.heap[a.block]? with
  | none => rw [hh] at e0; cases e0
  | some o =>
   cases o with
   | cells arr ty fr =>
    rw [hh] at e0
    have hsp : a.spot = none := by
     cases hs : a.spot with
     | none => rfl
     | some v => simp [hs] at e0
    refine ⟨hsp, arr.toList, ?_, ?_⟩
    ·unfold snap
     rw [hh]
    ·refine List.ext_getElem? fun i => ?_
     rw [List.getElem?_take]
     by_cases hi : i < n
     ·rw [if_pos hi, List.getElem?_drop, ← hc i hi]
      unfold World.cell?
      rw [a99, hh]
      simp [bA1 hsp, br4]
     ·rw [if_neg hi, List.getElem?_eq_none (by omega)]
   | _ => rw [hh] at e0; cases e0
 ·cases h
theorem bh4 {H : Type} {enc : TypeId × Value → H} {P : Program} {W : World} {sp : Nat → Bool} {held : Bool} {n : Nat} {g : TypeId → Ty → Bool}
  (hg : ∀ t τ cs (x : DataW H × List MemPlace), g t τ = true → DataW.trod enc P W 0 sp held n t cs = some x → Rc (snap W) τ (ofD τ x.1) cs ∧ Good τ (ofD τ x.1)) :
  ∀ (fs : List Field) (off : Nat) (τ : Ty) (cs : List Value) (xs : List (DataW H × List MemPlace)), bt8 P g fs off τ = true → (fs.mapM fun f => DataW.trod enc P W 0 sp held n f.type ((cs.drop f.offset).take (P.cellsOf f.type))) = some xs → off + τ.size ≤ cs.length →
   Rc (snap W) τ (ofD τ (.agg (xs.map (·.1)))) ((cs.drop off).take τ.size) ∧ Good τ (ofD τ (.agg (xs.map (·.1))))
 | [], off, τ, cs, xs, hf, hm, hl => by
  cases τ with
  | un => exact ⟨by show List.take 0 _ = []; rfl, trivial⟩
  | _ => cases hf
 | f :: fs, off, τ, cs, xs, hf, hm, hl => by
  cases τ with
  | pr a b =>
   unfold bt8 at hf
   simp only [Bool.and_eq_true] at hf
   obtain ⟨⟨⟨h1, h2⟩, h3⟩, h4⟩ := hf
   have h1 := Nat.eq_of_beq_eq_true h1
   have h3 := Nat.eq_of_beq_eq_true h3
   rw [List.mapM_cons] at hm
   obtain ⟨y, hy, hm⟩ := Option.bind_eq_some_iff.1 hm
   obtain ⟨ys, hys, hm⟩ := Option.bind_eq_some_iff.1 hm
   have hm : some (y :: ys) = some xs := hm
   injection hm with hm
   subst hm
   have hsz : (Ty.pr a b).size = a.size + b.size := rfl
   rw [hsz] at hl
   rw [h1, h3] at hy
   obtain ⟨r1, g1⟩ := hg _ _ _ _ h2 hy
   obtain ⟨r2, g2⟩ := bh4 hg fs (off + a.size) b cs ys h4 hys (by omega)
   refine ⟨⟨(cs.drop off).take a.size, (cs.drop (off + a.size)).take b.size, ?_, r1, r2⟩, g1, g2⟩
   rw [hsz, List.take_add, List.drop_drop]
  | _ => cases hf
theorem ba7 {H : Type} {enc : TypeId × Value → H} {P : Program} {W : World} {sp : Nat → Bool} {held : Bool} : ∀ (k n : Nat) (t : TypeId) (τ : Ty) (cs : List Value) (x : DataW H × List MemPlace), bd7 P k t τ = true → DataW.trod enc P W 0 sp held n t cs = some x →
  Rc (snap W) τ (ofD τ x.1) cs ∧ Good τ (ofD τ x.1)
 | 0, _, _, _, _, _, h, _ => by cases h
 | k + 1, n, t, τ, cs, x, h, hx => by
  unfold bd7 at h
  cases hu : P.underlying t with
  | none => rw [hu] at h; cases h
  | some d =>
  rw [hu] at h
  cases d with
  | bool =>
   cases τ with
   | bool =>
    obtain ⟨b, rfl, rfl⟩ := DataW.trod_bool hu hx
    exact ⟨rfl, trivial⟩
   | _ => cases h
  | int j =>
   cases τ with
   | int j' =>
    have h : decide (j = j') = true := h
    have h := of_decide_eq_true h
    subst h
    obtain ⟨z, rfl, rfl, hw⟩ := DataW.trod_int hu hx
    refine ⟨rfl, ?_⟩
    simp only [Lit.wf, Bool.and_eq_true, decide_eq_true_eq] at hw
    exact hw
   | _ => cases h
  | string =>
   cases τ with
   | str =>
    obtain ⟨s, rfl, rfl, hs⟩ := DataW.trod_string hu hx
    refine ⟨⟨s, rfl, rfl⟩, at4 s, ?_⟩
    show (List.map _ s.data.toList).length ≤ maxLen
    rw [List.length_map, Array.length_toList]
    exact hs
   | _ => cases h
  | slice e =>
   cases τ with
   | sl τ' =>
    have h : (bd7 P k e τ' && Nat.beq (P.cellsOf e) τ'.size && Nat.blt 0 τ'.size) = true := h
    rw [Bool.and_eq_true, Bool.and_eq_true] at h
    obtain ⟨h, hpos⟩ := h
    have hpos : 0 < τ'.size := by unfold Nat.blt at hpos; exact Nat.le_of_ble_eq_true hpos
    have hz := Nat.eq_of_beq_eq_true h.2
    rcases DataW.trod_slice hu hx with ⟨rfl, rfl⟩ | ⟨a, len, cap, elems, rest, m, rfl, rfl, rfl, _, hle, hcap, hlen, hel, _, _⟩
    ·refine ⟨⟨none, 0, rfl, Nat.le_refl _, .inl rfl⟩, ?_⟩
     show (∀ x ∈ ([] : List τ'.den), Good τ' x) ∧ 0 ≤ maxLen
     exact ⟨(fun x hx => by cases hx), Nat.zero_le _⟩
    ·have hL : ((elems.map (·.1)).map (ofD τ')).length = len := by simp [hlen]
     have one : ∀ i (hi : i < len), ∃ cs', W.cells? 0 (a.add (i * τ'.size)) τ'.size = some cs' ∧ Rc (snap W) τ' (ofD τ' (elems[i]'(by omega)).1) cs' ∧ Good τ' (ofD τ' (elems[i]'(by omega)).1) := fun i hi => by
      have hi' := hel i hi
      rw [List.getElem?_eq_getElem (show i < elems.length by omega), hz] at hi'
      obtain ⟨cs', h1, h2⟩ := Option.bind_eq_some_iff.1 hi'
      obtain ⟨h3, h4⟩ := ba7 k _ _ _ _ _ h.1 h2
      exact ⟨cs', h1, h3, h4⟩
     refine ⟨?_, ?_⟩
     ·show Rc (snap W) (.sl τ') ((elems.map (·.1)).map (ofD τ')) _
      by_cases h0 : len = 0
      ·subst h0
       refine ⟨some a, cap, by rw [hL], by rw [hL]; exact hle, .inl ?_⟩
       exact List.eq_nil_of_length_eq_zero hL
      ·obtain ⟨cs0, c1, c2, c3⟩ := one 0 (by omega)
       obtain ⟨hsp, L, hb, _⟩ := aT4 c1 (by omega)
       rw [Nat.zero_mul, add_zero'] at hsp hb
       obtain ⟨b, o, spt⟩ := a
       have hsp : spt = none := hsp
       subst hsp
       refine ⟨some ⟨b, o, none⟩, cap, by rw [hL], by rw [hL]; exact hle, .inr ⟨b, o, L, rfl, hb, fun i hi => ?_⟩⟩
       rw [hL] at hi
       obtain ⟨cs', d1, d2, d3⟩ := one i hi
       obtain ⟨_, L', hb', e'⟩ := aT4 d1 (by omega)
       rw [a99] at hb'
       have hb' : snap W b = some L' := hb'
       rw [hb] at hb'
       injection hb' with hb'
       subst hb'
       rw [br4] at e'
       have e' : (L.drop (o + i * τ'.size)).take τ'.size = cs' := e'
       rw [e']
       simpa using d2
     ·refine ⟨fun y hy => ?_, ?_⟩
      ·have hy : y ∈ (elems.map (·.1)).map (ofD τ') := hy
       obtain ⟨i, hi, rfl⟩ := List.getElem_of_mem hy
       rw [hL] at hi
       obtain ⟨_, _, _, d3⟩ := one i hi
       simpa using d3
      ·show ((elems.map (·.1)).map (ofD τ')).length ≤ maxLen
       omega
   | _ => cases h
  | struct fs =>
   have h : (bt8 P (bd7 P k) fs.toList 0 τ && Nat.beq (P.cellsOf t) τ.size) = true := h
   rw [Bool.and_eq_true] at h
   have hz := Nat.eq_of_beq_eq_true h.2
   cases n with
   | zero => simp [DataW.trod] at hx
   | succ n =>
    unfold DataW.trod at hx
    rw [hu] at hx
    simp only at hx
    split at hx
    ·rename_i hl
     obtain ⟨xs, h1, rfl⟩ := Option.map_eq_some_iff.1 hx
     have := bh4 (fun t τ cs x h1 h2 => ba7 k n t τ cs x h1 h2) fs.toList 0 τ cs xs h.1 h1 (by omega)
     rw [List.drop_zero, List.take_of_length_le (by omega)] at this
     exact this
    ·cases hx
  | _ => cases h
end Go.Abs
end

section
namespace Go.Abs
theorem lt_of_heap {w : World} {b : Nat} {o : Go.Obj} (h : w.heap[b]? = some o) : b < w.heap.size := by
 rcases Nat.lt_or_ge b w.heap.size with h' | h'
 ·exact h'
 ·rw [Array.getElem?_eq_none h'] at h; cases h
theorem OwnAt.other {imm : Rd} {w w' : World} {xs : List Int} {us : List Value} {nb : List Nat} (h : OwnAt imm w false (.int .u8) xs us nb) (k : ∀ b ∈ nb, w'.heap[b]? = w.heap[b]?) : OwnAt imm w' false (.int .u8) xs us nb := by
 rcases h with h | ⟨b, cap, arr, ty, nb', h1, h2, h3, h4, h5, h6, h7⟩
 ·exact .inl h
 ·exact .inr ⟨b, cap, arr, ty, nb', h1, h2, by rw [k b (by rw [h2]; simp)]; exact h3, h4, h5, h6, h7⟩
theorem OwnAt.alloc {imm : Rd} {w : World} {xs : List Int} {us : List Value} {nb : List Nat} (h : OwnAt imm w false (.int .u8) xs us nb) (k : ∀ b ∈ nb, b < w.heap.size) (o : Go.Obj) : OwnAt imm (w.alloc o) false (.int .u8) xs us nb :=
 h.other fun b hb => by
  have := k b hb
  show (w.heap.push _)[b]? = _
  rw [Array.getElem?_push, if_neg (by omega)]
end Go.Abs
end

section
namespace Go.Abs
theorem am9 {P : Program} {f : FuncId} {fn : Func} {c : Code} {args : Array Value} {w : World} {R : Value → World → Prop} (hf : P.funcs[f]? = some fn) (hb : fn.body = some c) (hname : (fn.name == "runtime.NumGoroutine") = false)
  (h : Calls P f args w fun e w' => ∃ v, e = .returned v ∧ R v w') : M7 P f args w R := by
 have hcall : (callFunc f args).run P w = .ok (.enter f args) w := by
  have h1 : fn.name ≠ "runtime.NumGoroutine" := by simpa using hname
  simp [callFunc, hf, h1, hb]
 unfold M7
 rw [hcall]
 exact h
structure Same (w w' : World) : Prop where
 other : ∀ b, b < w.heap.size → w'.heap[b]? = w.heap[b]?
 size : w.heap.size ≤ w'.heap.size
 os : w'.os = w.os
 tape : w'.tape = w.tape
 output : w'.output = w.output
theorem Same.refl (w : World) : Same w w := ⟨fun _ _ => rfl, Nat.le_refl _, rfl, rfl, rfl⟩
theorem Same.after {imm : Rd} {w w' : World} (h : Same w w') (hc : ∀ b L, imm b = some L → ∃ arr ty fr, w.heap[b]? = some (.cells arr ty fr) ∧ arr.toList = L) : After imm w [] imm w' [] :=
 ⟨fun _ _ h => h, fun b L k => by
  obtain ⟨a, t, f, k1, k2⟩ := hc b L k
  exact ⟨a, t, f, by rw [h.other b (lt_of_heap k1)]; exact k1, k2⟩, fun b h1 _ h3 => ⟨h.other b h1, h3⟩, List.nodup_nil, (fun b hb => by simp at hb), h.size, h.os, h.tape, h.output, fun b L k => by
  obtain ⟨a, t, f, k1, k2⟩ := hc b L k
  exact h.other b (lt_of_heap k1)⟩
def Is : (τ : Ty) → τ.den → Value → Prop
 | .int k, x, u => u = .int k x
 | .bool, b, u => u = .bool b
 | .str, l, u => ∃ s, u = .string s ∧ l = bytesOf s
 | _, _, _ => False
def am3 : List Ty → List VSp
 | [] => []
 | τ :: r => .one (.pub τ) :: am3 r
def aN8 : (ts : List Ty) → (A6 (am3 ts)).den → List Value → Prop
 | [], _, us => us = []
 | τ :: r, x, us => ∃ u v, us = u :: v ∧ Is τ x.1 u ∧ aN8 r x.2 v
def simple : Ty → Bool
 | .int _ => true
 | .bool => true
 | .str => true
 | _ => false
theorem bw8 {r : Rd} {τ : Ty} {x : τ.den} {u : Value} (hs : simple τ = true) (h : Rc r τ x [u]) : Is τ x u := by
 cases τ with
 | int k => have h : _ = _ := h; injection h
 | bool => have h : _ = _ := h; injection h
 | str => obtain ⟨s, e, h⟩ := h; injection e with e; exact ⟨s, e, h⟩
 | _ => cases hs
theorem bg2 {r : Rd} {τ : Ty} {x : τ.den} {u : Value} (hs : simple τ = true) (h : Is τ x u) : Rc r τ x [u] ∧ oc u = true ∧ τ.one = true := by
 cases τ with
 | int k => have h : _ = _ := h; subst h; exact ⟨rfl, rfl, rfl⟩
 | bool => have h : _ = _ := h; subst h; exact ⟨rfl, rfl, rfl⟩
 | str => obtain ⟨s, e, h⟩ := h; subst e; exact ⟨⟨s, rfl, h⟩, rfl, rfl⟩
 | _ => cases hs
theorem aN9 {imm : Rd} {w : World} : ∀ {ts : List Ty} {x : (A6 (am3 ts)).den} {us : List Value} {nb : List Nat}, (ts.all simple) = true → I7 imm w (am3 ts) x us nb → aN8 ts x us ∧ nb = []
 | [], _, _, _, _, h => h
 | τ :: r, x, us, nb, hs, ⟨u, v, n1, n2, e, e', ⟨_, h1, _, u', e2, h2⟩, h3⟩ => by
  simp only [List.all_cons, Bool.and_eq_true] at hs
  injection e2 with e2
  subst e2
  obtain ⟨k1, k2⟩ := aN9 hs.2 h3
  exact ⟨⟨u, v, e, bw8 hs.1 h2, k1⟩, by rw [e', h1, k2]; rfl⟩
theorem aO7 {imm : Rd} {w w' : World} : ∀ {ts : List Ty} {x : (aj1 (am3 ts)).den} {y : (A6 (am3 ts)).den} {us : List Value}, aN8 ts y us → P9 imm w w' (am3 ts) x us []
 | [], _, _, _, h => ⟨h, rfl⟩
 | _ :: _, _, _, _, ⟨u, v, e, _, h⟩ => ⟨u, v, [], [], e, rfl, rfl, aO7 h⟩
theorem bs3 {P : Program} {glob : Nat → Option (List Cell)} {f : FuncId} {ts : List Ty} {τ : Ty} (hts : ts.all simple = true) (hτ : simple τ = true) {F : (A6 (am3 ts)).den → Option (Ty.pr τ (aj1 (am3 ts))).den}
  (h : ∀ x y, F x = some y → ∀ w us, aN8 ts x us → M7 P f us.toArray w fun v w' => Same w w' ∧ Is τ y.1 v) : an9 P glob f ⟨⟨am3 ts, .val (.one (.pub τ))⟩, F⟩ := by
 intro x y hF imm w args nb hG hcells hP hnd hnb
 obtain ⟨hA, rfl⟩ := aN9 hts hP
 refine M7.mono (fun v w' hk => ?_) (h x y hF w args hA)
 obtain ⟨hs, hv⟩ := hk
 obtain ⟨k1, k2, k3⟩ := bg2 (r := imm) hτ hv
 exact ⟨imm, [], [], hs.after hcells, ⟨k2, rfl, k3, v, rfl, k1⟩, aO7 hA⟩
theorem aN8.map {imm : Rd} {w : World} : ∀ {ts : List Ty} {x : (A6 (am3 ts)).den} {us : List Value}, (ts.all simple) = true → aN8 ts x us → al2 imm w (am3 ts) x us []
 | [], _, _, _, h => ⟨h, rfl⟩
 | τ :: r, x, us, hs, ⟨u, v, e, h1, h2⟩ => by
  simp only [List.all_cons, Bool.and_eq_true] at hs
  obtain ⟨k1, k2, k3⟩ := bg2 (r := imm) hs.1 h1
  exact ⟨u, v, [], [], e, rfl, ⟨k2, rfl, k3, u, rfl, k1⟩, aN8.map hs.2 h2⟩
end Go.Abs
end

section
namespace Go.Abs
theorem aX3 {P : Program} {W : World} {n : String} {g : Nat} {cs : Array Value} (hg : P.globalNamed n = some g) (h : W.var? P n = some cs) : snap W g = some cs.toList := by
 unfold World.var? at h
 rw [hg, Option.bind_some] at h
 unfold snap
 split at h
 ·rename_i arr a b e
  rw [e]
  injection h with h
  rw [h]
 ·cases h
theorem aX9 {H : Type} {enc : TypeId × Value → H} {P : Program} {W : World} {n : String} {g g' t : Nat} {cs : Array Value} {fuel : Nat} {d : DataW H} {p : List MemPlace} {τ : Ty} {x : τ.den} {sp : Nat → Bool} {held : Bool} {k : Nat}
  (hg : P.globalNamed n = some g) (ht : (P.globals[g]?).map (·.type) = some t) (hv : W.var? P n = some cs) (hd : DataW.trod enc P W 0 sp held fuel t cs.toList = some (d, p))
  (eg : P.globalNamed n = some g') (ef : ((P.globals[g']?).map (·.type)).all (fun t => bd7 P k t τ) = true) (ho : τ.one = true) (hs : ∀ us, Rc (snap W) τ x us → us.length = 1) (ex : ofD τ d = x) :
  ∃ us, snap W g' = some us ∧ ∀ gh : Gh, (∀ b L, snap W b = some L → gh.imm b = some L) → n7 gh [.v τ x] us := by
 obtain rfl := Option.some.inj (hg.symm.trans eg)
 rw [ht] at ef
 have h := (ba7 k fuel t τ cs.toList (d, p) ef hd).1
 rw [ex] at h
 have hl := hs _ h
 refine ⟨cs.toList, aX3 hg hv, fun gh hi => ?_⟩
 match hc : cs.toList, hl with
 | [u], _ =>
  rw [hc] at h
  exact ⟨u, [], rfl, ⟨ho, h.mono hi⟩, rfl⟩
theorem bt5 {r : Rd} {e : Ty} {xs : List e.den} : ∀ us, Rc r (.sl e) xs us → us.length = 1 := by
 rintro us ⟨A, c, rfl, _⟩; rfl
theorem bB0 {H : Type} {enc : TypeId × Value → H} {P : Program} {W : World} {n : String} {g g' t : Nat} {cs : Array Value} {fuel : Nat} {d : DataW H} {p : List MemPlace} {sp : Nat → Bool} {nm : String}
  (hg : P.globalNamed n = some g) (ht : (P.globals[g]?).map (·.type) = some t) (hv : W.var? P n = some cs) (hd : DataW.trod enc P W 0 sp false fuel t cs.toList = some (.iface nm d, p))
  (eg : P.globalNamed n = some g') (ef : ((P.globals[g']?).map (·.type)).all (fun t => match P.underlying t with | some (.interface _) => true | _ => false) = true) :
  ∃ us, snap W g' = some us ∧ ∀ gh : Gh, (∀ b L, snap W b = some L → gh.imm b = some L) → n7 gh [.err false] us := by
 obtain rfl := Option.some.inj (hg.symm.trans eg)
 rw [ht] at ef
 refine ⟨cs.toList, aX3 hg hv, fun gh hi => ?_⟩
 have ef : (match P.underlying t with | some (.interface _) => true | _ => false) = true := ef
 cases hu : P.underlying t with
 | none => rw [hu] at ef; cases ef
 | some k =>
  cases k with
  | interface ms =>
   cases fuel with
   | zero => simp [DataW.trod] at hd
   | succ m =>
    unfold DataW.trod at hd
    rw [hu] at hd
    simp only at hd
    split at hd <;> simp_all
    rename_i u v hc _
    exact ⟨_, _, rfl, .inr ⟨rfl, _, _, rfl⟩, rfl⟩
  | _ => rw [hu] at ef; cases ef
theorem aS7 {gh : Gh} {k : IntKind} : ∀ zs : List Int, n7 gh (zs.map fun z => .v (.int k) z) (zs.map fun z => .int k z)
 | [] => rfl
 | z :: zs => ⟨_, _, rfl, ⟨rfl, rfl⟩, aS7 zs⟩
theorem bp9 {H : Type} {enc : TypeId × Value → H} {P : Program} {W : World} {n : String} {g g' t m e : Nat} {cs : Array Value} {fuel : Nat} {ds : List (DataW H)} {p : List MemPlace} {sp : Nat → Bool} {held : Bool} {k : IntKind}
  (hg : P.globalNamed n = some g) (ht : (P.globals[g]?).map (·.type) = some t) (hv : W.var? P n = some cs) (hd : DataW.trod enc P W 0 sp held fuel t cs.toList = some (.agg ds, p))
  (eg : P.globalNamed n = some g') (zs : List Int) (ez : ds.map (ofD (.int k)) = zs)
  (et : ((P.globals[g']?).bind fun gl => P.underlying gl.type) = some (.array m e)) (ee : P.underlying e = some (.int k)) (e1 : P.cellsOf e = 1) (en : ((P.globals[g']?).map fun gl => P.cellsOf gl.type) = some m) :
  ∃ us, snap W g' = some us ∧ ∀ gh : Gh, (∀ b L, snap W b = some L → gh.imm b = some L) → n7 gh (zs.map fun z => .v (.int k) z) us := by
 obtain rfl := Option.some.inj (hg.symm.trans eg)
 refine ⟨cs.toList, aX3 hg hv, fun gh hi => ?_⟩
 obtain ⟨gl, hgl, rfl⟩ := Option.map_eq_some_iff.1 ht
 rw [hgl] at et en
 have et : P.underlying gl.type = some (.array m e) := et
 have en : some (P.cellsOf gl.type) = some m := en
 injection en with en
 obtain ⟨xs, q, _, ex, hl, hx, hel⟩ := DataW.trod_array et hd
 rw [en] at hl
 simp only [Prod.mk.injEq, DataW.agg.injEq] at ex
 have : cs.toList = zs.map fun z => .int k z := by
  refine List.ext_getElem? fun i => ?_
  by_cases hi : i < m
  ·have h := hel i hi
   rw [e1, Nat.mul_one, List.getElem?_eq_getElem (show i < xs.length by omega)] at h
   obtain ⟨z, h1, h2, _⟩ := DataW.trod_int ee h
   have h3 : cs.toList[i]? = some (.int k z) := by
    have : ((cs.toList.drop i).take 1)[0]? = some (.int k z) := by rw [h1]; rfl
    simpa using this
   rw [h3, ← ez, ex.1, List.map_map, List.map_map, List.getElem?_map, List.getElem?_eq_getElem (show i < xs.length by omega)]
   simp only [Option.map_some, Function.comp, h2]
   rfl
  ·rw [List.getElem?_eq_none (by omega), List.getElem?_eq_none (by rw [← ez, ex.1]; simp; omega)]
 rw [this]
 exact aS7 zs
end Go.Abs
end
