/- What is here: all functions of a program at once, level by level. What is here: all functions of a program keep their contracts, level by level. What is here: how a system's equations are told and used. What is here: small laws on numbers, lists and levels, for the plain part of the proofs. What is here: arguments and package variables, read by the row, as plain data. What is here: append to a row of bytes, told by the world alone; for the library's functions. What is here: contracts of library functions: from the kit's Calls; functions over numbers and texts alone. What is here: package variables, read by the row, as plain data. -/
import Derived.Test.YtmallmelcmejeaaDoorK2
import Derived.KernelRfl
import Derived.Below
import Derived.Laws.BitsLemmas
import Derived.OpenShut
import Derived.OpenVars
import Derived.Laws.Externs
import Derived.LaidMore
import Derived.LaidHandle
set_option linter.unusedVariables false
set_option linter.unusedSimpArgs false
set_option maxRecDepth 100000
section
namespace Go.Abs
def l6 : Code → List (Bool × Code)
 | .seq a b => (false, b) :: (l6 a ++ l6 b)
 | .cond _ a b => l6 a ++ l6 b
 | .block _ c => l6 c
 | .loop c => (true, c) :: l6 c
 | .scope c => l6 c
 | _ => []
def L4 (k : Bool) (r : Nat) : List (Bool × Code) → Code
 | [] => .skip
 | p :: q => bif (p.1 == k) && (match first p.2 with | some n => Nat.beq n r | none => false) then p.2 else L4 k r q
theorem a22 : ∀ (c : Code), ∀ p ∈ pieces c, p ∈ l6 c := by
 intro c
 induction c with
 | seq a b iha ihb =>
  intro p hp
  simp only [pieces, l6, List.mem_cons, List.mem_append] at hp ⊢
  rcases hp with h | h | h
  ·exact .inl h
  ·exact .inr (.inl (iha p h))
  ·exact .inr (.inr (ihb p h))
 | cond c a b iha ihb =>
  intro p hp
  simp only [pieces, l6, List.mem_append] at hp ⊢
  exact hp.imp (iha p) (ihb p)
 | block id c ih => exact ih
 | loop c ih => intro p hp; simp only [pieces, l6, List.mem_cons, List.not_mem_nil, or_false] at hp ⊢; exact .inl hp
 | scope c ih => exact ih
 | _ => intro p hp; cases hp
theorem ax1 : ∀ (c : Code), ∀ p ∈ l6 c, ∀ q ∈ l6 p.2, q ∈ l6 c := by
 intro c
 induction c with
 | seq a b iha ihb =>
  intro p hp q hq
  simp only [l6, List.mem_cons, List.mem_append] at hp ⊢
  rcases hp with rfl | h | h
  ·exact .inr (.inr hq)
  ·exact .inr (.inl (iha p h q hq))
  ·exact .inr (.inr (ihb p h q hq))
 | cond c a b iha ihb =>
  intro p hp q hq
  simp only [l6, List.mem_append] at hp ⊢
  rcases hp with h | h
  ·exact .inl (iha p h q hq)
  ·exact .inr (ihb p h q hq)
 | block id c ih => exact ih
 | loop c ih =>
  intro p hp q hq
  simp only [l6, List.mem_cons] at hp ⊢
  rcases hp with rfl | h
  ·exact .inr hq
  ·exact .inr (ih p h q hq)
 | scope c ih => exact ih
 | _ => intro p hp; cases hp
theorem aE4 {k : Bool} {b : Code} {r : Nat} : ∀ {l : List (Bool × Code)}, (∀ p ∈ l, first p.2 = some r → p.1 = k → p = (k, b)) → (k, b) ∈ l → first b = some r → L4 k r l = b
 | [], _, h, _ => by simp at h
 | p :: q, hu, h, hf => by
  simp only [L4]
  cases hc : ((p.1 == k) && (match first p.2 with | some n => Nat.beq n r | none => false)) with
  | true =>
   simp only [Bool.and_eq_true, beq_iff_eq] at hc
   have h2 : first p.2 = some r := by
    cases hp : first p.2 with
    | none => rw [hp] at hc; cases hc.2
    | some n => rw [hp] at hc; rw [beq_eq hc.2]
   rw [hu p (List.mem_cons_self ..) h2 hc.1]
   rfl
  | false =>
   simp only [cond_false]
   refine aE4 (fun p' hp' => hu p' (List.mem_cons_of_mem _ hp')) ?_ hf
   rcases List.mem_cons.1 h with h | h
   ·exfalso
    subst h
    simp [hf] at hc
   ·exact h
def aT6 (Y3 : Bool → Nat → Bool) (c : Code) : List (Bool × Nat) := (l6 c).filterMap fun p => match first p.2 with
 | some r => bif Y3 p.1 r then some (p.1, r) else none
 | none => none
theorem aC3 {Y3 : Bool → Nat → Bool} : ∀ {l : List (Bool × Code)}, (l.filterMap fun p => match first p.2 with | some r => bif Y3 p.1 r then some (p.1, r) else none | none => none).Nodup → ∀ {p q : Bool × Code} {r : Nat}, p ∈ l → q ∈ l → first p.2 = some r → first q.2 = some r → p.1 = q.1 → Y3 p.1 r = true → p = q
 | [], _, p, q, r, hp, _, _, _, _, _ => by simp at hp
 | x :: l, h, p, q, r, hp, hq, h1, h2, h3, h4 => by
  have mem : ∀ y ∈ l, first y.2 = some r → y.1 = p.1 → (p.1, r) ∈ (l.filterMap fun p => match first p.2 with | some r => bif Y3 p.1 r then some (p.1, r) else none | none => none) := fun y hy hf hk =>
   List.mem_filterMap.2 ⟨y, hy, by rw [hf]; simp [hk, h4]⟩
  rcases List.mem_cons.1 hp with rfl | hp' <;> rcases List.mem_cons.1 hq with rfl | hq'
  ·rfl
  ·exfalso
   rw [List.filterMap_cons] at h
   simp only [h1, h4, cond_true, List.nodup_cons] at h
   exact h.1 (mem q hq' h2 h3.symm)
  ·exfalso
   rw [List.filterMap_cons] at h
   simp only [h2, ← h3, h4, cond_true, List.nodup_cons] at h
   exact h.1 (mem p hp' h1 rfl)
  ·refine aC3 (l := l) ?_ hp' hq' h1 h2 h3 h4
   rw [List.filterMap_cons] at h
   split at h
   ·exact h
   ·exact (List.nodup_cons.1 h).2
structure Sys where
 P : Program
 glob : Nat → Option (List Cell)
 cl : TypeId
 sig : FuncId → Sig
 known : FuncId → Bool
 ae6 : FuncId → List Nat
 Y3 : FuncId → Bool → Nat → Bool
 cut : FuncId → Bool → Nat → Cut
 lib : FuncId → Option Callee
 bors : List (FuncId × FuncId) := []
 nest : FuncId → Bool := fun _ => false
 trim : FuncId → Bool := fun _ => false
namespace Sys
variable (S : Sys)
structure Tab where
 fn : (f : FuncId) → (S.sig f).dom.den → Option (S.sig f).cod.den
 pc : (f : FuncId) → (k : Bool) → (r : Nat) → (r6 (S.cut f k r).as).den → Option (Y8 (S.cut f k r).ws)
def bc5 (c f : FuncId) : Bool := S.bors.any fun p => Nat.beq p.1 c && Nat.beq p.2 f
def bg9 : Bool := S.bors.all fun p => X5 (S.sig p.2).args && a66 (S.sig p.2).res
def callee (T : S.Tab) (c f : FuncId) : Option Callee := bif S.known f then (bif S.bc5 c f then some (au8 ⟨S.sig f, T.fn f⟩) else some ⟨S.sig f, T.fn f⟩) else S.lib f
def env (T : S.Tab) (f : FuncId) (nt : Nat) : Env := { P := S.P, callee := S.callee T f, glob := S.glob, cl := S.cl, nt := nt, ae6 := S.ae6 f, nest := S.nest f, trim := S.trim f, slf := aI0 (S.sig f).args }
def aX2 (T : S.Tab) (f : FuncId) : Cuts :=
  ⟨fun r => bif S.Y3 f true r then some ((S.cut f true r).ap5 (T.pc f true r)) else none,
   fun r => bif S.Y3 f false r then some ((S.cut f false r).ap5 (T.pc f false r)) else none⟩
def aL1 (T : S.Tab) (f : FuncId) (x : (S.sig f).dom.den) : Option (S.sig f).cod.den := match S.P.funcs[f]? with
 | some fn => aT2 (S.env T f fn.ntmps) fn (S.sig f) (S.aX2 T f) x
 | none => none
def av0 (T : S.Tab) (f : FuncId) (k : Bool) (r : Nat) (x : (r6 (S.cut f k r).as).den) : Option (Y8 (S.cut f k r).ws) := match S.P.funcs[f]? with
 | some fn => match fn.body with
  | some c => bif k then (S.cut f k r).round (S.env T f fn.ntmps) (S.aX2 T f) (L4 k r (l6 c)) (T.pc f k r) x
    else (S.cut f k r).tail (S.env T f fn.ntmps) (S.aX2 T f) (L4 k r (l6 c)) x
  | none => none
 | none => none
def step (T : S.Tab) : S.Tab := ⟨S.aL1 T, S.av0 T⟩
def tab : Nat → S.Tab
 | 0 => ⟨fun _ _ => none, fun _ _ _ _ => none⟩
 | n + 1 => S.step (tab n)
def bj8 (f : FuncId) : Bool := match S.P.funcs[f]? with
 | some fn => match fn.body with
  | some c => (fn.name != "runtime.NumGoroutine") && Nat.ble (S.sig f).args.length fn.ntmps && ((S.ae6 f).all fun t => Nat.blt t (S.sig f).args.length) && P6 (S.sig f).args &&
    decide (aT6 (S.Y3 f) c).Nodup
  | none => false
 | none => false
end Sys
end Go.Abs
end

section
namespace Go.Abs
theorem ActRel.callee {E E' : Env} (hn : E'.nt = E.nt) (hk : E'.ae6 = E.ae6) (hs : E'.slf = E.slf) {B : Base} {g : Gh} {env : List (Nat × Slot)} {a : Act} (H : ActRel E B g env a) : ActRel E' B g env a :=
 ⟨H.env, H.size.trans hn.symm, H.defers, by rw [hk]; exact H.kept, fun f ts h h2 => H.slf f ts (by rw [← hs]; exact h) h2⟩
theorem KOk.callee {ρ : Type} {E E' : Env} (hg : E'.glob = E.glob) (hn : E'.nt = E.nt) (hk : E'.ae6 = E.ae6) (hs : E'.slf = E.slf) {B : Base} {K : St → Option ρ} {x : ρ} {Q : Act → World → Prop} (h : KOk E' B K x Q) : KOk E B K x Q :=
 fun s g a w h1 h2 h3 h4 => h s g a w h1 (by rw [hg]; exact h2) h3 (h4.callee hn hk hs)
theorem ae9.callee {E E' : Env} (hg : E'.glob = E.glob) (hn : E'.nt = E.nt) (hk : E'.ae6 = E.ae6) (hs : E'.slf = E.slf) {c : Cut} {W : (Exit → Act → World → Prop) → Act → World → Prop} {L : (r6 c.as).den → Option (Y8 c.ws)} (h : ae9 E c W L) : ae9 E' c W L :=
 fun x y hxy _ B K z Q hgo hK g a w h1 h2 h3 => h x y hxy B K z Q hgo (fun e => (hK e).callee hg hn hk hs) g a w (by rw [← hg]; exact h1) h2 (h3.callee hn.symm hk.symm hs.symm)
namespace Sys
variable {S : Sys}
theorem aE8 {f : FuncId} (h : S.bj8 f = true) : ∃ fn c, S.P.funcs[f]? = some fn ∧ fn.body = some c ∧ (fn.name == "runtime.NumGoroutine") = false ∧ (S.sig f).args.length ≤ fn.ntmps ∧ ((S.ae6 f).all fun t => Nat.blt t (S.sig f).args.length) = true ∧ P6 (S.sig f).args = true ∧
  (aT6 (S.Y3 f) c).Nodup := by
 unfold bj8 at h
 split at h
 ·rename_i fn hf
  split at h
  ·rename_i c hc
   simp only [Bool.and_eq_true, decide_eq_true_eq] at h
   exact ⟨fn, c, hf, hc, by have := h.1.1.1.1; simpa [bne] using this, Nat.le_of_ble_eq_true h.1.1.1.2, h.1.1.2, h.1.2, h.2⟩
  ·cases h
 ·cases h
def W1 (P : Program) (k : Bool) (b : Code) : (Exit → Act → World → Prop) → Act → World → Prop := if k then X0 P b else fun Q => b.wp P Q
structure TabOk (S : Sys) (T : S.Tab) : Prop where
 fn : ∀ f, S.known f = true → ai0 S.P S.glob f ⟨S.sig f, T.fn f⟩
 pc : ∀ f, S.known f = true → ∀ fn c, S.P.funcs[f]? = some fn → fn.body = some c → ∀ k r, S.Y3 f k r = true → (k, L4 k r (l6 c)) ∈ l6 c → ∀ T' : S.Tab,
  ae9 (S.env T' f fn.ntmps) (S.cut f k r) (W1 S.P k (L4 k r (l6 c))) (T.pc f k r)
theorem bf7 {T : S.Tab} (hT : TabOk S T) {f : FuncId} (hk : S.known f = true) {fn : Func} {c : Code} (hf : S.P.funcs[f]? = some fn) (hb : fn.body = some c) (hnd : (aT6 (S.Y3 f) c).Nodup) {d : Code} (hd : ∀ p ∈ l6 d, p ∈ l6 c) :
  CutsOk (S.env T f fn.ntmps) (S.aX2 T f) d := by
 have found : ∀ k b r, (k, b) ∈ pieces d → first b = some r → S.Y3 f k r = true → L4 k r (l6 c) = b ∧ (k, b) ∈ l6 c := by
  intro k b r hp hr hcut
  have hm := hd _ (a22 d _ hp)
  refine ⟨aE4 (fun p hp' h1 h2 => ?_) hm hr, hm⟩
  exact aC3 hnd hp' hm h1 hr h2 (by rw [h2]; exact hcut)
 refine ⟨fun b hp h hh => ?_, fun b hp h hh => ?_⟩
 ·cases hr : first b with
  | none => rw [hr] at hh; cases hh
  | some r =>
   rw [hr] at hh
   have hh : (bif S.Y3 f true r then some ((S.cut f true r).ap5 (T.pc f true r)) else none) = some h := hh
   cases hc : S.Y3 f true r with
   | false => rw [hc] at hh; cases hh
   | true =>
    rw [hc] at hh
    injection hh with hh
    subst hh
    obtain ⟨e, hm⟩ := found true b r hp hr hc
    have := hT.pc f hk fn c hf hb true r hc (by rw [e]; exact hm) T
    rw [e] at this
    exact aM1 (body := b) this
 ·cases hr : first b with
  | none => rw [hr] at hh; cases hh
  | some r =>
   rw [hr] at hh
   have hh : (bif S.Y3 f false r then some ((S.cut f false r).ap5 (T.pc f false r)) else none) = some h := hh
   cases hc : S.Y3 f false r with
   | false => rw [hc] at hh; cases hh
   | true =>
    rw [hc] at hh
    injection hh with hh
    subst hh
    obtain ⟨e, hm⟩ := found false b r hp hr hc
    have := hT.pc f hk fn c hf hb false r hc (by rw [e]; exact hm) T
    rw [e] at this
    exact aM9 (body := b) this
theorem aN5 : ∀ {as : List VSp}, X5 as = true → as5 as = none
 | [], _ => rfl
 | [.one s], h => by
  cases s with
  | slf f m => cases h
  | _ => rfl
 | [.agg s], _ => rfl
 | x :: a :: r, h => by
  have h : (Z5 x.sp && X5 (a :: r)) = true := h
  rw [Bool.and_eq_true] at h
  have ih := aN5 h.2
  have e : as5 (x :: a :: r) = as5 (a :: r) := by
   cases x with
   | one s => cases s <;> rfl
   | agg s => rfl
  rw [e]; exact ih
theorem bi1 (hm : S.P.follows .mixedOrders = true) (hk : ∀ f, S.known f = true → S.bj8 f = true) (hl : ∀ f c, S.known f = false → S.lib f = some c → R5 S.P S.glob f c) (hbs : S.bg9 = true) {T : S.Tab} (hT : TabOk S T) : TabOk S (S.step T) := by
 have hE : ∀ f nt, EnvOk (S.env T f nt) := fun f nt => ⟨fun g c hc => by
  have hc : (bif S.known g then (bif S.bc5 f g then some (au8 ⟨S.sig g, T.fn g⟩) else some ⟨S.sig g, T.fn g⟩) else S.lib g) = some c := hc
  cases hg : S.known g with
  | true =>
   rw [hg] at hc
   cases hib : S.bc5 f g with
   | false => rw [hib] at hc; injection hc with hc; subst hc; exact hT.fn g hg
   | true =>
    rw [hib] at hc; injection hc with hc; subst hc
    unfold bc5 at hib
    obtain ⟨q, hq, hqe⟩ := List.any_eq_true.1 hib
    simp only [Bool.and_eq_true] at hqe
    obtain rfl := beq_eq hqe.2
    have := List.all_eq_true.1 hbs q hq
    simp only [Bool.and_eq_true] at this
    exact (bn8 this.1 this.2 ((hT.fn _ hg).plain (aN5 this.1))).slf
  | false => rw [hg] at hc; exact (hl g c hg hc).slf⟩
 refine ⟨fun f hf => ?_, fun f hf fn c hfn hb k r hcut hmem T' => ?_⟩
 ·obtain ⟨fn, c, h1, h2, h3, h4, h5, h6, h7⟩ := aE8 (hk f hf)
  have hbody := bi2 (hE f fn.ntmps) hm (f := f) (fn := fn) (c := c) (sg := S.sig f) (H := S.aX2 T f) h1 h2 h3 rfl h4 h5 h6 rfl (bf7 hT hf h1 h2 h7 fun p hp => hp)
  have e : (S.step T).fn f = aT2 (S.env T f fn.ntmps) fn (S.sig f) (S.aX2 T f) := by
   funext x
   show S.aL1 T f x = _
   unfold aL1
   rw [h1]
  rw [e]
  exact hbody
 ·obtain ⟨fn', c', h1, h2, h3, h4, h5, h6, h7⟩ := aE8 (hk f hf)
  rw [hfn] at h1
  injection h1 with h1
  subst h1
  rw [hb] at h2
  injection h2 with h2
  subst h2
  have hsub : ∀ p ∈ l6 (L4 k r (l6 c)), p ∈ l6 c := fun p hp => ax1 c _ hmem p hp
  have hC := bf7 hT hf hfn hb h7 hsub
  have e : (S.step T).pc f k r = fun x => bif k then (S.cut f k r).round (S.env T f fn.ntmps) (S.aX2 T f) (L4 k r (l6 c)) (T.pc f k r) x
    else (S.cut f k r).tail (S.env T f fn.ntmps) (S.aX2 T f) (L4 k r (l6 c)) x := by
   funext x
   show S.av0 T f k r x = _
   unfold av0
   rw [hfn]
   show (match fn.body with
    | some c => _
    | none => none) = _
   rw [hb]
  rw [e]
  cases k with
  | true => exact ae9.callee (E := S.env T f fn.ntmps) (E' := S.env T' f fn.ntmps) rfl rfl rfl rfl (bd5 (hE f fn.ntmps) hm hC (hT.pc f hf fn c hfn hb true r hcut hmem T))
  | false => exact ae9.callee (E := S.env T f fn.ntmps) (E' := S.env T' f fn.ntmps) rfl rfl rfl rfl (bj4 (hE f fn.ntmps) hm hC)
theorem ok (hm : S.P.follows .mixedOrders = true) (hk : ∀ f, S.known f = true → S.bj8 f = true) (hl : ∀ f c, S.known f = false → S.lib f = some c → R5 S.P S.glob f c) (hbs : S.bg9 = true := by rfl) : ∀ n, TabOk S (S.tab n)
 | 0 => ⟨(fun f _ x y h => by cases h), (fun f _ fn c _ _ k r _ _ T' x y h => by cases h)⟩
 | n + 1 => bi1 hm hk hl hbs (ok hm hk hl hbs n)
end Sys
end Go.Abs
end

section
namespace Go.Abs
def B9 {A ρ : Type} (f : A → Option ρ) : A ⊕ Empty → Option ρ := Sum.elim f Empty.elim
def aa5 {A B ρ : Type} (f : A → Option ρ) (g : B → Option ρ) : A ⊕ (B ⊕ Empty) → Option ρ := Sum.elim f (Sum.elim g Empty.elim)
namespace Sys
variable {S : Sys}
theorem bj7 {f : FuncId} {fn : Func} (h : S.P.funcs[f]? = some fn) (T : S.Tab) (x : (S.sig f).dom.den) : (S.step T).fn f x = aT2 (S.env T f fn.ntmps) fn (S.sig f) (S.aX2 T f) x := by
 show S.aL1 T f x = _
 unfold aL1
 rw [h]
theorem bd6 {f : FuncId} {fn : Func} {c : Code} (h : S.P.funcs[f]? = some fn) (hb : fn.body = some c) (T : S.Tab) {r : Nat} (x : (r6 (S.cut f true r).as).den) :
  (S.step T).pc f true r x = (S.cut f true r).round (S.env T f fn.ntmps) (S.aX2 T f) (L4 true r (l6 c)) (T.pc f true r) x := by
 show S.av0 T f true r x = _
 unfold av0
 rw [h]
 show (match fn.body with
    | some c => _
    | none => none) = _
 rw [hb]
 rfl
theorem be1 {f : FuncId} {fn : Func} {c : Code} (h : S.P.funcs[f]? = some fn) (hb : fn.body = some c) (T : S.Tab) {r : Nat} (x : (r6 (S.cut f false r).as).den) :
  (S.step T).pc f false r x = (S.cut f false r).tail (S.env T f fn.ntmps) (S.aX2 T f) (L4 false r (l6 c)) x := by
 show S.av0 T f false r x = _
 unfold av0
 rw [h]
 show (match fn.body with
    | some c => _
    | none => none) = _
 rw [hb]
 rfl
theorem bj1 {fns : List Nat} (h : (fns.all S.bj8) = true) {f : FuncId} (hf : (fns.any (Nat.beq f)) = true) : S.bj8 f = true := by
 obtain ⟨g, hg, e⟩ := List.any_eq_true.1 hf
 have := Nat.eq_of_beq_eq_true e
 subst this
 exact List.all_eq_true.1 h _ hg
end Sys
theorem at2 {P : Program} {f : FuncId} {fn : Func} {c : Code} {args : Array Value} {w : World} {R : Value → World → Prop} (hf : P.funcs[f]? = some fn) (hb : fn.body = some c) (hname : (fn.name == "runtime.NumGoroutine") = false)
  (h : F1 P f args w R) : Calls P f args w fun e w' => ∃ v, e = .returned v ∧ R v w' := by
 have hcall : (callFunc f args).run P w = .ok (.enter f args) w := by
  have h1 : fn.name ≠ "runtime.NumGoroutine" := by simpa using hname
  simp [callFunc, hf, h1, hb]
 unfold F1 at h
 rw [hcall] at h
 exact h
theorem After.below {imm imm' : Rd} {w w' : World} {nb' : List Nat} (h : After imm w [] imm' w' nb') : RowKit.Below w.heap.size w w' :=
 ⟨h.os, h.tape, h.output, h.size, fun k hk => by
  cases e : imm k with
  | none => exact (h.same k hk (by simp) e).1
  | some L => exact h.fix k L e⟩
def Evt (p : Nat → Prop) : Prop := ∃ N, ∀ n, N ≤ n → p n
theorem Evt.of {p : Nat → Prop} (h : ∀ n, p n) : Evt p := ⟨0, fun n _ => h n⟩
theorem Evt.and {p q : Nat → Prop} (h : Evt p) (k : Evt q) : Evt fun n => p n ∧ q n := by
 obtain ⟨N, h⟩ := h
 obtain ⟨M, k⟩ := k
 exact ⟨max N M, fun n hn => ⟨h n (by omega), k n (by omega)⟩⟩
theorem Evt.mono {p q : Nat → Prop} (h : Evt p) (k : ∀ n, p n → q n) : Evt q := by
 obtain ⟨N, h⟩ := h
 exact ⟨N, fun n hn => k n (h n hn)⟩
theorem Evt.up {p q : Nat → Prop} (h : Evt p) (k : ∀ n, p n → q (n + 1)) : Evt q := by
 obtain ⟨N, h⟩ := h
 refine ⟨N + 1, fun n hn => ?_⟩
 obtain ⟨m, rfl⟩ : ∃ m, n = m + 1 := ⟨n - 1, by omega⟩
 exact k m (h m (by omega))
end Go.Abs
end

section
namespace Go.Abs
def isByte (c : Int) : Prop := 0 ≤ c ∧ c < 256
theorem be4 : ∀ c : Int, isByte c → intBits .and .u8 c 15 = c % 16 := by
 have h : ∀ n : Fin 256, intBits .and .u8 (n.val : Int) 15 = (n.val : Int) % 16 := by decide +kernel
 intro c hc
 have := h ⟨c.toNat, by have := hc.1; have := hc.2; omega⟩
 simpa [Int.toNat_of_nonneg hc.1] using this
theorem br2 (c : Int) (h : isByte c) : c.fdiv (2 ^ min (Int.toNat 4) IntKind.u8.bits) = c / 16 := by
 have e : (2 : Int) ^ min (Int.toNat 4) IntKind.u8.bits = 16 := by decide
 rw [e, Int.fdiv_eq_ediv_of_nonneg _ (by decide)]
theorem at3 (x : Int) (h0 : 0 ≤ x) (h1 : x < 256) : IntKind.u8.wrap x = x := by
 have : IntKind.u8.wrap x = x % 256 := rfl
 rw [this]; omega
theorem wrap64 (x : Int) (h0 : -9223372036854775808 ≤ x) (h1 : x < 9223372036854775808) : IntKind.i64.wrap x = x := by
 rw [IntKind.wrap_i64]; omega
theorem F5 {n : Nat} (h : n ≤ lim) : fits n = true := Nat.ble_eq_true_of_le h
theorem aB3 (s : ByteArray) : ∀ c ∈ bytesOf s, isByte c := by
 intro c hc
 unfold bytesOf at hc
 obtain ⟨b, _, rfl⟩ := List.mem_map.1 hc
 have := b.toNat_lt
 exact ⟨by omega, by omega⟩
theorem aT0 {c : Int} (h : isByte c) : byte c = c := by
 unfold byte
 obtain ⟨h0, h1⟩ := h
 omega
theorem au2 {l : List Int} (h : ∀ c ∈ l, isByte c) : l.map byte = l := by
 induction l with
 | nil => rfl
 | cons x r ih =>
  rw [List.map_cons, aT0 (h x (List.mem_cons_self ..)), ih fun c hc => h c (List.mem_cons_of_mem _ hc)]
theorem aF7 {α : Type} (pre : List α) (x : α) (r : List α) (d : α) : (pre ++ x :: r).getD pre.length d = x := by
 rw [List.getD_eq_getElem?_getD, List.getElem?_append_right (Nat.le_refl _), Nat.sub_self]
 rfl
def stop (q : Nat → Bool) : Nat → Nat → Nat
 | 0, j => j
 | k + 1, j => bif q j then stop q k (j + 1) else j
theorem av9 {q : Nat → Bool} : ∀ (k j : Nat), j ≤ stop q k j
 | 0, j => Nat.le_refl _
 | k + 1, j => by
  unfold stop
  cases q j
  ·exact Nat.le_refl _
  ·have := av9 (q := q) k (j + 1)
   simp only [cond_true]; omega
theorem aH4 {q : Nat → Bool} {N : Nat} (h : ∀ j, N ≤ j → q j = false) : ∀ (k j : Nat), N ≤ j + k → q (stop q k j) = false
 | 0, j, hk => h j (by omega)
 | k + 1, j, hk => by
  unfold stop
  cases hq : q j
  ·exact hq
  ·exact aH4 h k (j + 1) (by omega)
theorem aF4 {q : Nat → Bool} : ∀ (k j i : Nat), j ≤ i → i < stop q k j → q i = true
 | 0, j, i, h1, h2 => by simp only [stop] at h2; omega
 | k + 1, j, i, h1, h2 => by
  unfold stop at h2
  cases hq : q j
  ·rw [hq] at h2; simp only [cond_false] at h2; omega
  ·rw [hq] at h2
   rcases Nat.lt_or_ge j i with h | h
   ·exact aF4 k (j + 1) i h h2
   ·have : i = j := by omega
    subst this; exact hq
theorem au4 {q : Nat → Bool} {k j : Nat} (hq : q j = false) : stop q k j = j := by
 cases k with
 | zero => rfl
 | succ k => unfold stop; rw [hq]; rfl
theorem adv {S : Sys} {R : Type} {F : S.Tab → Nat → Option R} {q : Nat → Bool} {out : Nat → R} {N : Nat} {p : S.Tab → Prop} (hp : Evt fun n => p (S.tab n)) (hN : ∀ j, N ≤ j → q j = false)
  (h1 : ∀ T j, p T → q j = true → F (S.step T) j = F T (j + 1)) (h2 : ∀ T j, p T → q j = false → F (S.step T) j = some (out j)) :
  ∀ (k j : Nat), N ≤ j + k → Evt fun n => F (S.tab n) j = some (out (stop q k j))
 | 0, j, hk => hp.up fun n h => by
  show F (S.step (S.tab n)) j = _
  rw [h2 _ _ h (hN j (by omega))]; rfl
 | k + 1, j, hk => by
  cases hq : q j with
  | false =>
   refine hp.up fun n h => ?_
   show F (S.step (S.tab n)) j = _
   rw [h2 _ _ h hq, au4 hq]
  | true =>
   refine ((adv hp hN h1 h2 k (j + 1) (by omega)).and hp).up fun n h => ?_
   show F (S.step (S.tab n)) j = _
   rw [h1 _ _ h.2 hq, h.1]
   show some (out (stop q k (j + 1))) = some (out (bif q j then _ else _))
   rw [hq]; rfl
theorem j7 {ρ : Type} {b : Bool} {x y : Option ρ} (h : b = true) : brk b x y = x := by rw [D0, h]; rfl
theorem l9 {ρ : Type} {b : Bool} {x y : Option ρ} (h : b = false) : brk b x y = y := by rw [D0, h]; rfl
end Go.Abs
end

section
namespace Go.Abs
def snap (W : World) : Rd := fun b => match W.heap[b]? with | some (.cells arr _ _) => some arr.toList | _ => none
theorem a94 {W : World} {b : Nat} {L : List Value} (h : snap W b = some L) : ∃ arr ty fr, W.heap[b]? = some (.cells arr ty fr) ∧ arr.toList = L := by
 unfold snap at h
 split at h
 ·rename_i arr ty fr e; injection h with h; exact ⟨arr, ty, fr, e, h⟩
 ·cases h
def ofD {H : Type} : (τ : Ty) → DataW H → τ.den
 | .int _, d => match d with | .lit (.int _ z) => z | _ => (0 : Int)
 | .bool, d => match d with | .lit (.bool b) => b | _ => false
 | .str, d => match d with | .lit (.string bs) => bs.map fun b => (b.toNat : Int) | _ => ([] : List Int)
 | .sl e, d => match d with | .slice ds _ => ds.map (ofD e) | _ => []
 | .un, _ => ()
 | .pr a b, d => match d with | .agg (x :: r) => (ofD a x, ofD b (.agg r)) | _ => (ofD a (DataW.nil (H := H)), ofD b (DataW.nil (H := H)))
 | .cl, _ => ([] : List Int)
def Good : (τ : Ty) → τ.den → Prop
 | .int k, x => k.min ≤ x ∧ x ≤ k.max
 | .str, l => (∀ c ∈ l, isByte c) ∧ l.length ≤ maxLen
 | .sl e, xs => (∀ x ∈ xs, Good e x) ∧ xs.length ≤ maxLen
 | .pr a b, x => Good a x.1 ∧ Good b x.2
 | _, _ => True
def bb3 (P : Program) (g : TypeId → Ty → Bool) : List Field → Nat → Ty → Bool
 | [], _, .un => true
 | f :: r, off, .pr a b => Nat.beq f.offset off && g f.type a && Nat.beq (P.cellsOf f.type) a.size && bb3 P g r (off + a.size) b
 | _, _, _ => false
def aS1 (P : Program) : Nat → TypeId → Ty → Bool
 | 0, _, _ => false
 | n + 1, t, τ => match P.underlying t with
  | some .bool => (match τ with | .bool => true | _ => false)
  | some (.int k) => (match τ with | .int k' => decide (k = k') | _ => false)
  | some .string => (match τ with | .str => true | _ => false)
  | some (.slice e) => (match τ with | .sl τ' => aS1 P n e τ' && Nat.beq (P.cellsOf e) τ'.size && Nat.blt 0 τ'.size | _ => false)
  | some (.struct fs) => bb3 P (aS1 P n) fs.toList 0 τ && Nat.beq (P.cellsOf t) τ.size
  | _ => false
theorem ao2 {α β : Type} {f : α → Option β} : ∀ {l : List α} {r : List β}, l.mapM f = some r → r.length = l.length ∧ ∀ i (h : i < l.length), f l[i] = r[i]?
 | [], r, h => by
  simp at h
  subst h
  exact ⟨rfl, fun i h => absurd h (by simp)⟩
 | x :: l, r, h => by
  rw [List.mapM_cons] at h
  obtain ⟨y, h1, h2⟩ := Option.bind_eq_some_iff.1 h
  obtain ⟨ys, h3, h4⟩ := Option.bind_eq_some_iff.1 h2
  have h4 : some (y :: ys) = some r := h4
  injection h4 with h4
  subst h4
  obtain ⟨hl, hx⟩ := ao2 h3
  refine ⟨by simp [hl], fun i hi => ?_⟩
  cases i with
  | zero => exact h1
  | succ i => exact hx i (by simpa using hi)
theorem aO0 (a : Addr) (n : Nat) : (a.add n).block = a.block := by unfold Addr.add; split <;> rfl
theorem bb9 (a : Addr) (n : Nat) : (a.add n).off = a.off + n := by
 unfold Addr.add
 split
 ·rename_i h; rw [h]; rfl
 ·rfl
theorem be7 {a : Addr} (h : a.spot = none) (n : Nat) : (a.add n).spot = none := by unfold Addr.add; split <;> simp [h]
theorem add_zero' (a : Addr) : a.add 0 = a := by unfold Addr.add; rw [if_pos rfl]
theorem aE1 {W : World} {base : Nat} {a : Addr} {n : Nat} {cs : List Value} (h : W.cells? base a n = some cs) (hn : 0 < n) : a.spot = none ∧ ∃ L, snap W a.block = some L ∧ (L.drop a.off).take n = cs := by
 unfold World.cells? at h
 split at h
 ·obtain ⟨hl, hx⟩ := ao2 h
  rw [List.length_range] at hl
  have h0 := hx 0 (by simpa using hn)
  have hc : ∀ i, i < n → W.cell? (a.add i) = cs[i]? := fun i hi => by
   have := hx i (by simpa using hi)
   simpa using this
  have e0 := hc 0 hn
  rw [List.getElem?_eq_getElem (show 0 < cs.length by omega)] at e0
  rw [add_zero'] at e0
  unfold World.cell? at e0
  cases hh : W.heap[a.block]? with
  | none => rw [hh] at e0; cases e0
  | some o =>
   cases o with
   | cells arr ty fr =>
    rw [hh] at e0
    have hsp : a.spot = none := by
     cases hs : a.spot with
     | none => rfl
     | some v => simp [hs] at e0
    refine ⟨hsp, arr.toList, ?_, ?_⟩
    ·unfold snap
     rw [hh]
    ·refine List.ext_getElem? fun i => ?_
     rw [List.getElem?_take]
     by_cases hi : i < n
     ·rw [if_pos hi, List.getElem?_drop, ← hc i hi]
      unfold World.cell?
      rw [aO0, hh]
      simp [be7 hsp, bb9]
     ·rw [if_neg hi, List.getElem?_eq_none (by omega)]
   | _ => rw [hh] at e0; cases e0
 ·cases h
theorem aZ8 {H : Type} {enc : TypeId × Value → H} {P : Program} {W : World} {sp : Nat → Bool} {held : Bool} {n : Nat} {g : TypeId → Ty → Bool}
  (hg : ∀ t τ cs (x : DataW H × List MemPlace), g t τ = true → DataW.trod enc P W 0 sp held n t cs = some x → Rc (snap W) τ (ofD τ x.1) cs ∧ Good τ (ofD τ x.1)) :
  ∀ (fs : List Field) (off : Nat) (τ : Ty) (cs : List Value) (xs : List (DataW H × List MemPlace)), bb3 P g fs off τ = true → (fs.mapM fun f => DataW.trod enc P W 0 sp held n f.type ((cs.drop f.offset).take (P.cellsOf f.type))) = some xs → off + τ.size ≤ cs.length →
   Rc (snap W) τ (ofD τ (.agg (xs.map (·.1)))) ((cs.drop off).take τ.size) ∧ Good τ (ofD τ (.agg (xs.map (·.1))))
 | [], off, τ, cs, xs, hf, hm, hl => by
  cases τ with
  | un => exact ⟨by show List.take 0 _ = []; rfl, trivial⟩
  | _ => cases hf
 | f :: fs, off, τ, cs, xs, hf, hm, hl => by
  cases τ with
  | pr a b =>
   unfold bb3 at hf
   simp only [Bool.and_eq_true] at hf
   obtain ⟨⟨⟨h1, h2⟩, h3⟩, h4⟩ := hf
   have h1 := Nat.eq_of_beq_eq_true h1
   have h3 := Nat.eq_of_beq_eq_true h3
   rw [List.mapM_cons] at hm
   obtain ⟨y, hy, hm⟩ := Option.bind_eq_some_iff.1 hm
   obtain ⟨ys, hys, hm⟩ := Option.bind_eq_some_iff.1 hm
   have hm : some (y :: ys) = some xs := hm
   injection hm with hm
   subst hm
   have hsz : (Ty.pr a b).size = a.size + b.size := rfl
   rw [hsz] at hl
   rw [h1, h3] at hy
   obtain ⟨r1, g1⟩ := hg _ _ _ _ h2 hy
   obtain ⟨r2, g2⟩ := aZ8 hg fs (off + a.size) b cs ys h4 hys (by omega)
   refine ⟨⟨(cs.drop off).take a.size, (cs.drop (off + a.size)).take b.size, ?_, r1, r2⟩, g1, g2⟩
   rw [hsz, List.take_add, List.drop_drop]
  | _ => cases hf
theorem aG7 {H : Type} {enc : TypeId × Value → H} {P : Program} {W : World} {sp : Nat → Bool} {held : Bool} : ∀ (k n : Nat) (t : TypeId) (τ : Ty) (cs : List Value) (x : DataW H × List MemPlace), aS1 P k t τ = true → DataW.trod enc P W 0 sp held n t cs = some x →
  Rc (snap W) τ (ofD τ x.1) cs ∧ Good τ (ofD τ x.1)
 | 0, _, _, _, _, _, h, _ => by cases h
 | k + 1, n, t, τ, cs, x, h, hx => by
  unfold aS1 at h
  cases hu : P.underlying t with
  | none => rw [hu] at h; cases h
  | some d =>
  rw [hu] at h
  cases d with
  | bool =>
   cases τ with
   | bool =>
    obtain ⟨b, rfl, rfl⟩ := DataW.trod_bool hu hx
    exact ⟨rfl, trivial⟩
   | _ => cases h
  | int j =>
   cases τ with
   | int j' =>
    have h : decide (j = j') = true := h
    have h := of_decide_eq_true h
    subst h
    obtain ⟨z, rfl, rfl, hw⟩ := DataW.trod_int hu hx
    refine ⟨rfl, ?_⟩
    simp only [Lit.wf, Bool.and_eq_true, decide_eq_true_eq] at hw
    exact hw
   | _ => cases h
  | string =>
   cases τ with
   | str =>
    obtain ⟨s, rfl, rfl, hs⟩ := DataW.trod_string hu hx
    refine ⟨⟨s, rfl, rfl⟩, aB3 s, ?_⟩
    show (List.map _ s.data.toList).length ≤ maxLen
    rw [List.length_map, Array.length_toList]
    exact hs
   | _ => cases h
  | slice e =>
   cases τ with
   | sl τ' =>
    have h : (aS1 P k e τ' && Nat.beq (P.cellsOf e) τ'.size && Nat.blt 0 τ'.size) = true := h
    rw [Bool.and_eq_true, Bool.and_eq_true] at h
    obtain ⟨h, hpos⟩ := h
    have hpos : 0 < τ'.size := by unfold Nat.blt at hpos; exact Nat.le_of_ble_eq_true hpos
    have hz := Nat.eq_of_beq_eq_true h.2
    rcases DataW.trod_slice hu hx with ⟨rfl, rfl⟩ | ⟨a, len, cap, elems, rest, m, rfl, rfl, rfl, _, hle, hcap, hlen, hel, _, _⟩
    ·refine ⟨⟨none, 0, rfl, Nat.le_refl _, .inl rfl⟩, ?_⟩
     show (∀ x ∈ ([] : List τ'.den), Good τ' x) ∧ 0 ≤ maxLen
     exact ⟨(fun x hx => by cases hx), Nat.zero_le _⟩
    ·have hL : ((elems.map (·.1)).map (ofD τ')).length = len := by simp [hlen]
     have one : ∀ i (hi : i < len), ∃ cs', W.cells? 0 (a.add (i * τ'.size)) τ'.size = some cs' ∧ Rc (snap W) τ' (ofD τ' (elems[i]'(by omega)).1) cs' ∧ Good τ' (ofD τ' (elems[i]'(by omega)).1) := fun i hi => by
      have hi' := hel i hi
      rw [List.getElem?_eq_getElem (show i < elems.length by omega), hz] at hi'
      obtain ⟨cs', h1, h2⟩ := Option.bind_eq_some_iff.1 hi'
      obtain ⟨h3, h4⟩ := aG7 k _ _ _ _ _ h.1 h2
      exact ⟨cs', h1, h3, h4⟩
     refine ⟨?_, ?_⟩
     ·show Rc (snap W) (.sl τ') ((elems.map (·.1)).map (ofD τ')) _
      by_cases h0 : len = 0
      ·subst h0
       refine ⟨some a, cap, by rw [hL], by rw [hL]; exact hle, .inl ?_⟩
       exact List.eq_nil_of_length_eq_zero hL
      ·obtain ⟨cs0, c1, c2, c3⟩ := one 0 (by omega)
       obtain ⟨hsp, L, hb, _⟩ := aE1 c1 (by omega)
       rw [Nat.zero_mul, add_zero'] at hsp hb
       obtain ⟨b, o, spt⟩ := a
       have hsp : spt = none := hsp
       subst hsp
       refine ⟨some ⟨b, o, none⟩, cap, by rw [hL], by rw [hL]; exact hle, .inr ⟨b, o, L, rfl, hb, fun i hi => ?_⟩⟩
       rw [hL] at hi
       obtain ⟨cs', d1, d2, d3⟩ := one i hi
       obtain ⟨_, L', hb', e'⟩ := aE1 d1 (by omega)
       rw [aO0] at hb'
       have hb' : snap W b = some L' := hb'
       rw [hb] at hb'
       injection hb' with hb'
       subst hb'
       rw [bb9] at e'
       have e' : (L.drop (o + i * τ'.size)).take τ'.size = cs' := e'
       rw [e']
       simpa using d2
     ·refine ⟨fun y hy => ?_, ?_⟩
      ·have hy : y ∈ (elems.map (·.1)).map (ofD τ') := hy
       obtain ⟨i, hi, rfl⟩ := List.getElem_of_mem hy
       rw [hL] at hi
       obtain ⟨_, _, _, d3⟩ := one i hi
       simpa using d3
      ·show ((elems.map (·.1)).map (ofD τ')).length ≤ maxLen
       omega
   | _ => cases h
  | struct fs =>
   have h : (bb3 P (aS1 P k) fs.toList 0 τ && Nat.beq (P.cellsOf t) τ.size) = true := h
   rw [Bool.and_eq_true] at h
   have hz := Nat.eq_of_beq_eq_true h.2
   cases n with
   | zero => simp [DataW.trod] at hx
   | succ n =>
    unfold DataW.trod at hx
    rw [hu] at hx
    simp only at hx
    split at hx
    ·rename_i hl
     obtain ⟨xs, h1, rfl⟩ := Option.map_eq_some_iff.1 hx
     have := aZ8 (fun t τ cs x h1 h2 => aG7 k n t τ cs x h1 h2) fs.toList 0 τ cs xs h.1 h1 (by omega)
     rw [List.drop_zero, List.take_of_length_le (by omega)] at this
     exact this
    ·cases hx
  | _ => cases h
end Go.Abs
end

section
namespace Go.Abs
theorem a62 (w : World) (o : Go.Obj) : (w.drew.alloc o).heap[w.heap.size]? = some o := by
 show (w.heap.push _)[w.heap.size]? = _
 rw [Array.getElem?_push, if_pos rfl]
theorem a90 {P : Program} {imm : Rd} {w : World} {t tx ty e : TypeId} {i : TypeInfo} {z : Value} (ht : P.underlying t = some (.slice e)) (hi : P.info? e = some i) (hz : i.zero = some z)
  (hsz : i.size = 1) (hby : i.bytes ≤ 128) {xs ys : List Int} {u x : Value} {nb : List Nat} (hT : OwnAt imm w false (.int .u8) xs [u] nb) (hty : ∀ b ∈ nb, ∃ arr, w.heap[b]? = some (.cells arr e (0, 0))) (hS : Src P 1 tx x ys.length (ys.map (Value.int .u8)) w)
  (hfit : xs.length + ys.length ≤ 1099511627776) {v : Value} {w' : World} (hr : (Builtin.append_ #[t, tx] ty #[u, x]).run P w = .ok v w') {b n cap : Nat} (hv : v = .slice (some ⟨b, 0, none⟩) n cap) :
  ∃ arr, w'.heap[b]? = some (.cells arr e (0, 0)) := by
 have hS' := hS
 rw [← hsz] at hS'
 have grow : ∀ {base : Option Addr} {sCap : Nat} {olds : List Value}, u = .slice base xs.length sCap → (Builtin.firstCells i.size xs.length (.slice base xs.length sCap)).run P w.drew = .ok olds.toArray w.drew → sCap < xs.length + ys.length →
   ∃ arr, w'.heap[b]? = some (.cells arr e (0, 0)) := by
  intro base sCap olds hu hold hg
  have hb : (xs.length + ys.length) * i.bytes ≤ 140737488355328 := by
   have : (xs.length + ys.length) * i.bytes ≤ 1099511627776 * 128 := Nat.mul_le_mul hfit hby
   omega
  have hr2 := run_append_grow_src (P := P) w t tx ty e i z ht hi hz base xs.length sCap olds hold x ys.length _ hS' hg (by omega) (growslice_fits hg hb)
  rw [hu, hr2] at hr
  injection hr with h1 h2
  rw [hv] at h1
  injection h1 with h1 _
  injection h1 with h1; injection h1 with h1
  subst h2
  rw [← h1]
  exact ⟨_, a62 w _⟩
 rcases hT with ⟨h1, rfl, _⟩ | ⟨b', cap', arr, ty', nb', h1, h2, h3, h4, h5, h6⟩
 ·injection h1 with h1 _
  subst h1
  by_cases h0 : ys = []
  ·subst h0
   have hr2 := run_append_nothing w t tx ty e i ht hi none 0 0 (Nat.le_refl _) x hS'
   rw [hr2] at hr
   injection hr with h1 h2
   rw [hv] at h1
   cases h1
  ·have hpos : 0 < ys.length := List.length_pos_iff.2 h0
   exact grow rfl (olds := []) (by simp [run_firstCells_none]) (by simpa using hpos)
 ·injection h1 with h1 _
  subst h1
  obtain ⟨arr2, k1⟩ := hty b' (by rw [h2]; simp)
  rw [h3] at k1
  injection k1 with k1; injection k1 with _ k2
  subst k2
  have h5' : arr.size = cap' := by simpa [Ty.size] using h5
  by_cases hroom : xs.length + ys.length ≤ cap'
  ·obtain ⟨a1, a2, a3⟩ := ay3 (P := P) (us := ys.map (Value.int .u8)) (o := xs.length) h3 (by simp; omega) hS.one
   have hr2 := run_append_room_src (P := P) w t tx ty ty' i ht hi b' 0 xs.length cap' x ys.length _ hS' hroom (by simpa [hsz] using a1) (by simpa [hsz] using a2)
   rw [hsz, Nat.zero_add, Nat.mul_one, a3] at hr2
   rw [hr2] at hr
   injection hr with h1 h2
   rw [hv] at h1
   injection h1 with h1 _
   injection h1 with h1; injection h1 with h1
   subst h2
   rw [← h1]
   exact ⟨_, setRow_heap w b' arr _ ty' (0, 0) h3⟩
  ·have hE : Els imm (.int .u8) xs arr.toList 0 := h6.1
   obtain ⟨hc1, hc2⟩ := aS2 hE
   refine grow (olds := arr.toList.take (xs.length * 1)) rfl ?_ (by omega)
   rw [hsz]
   refine run_firstCells_some (P := P) w.drew 1 xs.length _ xs.length cap' _ (by simpa [Ty.size] using hc2) (fun j v hj => ?_)
   rw [Addr.add_lit, World.cell?_drew]
   exact D7 h3 (o := 0) _ j v (by simpa using hj)
open Classical in
theorem aM5 {P : Program} {imm : Rd} {w : World} {t tx ty e : TypeId} {i : TypeInfo} {z : Value} (ht : P.underlying t = some (.slice e)) (hi : P.info? e = some i) (hz : i.zero = some z)
  (hsz : i.size = 1) (hby : i.bytes ≤ 128) (hzl : z.cells.size = 1) {xs ys : List Int} {u x : Value} {nb : List Nat} (hT : OwnAt imm w false (.int .u8) xs [u] nb) (hS : Src P 1 tx x ys.length (ys.map (Value.int .u8)) w)
  (hfit : xs.length + ys.length ≤ 1099511627776) (hc : ∀ b L, imm b = some L → ∃ arr ty fr, w.heap[b]? = some (.cells arr ty fr) ∧ arr.toList = L) (hn : ∀ b ∈ nb, imm b = none ∧ b < w.heap.size) (hty : ∀ b ∈ nb, ∃ arr, w.heap[b]? = some (.cells arr e (0, 0))) :
  ∃ v w' nb', (Builtin.append_ #[t, tx] ty #[u, x]).run P w = .ok v w' ∧ After imm w nb imm w' nb' ∧ OwnAt imm w' false (.int .u8) (xs ++ ys) [v] nb' ∧ ∀ b ∈ nb', ∃ arr, w'.heap[b]? = some (.cells arr e (0, 0)) := by
 let g : Gh := { imm := imm, top := fun _ => 0, cv := fun _ _ => .nilIface, lab := fun y => if y ∈ nb then some 1 else none, nst := fun _ => none, outer := fun _ => [] }
 let B : Base := { imm := imm, lab := g.lab, w := w, arg := fun _ => .nilIface }
 have R : HRel B g [] w := by
  refine ⟨fun id => rfl, fun id o h => (by cases h), fun b L h => ?_, fun b L h => (by cases h), fun b h => ?_, fun b L h => h, fun b _ h1 h2 => ⟨h1, h2, rfl⟩, Nat.le_refl _, rfl, rfl, rfl, fun _ _ _ => rfl⟩
  ·obtain ⟨arr, ty, fr, h1, h2⟩ := hc b L h
   refine ⟨?_, rfl, arr, ty, fr, h1, h2⟩
   show (if b ∈ nb then some 1 else none) = none
   rw [if_neg]
   intro hm
   have h' : imm b = some L := h
   rw [(hn b hm).1] at h'
   cases h'
  ·by_cases hm : b ∈ nb
   ·exact (hn b hm).2
   ·exact absurd (if_neg hm) h
 have ez : (Value.cells z).size = (Ty.int .u8).size := hzl
 have hT' : Tgt g [] w (false && !(Ty.int IntKind.u8).flat) (.int .u8) xs u [] := by
  rcases hT with ⟨h1, h2, h3⟩ | ⟨b, cap, arr, ty', nb', h1, h2, h3, h4, h5, h6⟩
  ·injection h1 with h1 _
   exact .inl ⟨h1, h2, rfl⟩
  ·injection h1 with h1 _
   obtain ⟨h6, h7⟩ := h6
   subst h7
   have hb : b ∈ nb := by rw [h2]; simp
   refine .inr ⟨b, cap, arr, ty', h1, ⟨fun _ _ _ h => (by cases h), ?_, (hn b hb).1, rfl, fun h => ?_⟩, by simp, (hn b hb).2, h3, h4, h5, h6, rfl⟩
   ·show (if b ∈ nb then some 1 else none) ≠ some 0
    rw [if_pos hb]; simp
   ·have h : (if b ∈ nb then some 1 else none) = none := h
    rw [if_pos hb] at h; cases h
 have hQ : K4 g (false && !(Ty.int IntKind.u8).flat) (.int .u8) ys (ys.map (Value.int .u8)) [] := by
  refine ⟨fun j hj => ?_, rfl⟩
  show List.take 1 (List.drop (0 + j * 1) (ys.map (Value.int .u8))) = [Value.int .u8 ys[j]]
  rw [Nat.zero_add, Nat.mul_one]
  have : j < (ys.map (Value.int .u8)).length := by simpa using hj
  rw [List.drop_eq_getElem_cons this]
  simp
 obtain ⟨v, w', g', hr, l, R', hcell⟩ := aC9 (τ := .int .u8) (ty := ty) ht hi hz hsz hby ez R hT' hS hQ (fun _ h => by simp at h) hfit (fun _ _ h => by simp at h) 7
 have hcv : v = g'.cv 7 0 := hcell.2.1
 have ae6 : ∀ b, b < w.heap.size → b ∉ nb → imm b = none → w'.heap[b]? = w.heap[b]? ∧ g'.lab b = none := fun b h1 h2 h3 => by
  obtain ⟨a1, _, a3⟩ := R'.frame b h1 (if_neg h2) h3
  exact ⟨a3, a1⟩
 have immc : ∀ b L, imm b = some L → g'.lab b = none ∧ ∃ arr ty fr, w'.heap[b]? = some (.cells arr ty fr) ∧ arr.toList = L := fun b L h => by
  obtain ⟨a1, _, a3⟩ := R'.imm b L (R'.imm0 b L h)
  exact ⟨a1, a3⟩
 have hO := R'.objs 7 _ (j1 _ _ _)
 rcases hO with ⟨h1, h2⟩ | ⟨b, cap, arr, ty', h1, h2, h3, h4, h5, h6, h7⟩
 ·refine ⟨v, w', [], hr, ⟨fun _ _ h => h, fun b L h => (immc b L h).2, fun b h1 h2 h3 => ⟨(ae6 b h1 h2 h3).1, h3⟩, List.nodup_nil, fun b h => by simp at h, R'.size, R'.os, R'.tape, R'.output, fun b L h => R'.fix b L h⟩, .inl ⟨by rw [hcv]; exact congrArg (fun v => [v]) h1, h2, rfl⟩, fun b hb => by simp at hb⟩
 ·have hbi : imm b = none := by
   cases e : imm b with
   | none => rfl
   | some L =>
    have := (immc b L e).1
    rw [h2] at this
    cases this
  refine ⟨v, w', [b], hr, ⟨fun _ _ h => h, fun b L h => (immc b L h).2, fun b h1 h2 h3 => ⟨(ae6 b h1 h2 h3).1, h3⟩, by simp, fun y hy => ?_, R'.size, R'.os, R'.tape, R'.output, fun b L h => R'.fix b L h⟩, .inr ⟨b, cap, arr, ty', [], by rw [hcv]; exact congrArg (fun v => [v]) h1, rfl, h4, h5, h6, ?_, rfl⟩, fun y hy => ?_⟩
  ·have hy : y = b := by simpa using hy
   subst hy
   refine ⟨hbi, ?_, R'.labsz _ (by rw [h2]; simp)⟩
   by_cases hm : y ∈ nb
   ·exact .inl hm
   ·refine .inr (Nat.le_of_not_lt fun hlt => ?_)
    have := (ae6 y hlt hm hbi).2
    rw [h2] at this
    cases this
  ·exact Els.flat rfl h7
  ·have hy : y = b := by simpa using hy
   subst hy
   exact a90 ht hi hz hsz hby hT hty hS hfit hr (hcv.trans h1)
theorem N3 {w : World} {b k : Nat} {arr : Array Value} {ty : TypeId} (h : w.heap[b]? = some (.cells arr ty (0, 0))) (v : Value) :
  (w.setCell ⟨b, k, none⟩ v).heap[b]? = some (.cells (arr.setIfInBounds k v) ty (0, 0)) ∧ (∀ x, x ≠ b → (w.setCell ⟨b, k, none⟩ v).heap[x]? = w.heap[x]?) ∧ (w.setCell ⟨b, k, none⟩ v).heap.size = w.heap.size :=
 ⟨heap_setCell_same w b k arr ty v h, fun x hx => heap_setCell_other w _ x v hx, by simp [World.setCell]⟩
theorem lt_of_heap {w : World} {b : Nat} {o : Go.Obj} (h : w.heap[b]? = some o) : b < w.heap.size := by
 rcases Nat.lt_or_ge b w.heap.size with h' | h'
 ·exact h'
 ·rw [Array.getElem?_eq_none h'] at h; cases h
theorem OwnAt.other {imm : Rd} {w w' : World} {xs : List Int} {us : List Value} {nb : List Nat} (h : OwnAt imm w false (.int .u8) xs us nb) (k : ∀ b ∈ nb, w'.heap[b]? = w.heap[b]?) : OwnAt imm w' false (.int .u8) xs us nb := by
 rcases h with h | ⟨b, cap, arr, ty, nb', h1, h2, h3, h4, h5, h6, h7⟩
 ·exact .inl h
 ·exact .inr ⟨b, cap, arr, ty, nb', h1, h2, by rw [k b (by rw [h2]; simp)]; exact h3, h4, h5, h6, h7⟩
theorem aN7 {imm : Rd} {w w1 w2 : World} {b o : Nat} {arr : Array Value} {ty : TypeId} {xs : List Int} {v : Value} {self : Value} {nb0 nb1 : List Nat}
  (ha : w.heap[b]? = some (.cells arr ty (0, 0))) (hle : o + 2 ≤ arr.size) (hn : (b :: nb0).Nodup) (hi : ∀ y ∈ b :: nb0, imm y = none ∧ y < w.heap.size)
  (hc : ∀ b L, imm b = some L → ∃ arr ty fr, w.heap[b]? = some (.cells arr ty fr) ∧ arr.toList = L)
  (e1 : w1 = w.setCell ⟨b, o, none⟩ self) (A : After imm w1 nb0 imm w2 nb1) (hO : OwnAt imm w2 false (.int .u8) xs [v] nb1) :
  After imm w (b :: nb0) imm (w2.setCell ⟨b, o + 1, none⟩ v) (b :: nb1) ∧ b ∉ nb1 ∧ ∃ arr', (w2.setCell ⟨b, o + 1, none⟩ v).heap[b]? = some (.cells arr' ty (0, 0)) ∧
   arr'.toList = arr.toList.take o ++ [self, v] ++ arr.toList.drop (o + 2) ∧ OwnAt imm (w2.setCell ⟨b, o + 1, none⟩ v) false (.int .u8) xs [v] nb1 ∧ w2.heap[b]? = some (.cells (arr.setIfInBounds o self) ty (0, 0)) := by
 obtain ⟨s1, s2, s3⟩ := N3 (k := o) ha self
 rw [← e1] at s1 s2 s3
 have hb1 : b < w1.heap.size := lt_of_heap s1
 have hnb := List.nodup_cons.1 hn
 have hib := (hi b (List.mem_cons_self ..)).1
 have h2 : w2.heap[b]? = some (.cells (arr.setIfInBounds o self) ty (0, 0)) := by rw [(A.same b hb1 hnb.1 hib).1]; exact s1
 have hbn : b ∉ nb1 := fun hm => by
  rcases (A.frm b hm).2.1 with h | h
  ·exact hnb.1 h
  ·omega
 obtain ⟨t1, t2, t3⟩ := N3 (k := o + 1) h2 v
 refine ⟨⟨fun _ _ h => h, fun y L h => ?_, fun y h1 hm h3 => ?_, List.nodup_cons.2 ⟨hbn, A.nodup⟩, fun y hy => ?_, ?_, ?_, ?_, ?_, fun y L h => ?_⟩, hbn, _, t1, ?_, hO.other fun y hy => t2 y (fun e => hbn (e ▸ hy)), h2⟩
 ·have hyb : y ≠ b := fun e => by subst e; rw [hib] at h; cases h
  obtain ⟨a, t, f, k1, k2⟩ := A.cells y L h
  exact ⟨a, t, f, by rw [t2 y hyb]; exact k1, k2⟩
 ·have hyb : y ≠ b := fun e => hm (e ▸ List.mem_cons_self ..)
  have hy0 : y ∉ nb0 := fun e => hm (List.mem_cons_of_mem _ e)
  rw [t2 y hyb, (A.same y (by rw [s3]; exact h1) hy0 h3).1, s2 y hyb]
  exact ⟨rfl, h3⟩
 ·rcases List.mem_cons.1 hy with rfl | hy
  ·exact ⟨hib, .inl (List.mem_cons_self ..), by rw [t3]; exact lt_of_heap h2⟩
  ·obtain ⟨k1, k2, k3⟩ := A.frm y hy
   refine ⟨k1, ?_, by rw [t3]; exact k3⟩
   rcases k2 with k2 | k2
   ·exact .inl (List.mem_cons_of_mem _ k2)
   ·exact .inr (by rw [← s3]; exact k2)
 ·rw [t3, ← s3]; exact A.size
 ·show w2.os = w.os
  rw [A.os, e1]; rfl
 ·show w2.tape = w.tape
  rw [A.tape, e1]; rfl
 ·show w2.output = w.output
  rw [A.output, e1]; rfl
 ·have hyb : y ≠ b := fun e => by subst e; rw [hib] at h; cases h
  rw [t2 y hyb, A.fix y L h, s2 y hyb]
 ·simp only [Array.toList_setIfInBounds]
  apply List.ext_getElem?
  intro j
  have hl : arr.toList.length = arr.size := rfl
  simp only [List.getElem?_set, List.length_set, List.append_assoc, List.getElem?_append, List.length_take, List.getElem?_take, List.length_cons, List.length_nil, List.getElem?_drop]
  rcases Nat.lt_trichotomy j o with h | h | h
  ·rw [if_neg (by omega), if_neg (by omega), if_pos (by omega), if_pos h]
  ·subst h
   rw [if_neg (by omega), if_pos rfl, if_pos (by omega), if_neg (by omega), if_pos (by omega)]
   rw [show j - min j arr.toList.length = 0 by omega]
   rfl
  ·by_cases h2 : j = o + 1
   ·subst h2
    rw [if_pos rfl, if_pos (by omega), if_neg (by omega), if_pos (by omega), show o + 1 - min o arr.toList.length = 1 by omega]
    rfl
   ·rw [if_neg (by omega), if_neg (by omega), if_neg (by omega), if_neg (by omega)]
    congr 1
    omega
theorem Y7 {P : Program} {w : World} {ops : Array Oper} {rest : List Oper} {o : Oper} {a : Act} {Q : Exit → Act → World → Prop} (hgd : o.guard = none) (s x : Operand) (t u : TypeId)
  (ho : o.op = .call { callee := .builtin .append, args := #[s, x], argTypes := #[t, u] }) (vs vx : Value) (hs : a.eval s = vs) (hx : a.eval x = vx) (R : Value → World → Prop)
  (hr : ∃ v w', (Builtin.append_ #[t, u] o.type #[vs, vx]).run P w = .ok v w' ∧ R v w') (h : ∀ v w', R v w' → wpList P ops Q rest (a.put o.dst v) w') : wpList P ops Q (o :: rest) a w := by
 obtain ⟨v, w', hr, hR⟩ := hr
 refine wpList_plain hgd fun K hK => ?_
 unfold Oper.wp execOp
 simp only [ho, resolve, invoke, builtin, Sem.run_bind, Sem.run_pure, Result.andThen_ok, List.map_toArray, List.map_cons, List.map_nil, hs, hx, hr]
 exact hK _ _ (h v w' hR)
theorem After.bj3 {imm : Rd} {w w' : World} {nb nb' : List Nat} {o : Go.Obj} (hc : ∀ b L, imm b = some L → b < w.heap.size) (h : After imm (w.alloc o) nb imm w' nb') : After imm w nb imm w' nb' := by
 have hs : (w.alloc o).heap.size = w.heap.size + 1 := by show (w.heap.push _).size = _; simp
 refine ⟨h.mono, h.cells, fun b h1 h2 h3 => ?_, h.nodup, fun b hb => ?_, ?_, h.os, h.tape, h.output, fun b L hb => ?_⟩
 ·rw [(h.same b (by omega) h2 h3).1]
  refine ⟨?_, h3⟩
  show (w.heap.push _)[b]? = _
  rw [Array.getElem?_push, if_neg (by omega)]
 ·obtain ⟨a1, a2, a3⟩ := h.frm b hb
  refine ⟨a1, a2.imp id fun k => ?_, a3⟩
  omega
 ·have := h.size
  omega
 ·rw [h.fix b L hb]
  have := hc b L hb
  show (w.heap.push _)[b]? = _
  rw [Array.getElem?_push, if_neg (by omega)]
theorem OwnAt.alloc {imm : Rd} {w : World} {xs : List Int} {us : List Value} {nb : List Nat} (h : OwnAt imm w false (.int .u8) xs us nb) (k : ∀ b ∈ nb, b < w.heap.size) (o : Go.Obj) : OwnAt imm (w.alloc o) false (.int .u8) xs us nb :=
 h.other fun b hb => by
  have := k b hb
  show (w.heap.push _)[b]? = _
  rw [Array.getElem?_push, if_neg (by omega)]
end Go.Abs
end

section
namespace Go.Abs
theorem C8 {P : Program} {f : FuncId} {fn : Func} {c : Code} {args : Array Value} {w : World} {R : Value → World → Prop} (hf : P.funcs[f]? = some fn) (hb : fn.body = some c) (hname : (fn.name == "runtime.NumGoroutine") = false)
  (h : Calls P f args w fun e w' => ∃ v, e = .returned v ∧ R v w') : F1 P f args w R := by
 have hcall : (callFunc f args).run P w = .ok (.enter f args) w := by
  have h1 : fn.name ≠ "runtime.NumGoroutine" := by simpa using hname
  simp [callFunc, hf, h1, hb]
 unfold F1
 rw [hcall]
 exact h
structure Same (w w' : World) : Prop where
 other : ∀ b, b < w.heap.size → w'.heap[b]? = w.heap[b]?
 size : w.heap.size ≤ w'.heap.size
 os : w'.os = w.os
 tape : w'.tape = w.tape
 output : w'.output = w.output
theorem Same.refl (w : World) : Same w w := ⟨fun _ _ => rfl, Nat.le_refl _, rfl, rfl, rfl⟩
theorem Same.after {imm : Rd} {w w' : World} (h : Same w w') (hc : ∀ b L, imm b = some L → ∃ arr ty fr, w.heap[b]? = some (.cells arr ty fr) ∧ arr.toList = L) : After imm w [] imm w' [] :=
 ⟨fun _ _ h => h, fun b L k => by
  obtain ⟨a, t, f, k1, k2⟩ := hc b L k
  exact ⟨a, t, f, by rw [h.other b (lt_of_heap k1)]; exact k1, k2⟩, fun b h1 _ h3 => ⟨h.other b h1, h3⟩, List.nodup_nil, (fun b hb => by simp at hb), h.size, h.os, h.tape, h.output, fun b L k => by
  obtain ⟨a, t, f, k1, k2⟩ := hc b L k
  exact h.other b (lt_of_heap k1)⟩
def Is : (τ : Ty) → τ.den → Value → Prop
 | .int k, x, u => u = .int k x
 | .bool, b, u => u = .bool b
 | .str, l, u => ∃ s, u = .string s ∧ l = bytesOf s
 | _, _, _ => False
def ac3 : List Ty → List VSp
 | [] => []
 | τ :: r => .one (.pub τ) :: ac3 r
def ay4 : (ts : List Ty) → (r6 (ac3 ts)).den → List Value → Prop
 | [], _, us => us = []
 | τ :: r, x, us => ∃ u v, us = u :: v ∧ Is τ x.1 u ∧ ay4 r x.2 v
def simple : Ty → Bool
 | .int _ => true
 | .bool => true
 | .str => true
 | _ => false
theorem bf2 {r : Rd} {τ : Ty} {x : τ.den} {u : Value} (hs : simple τ = true) (h : Rc r τ x [u]) : Is τ x u := by
 cases τ with
 | int k => have h : _ = _ := h; injection h
 | bool => have h : _ = _ := h; injection h
 | str => obtain ⟨s, e, h⟩ := h; injection e with e; exact ⟨s, e, h⟩
 | _ => cases hs
theorem a02 {r : Rd} {τ : Ty} {x : τ.den} {u : Value} (hs : simple τ = true) (h : Is τ x u) : Rc r τ x [u] ∧ oc u = true ∧ τ.one = true := by
 cases τ with
 | int k => have h : _ = _ := h; subst h; exact ⟨rfl, rfl, rfl⟩
 | bool => have h : _ = _ := h; subst h; exact ⟨rfl, rfl, rfl⟩
 | str => obtain ⟨s, e, h⟩ := h; subst e; exact ⟨⟨s, rfl, h⟩, rfl, rfl⟩
 | _ => cases hs
theorem am3 {imm : Rd} {w : World} : ∀ {ts : List Ty} {x : (r6 (ac3 ts)).den} {us : List Value} {nb : List Nat}, (ts.all simple) = true → D4 imm w (ac3 ts) x us nb → ay4 ts x us ∧ nb = []
 | [], _, _, _, _, h => h
 | τ :: r, x, us, nb, hs, ⟨u, v, n1, n2, e, e', ⟨_, h1, _, u', e2, h2⟩, h3⟩ => by
  simp only [List.all_cons, Bool.and_eq_true] at hs
  injection e2 with e2
  subst e2
  obtain ⟨k1, k2⟩ := am3 hs.2 h3
  exact ⟨⟨u, v, e, bf2 hs.1 h2, k1⟩, by rw [e', h1, k2]; rfl⟩
theorem al0 {imm : Rd} {w w' : World} : ∀ {ts : List Ty} {x : (Y6 (ac3 ts)).den} {y : (r6 (ac3 ts)).den} {us : List Value}, ay4 ts y us → I7 imm w w' (ac3 ts) x us []
 | [], _, _, _, h => ⟨h, rfl⟩
 | _ :: _, _, _, _, ⟨u, v, e, _, h⟩ => ⟨u, v, [], [], e, rfl, rfl, al0 h⟩
theorem a42 {P : Program} {glob : Nat → Option (List Cell)} {f : FuncId} {ts : List Ty} {τ : Ty} (hts : ts.all simple = true) (hτ : simple τ = true) {F : (r6 (ac3 ts)).den → Option (Ty.pr τ (Y6 (ac3 ts))).den}
  (h : ∀ x y, F x = some y → ∀ w us, ay4 ts x us → F1 P f us.toArray w fun v w' => Same w w' ∧ Is τ y.1 v) : R5 P glob f ⟨⟨ac3 ts, .val (.one (.pub τ))⟩, F⟩ := by
 intro x y hF imm w args nb hG hcells hP hnd hnb
 obtain ⟨hA, rfl⟩ := am3 hts hP
 refine F1.mono (fun v w' hk => ?_) (h x y hF w args hA)
 obtain ⟨hs, hv⟩ := hk
 obtain ⟨k1, k2, k3⟩ := a02 (r := imm) hτ hv
 exact ⟨imm, [], [], hs.after hcells, ⟨k2, rfl, k3, v, rfl, k1⟩, al0 hA⟩
theorem ay4.map {imm : Rd} {w : World} : ∀ {ts : List Ty} {x : (r6 (ac3 ts)).den} {us : List Value}, (ts.all simple) = true → ay4 ts x us → ab9 imm w (ac3 ts) x us []
 | [], _, _, _, h => ⟨h, rfl⟩
 | τ :: r, x, us, hs, ⟨u, v, e, h1, h2⟩ => by
  simp only [List.all_cons, Bool.and_eq_true] at hs
  obtain ⟨k1, k2, k3⟩ := a02 (r := imm) hs.1 h1
  exact ⟨u, v, [], [], e, rfl, ⟨k2, rfl, k3, u, rfl, k1⟩, ay4.map hs.2 h2⟩
end Go.Abs
end

section
namespace Go.Abs
theorem aJ6 {P : Program} {W : World} {n : String} {g : Nat} {cs : Array Value} (hg : P.globalNamed n = some g) (h : W.var? P n = some cs) : snap W g = some cs.toList := by
 unfold World.var? at h
 rw [hg, Option.bind_some] at h
 unfold snap
 split at h
 ·rename_i arr a b e
  rw [e]
  injection h with h
  rw [h]
 ·cases h
theorem aG6 {H : Type} {enc : TypeId × Value → H} {P : Program} {W : World} {n : String} {g g' t : Nat} {cs : Array Value} {fuel : Nat} {d : DataW H} {p : List MemPlace} {τ : Ty} {x : τ.den} {sp : Nat → Bool} {held : Bool} {k : Nat}
  (hg : P.globalNamed n = some g) (ht : (P.globals[g]?).map (·.type) = some t) (hv : W.var? P n = some cs) (hd : DataW.trod enc P W 0 sp held fuel t cs.toList = some (d, p))
  (eg : P.globalNamed n = some g') (ef : ((P.globals[g']?).map (·.type)).all (fun t => aS1 P k t τ) = true) (ho : τ.one = true) (hs : ∀ us, Rc (snap W) τ x us → us.length = 1) (ex : ofD τ d = x) :
  ∃ us, snap W g' = some us ∧ ∀ gh : Gh, (∀ b L, snap W b = some L → gh.imm b = some L) → j3 gh [.v τ x] us := by
 obtain rfl := Option.some.inj (hg.symm.trans eg)
 rw [ht] at ef
 have h := (aG7 k fuel t τ cs.toList (d, p) ef hd).1
 rw [ex] at h
 have hl := hs _ h
 refine ⟨cs.toList, aJ6 hg hv, fun gh hi => ?_⟩
 match hc : cs.toList, hl with
 | [u], _ =>
  rw [hc] at h
  exact ⟨u, [], rfl, ⟨ho, h.mono hi⟩, rfl⟩
theorem a61 {r : Rd} {e : Ty} {xs : List e.den} : ∀ us, Rc r (.sl e) xs us → us.length = 1 := by
 rintro us ⟨A, c, rfl, _⟩; rfl
theorem bf0 {H : Type} {enc : TypeId × Value → H} {P : Program} {W : World} {n : String} {g g' t : Nat} {cs : Array Value} {fuel : Nat} {d : DataW H} {p : List MemPlace} {sp : Nat → Bool} {nm : String}
  (hg : P.globalNamed n = some g) (ht : (P.globals[g]?).map (·.type) = some t) (hv : W.var? P n = some cs) (hd : DataW.trod enc P W 0 sp false fuel t cs.toList = some (.iface nm d, p))
  (eg : P.globalNamed n = some g') (ef : ((P.globals[g']?).map (·.type)).all (fun t => match P.underlying t with | some (.interface _) => true | _ => false) = true) :
  ∃ us, snap W g' = some us ∧ ∀ gh : Gh, (∀ b L, snap W b = some L → gh.imm b = some L) → j3 gh [.err false] us := by
 obtain rfl := Option.some.inj (hg.symm.trans eg)
 rw [ht] at ef
 refine ⟨cs.toList, aJ6 hg hv, fun gh hi => ?_⟩
 have ef : (match P.underlying t with | some (.interface _) => true | _ => false) = true := ef
 cases hu : P.underlying t with
 | none => rw [hu] at ef; cases ef
 | some k =>
  cases k with
  | interface ms =>
   cases fuel with
   | zero => simp [DataW.trod] at hd
   | succ m =>
    unfold DataW.trod at hd
    rw [hu] at hd
    simp only at hd
    split at hd <;> simp_all
    rename_i u v hc _
    exact ⟨_, _, rfl, .inr ⟨rfl, _, _, rfl⟩, rfl⟩
  | _ => rw [hu] at ef; cases ef
theorem aF0 {gh : Gh} {k : IntKind} : ∀ zs : List Int, j3 gh (zs.map fun z => .v (.int k) z) (zs.map fun z => .int k z)
 | [] => rfl
 | z :: zs => ⟨_, _, rfl, ⟨rfl, rfl⟩, aF0 zs⟩
theorem aO7 {H : Type} {enc : TypeId × Value → H} {P : Program} {W : World} {n : String} {g g' t m e : Nat} {cs : Array Value} {fuel : Nat} {ds : List (DataW H)} {p : List MemPlace} {sp : Nat → Bool} {held : Bool} {k : IntKind}
  (hg : P.globalNamed n = some g) (ht : (P.globals[g]?).map (·.type) = some t) (hv : W.var? P n = some cs) (hd : DataW.trod enc P W 0 sp held fuel t cs.toList = some (.agg ds, p))
  (eg : P.globalNamed n = some g') (zs : List Int) (ez : ds.map (ofD (.int k)) = zs)
  (et : ((P.globals[g']?).bind fun gl => P.underlying gl.type) = some (.array m e)) (ee : P.underlying e = some (.int k)) (e1 : P.cellsOf e = 1) (en : ((P.globals[g']?).map fun gl => P.cellsOf gl.type) = some m) :
  ∃ us, snap W g' = some us ∧ ∀ gh : Gh, (∀ b L, snap W b = some L → gh.imm b = some L) → j3 gh (zs.map fun z => .v (.int k) z) us := by
 obtain rfl := Option.some.inj (hg.symm.trans eg)
 refine ⟨cs.toList, aJ6 hg hv, fun gh hi => ?_⟩
 obtain ⟨gl, hgl, rfl⟩ := Option.map_eq_some_iff.1 ht
 rw [hgl] at et en
 have et : P.underlying gl.type = some (.array m e) := et
 have en : some (P.cellsOf gl.type) = some m := en
 injection en with en
 obtain ⟨xs, q, _, ex, hl, hx, hel⟩ := DataW.trod_array et hd
 rw [en] at hl
 simp only [Prod.mk.injEq, DataW.agg.injEq] at ex
 have : cs.toList = zs.map fun z => .int k z := by
  refine List.ext_getElem? fun i => ?_
  by_cases hi : i < m
  ·have h := hel i hi
   rw [e1, Nat.mul_one, List.getElem?_eq_getElem (show i < xs.length by omega)] at h
   obtain ⟨z, h1, h2, _⟩ := DataW.trod_int ee h
   have h3 : cs.toList[i]? = some (.int k z) := by
    have : ((cs.toList.drop i).take 1)[0]? = some (.int k z) := by rw [h1]; rfl
    simpa using this
   rw [h3, ← ez, ex.1, List.map_map, List.map_map, List.getElem?_map, List.getElem?_eq_getElem (show i < xs.length by omega)]
   simp only [Option.map_some, Function.comp, h2]
   rfl
  ·rw [List.getElem?_eq_none (by omega), List.getElem?_eq_none (by rw [← ez, ex.1]; simp; omega)]
 rw [this]
 exact aF0 zs
end Go.Abs
end
