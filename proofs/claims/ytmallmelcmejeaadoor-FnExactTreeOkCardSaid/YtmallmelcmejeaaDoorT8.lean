/- What is proved: FnExactTreeOk answers true at every tree; the package variables are as the program's text lays them. -/
import Derived.Test.YtmallmelcmejeaaDoorT7
import Derived.Test.YtmallmelcmejeaaDoorCards
set_option linter.unusedVariables false
set_option linter.unusedSimpArgs false
set_option maxRecDepth 100000
section
namespace Go.Abs.D
theorem read_of {x : tyNode.den} (h : Good tyNode x) : Read x := by
  obtain ⟨_, _, _, _, _, _, h7, h8, h9, _⟩ := h
  exact ⟨h7, ⟨h8.1, h8.2⟩, h9.2⟩
end Go.Abs.D
namespace Go.Proofs.YtmallmelcmejeaaDoor
open Go.ChangeShapes Go.WideShapes Go.ChangeAt Go.RowKit
open Go.ChangeMaps (open_string shut_string)

theorem agg_of_wide {P : Program} {W : World} {r : Reach} {base t : Nat} {fs : Array Field} {v : Value} (ht : P.underlying t = some (.struct fs)) (h : Value.okWide P W r base t v) : ∃ cs, v = .agg cs := by
  unfold Value.okWide at h
  rw [ht] at h
  obtain ⟨cs, rfl, _⟩ := h
  exact ⟨cs, rfl⟩

set_option maxRecDepth 100000 in
theorem walk_tree (cs : Array Value) (ns : List Abs.D.tyNode.den) (W : World) (hL : laidMetH Tryd.prog Rows.fnExactTreeOkRow.laid W) (hR : Abs.Rc (Abs.snap W) (.pr (.sl Abs.D.tyNode) .un) (ns, ()) cs.toList) (hG : Abs.Good (.pr (.sl Abs.D.tyNode) .un) (ns, ())) : Calls Tryd.prog 6 #[.agg cs] W fun e w' => e = .returned (.bool true) ∧ Below W.heap.size W w' := by
  obtain ⟨N, h⟩ := Abs.D.law_tree ns (fun x hx => Abs.D.read_of (hG.1.1 x hx)) hG.1.2
  have hR2 : ∃ v, cs.toList = [v] ∧ Abs.Rc (Abs.snap W) (.sl Abs.D.tyNode) ns [v] := by
    obtain ⟨c1, c2, e, h1, h2⟩ := hR
    have h2 : c2 = [] := h2
    subst h2
    obtain ⟨A, c, rfl, h3⟩ := h1
    exact ⟨_, by rw [e]; rfl, A, c, rfl, h3⟩
  obtain ⟨v, ev, hv⟩ := hR2
  have hok := (sys N).fn 6 (by kernel_rfl) ((ns, ()), ()) (true, ((), ()), ()) (h N (Nat.le_refl N)) (Abs.snap W) W [.agg cs] [] (of_laid hL) (fun b L hb => Abs.snap_heap hb)
    ⟨_, _, [], [], rfl, rfl, ⟨cs.toList, by simp, [v], [], [], [], by rw [ev]; rfl, rfl, ⟨rfl, rfl, _, rfl, hv⟩, rfl, rfl⟩, rfl, rfl⟩ List.nodup_nil (fun b hb => by simp at hb)
  refine (Abs.calls_of_invokes Tryd.func6 rfl (by kernel_rfl) hok).mono ?_
  rintro e w' ⟨v, rfl, imm', n1, n2, A, ⟨_, h1, _, u, e2, h2⟩, h3⟩
  injection e2 with e2 _
  subst e2
  have h2 : [v] = [Value.bool true] := h2
  injection h2 with h2 _
  subst h2
  exact ⟨rfl, A.below⟩

set_option maxRecDepth 100000 in
theorem lifted_tree (os : Os) (started : os.Started) (H : Type) (enc : TypeId × Value → H) :
    ReturnsInHanded {} Tryd.checked os 6 .any (fun w args => (Rows.fnExactTreeOkSpec.pre enc Tryd.prog Tryd.f6 Rows.fnExactTreeOkRow.domain false w args ∧ laidMetH Tryd.prog Rows.fnExactTreeOkRow.laid w) ∧ sizedMet enc Tryd.prog Tryd.f6 (OpenSpec.ofChange Rows.fnExactTreeOkSpec) false w args)
      (Rows.fnExactTreeOkSpec.post enc Tryd.prog Tryd.f6 false true false false) := by
  refine returnsInHanded_of_change_and (C := Tryd.checked) (X := fun w _ => laidMetH Tryd.prog Rows.fnExactTreeOkRow.laid w) (fun _ _ _ hh h => h.of_heap hh) own started (by kernel_rfl) Tryd.func6
    (ChangeSpec.witness_shaped (enc := enc) (C := Tryd.checked) (os := os) (X := fun w _ => laidMetH Tryd.prog Rows.fnExactTreeOkRow.laid w) false (World.laidAll Tryd.prog os Rows.fnExactTreeOkRow.laid) #[.agg #[.slice none 0 0]] 8 (World.laidAll_os _ _ _)
      (World.shaped_of_ZipB (by kernel_rfl) (by kernel_rfl)) (by kernel_rfl) (by kernel_rfl) (by kernel_rfl)
      (by rw [MakeChecks.laidMetH_plain _ _ _ (by kernel_rfl)]; exact laidMet_laidAll _ (by kernel_rfl) (by kernel_rfl))) ?_
  intro W base args ds gs before hval0 hW _ _ hL _
  have hval : ∀ (j : Nat) t v, Tryd.f6.params[j]? = some t → args[j]? = some v → Value.okWide Tryd.prog W .any base t v := hval0
  have hW' := hW
  obtain ⟨p, q, hA0, hV, rfl, hfz, hnd⟩ := hW
  have hA : DataW.TrodAll enc Tryd.prog W 0 (fun _ => true) true Tryd.f6.params.toList args.toList ds p := hA0
  rw [Tryd.params6] at hA hval
  obtain ⟨v0, d0, hargs, rfl, h0⟩ := trodAll_one hA
  obtain rfl : args = #[v0] := by cases args; simp_all
  obtain ⟨cs, rfl⟩ := agg_of_wide Tryd.underlying42 (hval 0 42 v0 rfl rfl)
  have h0k := h0
  obtain ⟨fuel, hf⟩ := h0
  obtain ⟨hR, hG⟩ := Abs.trod_in 5 fuel 42 (.pr (.sl Abs.D.tyNode) .un) _ _ (by kernel_rfl) hf
  have hlt : ∀ x ∈ p, x.block < W.heap.size := fun x hx => by simpa using hW'.lt x (List.mem_append_left _ hx)
  have hV3 := trodVars_len hV
  match gs, hV3, hV, hW' with
  | [g1, g2, g3], _, hV, hW' =>
    clear hA0 hval0
    refine (walk_tree cs _ W hL hR hG).mono fun e W' ⟨he, bel⟩ => ?_
    subst he
    exact ⟨_, rfl, _, _, _, [], _, _, hW', trodAll_mk1 (shut_bool Tryd.underlying4 _), trodAll_mk1 (Below.trod laidOut (by kernel_rfl) (of_decide_eq_true (by kernel_rfl)) h0k bel hlt), Below.trodVars laidOut bel (by kernel_rfl) hV, bel.frame _, fun h => by cases h⟩

theorem row_tree : Rows.FnExactTreeOkSaid :=
  OpenClaim.holds_of_wide 6 Tryd.f6 rfl rfl rfl rfl rfl rfl rfl ⟨rfl, rfl, rfl, rfl, rfl⟩ rfl rfl rfl rfl rfl (by kernel_rfl) Tryd.func6 (by kernel_rfl)
    (of_decide_eq_true (by kernel_rfl)) (by unfold Func.isWrapper; first | (rw [if_pos (by decide +kernel)]; kernel_rfl) | (rw [if_neg (by decide +kernel)]; exact ⟨rfl, rfl⟩))
    (fun os started H enc _ => lifted_tree os started H enc)

theorem fnExactTreeOk_holds : Rows.FnExactTreeOkCardSaid :=
  Claim7.holds_tied_plain_at .later [] [.data, .data, .data, .sentinel, .sentinel, .data, .data, .data] true (true, "607b33115784da865fe423d7123f84b6afc051212ae28e40bf49604fa8e2e808") true
    row_tree (fun _ h => by cases h) (by kernel_rfl) (fun _ h => by cases h) fnExactTreeOk_row_tie rfl ⟨rfl, rfl⟩ (by kernel_rfl) rfl
    (fun f fn hf hfn => by
      obtain rfl : f = 6 := Option.some.inj ((show Tryd.prog.funcNamed "loop.example/warp/laws.FnExactTreeOk" = some 6 by kernel_rfl).symm.trans hf) |>.symm
      obtain rfl : fn = Tryd.f6 := (Option.some.inj (Tryd.func6.symm.trans hfn)).symm
      exact ⟨by kernel_rfl, fun j t ht => by
        rw [Tryd.params6] at ht
        have hm : t ∈ [42] := by simpa using Array.mem_of_getElem? ht
        have hall : ([42].all fun u => !Tryd.prog.wantsStandIn u) = true := by kernel_rfl
        exact (show Tryd.prog.wantsStandIn t = false by simpa using List.all_eq_true.1 hall t hm)⟩)
    (by kernel_rfl)

end Go.Proofs.YtmallmelcmejeaaDoor
#print axioms Go.Proofs.YtmallmelcmejeaaDoor.fnExactTreeOk_holds
end
