/- What is here: the library's functions on strings.Builder, at any place of a box, as contracts. What is here: WriteByte, WriteString and String of strings.Builder, at any place of a box, as contracts. What is here: String of strings.Builder at any place of a box. What is here: the contracts of strings.Builder's functions. What is here: the contract of the library's IndexByteString. What is here: what spec.Quote and impl.Quote compute: the same text. What is proved: FnExactQuote answers true at every string. -/
import Derived.Test.YtjjcobfhgfcfjaaQ3
import Derived.Test.YtjjcobfhgfcfjaaProg
import Derived.Lib.Builder
import Derived.Lib.Walk
import Derived.Lib.Slices
import Derived.Lib.Strings
import Derived.WalkKit
import Derived.Laws.Externs
import Derived.Lib.AppendStr
import Derived.Lib.UnsafeStr
import Derived.Test.YtjjcobfhgfcfjaaRows
import Derived.ProofKit
import Derived.OpenShut
import Derived.ShutString
import Derived.ChangeOld
import Derived.Below
import Derived.SizedLaws
set_option linter.unusedVariables false
set_option linter.unusedSimpArgs false
set_option maxRecDepth 100000
section
namespace Go.Abs.Bld
open Go.Proofs

def places : List (Nat × Nat × Nat) := [(40, 0, 2)]

theorem okIn_mem : ∀ {l : List (Nat × Nat × Nat)} {a b c : Nat}, okIn l a b c = true → (a, b, c) ∈ l
  | t :: r, a, b, c, h => by
    simp only [okIn, Bool.or_eq_true, Bool.and_eq_true] at h
    rcases h with h | h
    · rw [← beq_eq h.1.1, ← beq_eq h.1.2, ← beq_eq h.2]; exact List.mem_cons_self ..
    · exact List.mem_cons_of_mem _ (okIn_mem h)

theorem lies : ∀ t ∈ places, (Nat.ble (t.2.1 + 2) t.2.2 && liesAt Try.prog Try.prog.depth t.1 (t.2.2 / Try.prog.cellsOf t.1) t.2.1 40 1) = true := by
  have : (places.all fun t => Nat.ble (t.2.1 + 2) t.2.2 && liesAt Try.prog Try.prog.depth t.1 (t.2.2 / Try.prog.cellsOf t.1) t.2.1 40 1) = true := by kernel_rfl
  exact List.all_eq_true.1 this

set_option maxHeartbeats 1000000 in
set_option maxRecDepth 100000 in
theorem copyCheck_used (b o : Nat) (w : World) (h0 : w.cell? ⟨b, o, none⟩ = some (.pointer (some ⟨b, o, none⟩))) :
    Calls Try.prog 27 #[.pointer (some ⟨b, o, none⟩)] w fun e w' => e = .returned (.tuple #[]) ∧ w' = w := by
  obtain ⟨j, hj, _⟩ := Option.map_eq_some_iff.1 (show (Try.prog.info? 40).map (·.size) = some 2 by kernel_rfl)
  go_enter Try.func27, Try.ntmps27
  go_wp2
  rw [Lib.run_neq_ptr_same w _ (by kernel_rfl) hj]
  go_wp2
  go_end0
  exact ⟨rfl, rfl⟩

set_option maxHeartbeats 1000000 in
set_option maxRecDepth 100000 in
theorem copyCheck_fresh (b o ty n : Nat) (w : World) (h0 : w.cell? ⟨b, o, none⟩ = some (.pointer none)) (hsh : w.shape? b = some (ty, n)) (hfz : w.frozen? ⟨b, o, none⟩ = false) (hok : okIn places ty o n = true) :
    Calls Try.prog 27 #[.pointer (some ⟨b, o, none⟩)] w fun e w' => e = .returned (.tuple #[]) ∧ w' = w.setCell ⟨b, o, none⟩ (.pointer (some ⟨b, o, none⟩)) := by
  obtain ⟨j, hj, hjs⟩ := Option.map_eq_some_iff.1 (show (Try.prog.info? 40).map (·.size) = some 2 by kernel_rfl)
  have hl := lies _ (okIn_mem hok)
  simp only [Bool.and_eq_true] at hl
  have hlt : o < n := by have := Nat.le_of_ble_eq_true hl.1; omega
  go_enter Try.func27, Try.ntmps27
  go_wp2
  rw [Lib.run_to_unsafe w ⟨b, o, none⟩ (show Try.prog.underlying 37 = some (.pointer 40) by kernel_rfl) (show Try.prog.underlying 66 = some .unsafePointer by kernel_rfl) hj (by rw [hjs]; decide) hsh hlt]
  simp only [Result.andThen]
  rw [Oper.upon_value]
  go_wp2
  rw [run_callFunc_extern Try.func37 (by kernel_rfl) (by kernel_rfl) (by kernel_rfl) (e := Extern.AbiNoEscape.same) (by kernel_rfl)]
  rw [Lib.run_noEscape]
  simp only [Result.andThen]
  rw [Oper.upon_value]
  go_wp2
  rw [Lib.run_from_unsafe w ⟨b, o, none⟩ (show Try.prog.underlying 66 = some .unsafePointer by kernel_rfl) (show Try.prog.underlying 37 = some (.pointer 40) by kernel_rfl) hj hsh hl.2]
  simp only [Result.andThen]
  rw [Oper.upon_value]
  go_wp2
  go_end0
  exact ⟨rfl, rfl⟩

end Go.Abs.Bld
end

section
namespace Go.Abs.Bld
open Go.Proofs

theorem setCell_self {w : World} {b k : Nat} {arr : Array Value} {ty : TypeId} {v : Value} (h : w.heap[b]? = some (.cells arr ty (0, 0))) (hv : arr[k]? = some v) : w.setCell ⟨b, k, none⟩ v = w := by
  have : w.heap.modify b (fun | .cells c elem frozen => .cells (c.setIfInBounds k v) elem frozen | o => o) = w.heap := by
    apply Array.ext_getElem?
    intro i
    rw [Array.getElem?_modify]
    by_cases e : b = i
    · subst e
      rw [if_pos rfl, h]
      simp only [Option.map_some]
      have : arr.setIfInBounds k v = arr := by
        apply Array.ext_getElem?
        intro j
        rw [Array.getElem?_setIfInBounds]
        by_cases e : k = j
        · subst e
          rw [if_pos rfl, hv]
          split
          · rfl
          · rename_i hlt
            rw [Array.getElem?_eq_none (by omega)] at hv; cases hv
        · rw [if_neg e]
      rw [this]
    · rw [if_neg e]
  show { w with heap := _ } = w
  exact congrArg (fun h => { w with heap := h }) this

/-- Cells of a builder at its place. -/
theorem bld_cells {arr : Array Value} {o : Nat} {x y : Value} (h : (arr.toList.drop o).take 2 = [x, y]) : arr[o]? = some x ∧ arr[o + 1]? = some y := by
  have h0 := congrArg (·[0]?) h
  have h1 := congrArg (·[1]?) h
  simp only [List.getElem?_take, List.getElem?_drop] at h0 h1
  simp at h0 h1
  exact ⟨h0, h1⟩

theorem copyCheck {imm : Rd} {b o ty : Nat} {arr : Array Value} {w : World} {xs : List Int} {nb : List Nat} (ha : w.heap[b]? = some (.cells arr ty (0, 0))) (hok : okIn places ty o arr.size = true) (hB : BldAt imm w (b, o) xs ((arr.toList.drop o).take 2) nb) :
    Calls Try.prog 27 #[.pointer (some ⟨b, o, none⟩)] w fun e w' => e = .returned (.tuple #[]) ∧ w' = w.setCell ⟨b, o, none⟩ (.pointer (some ⟨b, o, none⟩)) := by
  rcases hB with ⟨h1, h2, h3⟩ | ⟨u2, h1, h2, h4⟩
  · obtain ⟨c0, c1⟩ := bld_cells h1
    exact copyCheck_fresh b o ty arr.size w (by rw [Lib.cell_of_heap ha, c0]) (by simp [World.shape?, ha]) (Lib.frozen_of_heap ha o) hok
  · obtain ⟨c0, c1⟩ := bld_cells h1
    refine (copyCheck_used b o w (by rw [Lib.cell_of_heap ha, c0])).mono ?_
    rintro e w' ⟨rfl, rfl⟩
    exact ⟨rfl, (setCell_self ha c0).symm⟩

noncomputable def byteInfo : TypeInfo := match Try.prog.info? 5 with
  | some i => i
  | none => default

theorem byteInfo_eq : Try.prog.info? 5 = some byteInfo := by kernel_rfl

def Appended (imm : Rd) (w1 : World) (nb : List Nat) (xs : List Int) (v : Value) (w' : World) : Prop := ∃ nb', After imm w1 nb imm w' nb' ∧ OwnAt imm w' false (.int .u8) xs [v] nb' ∧ ∀ b ∈ nb', ∃ arr, w'.heap[b]? = some (.cells arr byteTy (0, 0))

/-- What a write leaves. -/
def Written (imm : Rd) (w : World) (b o ty : Nat) (arr : Array Value) (nb : List Nat) (xs : List Int) (w' : World) : Prop := ∃ nb' arr' v, After imm w (b :: nb) imm w' (b :: nb') ∧ w'.heap[b]? = some (.cells arr' ty (0, 0)) ∧
  arr'.toList = arr.toList.take o ++ [.pointer (some ⟨b, o, none⟩), v] ++ arr.toList.drop (o + 2) ∧ OwnAt imm w' false (.int .u8) xs [v] nb' ∧ ∀ b ∈ nb', ∃ arr, w'.heap[b]? = some (.cells arr byteTy (0, 0))

set_option maxHeartbeats 2000000 in
set_option maxRecDepth 100000 in
theorem writeByte {imm : Rd} {b o ty : Nat} {arr : Array Value} {w : World} {xs : List Int} {nb : List Nat} (c : Int) (ha : w.heap[b]? = some (.cells arr ty (0, 0))) (hle : o + 2 ≤ arr.size) (hok : okIn places ty o arr.size = true)
    (hB : BldAt imm w (b, o) xs ((arr.toList.drop o).take 2) nb) (hn : (b :: nb).Nodup) (hi : ∀ y ∈ b :: nb, imm y = none ∧ y < w.heap.size) (hc : ∀ b L, imm b = some L → ∃ arr ty fr, w.heap[b]? = some (.cells arr ty fr) ∧ arr.toList = L)
    (hfit : xs.length + 1 ≤ 1099511627776) :
    Calls Try.prog 16 #[.pointer (some ⟨b, o, none⟩), .int .u8 c] w fun e w' => e = .returned .nilIface ∧ Written imm w b o ty arr nb (xs ++ [c]) w' := by
  go_enter Try.func16, Try.ntmps16
  go_wp2_with (go_at_call 27; refine (copyCheck ha hok hB).mono ?_)
  rintro e w1 ⟨rfl, e1⟩
  obtain ⟨u, hu, hO, hty⟩ : ∃ u, arr[o + 1]? = some u ∧ OwnAt imm w false (.int .u8) xs [u] nb ∧ ∀ b ∈ nb, ∃ arr, w.heap[b]? = some (.cells arr byteTy (0, 0)) := by
    rcases hB with ⟨h1, h2, h3⟩ | ⟨u2, h1, h2, h3⟩
    · exact ⟨_, (bld_cells h1).2, .inl ⟨rfl, h2, h3⟩, fun y hy => by rw [h3] at hy; simp at hy⟩
    · exact ⟨_, (bld_cells h1).2, h2, h3⟩
  obtain ⟨s1, s2, s3⟩ := setCell_box (k := o) ha (.pointer (some ⟨b, o, none⟩))
  rw [← e1] at s1 s2 s3
  have hnb := List.nodup_cons.1 hn
  have hO1 : OwnAt imm w1 false (.int .u8) xs [u] nb := hO.other fun y hy => s2 y fun e => hnb.1 (e ▸ hy)
  have hty1 : ∀ y ∈ nb, ∃ arr, w1.heap[y]? = some (.cells arr byteTy (0, 0)) := fun y hy => by
    obtain ⟨a, k⟩ := hty y hy
    exact ⟨a, by rw [s2 y fun e => hnb.1 (e ▸ hy)]; exact k⟩
  have hi1 : ∀ y ∈ nb, imm y = none ∧ y < w1.heap.size := fun y hy => ⟨(hi y (List.mem_cons_of_mem _ hy)).1, by rw [s3]; exact (hi y (List.mem_cons_of_mem _ hy)).2⟩
  have c1 : w1.cell? ⟨b, o + 1, none⟩ = some u := by
    rw [Lib.cell_of_heap s1, Array.getElem?_setIfInBounds, if_neg (by omega)]; exact hu
  have hc1 : ∀ b L, imm b = some L → ∃ arr ty fr, w1.heap[b]? = some (.cells arr ty fr) ∧ arr.toList = L := fun y L h => by
    rw [s2 y fun e => by rw [e, (hi b (List.mem_cons_self ..)).1] at h; cases h]; exact hc y L h
  have hnew : (w1.alloc (.cells #[.int .u8 c] 5)).heap[w1.heap.size]? = some (.cells #[.int .u8 c] 5 (0, 0)) := by
    show (w1.heap.push _)[w1.heap.size]? = _
    rw [Array.getElem?_push, if_pos rfl]
  have hold : ∀ {y : Nat} {x : Go.Obj}, w1.heap[y]? = some x → (w1.alloc (.cells #[.int .u8 c] 5)).heap[y]? = some x := fun {y x} k => by
    have := lt_of_heap k
    show (w1.heap.push _)[y]? = _
    rw [Array.getElem?_push, if_neg (by omega)]; exact k
  have hr : ∃ v w', (Builtin.append_ #[38, 38] 38 #[u, .slice (some ⟨w1.heap.size, 0, none⟩) 1 1]).run Try.prog (w1.alloc (.cells #[.int .u8 c] 5)) = .ok v w' ∧ Appended imm w1 nb (xs ++ [c]) v w' := by
    obtain ⟨v, w', nb', h1, h2, h3, h4⟩ := app_after (P := Try.prog) (t := 38) (tx := 38) (ty := 38) (e := 5) (ys := [c]) (i := byteInfo) (z := .int .u8 0) (by kernel_rfl) byteInfo_eq (by kernel_rfl) (by kernel_rfl) (Nat.le_of_ble_eq_true (by kernel_rfl)) rfl (hO1.alloc (fun y hy => (hi1 y hy).2) (.cells #[.int .u8 c] 5))
      (Src.ofSlice (P := Try.prog) (w := w1.alloc (.cells #[.int .u8 c] 5)) (e' := 5) (by kernel_rfl) ⟨w1.heap.size, 0, none⟩ 1 1 [.int .u8 c] rfl (fun j x hj => by
        rw [Addr.add_lit, Lib.cell_of_heap hnew]
        match j, hj with
        | 0, hj => simpa using hj) (fun x hx => by
        have : x = .int .u8 c := by simpa using hx
        subst this; rfl)) hfit (fun y L h => by
        obtain ⟨a, t, f, k1, k2⟩ := hc1 y L h
        exact ⟨a, t, f, hold k1, k2⟩) (fun y hy => ⟨(hi1 y hy).1, by
          have := (hi1 y hy).2
          show y < (w1.heap.push _).size
          simp; omega⟩) (fun y hy => by
        obtain ⟨a, k⟩ := hty1 y hy
        exact ⟨a, hold k⟩)
    exact ⟨v, w', h1, nb', h2.ofAlloc, h3, h4⟩
  have e1' : ∃ _ : True, w1 = w.setCell ⟨b, o, none⟩ (.pointer (some ⟨b, o, none⟩)) ∧ w1.heap.size = w.heap.size := ⟨trivial, e1, s3⟩
  clear e1 s3
  go_wp2_with (at_builtin; refine wpList_run_append rfl _ _ 38 38 rfl _ _ rfl rfl _ hr ?_)
  rintro v w2 ⟨nb1, A, hO2, hty2⟩
  obtain ⟨_, e1, s3⟩ := e1'
  obtain ⟨B1, B2, arr', B3, B4, B5, B6⟩ := bld_write ha hle hn hi hc e1 A hO2
  have hty3 : ∀ y ∈ nb1, ∃ arr, (w2.setCell ⟨b, o + 1, none⟩ v).heap[y]? = some (.cells arr byteTy (0, 0)) := fun y hy => by
    obtain ⟨a, k⟩ := hty2 y hy
    exact ⟨a, by rw [(setCell_box (k := o + 1) B6 v).2.1 y fun e => B2 (e ▸ hy)]; exact k⟩
  obtain ⟨ao, n', cap, rfl⟩ : ∃ ao n' cap, v = .slice ao n' cap := by
    rcases hO2 with ⟨h1, _⟩ | ⟨b', cap, arr', ty', nb', h1, _⟩
    · injection h1 with h1 _; exact ⟨_, _, _, h1⟩
    · injection h1 with h1 _; exact ⟨_, _, _, h1⟩
  have d1 : w2.cell? ⟨b, o + 1, none⟩ = some u := by
    rw [Lib.cell_of_heap B6, Array.getElem?_setIfInBounds, if_neg (by omega)]; exact hu
  have f1 : w2.frozen? ⟨b, o + 1, none⟩ = false := Lib.frozen_of_heap B6 (o + 1)
  clear e1
  go_wp2
  go_ret
  exact ⟨rfl, nb1, arr', _, B1, B3, B4, B5, hty3⟩

set_option maxHeartbeats 2000000 in
set_option maxRecDepth 100000 in
theorem writeString {imm : Rd} {b o ty : Nat} {arr : Array Value} {w : World} {xs : List Int} {nb : List Nat} (s : ByteArray) (ha : w.heap[b]? = some (.cells arr ty (0, 0))) (hle : o + 2 ≤ arr.size) (hok : okIn places ty o arr.size = true)
    (hB : BldAt imm w (b, o) xs ((arr.toList.drop o).take 2) nb) (hn : (b :: nb).Nodup) (hi : ∀ y ∈ b :: nb, imm y = none ∧ y < w.heap.size) (hc : ∀ b L, imm b = some L → ∃ arr ty fr, w.heap[b]? = some (.cells arr ty fr) ∧ arr.toList = L)
    (hfit : xs.length + (bytesOf s).length ≤ 1099511627776) :
    Calls Try.prog 18 #[.pointer (some ⟨b, o, none⟩), .string s] w fun e w' => e = .returned (.tuple #[.int .i64 s.size, .nilIface]) ∧ Written imm w b o ty arr nb (xs ++ bytesOf s) w' := by
  go_enter Try.func18, Try.ntmps18
  go_wp2_with (go_at_call 27; refine (copyCheck ha hok hB).mono ?_)
  rintro e w1 ⟨rfl, e1⟩
  obtain ⟨u, hu, hO, hty⟩ : ∃ u, arr[o + 1]? = some u ∧ OwnAt imm w false (.int .u8) xs [u] nb ∧ ∀ b ∈ nb, ∃ arr, w.heap[b]? = some (.cells arr byteTy (0, 0)) := by
    rcases hB with ⟨h1, h2, h3⟩ | ⟨u2, h1, h2, h3⟩
    · exact ⟨_, (bld_cells h1).2, .inl ⟨rfl, h2, h3⟩, fun y hy => by rw [h3] at hy; simp at hy⟩
    · exact ⟨_, (bld_cells h1).2, h2, h3⟩
  obtain ⟨s1, s2, s3⟩ := setCell_box (k := o) ha (.pointer (some ⟨b, o, none⟩))
  rw [← e1] at s1 s2 s3
  have hnb := List.nodup_cons.1 hn
  have hO1 : OwnAt imm w1 false (.int .u8) xs [u] nb := hO.other fun y hy => s2 y fun e => hnb.1 (e ▸ hy)
  have hty1 : ∀ y ∈ nb, ∃ arr, w1.heap[y]? = some (.cells arr byteTy (0, 0)) := fun y hy => by
    obtain ⟨a, k⟩ := hty y hy
    exact ⟨a, by rw [s2 y fun e => hnb.1 (e ▸ hy)]; exact k⟩
  have hi1 : ∀ y ∈ nb, imm y = none ∧ y < w1.heap.size := fun y hy => ⟨(hi y (List.mem_cons_of_mem _ hy)).1, by rw [s3]; exact (hi y (List.mem_cons_of_mem _ hy)).2⟩
  have c1 : w1.cell? ⟨b, o + 1, none⟩ = some u := by
    rw [Lib.cell_of_heap s1, Array.getElem?_setIfInBounds, if_neg (by omega)]; exact hu
  have hc1 : ∀ b L, imm b = some L → ∃ arr ty fr, w1.heap[b]? = some (.cells arr ty fr) ∧ arr.toList = L := fun y L h => by
    rw [s2 y fun e => by rw [e, (hi b (List.mem_cons_self ..)).1] at h; cases h]; exact hc y L h
  have hr : ∃ v w', (Builtin.append_ #[38, 9] 38 #[u, .string s]).run Try.prog w1 = .ok v w' ∧ Appended imm w1 nb (xs ++ bytesOf s) v w' := by
    have hb : Go.byteCells s = (bytesOf s).map (Value.int .u8) := by
      unfold Go.byteCells bytesOf
      rw [List.map_map]
      rfl
    have hs : Src Try.prog 1 9 (.string s) (bytesOf s).length ((bytesOf s).map (Value.int .u8)) w1 := by
      rw [← hb, bytesOf_length]
      exact Src.ofString w1 (by kernel_rfl) s
    obtain ⟨v, w', nb', h1, h2, h3, h4⟩ := app_after (P := Try.prog) (t := 38) (tx := 9) (ty := 38) (e := 5) (ys := bytesOf s) (i := byteInfo) (z := .int .u8 0) (by kernel_rfl) byteInfo_eq (by kernel_rfl) (by kernel_rfl) (Nat.le_of_ble_eq_true (by kernel_rfl)) rfl hO1 hs hfit hc1 hi1 hty1
    exact ⟨v, w', h1, nb', h2, h3, h4⟩
  have e1' : ∃ _ : True, w1 = w.setCell ⟨b, o, none⟩ (.pointer (some ⟨b, o, none⟩)) ∧ w1.heap.size = w.heap.size := ⟨trivial, e1, s3⟩
  clear e1 s3
  go_wp2_with (at_builtin; refine wpList_run_append rfl _ _ 38 9 rfl _ _ rfl rfl _ hr ?_)
  rintro v w2 ⟨nb1, A, hO2, hty2⟩
  obtain ⟨_, e1, s3⟩ := e1'
  obtain ⟨B1, B2, arr', B3, B4, B5, B6⟩ := bld_write ha hle hn hi hc e1 A hO2
  have hty3 : ∀ y ∈ nb1, ∃ arr, (w2.setCell ⟨b, o + 1, none⟩ v).heap[y]? = some (.cells arr byteTy (0, 0)) := fun y hy => by
    obtain ⟨a, k⟩ := hty2 y hy
    exact ⟨a, by rw [(setCell_box (k := o + 1) B6 v).2.1 y fun e => B2 (e ▸ hy)]; exact k⟩
  obtain ⟨ao, n', cap, rfl⟩ : ∃ ao n' cap, v = .slice ao n' cap := by
    rcases hO2 with ⟨h1, _⟩ | ⟨b', cap, arr', ty', nb', h1, _⟩
    · injection h1 with h1 _; exact ⟨_, _, _, h1⟩
    · injection h1 with h1 _; exact ⟨_, _, _, h1⟩
  have d1 : w2.cell? ⟨b, o + 1, none⟩ = some u := by
    rw [Lib.cell_of_heap B6, Array.getElem?_setIfInBounds, if_neg (by omega)]; exact hu
  have f1 : w2.frozen? ⟨b, o + 1, none⟩ = false := Lib.frozen_of_heap B6 (o + 1)
  clear e1
  go_wp2
  go_ret2
  exact ⟨rfl, nb1, arr', _, B1, B3, B4, B5, hty3⟩

end Go.Abs.Bld
end

section
namespace Go.Abs.Bld
open Go.Proofs

theorem load_bytes {P : Program} {w : World} : ∀ (xs : List Int) (a : Addr) (acc : ByteArray), (∀ j x, xs[j]? = some x → w.cell? (a.add j) = some (.int .u8 x)) →
    ∃ st, (loadBytes a acc xs.length).run P w = .ok st w ∧ bytesOf st = bytesOf acc ++ xs.map byte
  | [], a, acc, _ => ⟨acc, by simp [loadBytes], by simp⟩
  | x :: xs, a, acc, h => by
    have h0 : w.cell? a = some (.int .u8 x) := by
      have := h 0 x rfl
      simpa [Addr.add] using this
    obtain ⟨st, h1, h2⟩ := load_bytes (P := P) (w := w) xs (a.add 1) (acc.push x.toNat.toUInt8) (fun j y hy => by
      have := h (j + 1) y (by simpa using hy)
      have e : (a.add 1).add j = a.add (j + 1) := by
        unfold Addr.add
        by_cases hj : j = 0
        · subst hj; simp
        · simp [hj]; omega
      rw [e]; exact this)
    refine ⟨st, ?_, ?_⟩
    · simp only [List.length_cons, loadBytes, Sem.run_bind, run_load, h0, Result.andThen]
      exact h1
    · rw [h2]
      have : bytesOf (acc.push x.toNat.toUInt8) = bytesOf acc ++ [byte x] := by
        unfold bytesOf byte
        rw [ByteArray.data_push]
        simp
      rw [this]
      simp

theorem unsafe_string {P : Program} {w : World} (pt it ty e : TypeId) (hp : P.underlying pt = some (.pointer e)) (hc : P.cellsOf e = 1) (g cells : Nat) (hsh : w.shape? g = some (e, cells)) (xs : List Int) (h0 : xs ≠ []) (hn : xs.length ≤ cells) (h63 : xs.length ≤ 9223372036854775807)
    (hcell : ∀ j x, xs[j]? = some x → w.cell? ((⟨g, 0, none⟩ : Addr).add j) = some (.int .u8 x)) :
    ∃ st, (Builtin.unsafeString_ #[pt, it] ty #[.pointer (some ⟨g, 0, none⟩), .int .i64 xs.length]).run P w = .ok (.string st) (w.freeze ⟨g, 0, none⟩ xs.length) ∧ bytesOf st = xs.map byte := by
  have hl : xs.length ≠ 0 := by simpa using h0
  obtain ⟨st, hlb, hst⟩ := load_bytes (P := P) (w := w) xs ⟨g, 0, none⟩ .empty hcell
  refine ⟨st, ?_, by rw [hst]; simp [bytesOf]⟩
  have hlies := Lib.liesAt_bytes (P := P) hc (cells / P.cellsOf e) xs.length (by rw [hc]; simpa using hn)
  have h63' : ¬ (9223372036854775807 : Int) < (xs.length : Int) := by omega
  have hdef : Builtin.unsafeString_ #[pt, it] ty #[.pointer (some ⟨g, 0, none⟩), .int .i64 xs.length] =
      (do
        let n ← Go.asInt (.int .i64 xs.length)
        if n < 0 then runtimePanic (.error "unsafe.String: len out of range")
        if n > IntKind.i64.max then unsupported (.unsafePointer "String: a length above the largest int")
        if n = 0 then pure (.string .empty)
        else if ← variablesAt ⟨g, 0, none⟩ (← elemOf pt) n.toNat then do
          let s ← loadBytes ⟨g, 0, none⟩ .empty n.toNat
          freeze ⟨g, 0, none⟩ n.toNat
          pure (.string s)
        else unsupported (.unsafePointer "String: not so many bytes at ptr")) := rfl
  rw [hdef]
  have hmax : IntKind.i64.max = 9223372036854775807 := rfl
  have hneg : ¬ (xs.length : Int) < 0 := by omega
  simp [Go.asInt, asIntOf, hmax, h63', hneg, hl, variablesAt, hsh, elemOf, run_underlying hp, hlies, hlb]

/-- What reading leaves: a draw, a row frozen, perhaps a block more. -/
structure Read (imm : Rd) (w : World) (nb : List Nat) (w' : World) : Prop where
  other : ∀ b, b < w.heap.size → b ∉ nb → w'.heap[b]? = w.heap[b]?
  size : w.heap.size ≤ w'.heap.size
  os : w'.os = w.os
  tape : w'.tape = w.tape
  output : w'.output = w.output

theorem Read.after {imm : Rd} {w w' : World} {nb : List Nat} (h : Read imm w nb w') (hn : ∀ y ∈ nb, imm y = none ∧ y < w.heap.size) (hc : ∀ b L, imm b = some L → ∃ arr ty fr, w.heap[b]? = some (.cells arr ty fr) ∧ arr.toList = L) : After imm w nb imm w' [] :=
  ⟨fun _ _ h => h, fun b L k => by
    obtain ⟨a, t, f, k1, k2⟩ := hc b L k
    refine ⟨a, t, f, ?_, k2⟩
    rw [h.other b (lt_of_heap k1) fun hm => by rw [(hn b hm).1] at k; cases k]
    exact k1, fun b h1 h2 h3 => ⟨h.other b h1 h2, h3⟩, List.nodup_nil, fun b hb => by simp at hb, h.size, h.os, h.tape, h.output⟩

theorem Read.drew (imm : Rd) (w : World) (nb : List Nat) : Read imm w nb w.drew := ⟨fun _ _ _ => rfl, Nat.le_refl _, rfl, rfl, rfl⟩

theorem Read.drewAlloc (imm : Rd) (w : World) (nb : List Nat) (o : Go.Obj) : Read imm w nb (w.drew.alloc o) :=
  ⟨fun b h _ => by
    show (w.heap.push _)[b]? = _
    rw [Array.getElem?_push, if_neg (by omega)], by show _ ≤ (w.heap.push _).size; simp, rfl, rfl, rfl⟩

theorem Read.freeze {imm : Rd} {w : World} {nb : List Nat} {g : Nat} (hg : g ∈ nb) (n : Nat) : Read imm w nb (w.drew.freeze ⟨g, 0, none⟩ n) := by
  unfold World.freeze
  split
  · exact Read.drew imm w nb
  · refine ⟨fun b _ hb => ?_, by simp, rfl, rfl, rfl⟩
    simp only [Array.getElem?_modify]
    rw [if_neg (fun e : g = b => hb (e ▸ hg))]
    rfl

set_option maxHeartbeats 2000000 in
set_option maxRecDepth 100000 in
theorem string {imm : Rd} {b o ty : Nat} {arr : Array Value} {w : World} {xs : List Int} {nb : List Nat} (ha : w.heap[b]? = some (.cells arr ty (0, 0))) (hle : o + 2 ≤ arr.size)
    (hB : BldAt imm w (b, o) xs ((arr.toList.drop o).take 2) nb) (hfit : xs.length ≤ 1099511627776) :
    Calls Try.prog 19 #[.pointer (some ⟨b, o, none⟩)] w fun e w' => ∃ st, e = .returned (.string st) ∧ bytesOf st = xs.map byte ∧ Read imm w nb w' := by
  obtain ⟨u, hu, hO, hty⟩ : ∃ u, arr[o + 1]? = some u ∧ OwnAt imm w false (.int .u8) xs [u] nb ∧ ∀ b ∈ nb, ∃ arr, w.heap[b]? = some (.cells arr byteTy (0, 0)) := by
    rcases hB with ⟨h1, h2, h3⟩ | ⟨u2, h1, h2, h3⟩
    · exact ⟨_, (bld_cells h1).2, .inl ⟨rfl, h2, h3⟩, fun y hy => by rw [h3] at hy; simp at hy⟩
    · exact ⟨_, (bld_cells h1).2, h2, h3⟩
  have hd : w.drew.heap[b]? = some (.cells arr ty (0, 0)) := ha
  have c1 : w.drew.cell? ⟨b, o + 1, none⟩ = some u := by rw [Lib.cell_of_heap hd]; exact hu
  have c0 : w.cell? ⟨b, o + 1, none⟩ = some u := c1
  have hnone : ∀ (W : World) (q : Option Addr), (Builtin.unsafeString_ #[58, 3] 9 #[.pointer q, .int .i64 0]).run Try.prog W = .ok (.string .empty) W := fun W q => Lib.run_unsafeString_none W _ _ _ q
  rcases hO with ⟨h1, rfl, _⟩ | ⟨g, cap, arr', ty', nb', h1, h2, h3, h4, h5, h6⟩
  · injection h1 with h1 _
    subst h1
    have hSD : (Builtin.unsafeSliceData_ #[38] 58 #[.slice none 0 0]).run Try.prog w.drew = .ok (.pointer none) w.drew := rfl
    have fin := Read.drew imm w nb
    clear hB hty
    go_enter Try.func19, Try.ntmps19
    go_wp2
    go_region
    all_goals (go_wp2; go_ret; exact ⟨_, rfl, rfl, fin⟩)
  · injection h1 with h1 _
    subst h1
    have hg : g ∈ nb := by rw [h2]; simp
    obtain ⟨arr2, k1⟩ := hty g hg
    rw [h3] at k1
    injection k1 with k1; injection k1 with _ k2
    subst k2
    have h5' : arr'.size = cap := by simpa [Ty.size] using h5
    have hg' : w.drew.heap[g]? = some (.cells arr' byteTy (0, 0)) := h3
    by_cases hx : xs = []
    · subst hx
      by_cases hc0 : cap = 0
      · subst hc0
        have hSD : (Builtin.unsafeSliceData_ #[38] 58 #[.slice (some ⟨g, 0, none⟩) 0 0]).run Try.prog w.drew = .ok (.pointer (some ⟨w.drew.heap.size, 0, none⟩)) (w.drew.alloc (.view ⟨g, 0, none⟩ 5)) :=
          Lib.run_unsafeSliceData_zero w.drew _ _ 5 (by kernel_rfl) ⟨g, 0, none⟩ 0 (5, arr'.size) (by simp [World.shape?, hg', byteTy])
        have c2 : (w.drew.alloc (.view ⟨g, 0, none⟩ 5)).cell? ⟨b, o + 1, none⟩ = some (.slice (some ⟨g, 0, none⟩) 0 0) := by
          have : (w.drew.alloc (.view ⟨g, 0, none⟩ 5)).heap[b]? = some (.cells arr ty (0, 0)) := (Lib.alloc_old w.drew _ b (lt_of_heap ha)).trans ha
          rw [Lib.cell_of_heap this]; exact hu
        have c3 : (w.alloc (.view ⟨g, 0, none⟩ 5)).drew.cell? ⟨b, o + 1, none⟩ = some (.slice (some ⟨g, 0, none⟩) 0 0) := c2
        have fin := Read.drewAlloc imm w nb (.view ⟨g, 0, none⟩ 5)
        clear hB hty
        go_enter Try.func19, Try.ntmps19
        go_wp2
        go_region
        all_goals (go_wp2; go_ret; exact ⟨_, rfl, rfl, fin⟩)
      · have hSD : (Builtin.unsafeSliceData_ #[38] 58 #[.slice (some ⟨g, 0, none⟩) 0 cap]).run Try.prog w.drew = .ok (.pointer (some ⟨g, 0, none⟩)) w.drew :=
          Lib.run_unsafeSliceData_row _ _ _ _ _ _ hc0
        have fin := Read.drew imm w nb
        clear hB hty hc0
        go_enter Try.func19, Try.ntmps19
        go_wp2
        go_region
        all_goals (go_wp2; go_ret; exact ⟨_, rfl, rfl, fin⟩)
    · have hpos : 0 < xs.length := List.length_pos_iff.2 hx
      have hSD : (Builtin.unsafeSliceData_ #[38] 58 #[.slice (some ⟨g, 0, none⟩) xs.length cap]).run Try.prog w.drew = .ok (.pointer (some ⟨g, 0, none⟩)) w.drew :=
        Lib.run_unsafeSliceData_row _ _ _ _ _ _ (by omega)
      obtain ⟨st, hUS, hst⟩ := unsafe_string (P := Try.prog) (w := w.drew) 58 3 9 5 (by kernel_rfl) (by kernel_rfl) g arr'.size (by simp [World.shape?, hg', byteTy]) xs hx (by omega) (by omega) (fun j x hj => by
        obtain ⟨hj', rfl⟩ := List.getElem?_eq_some_iff.1 hj
        rw [Addr.add_lit]
        exact els_bytes hg' h6.1 j hj')
      have fin : Read imm w nb (w.drew.freeze ⟨g, 0, none⟩ xs.length) := Read.freeze hg _
      clear hB hty hx
      go_enter Try.func19, Try.ntmps19
      go_wp2
      go_region
      all_goals (go_wp2; go_ret; exact ⟨_, rfl, hst, fin⟩)

end Go.Abs.Bld
end

section
namespace Go.Abs.Bld
open Go.Proofs

@[reducible] def bp : VSp := .one (.ptr false (0, places) .bld)

def writeByteF (x : List Int × Int × Unit) : Option (Bool × List Int × Unit × Unit) := bif fits (x.1.length + 1) then some (true, x.1 ++ [x.2.1], (), ()) else none
def writeStringF (x : List Int × List Int × Unit) : Option ((Int × Bool × Unit) × List Int × Unit × Unit) := bif fits (x.1.length + x.2.1.length) then some ((x.2.1.length, true, ()), x.1 ++ x.2.1, (), ()) else none
def stringF (x : List Int × Unit) : Option (List Int × Unit × Unit) := bif fits x.1.length then some (x.1.map byte, (), ()) else none

theorem fit_some {ρ : Type} {n : Nat} {x y : ρ} (h : (bif fits n then some x else none) = some y) : n ≤ 1099511627776 ∧ x = y := by
  cases e : fits n with
  | false => rw [e] at h; cases h
  | true => rw [e] at h; injection h with h; exact ⟨Nat.le_of_ble_eq_true e, h⟩

theorem back_bld {imm : Rd} {w w' : World} {b o ty : Nat} {arr : Array Value} {nb : List Nat} {xs : List Int} (ha : w.heap[b]? = some (.cells arr ty (0, 0))) (hle : o + 2 ≤ arr.size) (h : Written imm w b o ty arr nb xs w') :
    ∃ nb', After imm w (b :: nb) imm w' (b :: nb') ∧ Back imm w w' (.ptr false (0, places) .bld) xs (0, 0) [.pointer (some ⟨b, o, none⟩)] [.pointer (some ⟨b, o, none⟩)] (b :: nb') := by
  obtain ⟨nb', arr', v, A, h1, h2, h3, h4⟩ := h
  refine ⟨nb', A, b, o, arr, ty, arr', [.pointer (some ⟨b, o, none⟩), v], nb', rfl, rfl, rfl, ha, h1, h2, hle, rfl, .inr ⟨v, rfl, h3, h4⟩⟩

theorem writeByte_ok (glob : Nat → Option Cell) : CallOk Try.prog glob 16 ⟨⟨[bp, .one (.pub (.int .u8))], .val (.one .err)⟩, writeByteF⟩ := by
  intro x y hF imm w args nb hG hc hP hn hi
  obtain ⟨hfit, rfl⟩ := fit_some hF
  obtain ⟨u1, r1, n1, n2, rfl, rfl, ⟨_, b, o, arr, ty, nb', e1, rfl, ha, hw, hle, hB⟩, u2, r2, n3, n4, rfl, rfl, ⟨_, rfl, _, u3, e2, h3⟩, rfl, rfl⟩ := hP
  injection e1 with e1 _
  injection e2 with e2 _
  subst e1; subst e2
  have h3 : [_] = [_] := h3
  injection h3 with h3 _
  subst h3
  simp only [List.append_nil] at hn hi
  refine invokes_of_calls Try.func16 rfl (by kernel_rfl) ((writeByte x.2.1 ha hle (hw.2 rfl) hB hn hi hc hfit).mono ?_)
  rintro e w' ⟨rfl, hW⟩
  obtain ⟨nb2, A, hBk⟩ := back_bld ha hle hW
  refine ⟨_, rfl, imm, [], b :: nb2, by simpa using A, ⟨rfl, rfl, _, rfl, .inl ⟨rfl, rfl⟩⟩, _, _, b :: nb2, [], rfl, by simp, hBk, _, _, [], [], rfl, rfl, rfl, rfl, rfl⟩

theorem writeString_ok (glob : Nat → Option Cell) : CallOk Try.prog glob 18 ⟨⟨[bp, .one (.pub .str)], .tup [.one (.pub (.int .i64)), .one .err]⟩, writeStringF⟩ := by
  intro x y hF imm w args nb hG hc hP hn hi
  obtain ⟨hfit, rfl⟩ := fit_some hF
  obtain ⟨u1, r1, n1, n2, rfl, rfl, ⟨_, b, o, arr, ty, nb', e1, rfl, ha, hw, hle, hB⟩, u2, r2, n3, n4, rfl, rfl, ⟨_, rfl, _, u3, e2, s, h3, h4⟩, rfl, rfl⟩ := hP
  injection e1 with e1 _
  injection e2 with e2 _
  subst e1; subst e2
  injection h3 with h3 _
  subst h3
  simp only [List.append_nil] at hn hi
  have h4' : x.2.1 = bytesOf s := h4
  refine invokes_of_calls Try.func18 rfl (by kernel_rfl) ((writeString s ha hle (hw.2 rfl) hB hn hi hc (by rw [← h4']; exact hfit)).mono ?_)
  rintro e w' ⟨rfl, hW⟩
  rw [← h4'] at hW
  obtain ⟨nb2, A, hBk⟩ := back_bld ha hle hW
  refine ⟨_, rfl, imm, [], b :: nb2, by simpa using A, ⟨[_, _], rfl, _, _, [], [], rfl, rfl, ⟨rfl, rfl, rfl, _, rfl, ?_⟩, _, _, [], [], rfl, rfl, ⟨rfl, rfl, _, rfl, .inl ⟨rfl, rfl⟩⟩, rfl, rfl⟩, _, _, b :: nb2, [], rfl, by simp, hBk, _, _, [], [], rfl, rfl, rfl, rfl, rfl⟩
  show [_] = [_]
  rw [← bytesOf_length, ← h4']

theorem string_ok (glob : Nat → Option Cell) : CallOk Try.prog glob 19 ⟨⟨[.one (.tak places)], .val (.one (.pub .str))⟩, stringF⟩ := by
  intro x y hF imm w args nb hG hc hP hn hi
  obtain ⟨hfit, rfl⟩ := fit_some hF
  obtain ⟨u1, r1, n1, n2, rfl, rfl, ⟨_, b, o, arr, ty, e1, ha, hok, hle, hB⟩, rfl, rfl⟩ := hP
  injection e1 with e1 _
  subst e1
  simp only [List.append_nil] at hn hi
  refine invokes_of_calls Try.func19 rfl (by kernel_rfl) ((string ha hle hB hfit).mono ?_)
  rintro e w' ⟨st, rfl, hst, hR⟩
  refine ⟨_, rfl, imm, [], [], ?_, ⟨rfl, rfl, rfl, _, rfl, st, rfl, hst.symm⟩, _, _, [], [], rfl, rfl, rfl, rfl, rfl⟩
  rw [List.append_nil]
  exact hR.after hi hc

end Go.Abs.Bld
end

section
namespace Go.Abs.Bld
open Go.Proofs

/-- Where a byte stands first. -/
def idx : List Int → Int → Int → Int
  | [], _, _ => -1
  | x :: r, c, n => bif decide (x = c) then n else idx r c (n + 1)

theorem find_idx {l : List UInt8} {c : UInt8} : ∀ (m : List UInt8) (k : Nat), l = l.take k ++ m → k ≤ l.length → (match (List.range' k m.length).find? fun i => l.getD i 0 == c with | some i => (i : Int) | none => -1) = idx (m.map fun b => (b.toNat : Int)) (c.toNat : Int) k
  | [], k, _, _ => rfl
  | x :: m, k, h, hk => by
    have hx : l.getD k 0 = x := by
      rw [List.getD_eq_getElem?_getD, h, List.getElem?_append_right (by simp; omega)]
      simp [Nat.min_eq_left hk]
    have hlen : l.length = k + (m.length + 1) := by
      have := congrArg List.length h
      simp only [List.length_append, List.length_take, List.length_cons] at this
      omega
    have ih := find_idx (l := l) (c := c) m (k + 1) (by
      have h' : l = l.take k ++ [x] ++ m := by rw [List.append_assoc]; exact h
      have h2 : l.take (k + 1) = l.take k ++ [x] := by
        conv => lhs; rw [h']
        rw [List.take_left']
        simp [Nat.min_eq_left hk]
      rw [h2]; exact h') (by omega)
    rw [List.length_cons, List.range'_succ, List.find?_cons, hx]
    simp only [List.map_cons, idx]
    by_cases e : x = c
    · subst e; simp
    · have e1 : (x == c) = false := by simpa using e
      have e2 : decide ((x.toNat : Int) = (c.toNat : Int)) = false := by
        simp only [decide_eq_false_iff_not]
        intro h'
        apply e
        have : x.toNat = c.toNat := by omega
        exact UInt8.toNat_inj.1 this
      rw [e1, e2]
      simp only [cond_false]
      rw [ih]
      push_cast
      rfl

theorem firstIdx_eq (s : ByteArray) (c : Int) : firstIdx s c.toNat.toUInt8 = idx (bytesOf s) (byte c) 0 := by
  have h := find_idx (l := s.data.toList) (c := c.toNat.toUInt8) s.data.toList 0 (by simp) (Nat.zero_le _)
  have hc : ((c.toNat.toUInt8).toNat : Int) = byte c := by
    unfold byte
    rw [UInt8.toNat_ofNat']
  rw [hc] at h
  have hb : (s.data.toList.map fun b => (b.toNat : Int)) = bytesOf s := rfl
  rw [hb] at h
  refine Eq.trans ?_ h
  unfold firstIdx
  have hsz : s.size = s.data.toList.length := by
    rw [Array.length_toList]; rfl
  rw [hsz, List.range_eq_range']
  have : ∀ i, s[i]! = s.data.toList.getD i 0 := fun i => by
    by_cases h : i < s.size
    · rw [getElem!_pos s i h]
      have h' : i < s.data.toList.length := by rw [← hsz]; exact h
      rw [List.getD_eq_getElem?_getD, List.getElem?_eq_getElem h', Option.getD_some]
      rfl
    · rw [getElem!_neg s i h]
      have h' : s.data.toList.length ≤ i := by rw [← hsz]; omega
      rw [List.getD_eq_getElem?_getD, List.getElem?_eq_none h']
      rfl
  simp only [this]
  split <;> rename_i e <;> rw [e]

def indexByteF (x : List Int × Int × Unit) : Option (Int × Unit × Unit × Unit) := some (idx x.1 (byte x.2.1) 0, (), (), ())

theorem indexByte_ok (glob : Nat → Option Cell) : CallOk Try.prog glob 38 ⟨⟨[.one (.pub .str), .one (.pub (.int .u8))], .val (.one (.pub (.int .i64)))⟩, indexByteF⟩ :=
  simple_ok (ts := [.str, .int .u8]) (τ := .int .i64) rfl rfl fun x y hF w us hA => by
    injection hF with hF
    subst hF
    obtain ⟨u1, r1, rfl, ⟨s, rfl, hs⟩, u2, r2, rfl, h2, h3⟩ := hA
    have h2 : _ = _ := h2
    have h3 : _ = _ := h3
    subst h2; subst h3
    have hs : x.1 = bytesOf s := hs
    unfold Invokes
    rw [run_callFunc_extern Try.func38 (by kernel_rfl) (by kernel_rfl) (by kernel_rfl) (e := Extern.BytealgIndexByte.indexByte) (by kernel_rfl), run_indexByte_string]
    refine ⟨Same.refl w, ?_⟩
    show _ = Value.int .i64 (idx x.1 (byte x.2.1) 0)
    rw [firstIdx_eq, hs]

end Go.Abs.Bld
end

section
set_option maxRecDepth 100000
namespace Go.Abs.Q
open Go.Proofs
def sig (f : Nat) : Sig :=
  bif Nat.beq f 15 then ⟨[.one (.pub .str)], .val (.one (.pub .str))⟩ else
  bif Nat.beq f 6 then ⟨[.one (.pub .str)], .val (.one (.pub .str))⟩ else
  bif Nat.beq f 28 then ⟨[.one (.pub .str), .one (.pub (.int .u8))], .val (.one (.pub (.int .i64)))⟩ else
  bif Nat.beq f 17 then ⟨[.one (.pub .str), .one (.pub (.int .u8))], .val (.one (.pub (.int .i64)))⟩ else
  bif Nat.beq f 7 then ⟨[.one (.pub .str)], .val (.one (.pub .str))⟩ else
  bif Nat.beq f 4 then ⟨[.one (.pub .str)], .val (.one (.pub .bool))⟩ else
  ⟨[], .none⟩
def fns : List Nat := [15, 6, 28, 17, 7, 4]
def known (f : Nat) : Bool := fns.any (Nat.beq f)
def keep (f : Nat) : List Nat :=
  []
def isCut (f : Nat) (k : Bool) (r : Nat) : Bool := (Nat.beq f 7 && k == true && Nat.beq r 6) || (Nat.beq f 15 && k == true && Nat.beq r 4)
def cut (f : Nat) (k : Bool) (r : Nat) : Cut :=
  bif (Nat.beq f 7 && k == true && Nat.beq r 6) then ⟨[0, 3, 4], [.one (.pub .str), .one (.ptr true (40, []) .bld), .one (.pub (.int .i64))], [⟨.exit 0, [3], [.one (.ptr true (40, []) .bld)]⟩]⟩ else
  bif (Nat.beq f 15 && k == true && Nat.beq r 4) then ⟨[0, 3, 4, 5], [.one (.pub .str), .one (.pub .str), .one (.own (.int .u8) true), .one (.pub (.int .i64))], [⟨.exit 0, [4], [.one (.own (.int .u8) true)]⟩]⟩ else
  ⟨[], [], []⟩
def lib (f : Nat) : Option Callee :=
  bif Nat.beq f 16 then some ⟨⟨[.one (.ptr false (0, Bld.places) .bld), .one (.pub (.int .u8))], .val (.one .err)⟩, Bld.writeByteF⟩ else
  bif Nat.beq f 18 then some ⟨⟨[.one (.ptr false (0, Bld.places) .bld), .one (.pub .str)], .tup [.one (.pub (.int .i64)), .one .err]⟩, Bld.writeStringF⟩ else
  bif Nat.beq f 19 then some ⟨⟨[.one (.tak Bld.places)], .val (.one (.pub .str))⟩, Bld.stringF⟩ else
  bif Nat.beq f 38 then some ⟨⟨[.one (.pub .str), .one (.pub (.int .u8))], .val (.one (.pub (.int .i64)))⟩, Bld.indexByteF⟩ else
  none
noncomputable def S : Sys := { P := Try.prog, glob := fun _ => none, cl := 0, sig := sig, known := known, keep := keep, isCut := isCut, cut := cut, lib := lib }
theorem fns_ok : (fns.all S.fnOk) = true := by kernel_rfl

/-- spec.l1quote -/
def f15 (T : S.Tab) (t0 : List Int) : Option (List Int × Unit × Unit) := T.fn 15 (t0, ())
def l15_4 (T : S.Tab) (t0 : List Int) (t3 : List Int) (t4 : List Int) (t5 : Int) : Option ((List Int × Unit) ⊕ Empty) := T.pc 15 true 4 (t0, t3, t4, t5, ())
/-- spec.Quote -/
def f6 (T : S.Tab) (t0 : List Int) : Option (List Int × Unit × Unit) := T.fn 6 (t0, ())
/-- internal/stringslite.IndexByte -/
def f28 (T : S.Tab) (t0 : List Int) (t1 : Int) : Option (Int × Unit × Unit × Unit) := T.fn 28 (t0, t1, ())
/-- strings.IndexByte -/
def f17 (T : S.Tab) (t0 : List Int) (t1 : Int) : Option (Int × Unit × Unit × Unit) := T.fn 17 (t0, t1, ())
/-- impl.Quote -/
def f7 (T : S.Tab) (t0 : List Int) : Option (List Int × Unit × Unit) := T.fn 7 (t0, ())
def l7_6 (T : S.Tab) (t0 : List Int) (t3 : List Int) (t4 : Int) : Option ((List Int × Unit) ⊕ Empty) := T.pc 7 true 6 (t0, t3, t4, ())
/-- laws.FnExactQuote -/
def f4 (T : S.Tab) (t0 : List Int) : Option (Bool × Unit × Unit) := T.fn 4 (t0, ())

theorem f15_eq (T : S.Tab) (t0 : List Int) : f15 (S.step T) t0 =
  (l15_4 T t0 ([48, 49, 50, 51, 52, 53, 54, 55, 56, 57, 97, 98, 99, 100, 101, 102] : List Int) ([34] : List Int) (0 : Int)).bind (out1
    (fun (y4 : List Int × Unit) =>
      brk (fits (y4.1.length + 1)) (
      some ((y4.1 ++ ([34] : List Int)).map byte, (), ())) none))
  := show (S.step T).fn 15 (t0, ()) = _ from (Sys.step_fn (S := S) Try.func15 T (t0, ())).trans (by kernel_rfl)

theorem l15_4_eq (T : S.Tab) (t0 : List Int) (t3 : List Int) (t4 : List Int) (t5 : Int) : l15_4 (S.step T) t0 t3 t4 t5 =
  brk (decide (t5 < (t0.length : Int))) (
    brk (decide ((0 : Int) ≤ t5) && decide (t5 < (t0.length : Int))) (
    brk (decide (t0.getD t5.toNat 0 = (10 : Int))) (
      brk (fits (t4.length + 2)) (
      l15_4 T t0 t3 (t4 ++ ([92, 110] : List Int)) (IntKind.i64.wrap (t5 + (1 : Int)))) none) (
      brk (decide (t0.getD t5.toNat 0 = (9 : Int))) (
        brk (fits (t4.length + 2)) (
        l15_4 T t0 t3 (t4 ++ ([92, 116] : List Int)) (IntKind.i64.wrap (t5 + (1 : Int)))) none) (
        brk (decide (t0.getD t5.toNat 0 = (34 : Int))) (
          brk (fits (t4.length + ([(92 : Int), t0.getD t5.toNat 0] : List Int).length)) (
          l15_4 T t0 t3 (t4 ++ ([(92 : Int), t0.getD t5.toNat 0] : List Int)) (IntKind.i64.wrap (t5 + (1 : Int)))) none) (
          brk (decide (t0.getD t5.toNat 0 = (92 : Int))) (
            brk (fits (t4.length + ([(92 : Int), t0.getD t5.toNat 0] : List Int).length)) (
            l15_4 T t0 t3 (t4 ++ ([(92 : Int), t0.getD t5.toNat 0] : List Int)) (IntKind.i64.wrap (t5 + (1 : Int)))) none) (
            brk (decide (t0.getD t5.toNat 0 < (32 : Int))) (
              brk (decide ((0 : Int) ≤ (t0.getD t5.toNat 0).fdiv (2 ^ min ((4 : Int).toNat) IntKind.u8.bits)) && decide ((t0.getD t5.toNat 0).fdiv (2 ^ min ((4 : Int).toNat) IntKind.u8.bits) < (t3.length : Int))) (
              brk (decide ((0 : Int) ≤ intBits .and .u8 (t0.getD t5.toNat 0) (15 : Int)) && decide (intBits .and .u8 (t0.getD t5.toNat 0) (15 : Int) < (t3.length : Int))) (
              brk (fits (t4.length + ([(92 : Int), (120 : Int), t3.getD (((t0.getD t5.toNat 0).fdiv (2 ^ min ((4 : Int).toNat) IntKind.u8.bits)).toNat) 0, t3.getD ((intBits .and .u8 (t0.getD t5.toNat 0) (15 : Int)).toNat) 0] : List Int).length)) (
              l15_4 T t0 t3 (t4 ++ ([(92 : Int), (120 : Int), t3.getD (((t0.getD t5.toNat 0).fdiv (2 ^ min ((4 : Int).toNat) IntKind.u8.bits)).toNat) 0, t3.getD ((intBits .and .u8 (t0.getD t5.toNat 0) (15 : Int)).toNat) 0] : List Int)) (IntKind.i64.wrap (t5 + (1 : Int)))) none) none) none) (
              brk (decide ((126 : Int) < t0.getD t5.toNat 0)) (
                brk (decide ((0 : Int) ≤ (t0.getD t5.toNat 0).fdiv (2 ^ min ((4 : Int).toNat) IntKind.u8.bits)) && decide ((t0.getD t5.toNat 0).fdiv (2 ^ min ((4 : Int).toNat) IntKind.u8.bits) < (t3.length : Int))) (
                brk (decide ((0 : Int) ≤ intBits .and .u8 (t0.getD t5.toNat 0) (15 : Int)) && decide (intBits .and .u8 (t0.getD t5.toNat 0) (15 : Int) < (t3.length : Int))) (
                brk (fits (t4.length + ([(92 : Int), (120 : Int), t3.getD (((t0.getD t5.toNat 0).fdiv (2 ^ min ((4 : Int).toNat) IntKind.u8.bits)).toNat) 0, t3.getD ((intBits .and .u8 (t0.getD t5.toNat 0) (15 : Int)).toNat) 0] : List Int).length)) (
                l15_4 T t0 t3 (t4 ++ ([(92 : Int), (120 : Int), t3.getD (((t0.getD t5.toNat 0).fdiv (2 ^ min ((4 : Int).toNat) IntKind.u8.bits)).toNat) 0, t3.getD ((intBits .and .u8 (t0.getD t5.toNat 0) (15 : Int)).toNat) 0] : List Int)) (IntKind.i64.wrap (t5 + (1 : Int)))) none) none) none) (
                brk (fits (t4.length + ([t0.getD t5.toNat 0] : List Int).length)) (
                l15_4 T t0 t3 (t4 ++ ([t0.getD t5.toNat 0] : List Int)) (IntKind.i64.wrap (t5 + (1 : Int)))) none))))))) none) (
    some (Sum.inl (t4, ())))
  := show (S.step T).pc 15 true 4 (t0, t3, t4, t5, ()) = _ from (Sys.step_pc1 (S := S) (r := 4) Try.func15 rfl T (t0, t3, t4, t5, ())).trans (by kernel_rfl)

theorem f6_eq (T : S.Tab) (t0 : List Int) : f6 (S.step T) t0 =
  brk (decide ((4000 : Int) < (t0.length : Int))) (
    some (([] : List Int), (), ())) (
    (f15 T t0).bind fun (d7 : List Int × Unit × Unit) =>
    some (d7.1, (), ()))
  := show (S.step T).fn 6 (t0, ()) = _ from (Sys.step_fn (S := S) Try.func6 T (t0, ())).trans (by kernel_rfl)

theorem f28_eq (T : S.Tab) (t0 : List Int) (t1 : Int) : f28 (S.step T) t0 t1 =
  (Bld.indexByteF (t0, t1, ())).bind fun (d7 : Int × Unit × Unit × Unit) =>
  some (d7.1, (), (), ())
  := show (S.step T).fn 28 (t0, t1, ()) = _ from (Sys.step_fn (S := S) Try.func28 T (t0, t1, ())).trans (by kernel_rfl)

theorem f17_eq (T : S.Tab) (t0 : List Int) (t1 : Int) : f17 (S.step T) t0 t1 =
  (f28 T t0 t1).bind fun (d7 : Int × Unit × Unit × Unit) =>
  some (d7.1, (), (), ())
  := show (S.step T).fn 17 (t0, t1, ()) = _ from (Sys.step_fn (S := S) Try.func17 T (t0, t1, ())).trans (by kernel_rfl)

theorem f7_eq (T : S.Tab) (t0 : List Int) : f7 (S.step T) t0 =
  brk (decide ((4000 : Int) < (t0.length : Int))) (
    some (([] : List Int), (), ())) (
    (Bld.writeByteF (([] : List Int), (34 : Int), ())).bind fun (d10 : Bool × List Int × Unit × Unit) =>
    (l7_6 T t0 d10.2.1 (0 : Int)).bind (out1
      (fun (y6 : List Int × Unit) =>
        (Bld.writeByteF (y6.1, (34 : Int), ())).bind fun (d51 : Bool × List Int × Unit × Unit) =>
        (Bld.stringF (d51.2.1, ())).bind fun (d52 : List Int × Unit × Unit) =>
        some (d52.1, (), ()))))
  := show (S.step T).fn 7 (t0, ()) = _ from (Sys.step_fn (S := S) Try.func7 T (t0, ())).trans (by kernel_rfl)

theorem l7_6_eq (T : S.Tab) (t0 : List Int) (t3 : List Int) (t4 : Int) : l7_6 (S.step T) t0 t3 t4 =
  brk (decide (t4 < (t0.length : Int))) (
    brk (decide ((0 : Int) ≤ t4) && decide (t4 < (t0.length : Int))) (
    (f17 T ([10, 9, 34, 92] : List Int) (t0.getD t4.toNat 0)).bind fun (d21 : Int × Unit × Unit × Unit) =>
    brk (decide ((0 : Int) ≤ d21.1)) (
      (Bld.writeByteF (t3, (92 : Int), ())).bind fun (d24 : Bool × List Int × Unit × Unit) =>
      brk (decide ((0 : Int) ≤ d21.1) && decide (d21.1 < (4 : Int))) (
      (Bld.writeByteF (d24.2.1, ([110, 116, 34, 92] : List Int).getD d21.1.toNat 0, ())).bind fun (d27 : Bool × List Int × Unit × Unit) =>
      l7_6 T t0 d27.2.1 (IntKind.i64.wrap (t4 + (1 : Int)))) none) (
      brk (decide (t0.getD t4.toNat 0 < (32 : Int))) (
        brk (bounds 16 ((t0.getD t4.toNat 0).fdiv (2 ^ min ((4 : Int).toNat) IntKind.u8.bits)) (IntKind.u8.wrap (((t0.getD t4.toNat 0).fdiv (2 ^ min ((4 : Int).toNat) IntKind.u8.bits)) + (1 : Int)))) (
        brk (fits (2 + (sub ([48, 49, 50, 51, 52, 53, 54, 55, 56, 57, 97, 98, 99, 100, 101, 102] : List Int) ((t0.getD t4.toNat 0).fdiv (2 ^ min ((4 : Int).toNat) IntKind.u8.bits)) (IntKind.u8.wrap (((t0.getD t4.toNat 0).fdiv (2 ^ min ((4 : Int).toNat) IntKind.u8.bits)) + (1 : Int)))).length)) (
        brk (bounds 16 (intBits .and .u8 (t0.getD t4.toNat 0) (15 : Int)) (IntKind.u8.wrap ((intBits .and .u8 (t0.getD t4.toNat 0) (15 : Int)) + (1 : Int)))) (
        brk (fits ((([92, 120] : List Int) ++ (sub ([48, 49, 50, 51, 52, 53, 54, 55, 56, 57, 97, 98, 99, 100, 101, 102] : List Int) ((t0.getD t4.toNat 0).fdiv (2 ^ min ((4 : Int).toNat) IntKind.u8.bits)) (IntKind.u8.wrap (((t0.getD t4.toNat 0).fdiv (2 ^ min ((4 : Int).toNat) IntKind.u8.bits)) + (1 : Int))))).length + (sub ([48, 49, 50, 51, 52, 53, 54, 55, 56, 57, 97, 98, 99, 100, 101, 102] : List Int) (intBits .and .u8 (t0.getD t4.toNat 0) (15 : Int)) (IntKind.u8.wrap ((intBits .and .u8 (t0.getD t4.toNat 0) (15 : Int)) + (1 : Int)))).length)) (
        (Bld.writeStringF (t3, (([92, 120] : List Int) ++ (sub ([48, 49, 50, 51, 52, 53, 54, 55, 56, 57, 97, 98, 99, 100, 101, 102] : List Int) ((t0.getD t4.toNat 0).fdiv (2 ^ min ((4 : Int).toNat) IntKind.u8.bits)) (IntKind.u8.wrap (((t0.getD t4.toNat 0).fdiv (2 ^ min ((4 : Int).toNat) IntKind.u8.bits)) + (1 : Int))))) ++ (sub ([48, 49, 50, 51, 52, 53, 54, 55, 56, 57, 97, 98, 99, 100, 101, 102] : List Int) (intBits .and .u8 (t0.getD t4.toNat 0) (15 : Int)) (IntKind.u8.wrap ((intBits .and .u8 (t0.getD t4.toNat 0) (15 : Int)) + (1 : Int)))), ())).bind fun (d48 : (Int × Bool × Unit) × List Int × Unit × Unit) =>
        l7_6 T t0 d48.2.1 (IntKind.i64.wrap (t4 + (1 : Int)))) none) none) none) none) (
        brk (decide ((126 : Int) < t0.getD t4.toNat 0)) (
          brk (bounds 16 ((t0.getD t4.toNat 0).fdiv (2 ^ min ((4 : Int).toNat) IntKind.u8.bits)) (IntKind.u8.wrap (((t0.getD t4.toNat 0).fdiv (2 ^ min ((4 : Int).toNat) IntKind.u8.bits)) + (1 : Int)))) (
          brk (fits (2 + (sub ([48, 49, 50, 51, 52, 53, 54, 55, 56, 57, 97, 98, 99, 100, 101, 102] : List Int) ((t0.getD t4.toNat 0).fdiv (2 ^ min ((4 : Int).toNat) IntKind.u8.bits)) (IntKind.u8.wrap (((t0.getD t4.toNat 0).fdiv (2 ^ min ((4 : Int).toNat) IntKind.u8.bits)) + (1 : Int)))).length)) (
          brk (bounds 16 (intBits .and .u8 (t0.getD t4.toNat 0) (15 : Int)) (IntKind.u8.wrap ((intBits .and .u8 (t0.getD t4.toNat 0) (15 : Int)) + (1 : Int)))) (
          brk (fits ((([92, 120] : List Int) ++ (sub ([48, 49, 50, 51, 52, 53, 54, 55, 56, 57, 97, 98, 99, 100, 101, 102] : List Int) ((t0.getD t4.toNat 0).fdiv (2 ^ min ((4 : Int).toNat) IntKind.u8.bits)) (IntKind.u8.wrap (((t0.getD t4.toNat 0).fdiv (2 ^ min ((4 : Int).toNat) IntKind.u8.bits)) + (1 : Int))))).length + (sub ([48, 49, 50, 51, 52, 53, 54, 55, 56, 57, 97, 98, 99, 100, 101, 102] : List Int) (intBits .and .u8 (t0.getD t4.toNat 0) (15 : Int)) (IntKind.u8.wrap ((intBits .and .u8 (t0.getD t4.toNat 0) (15 : Int)) + (1 : Int)))).length)) (
          (Bld.writeStringF (t3, (([92, 120] : List Int) ++ (sub ([48, 49, 50, 51, 52, 53, 54, 55, 56, 57, 97, 98, 99, 100, 101, 102] : List Int) ((t0.getD t4.toNat 0).fdiv (2 ^ min ((4 : Int).toNat) IntKind.u8.bits)) (IntKind.u8.wrap (((t0.getD t4.toNat 0).fdiv (2 ^ min ((4 : Int).toNat) IntKind.u8.bits)) + (1 : Int))))) ++ (sub ([48, 49, 50, 51, 52, 53, 54, 55, 56, 57, 97, 98, 99, 100, 101, 102] : List Int) (intBits .and .u8 (t0.getD t4.toNat 0) (15 : Int)) (IntKind.u8.wrap ((intBits .and .u8 (t0.getD t4.toNat 0) (15 : Int)) + (1 : Int)))), ())).bind fun (d48 : (Int × Bool × Unit) × List Int × Unit × Unit) =>
          l7_6 T t0 d48.2.1 (IntKind.i64.wrap (t4 + (1 : Int)))) none) none) none) none) (
          (Bld.writeByteF (t3, t0.getD t4.toNat 0, ())).bind fun (d50 : Bool × List Int × Unit × Unit) =>
          l7_6 T t0 d50.2.1 (IntKind.i64.wrap (t4 + (1 : Int))))))) none) (
    some (Sum.inl (t3, ())))
  := show (S.step T).pc 7 true 6 (t0, t3, t4, ()) = _ from (Sys.step_pc1 (S := S) (r := 6) Try.func7 rfl T (t0, t3, t4, ())).trans (by kernel_rfl)

theorem f4_eq (T : S.Tab) (t0 : List Int) : f4 (S.step T) t0 =
  brk (decide ((1048576 : Int) < (t0.length : Int))) (
    some (true, (), ())) (
    (f6 T t0).bind fun (d9 : List Int × Unit × Unit) =>
    (f7 T t0).bind fun (d11 : List Int × Unit × Unit) =>
    brk (!decide (d11.1 = d9.1)) (
      some (false, (), ())) (
      some (true, (), ())))
  := show (S.step T).fn 4 (t0, ()) = _ from (Sys.step_fn (S := S) Try.func4 T (t0, ())).trans (by kernel_rfl)

end Go.Abs.Q
end

section
namespace Go.Abs.Q
open Go.Proofs

def hexs : List Int := [48, 49, 50, 51, 52, 53, 54, 55, 56, 57, 97, 98, 99, 100, 101, 102]

def esc (c : Int) : List Int :=
  if c = 10 then [92, 110] else if c = 9 then [92, 116] else if c = 34 then [92, 34] else if c = 92 then [92, 92]
  else if c < 32 ∨ 126 < c then [92, 120, hexs.getD (c / 16).toNat 0, hexs.getD (c % 16).toNat 0] else [c]

theorem esc_len (c : Int) : (esc c).length ≤ 4 := by
  unfold esc
  repeat' split
  all_goals simp

theorem spec_round (T : S.Tab) (t0 t4 : List Int) (i c : Int) (h0 : 0 ≤ i) (hi : i < t0.length) (hl : t0.length ≤ 4000) (hc : t0.getD i.toNat 0 = c) (hb : isByte c) (hf : t4.length + 4 ≤ lim) :
    l15_4 (S.step T) t0 hexs t4 i = l15_4 T t0 hexs (t4 ++ esc c) (i + 1) := by
  rw [l15_4_eq]
  obtain ⟨hb0, hb1⟩ := hb
  have w : IntKind.i64.wrap (i + 1) = i + 1 := wrap64 _ (by omega) (by omega)
  have hh : (hexs.length : Int) = 16 := rfl
  simp only [hc, shr4 c ⟨hb0, hb1⟩, and15 c ⟨hb0, hb1⟩, w, hh, brk_eq, h0, hi, decide_true, Bool.and_true, cond_true, List.length_cons, List.length_nil]
  have f4 : fits (t4.length + (0 + 1 + 1 + 1 + 1)) = true := fits_of (by omega)
  have f2 : fits (t4.length + (0 + 1 + 1)) = true := fits_of (by omega)
  have f2' : fits (t4.length + 2) = true := fits_of (by omega)
  have f1 : fits (t4.length + (0 + 1)) = true := fits_of (by omega)
  have a1 : (decide (0 ≤ c / 16) && decide (c / 16 < 16)) = true := by
    simp only [Bool.and_eq_true, decide_eq_true_eq]; omega
  have a2 : (decide (0 ≤ c % 16) && decide (c % 16 < 16)) = true := by
    simp only [Bool.and_eq_true, decide_eq_true_eq]; omega
  unfold esc
  by_cases h1 : c = 10
  · simp [h1, f2']
  by_cases h2 : c = 9
  · simp [h2, f2']
  by_cases h3 : c = 34
  · simp [h3, f2]
  by_cases h4 : c = 92
  · simp [h4, f2]
  by_cases h5 : c < 32
  · simp only [h1, h2, h3, h4, h5, a1, a2, f4, decide_true, decide_false, cond_true, cond_false, if_true, if_false, true_or]
  by_cases h6 : 126 < c
  · simp only [h1, h2, h3, h4, h5, h6, a1, a2, f4, decide_true, decide_false, cond_true, cond_false, if_true, if_false, or_true]
  · simp only [h1, h2, h3, h4, h5, h6, f1, decide_false, cond_true, cond_false, if_false, or_self]

theorem sub_one (l : List Int) (x : Int) (h0 : 0 ≤ x) (h1 : x < l.length) : sub l x (x + 1) = [l.getD x.toNat 0] := by
  unfold sub
  have e : (x + 1).toNat = x.toNat + 1 := by omega
  have hl : x.toNat < l.length := by omega
  rw [e, List.getD_eq_getElem?_getD, List.getElem?_eq_getElem hl, Option.getD_some]
  apply List.ext_getElem?
  intro j
  rw [List.getElem?_drop, List.getElem?_take]
  cases j with
  | zero => rw [if_pos (by omega)]; simp [hl]
  | succ j => rw [if_neg (by omega)]; simp

theorem find_esc (c : Int) : Bld.idx [10, 9, 34, 92] c 0 = if c = 10 then 0 else if c = 9 then 1 else if c = 34 then 2 else if c = 92 then 3 else -1 := by
  simp only [Bld.idx]
  repeat' split
  all_goals simp_all [eq_comm]

theorem impl_round (T : S.Tab) (t0 t3 : List Int) (i c : Int) (h0 : 0 ≤ i) (hi : i < t0.length) (hl : t0.length ≤ 4000) (hc : t0.getD i.toNat 0 = c) (hb : isByte c) (hf : t3.length + 4 ≤ lim)
    (h17 : f17 T [10, 9, 34, 92] c = some (Bld.idx [10, 9, 34, 92] c 0, (), (), ())) :
    l7_6 (S.step T) t0 t3 i = l7_6 T t0 (t3 ++ esc c) (i + 1) := by
  rw [l7_6_eq]
  obtain ⟨hb0, hb1⟩ := hb
  have w : IntKind.i64.wrap (i + 1) = i + 1 := wrap64 _ (by omega) (by omega)
  have hd : ([48, 49, 50, 51, 52, 53, 54, 55, 56, 57, 97, 98, 99, 100, 101, 102] : List Int) = hexs := rfl
  have hh : (hexs.length : Int) = 16 := rfl
  have w1 : IntKind.u8.wrap (c / 16 + 1) = c / 16 + 1 := wrap8 _ (by omega) (by omega)
  have w2 : IntKind.u8.wrap (c % 16 + 1) = c % 16 + 1 := wrap8 _ (by omega) (by omega)
  have s1 : sub hexs (c / 16) (c / 16 + 1) = [hexs.getD (c / 16).toNat 0] := sub_one _ _ (by omega) (by omega)
  have s2 : sub hexs (c % 16) (c % 16 + 1) = [hexs.getD (c % 16).toNat 0] := sub_one _ _ (by omega) (by omega)
  have b1 : bounds 16 (c / 16) (c / 16 + 1) = true := by
    unfold bounds
    simp only [Bool.and_eq_true, decide_eq_true_eq]; omega
  have b2 : bounds 16 (c % 16) (c % 16 + 1) = true := by
    unfold bounds
    simp only [Bool.and_eq_true, decide_eq_true_eq]; omega
  have f3 : fits (2 + 1) = true := rfl
  have f4 : fits (([92, 120] ++ [hexs.getD (c / 16).toNat 0]).length + 1) = true := rfl
  have g1 : fits (t3.length + 1) = true := fits_of (by omega)
  have g1' : ∀ x, fits ((t3 ++ [x]).length + 1) = true := fun x => fits_of (by simp; omega)
  have g4 : ∀ x y : Int, fits (t3.length + ([92, 120] ++ [x] ++ [y]).length) = true := fun x y => fits_of (by simp; omega)
  simp only [hc, hd, shr4 c ⟨hb0, hb1⟩, and15 c ⟨hb0, hb1⟩, w, w1, w2, s1, s2, b1, b2, brk_eq, h0, hi, decide_true, Bool.and_true, cond_true, h17, find_esc, List.length_singleton, f3, f4, Bld.writeByteF, Bld.writeStringF, g1, g1', g4, Option.bind_some]
  unfold esc
  by_cases h1 : c = 10
  · simp [h1]
  by_cases h2 : c = 9
  · simp [h2]
  by_cases h3 : c = 34
  · simp [h3]
  by_cases h4 : c = 92
  · simp [h4]
  by_cases h5 : c < 32
  · simp [h1, h2, h3, h4, h5]
  by_cases h6 : 126 < c
  · simp [h1, h2, h3, h4, h5, h6]
  · simp [h1, h2, h3, h4, h5, h6]

def quoteM (s : List Int) : List Int := if 4000 < s.length then [] else [34] ++ s.flatMap esc ++ [34]

theorem spec_loop : ∀ (l pre t4 : List Int), (∀ c ∈ l, isByte c) → (pre ++ l).length ≤ 4000 → t4.length + 4 * l.length ≤ 30000 →
    Evt fun n => l15_4 (S.tab n) (pre ++ l) hexs t4 (pre.length : Int) = some (Sum.inl (t4 ++ l.flatMap esc, ()))
  | [], pre, t4, _, hl, _ => Evt.up (Evt.of (p := fun _ => True) fun _ => trivial) fun n _ => by
    show l15_4 (S.step (S.tab n)) _ _ _ _ = _
    rw [l15_4_eq, brkF (by simp)]
    simp
  | c :: l, pre, t4, hb, hl, hf => by
    have hlen : (pre ++ c :: l).length = pre.length + (l.length + 1) := by simp
    have e4 := esc_len c
    have ih := spec_loop l (pre ++ [c]) (t4 ++ esc c) (fun x hx => hb x (List.mem_cons_of_mem _ hx)) (by simp at hl ⊢; omega) (by simp at hf ⊢; omega)
    refine ih.up fun n h => ?_
    show l15_4 (S.step (S.tab n)) _ _ _ _ = _
    rw [spec_round (S.tab n) _ t4 (pre.length : Int) c (by omega) (by omega) hl (getD_cut pre c l 0) (hb c (List.mem_cons_self ..)) (by simp [lim] at hf ⊢; omega)]
    rw [List.append_assoc] at h
    simp only [List.length_append, List.length_singleton, List.singleton_append] at h
    push_cast at h
    rw [h, List.flatMap_cons, List.append_assoc]

theorem idx_ok (c : Int) (h : isByte c) : Evt fun n => f17 (S.tab n) [10, 9, 34, 92] c = some (Bld.idx [10, 9, 34, 92] c 0, (), (), ()) :=
  Evt.up (Evt.up (Evt.of (p := fun _ => True) fun _ => trivial) (q := fun n => f28 (S.tab n) [10, 9, 34, 92] c = some (Bld.idx [10, 9, 34, 92] c 0, (), (), ())) fun n _ => by
    show f28 (S.step (S.tab n)) _ _ = _
    rw [f28_eq, Bld.indexByteF, byte_of h]
    rfl) fun n h => by
    show f17 (S.step (S.tab n)) _ _ = _
    rw [f17_eq, h]
    rfl

theorem impl_loop : ∀ (l pre t3 : List Int), (∀ c ∈ l, isByte c) → (pre ++ l).length ≤ 4000 → t3.length + 4 * l.length ≤ 30000 →
    Evt fun n => l7_6 (S.tab n) (pre ++ l) t3 (pre.length : Int) = some (Sum.inl (t3 ++ l.flatMap esc, ()))
  | [], pre, t3, _, hl, _ => Evt.up (Evt.of (p := fun _ => True) fun _ => trivial) fun n _ => by
    show l7_6 (S.step (S.tab n)) _ _ _ = _
    rw [l7_6_eq, brkF (by simp)]
    simp
  | c :: l, pre, t3, hb, hl, hf => by
    have hlen : (pre ++ c :: l).length = pre.length + (l.length + 1) := by simp
    have e4 := esc_len c
    have ih := impl_loop l (pre ++ [c]) (t3 ++ esc c) (fun x hx => hb x (List.mem_cons_of_mem _ hx)) (by simp at hl ⊢; omega) (by simp at hf ⊢; omega)
    refine (ih.and (idx_ok c (hb c (List.mem_cons_self ..)))).up fun n ⟨h, h17⟩ => ?_
    show l7_6 (S.step (S.tab n)) _ _ _ = _
    rw [impl_round (S.tab n) _ t3 (pre.length : Int) c (by omega) (by omega) hl (getD_cut pre c l 0) (hb c (List.mem_cons_self ..)) (by simp [lim] at hf ⊢; omega) h17]
    rw [List.append_assoc] at h
    simp only [List.length_append, List.length_singleton, List.singleton_append] at h
    push_cast at h
    rw [h, List.flatMap_cons, List.append_assoc]

theorem esc_bytes (c : Int) (h : isByte c) : ∀ x ∈ esc c, isByte x := by
  have hx : ∀ n : Nat, isByte (hexs.getD n 0) := by
    intro n
    rw [List.getD_eq_getElem?_getD]
    cases e : hexs[n]? with
    | none => exact ⟨by decide, by decide⟩
    | some v =>
      have := List.mem_of_getElem? e
      have hall : ∀ v ∈ hexs, 0 ≤ v ∧ v < 256 := by decide
      exact hall v this
  intro x hx'
  unfold esc at hx'
  repeat' split at hx'
  all_goals simp only [List.mem_cons, List.not_mem_nil, or_false] at hx'
  all_goals rcases hx' with rfl | rfl | rfl | rfl
  all_goals first | exact hx _ | exact h | exact ⟨by omega, by omega⟩

theorem flat_len (l : List Int) : (l.flatMap esc).length ≤ 4 * l.length := by
  induction l with
  | nil => simp
  | cons c l ih =>
    have := esc_len c
    rw [List.flatMap_cons, List.length_append, List.length_cons]; omega

theorem spec_quote (s : List Int) (hb : ∀ c ∈ s, isByte c) : Evt fun n => f6 (S.tab n) s = some (quoteM s, (), ()) := by
  by_cases hl : 4000 < s.length
  · exact Evt.up (Evt.of (p := fun _ => True) fun _ => trivial) fun n _ => by
      show f6 (S.step (S.tab n)) _ = _
      rw [f6_eq, brkT (by simp; omega)]
      simp [quoteM, hl]
  · have h15 : Evt fun n => f15 (S.tab n) s = some (quoteM s, (), ()) := by
      refine (spec_loop s [] [34] hb (by simpa using hl) (by simp; omega)).up fun n h => ?_
      show f15 (S.step (S.tab n)) _ = _
      have h' : l15_4 (S.tab n) s [48, 49, 50, 51, 52, 53, 54, 55, 56, 57, 97, 98, 99, 100, 101, 102] [34] 0 = some (Sum.inl ([34] ++ s.flatMap esc, ())) := h
      have := flat_len s
      rw [f15_eq, h']
      simp only [Option.bind_some, out1, Sum.elim_inl]
      rw [brkT (fits_of (by simp only [lim, List.length_append, List.length_singleton]; omega)), map_byte]
      · simp [quoteM, hl]
      · intro c hc
        simp only [List.mem_append, List.mem_cons, List.not_mem_nil, or_false, List.mem_flatMap] at hc
        rcases hc with (rfl | ⟨a, ha, hc⟩) | rfl
        · exact ⟨by decide, by decide⟩
        · exact esc_bytes a (hb a ha) c hc
        · exact ⟨by decide, by decide⟩
    refine h15.up fun n h => ?_
    show f6 (S.step (S.tab n)) _ = _
    rw [f6_eq, brkF (by simp; omega), h]
    rfl

theorem impl_quote (s : List Int) (hb : ∀ c ∈ s, isByte c) : Evt fun n => f7 (S.tab n) s = some (quoteM s, (), ()) := by
  by_cases hl : 4000 < s.length
  · exact Evt.up (Evt.of (p := fun _ => True) fun _ => trivial) fun n _ => by
      show f7 (S.step (S.tab n)) _ = _
      rw [f7_eq, brkT (by simp; omega)]
      simp [quoteM, hl]
  · refine (impl_loop s [] [34] hb (by simpa using hl) (by simp; omega)).up fun n h => ?_
    show f7 (S.step (S.tab n)) _ = _
    have h' : l7_6 (S.tab n) s [34] 0 = some (Sum.inl ([34] ++ s.flatMap esc, ())) := h
    have := flat_len s
    rw [f7_eq, brkF (by simp; omega)]
    have w0 : Bld.writeByteF ([], 34, ()) = some (true, [34], (), ()) := rfl
    have w1 : Bld.writeByteF ([34] ++ s.flatMap esc, 34, ()) = some (true, [34] ++ s.flatMap esc ++ [34], (), ()) := by
      show (bif fits _ then _ else _) = _
      rw [fits_of (by simp only [lim, List.length_append, List.length_singleton]; omega)]; rfl
    have hby : ∀ c ∈ [34] ++ s.flatMap esc ++ [34], isByte c := by
      intro c hc
      simp only [List.mem_append, List.mem_cons, List.not_mem_nil, or_false, List.mem_flatMap] at hc
      rcases hc with (rfl | ⟨a, ha, hc⟩) | rfl
      · exact ⟨by decide, by decide⟩
      · exact esc_bytes a (hb a ha) c hc
      · exact ⟨by decide, by decide⟩
    have w2 : Bld.stringF ([34] ++ s.flatMap esc ++ [34], ()) = some ([34] ++ s.flatMap esc ++ [34], (), ()) := by
      show (bif fits _ then _ else _) = _
      rw [fits_of (by simp only [lim, List.length_append, List.length_singleton]; omega)]
      show some (List.map byte _, (), ()) = _
      rw [map_byte hby]
    simp only [w0, Option.bind_some, h', out1, Sum.elim_inl, w1, w2]
    simp [quoteM, hl]

theorem law (s : List Int) (hb : ∀ c ∈ s, isByte c) : Evt fun n => f4 (S.tab n) s = some (true, (), ()) :=
  ((spec_quote s hb).and (impl_quote s hb)).up fun n ⟨h6, h7⟩ => by
    show f4 (S.step (S.tab n)) _ = _
    rw [f4_eq, h6, h7, brk_eq]
    simp only [Option.bind_some, brk_eq, decide_true, Bool.not_true, cond_false]
    cases decide ((1048576 : Int) < (s.length : Int)) <;> rfl

end Go.Abs.Q
end

section
namespace Go.Proofs.Ytjjcobfhgfcfjaa.fnExactQuote
open Go.ChangeShapes Go.WideShapes Go.ChangeAt Go.RowKit
open Go.ChangeMaps (open_string shut_string)

theorem sys : ∀ n, Abs.Sys.TabOk Abs.Q.S (Abs.Q.S.tab n) := by
  refine Abs.Sys.ok (by kernel_rfl) (fun f hf => Abs.Sys.fns_all Abs.Q.fns_ok hf) (fun f c hf hl => ?_)
  · have hl : Abs.Q.lib f = some c := hl
    unfold Abs.Q.lib at hl
    cases h1 : Nat.beq f 16 with
    | true => have := Abs.beq_eq h1; subst this; injection hl with hl; subst hl; exact Abs.Bld.writeByte_ok _
    | false =>
    rw [h1] at hl
    cases h1 : Nat.beq f 18 with
    | true => have := Abs.beq_eq h1; subst this; injection hl with hl; subst hl; exact Abs.Bld.writeString_ok _
    | false =>
    rw [h1] at hl
    cases h1 : Nat.beq f 19 with
    | true => have := Abs.beq_eq h1; subst this; injection hl with hl; subst hl; exact Abs.Bld.string_ok _
    | false =>
    rw [h1] at hl
    cases h1 : Nat.beq f 38 with
    | true => have := Abs.beq_eq h1; subst this; injection hl with hl; subst hl; exact Abs.Bld.indexByte_ok _
    | false =>
    rw [h1] at hl
    cases hl

theorem walk (a0 : ByteArray) (W : World) : Calls Try.prog 4 #[.string a0] W fun e w' => e = .returned (.bool true) ∧ Below W.heap.size W w' := by
  obtain ⟨N, h⟩ := Abs.Q.law (Abs.bytesOf a0) (Abs.isByte_bytesOf a0)
  have hok := (sys N).fn 4 (by kernel_rfl) (Abs.bytesOf a0, ()) (true, (), ()) (h N (Nat.le_refl N)) (fun _ => none) W [.string a0] [] (fun k c hk => by cases hk) (fun b L hb => by cases hb)
    ⟨_, _, [], [], rfl, rfl, ⟨rfl, rfl, rfl, _, rfl, a0, rfl, rfl⟩, rfl, rfl⟩ List.nodup_nil (fun b hb => by simp at hb)
  refine (Abs.calls_of_invokes Try.func4 rfl (by kernel_rfl) hok).mono ?_
  rintro e w' ⟨v, rfl, imm', n1, n2, A, ⟨_, h1, _, u, e2, h2⟩, h3⟩
  injection e2 with e2 _
  subst e2
  have h2 : [v] = [Value.bool true] := h2
  injection h2 with h2 _
  subst h2
  obtain ⟨_, _, m1, m2, _, e3, h4, _, _, m3, m4, _, _⟩ := h3
  exact ⟨rfl, A.below⟩

theorem own : ownKnob Try.prog.godebug = none := by kernel_rfl
set_option maxRecDepth 100000 in
theorem lifted (os : Os) (started : os.Started) (H : Type) (enc : TypeId × Value → H) :
    ReturnsInHanded {} Try.checked os 4 .any (Rows.fnExactQuoteSpec.pre6 enc Try.prog Try.f4 Rows.fnExactQuoteRow.domain false) (Rows.fnExactQuoteSpec.post enc Try.prog Try.f4 false true false false) := by
  refine returnsInHanded_of_change_sized (C := Try.checked) own started (by kernel_rfl) Try.func4
    (ChangeSpec.witness6 (enc := enc) (C := Try.checked) false ⟨#[], #[.string ByteArray.empty], []⟩ 8 (by kernel_rfl) (by kernel_rfl) (by kernel_rfl) (by kernel_rfl)) ?_
  intro W base args ds gs before hval0 hW hcnd hsz0 _
  have hval : ∀ (j : Nat) t v, Try.f4.params[j]? = some t → args[j]? = some v → Value.okWide Try.prog W .any base t v := hval0
  have hW' := hW
  obtain ⟨p, q, hA0, hV, rfl, hfz, hnd⟩ := hW
  have hA : DataW.TrodAll enc Try.prog W 0 (fun _ => true) true Try.f4.params.toList args.toList ds p := hA0
  rw [Try.params4] at hA hval
  obtain ⟨v0, vs0, d0, ds0, p0, q0, hargs, rfl, rfl, h0, r0⟩ := trodAll_cons hA
  obtain ⟨rfl, rfl, rfl⟩ := trodAll_nil r0
  obtain rfl : args = #[v0] := by cases args; simp_all
  obtain ⟨rfl, rfl⟩ := trodVars_none hV
  obtain ⟨a0, rfl, rfl, rfl, y0⟩ := open_string Try.underlying9 (hval 0 9 v0 rfl rfl) h0
  clear hA0 hval0
  refine (walk a0 W).mono fun e W' ⟨he, bel⟩ => ?_
  subst he
  exact ⟨_, rfl, _, _, _, [], _, [], hW', trodAll_mk1 (shut_bool Try.underlying4 _), (trodAll_cons_mk (shut_string Try.underlying9 y0) trodAll_mk0), rfl, bel.frame _, fun h => by cases h⟩

theorem over : Rows.fnExactQuoteRow.holds Try.pinned (OpenSpec.ofChange Rows.fnExactQuoteSpec) :=
  OpenClaim.holds_of_wide 4 Try.f4 rfl rfl rfl rfl rfl rfl rfl ⟨rfl, rfl, rfl, rfl, rfl⟩ rfl rfl rfl rfl rfl (by kernel_rfl) Try.func4 (by kernel_rfl)
    (of_decide_eq_true (by kernel_rfl)) (by unfold Func.isWrapper; first | (rw [if_pos (by decide +kernel)]; kernel_rfl) | (rw [if_neg (by decide +kernel)]; exact ⟨rfl, rfl⟩))
    (fun os started H enc _ => lifted os started H enc)
end Go.Proofs.Ytjjcobfhgfcfjaa.fnExactQuote
namespace Go.Proofs.Ytjjcobfhgfcfjaa
theorem fnExactQuote_holds : Rows.FnExactQuoteSaid := fnExactQuote.over
end Go.Proofs.Ytjjcobfhgfcfjaa
#print axioms Go.Proofs.Ytjjcobfhgfcfjaa.fnExactQuote_holds
end
