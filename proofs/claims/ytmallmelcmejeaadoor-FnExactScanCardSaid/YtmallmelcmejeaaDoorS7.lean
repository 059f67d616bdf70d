/- What is here: WriteByte, WriteString and String of strings.Builder, at any place of a box, as contracts. What is here: String of strings.Builder at any place of a box. What is here: the contracts of strings.Builder's functions. What is here: the numbers of the library's functions in this program, and that they are laid as the kit's shelf wants them. What is here: contracts of strconv.ParseInt and strconv.FormatInt, from the kit's shelf. What is proved: FnExactScan answers true at every string; the package variables are as the program's text lays them. -/
import Derived.Test.YtmallmelcmejeaaDoorS6
import Derived.Lib.AppendStr
import Derived.Lib.UnsafeStr
import Derived.Shelf.Strconv.ParseIntPublic10
import Derived.Shelf.Strconv.Itoa4
import Derived.Test.YtmallmelcmejeaaDoorProg
import Derived.KernelRfl
import Derived.Test.YtmallmelcmejeaaDoorCards
import Derived.WalkKit
import Derived.ProofKit
import Derived.OpenShut
import Derived.ShutString
import Derived.ChangeOld
import Derived.Below
import Derived.SizedLaws
import Derived.LaidMore
import Derived.Lay
import Derived.SevenTiedAt
import Derived.Stop.Joined
set_option linter.unusedVariables false
set_option linter.unusedSimpArgs false
set_option maxRecDepth 100000
section
namespace Go.Abs.Bld
open Go.Proofs

theorem setCell_self {w : World} {b k : Nat} {arr : Array Value} {ty : TypeId} {v : Value} (h : w.heap[b]? = some (.cells arr ty (0, 0))) (hv : arr[k]? = some v) : w.setCell ⟨b, k, none⟩ v = w := by
  have : w.heap.modify b (fun | .cells c elem frozen => .cells (c.setIfInBounds k v) elem frozen | o => o) = w.heap := by
    apply Array.ext_getElem?
    intro i
    rw [Array.getElem?_modify]
    by_cases e : b = i
    · subst e
      rw [if_pos rfl, h]
      simp only [Option.map_some]
      have : arr.setIfInBounds k v = arr := by
        apply Array.ext_getElem?
        intro j
        rw [Array.getElem?_setIfInBounds]
        by_cases e : k = j
        · subst e
          rw [if_pos rfl, hv]
          split
          · rfl
          · rename_i hlt
            rw [Array.getElem?_eq_none (by omega)] at hv; cases hv
        · rw [if_neg e]
      rw [this]
    · rw [if_neg e]
  show { w with heap := _ } = w
  exact congrArg (fun h => { w with heap := h }) this

/-- Cells of a builder at its place. -/
theorem bld_cells {arr : Array Value} {o : Nat} {x y : Value} (h : (arr.toList.drop o).take 2 = [x, y]) : arr[o]? = some x ∧ arr[o + 1]? = some y := by
  have h0 := congrArg (·[0]?) h
  have h1 := congrArg (·[1]?) h
  simp only [List.getElem?_take, List.getElem?_drop] at h0 h1
  simp at h0 h1
  exact ⟨h0, h1⟩

theorem copyCheck {imm : Rd} {b o ty : Nat} {arr : Array Value} {w : World} {xs : List Int} {nb : List Nat} (ha : w.heap[b]? = some (.cells arr ty (0, 0))) (hok : okIn places ty o arr.size = true) (hB : BldAt imm w (b, o) xs ((arr.toList.drop o).take 2) nb) :
    Calls Tryd.prog 55 #[.pointer (some ⟨b, o, none⟩)] w fun e w' => e = .returned (.tuple #[]) ∧ w' = w.setCell ⟨b, o, none⟩ (.pointer (some ⟨b, o, none⟩)) := by
  rcases hB with ⟨h1, h2, h3⟩ | ⟨u2, h1, h2, h4⟩
  · obtain ⟨c0, c1⟩ := bld_cells h1
    exact copyCheck_fresh b o ty arr.size w (by rw [Lib.cell_of_heap ha, c0]) (by simp [World.shape?, ha]) (Lib.frozen_of_heap ha o) hok
  · obtain ⟨c0, c1⟩ := bld_cells h1
    refine (copyCheck_used b o w (by rw [Lib.cell_of_heap ha, c0])).mono ?_
    rintro e w' ⟨rfl, rfl⟩
    exact ⟨rfl, (setCell_self ha c0).symm⟩

noncomputable def byteInfo : TypeInfo := match Tryd.prog.info? 5 with
  | some i => i
  | none => default

theorem byteInfo_eq : Tryd.prog.info? 5 = some byteInfo := by kernel_rfl

def Appended (imm : Rd) (w1 : World) (nb : List Nat) (xs : List Int) (v : Value) (w' : World) : Prop := ∃ nb', After imm w1 nb imm w' nb' ∧ OwnAt imm w' false (.int .u8) xs [v] nb' ∧ ∀ b ∈ nb', ∃ arr, w'.heap[b]? = some (.cells arr byteTy (0, 0))

/-- What a write leaves. -/
def Written (imm : Rd) (w : World) (b o ty : Nat) (arr : Array Value) (nb : List Nat) (xs : List Int) (w' : World) : Prop := ∃ nb' arr' v, After imm w (b :: nb) imm w' (b :: nb') ∧ w'.heap[b]? = some (.cells arr' ty (0, 0)) ∧
  arr'.toList = arr.toList.take o ++ [.pointer (some ⟨b, o, none⟩), v] ++ arr.toList.drop (o + 2) ∧ OwnAt imm w' false (.int .u8) xs [v] nb' ∧ ∀ b ∈ nb', ∃ arr, w'.heap[b]? = some (.cells arr byteTy (0, 0))

set_option maxHeartbeats 2000000 in
set_option maxRecDepth 100000 in
theorem writeByte {imm : Rd} {b o ty : Nat} {arr : Array Value} {w : World} {xs : List Int} {nb : List Nat} (c : Int) (ha : w.heap[b]? = some (.cells arr ty (0, 0))) (hle : o + 2 ≤ arr.size) (hok : okIn places ty o arr.size = true)
    (hB : BldAt imm w (b, o) xs ((arr.toList.drop o).take 2) nb) (hn : (b :: nb).Nodup) (hi : ∀ y ∈ b :: nb, imm y = none ∧ y < w.heap.size) (hc : ∀ b L, imm b = some L → ∃ arr ty fr, w.heap[b]? = some (.cells arr ty fr) ∧ arr.toList = L)
    (hfit : xs.length + 1 ≤ 1099511627776) :
    Calls Tryd.prog 27 #[.pointer (some ⟨b, o, none⟩), .int .u8 c] w fun e w' => e = .returned .nilIface ∧ Written imm w b o ty arr nb (xs ++ [c]) w' := by
  go_enter Tryd.func27, Tryd.ntmps27
  go_wp2_with (go_at_call 55; refine (copyCheck ha hok hB).mono ?_)
  rintro e w1 ⟨rfl, e1⟩
  obtain ⟨u, hu, hO, hty⟩ : ∃ u, arr[o + 1]? = some u ∧ OwnAt imm w false (.int .u8) xs [u] nb ∧ ∀ b ∈ nb, ∃ arr, w.heap[b]? = some (.cells arr byteTy (0, 0)) := by
    rcases hB with ⟨h1, h2, h3⟩ | ⟨u2, h1, h2, h3⟩
    · exact ⟨_, (bld_cells h1).2, .inl ⟨rfl, h2, h3⟩, fun y hy => by rw [h3] at hy; simp at hy⟩
    · exact ⟨_, (bld_cells h1).2, h2, h3⟩
  obtain ⟨s1, s2, s3⟩ := setCell_box (k := o) ha (.pointer (some ⟨b, o, none⟩))
  rw [← e1] at s1 s2 s3
  have hnb := List.nodup_cons.1 hn
  have hO1 : OwnAt imm w1 false (.int .u8) xs [u] nb := hO.other fun y hy => s2 y fun e => hnb.1 (e ▸ hy)
  have hty1 : ∀ y ∈ nb, ∃ arr, w1.heap[y]? = some (.cells arr byteTy (0, 0)) := fun y hy => by
    obtain ⟨a, k⟩ := hty y hy
    exact ⟨a, by rw [s2 y fun e => hnb.1 (e ▸ hy)]; exact k⟩
  have hi1 : ∀ y ∈ nb, imm y = none ∧ y < w1.heap.size := fun y hy => ⟨(hi y (List.mem_cons_of_mem _ hy)).1, by rw [s3]; exact (hi y (List.mem_cons_of_mem _ hy)).2⟩
  have c1 : w1.cell? ⟨b, o + 1, none⟩ = some u := by
    rw [Lib.cell_of_heap s1, Array.getElem?_setIfInBounds, if_neg (by omega)]; exact hu
  have hc1 : ∀ b L, imm b = some L → ∃ arr ty fr, w1.heap[b]? = some (.cells arr ty fr) ∧ arr.toList = L := fun y L h => by
    rw [s2 y fun e => by rw [e, (hi b (List.mem_cons_self ..)).1] at h; cases h]; exact hc y L h
  have hnew : (w1.alloc (.cells #[.int .u8 c] 5)).heap[w1.heap.size]? = some (.cells #[.int .u8 c] 5 (0, 0)) := by
    show (w1.heap.push _)[w1.heap.size]? = _
    rw [Array.getElem?_push, if_pos rfl]
  have hold : ∀ {y : Nat} {x : Go.Obj}, w1.heap[y]? = some x → (w1.alloc (.cells #[.int .u8 c] 5)).heap[y]? = some x := fun {y x} k => by
    have := lt_of_heap k
    show (w1.heap.push _)[y]? = _
    rw [Array.getElem?_push, if_neg (by omega)]; exact k
  have hr : ∃ v w', (Builtin.append_ #[22, 22] 22 #[u, .slice (some ⟨w1.heap.size, 0, none⟩) 1 1]).run Tryd.prog (w1.alloc (.cells #[.int .u8 c] 5)) = .ok v w' ∧ Appended imm w1 nb (xs ++ [c]) v w' := by
    obtain ⟨v, w', nb', h1, h2, h3, h4⟩ := app_after (P := Tryd.prog) (t := 22) (tx := 22) (ty := 22) (e := 5) (ys := [c]) (i := byteInfo) (z := .int .u8 0) (by kernel_rfl) byteInfo_eq (by kernel_rfl) (by kernel_rfl) (Nat.le_of_ble_eq_true (by kernel_rfl)) rfl (hO1.alloc (fun y hy => (hi1 y hy).2) (.cells #[.int .u8 c] 5))
      (Src.ofSlice (P := Tryd.prog) (w := w1.alloc (.cells #[.int .u8 c] 5)) (e' := 5) (by kernel_rfl) ⟨w1.heap.size, 0, none⟩ 1 1 [.int .u8 c] rfl (fun j x hj => by
        rw [Addr.add_lit, Lib.cell_of_heap hnew]
        match j, hj with
        | 0, hj => simpa using hj) (fun x hx => by
        have : x = .int .u8 c := by simpa using hx
        subst this; rfl)) hfit (fun y L h => by
        obtain ⟨a, t, f, k1, k2⟩ := hc1 y L h
        exact ⟨a, t, f, hold k1, k2⟩) (fun y hy => ⟨(hi1 y hy).1, by
          have := (hi1 y hy).2
          show y < (w1.heap.push _).size
          simp; omega⟩) (fun y hy => by
        obtain ⟨a, k⟩ := hty1 y hy
        exact ⟨a, hold k⟩)
    exact ⟨v, w', h1, nb', h2.ofAlloc (fun y L h => by obtain ⟨a, t, f, k1, k2⟩ := hc1 y L h; exact lt_of_heap k1), h3, h4⟩
  have e1' : ∃ _ : True, w1 = w.setCell ⟨b, o, none⟩ (.pointer (some ⟨b, o, none⟩)) ∧ w1.heap.size = w.heap.size := ⟨trivial, e1, s3⟩
  clear e1 s3
  go_wp2_with (at_builtin; refine wpList_run_append rfl _ _ 22 22 rfl _ _ rfl rfl _ hr ?_)
  rintro v w2 ⟨nb1, A, hO2, hty2⟩
  obtain ⟨_, e1, s3⟩ := e1'
  obtain ⟨B1, B2, arr', B3, B4, B5, B6⟩ := bld_write ha hle hn hi hc e1 A hO2
  have hty3 : ∀ y ∈ nb1, ∃ arr, (w2.setCell ⟨b, o + 1, none⟩ v).heap[y]? = some (.cells arr byteTy (0, 0)) := fun y hy => by
    obtain ⟨a, k⟩ := hty2 y hy
    exact ⟨a, by rw [(setCell_box (k := o + 1) B6 v).2.1 y fun e => B2 (e ▸ hy)]; exact k⟩
  obtain ⟨ao, n', cap, rfl⟩ : ∃ ao n' cap, v = .slice ao n' cap := by
    rcases hO2 with ⟨h1, _⟩ | ⟨b', cap, arr', ty', nb', h1, _⟩
    · injection h1 with h1 _; exact ⟨_, _, _, h1⟩
    · injection h1 with h1 _; exact ⟨_, _, _, h1⟩
  have d1 : w2.cell? ⟨b, o + 1, none⟩ = some u := by
    rw [Lib.cell_of_heap B6, Array.getElem?_setIfInBounds, if_neg (by omega)]; exact hu
  have f1 : w2.frozen? ⟨b, o + 1, none⟩ = false := Lib.frozen_of_heap B6 (o + 1)
  clear e1
  go_wp2
  go_ret
  exact ⟨rfl, nb1, arr', _, B1, B3, B4, B5, hty3⟩

set_option maxHeartbeats 2000000 in
set_option maxRecDepth 100000 in
theorem writeString {imm : Rd} {b o ty : Nat} {arr : Array Value} {w : World} {xs : List Int} {nb : List Nat} (s : ByteArray) (ha : w.heap[b]? = some (.cells arr ty (0, 0))) (hle : o + 2 ≤ arr.size) (hok : okIn places ty o arr.size = true)
    (hB : BldAt imm w (b, o) xs ((arr.toList.drop o).take 2) nb) (hn : (b :: nb).Nodup) (hi : ∀ y ∈ b :: nb, imm y = none ∧ y < w.heap.size) (hc : ∀ b L, imm b = some L → ∃ arr ty fr, w.heap[b]? = some (.cells arr ty fr) ∧ arr.toList = L)
    (hfit : xs.length + (bytesOf s).length ≤ 1099511627776) :
    Calls Tryd.prog 29 #[.pointer (some ⟨b, o, none⟩), .string s] w fun e w' => e = .returned (.tuple #[.int .i64 s.size, .nilIface]) ∧ Written imm w b o ty arr nb (xs ++ bytesOf s) w' := by
  go_enter Tryd.func29, Tryd.ntmps29
  go_wp2_with (go_at_call 55; refine (copyCheck ha hok hB).mono ?_)
  rintro e w1 ⟨rfl, e1⟩
  obtain ⟨u, hu, hO, hty⟩ : ∃ u, arr[o + 1]? = some u ∧ OwnAt imm w false (.int .u8) xs [u] nb ∧ ∀ b ∈ nb, ∃ arr, w.heap[b]? = some (.cells arr byteTy (0, 0)) := by
    rcases hB with ⟨h1, h2, h3⟩ | ⟨u2, h1, h2, h3⟩
    · exact ⟨_, (bld_cells h1).2, .inl ⟨rfl, h2, h3⟩, fun y hy => by rw [h3] at hy; simp at hy⟩
    · exact ⟨_, (bld_cells h1).2, h2, h3⟩
  obtain ⟨s1, s2, s3⟩ := setCell_box (k := o) ha (.pointer (some ⟨b, o, none⟩))
  rw [← e1] at s1 s2 s3
  have hnb := List.nodup_cons.1 hn
  have hO1 : OwnAt imm w1 false (.int .u8) xs [u] nb := hO.other fun y hy => s2 y fun e => hnb.1 (e ▸ hy)
  have hty1 : ∀ y ∈ nb, ∃ arr, w1.heap[y]? = some (.cells arr byteTy (0, 0)) := fun y hy => by
    obtain ⟨a, k⟩ := hty y hy
    exact ⟨a, by rw [s2 y fun e => hnb.1 (e ▸ hy)]; exact k⟩
  have hi1 : ∀ y ∈ nb, imm y = none ∧ y < w1.heap.size := fun y hy => ⟨(hi y (List.mem_cons_of_mem _ hy)).1, by rw [s3]; exact (hi y (List.mem_cons_of_mem _ hy)).2⟩
  have c1 : w1.cell? ⟨b, o + 1, none⟩ = some u := by
    rw [Lib.cell_of_heap s1, Array.getElem?_setIfInBounds, if_neg (by omega)]; exact hu
  have hc1 : ∀ b L, imm b = some L → ∃ arr ty fr, w1.heap[b]? = some (.cells arr ty fr) ∧ arr.toList = L := fun y L h => by
    rw [s2 y fun e => by rw [e, (hi b (List.mem_cons_self ..)).1] at h; cases h]; exact hc y L h
  have hr : ∃ v w', (Builtin.append_ #[22, 9] 22 #[u, .string s]).run Tryd.prog w1 = .ok v w' ∧ Appended imm w1 nb (xs ++ bytesOf s) v w' := by
    have hb : Go.byteCells s = (bytesOf s).map (Value.int .u8) := by
      unfold Go.byteCells bytesOf
      rw [List.map_map]
      rfl
    have hs : Src Tryd.prog 1 9 (.string s) (bytesOf s).length ((bytesOf s).map (Value.int .u8)) w1 := by
      rw [← hb, bytesOf_length]
      exact Src.ofString w1 (by kernel_rfl) s
    obtain ⟨v, w', nb', h1, h2, h3, h4⟩ := app_after (P := Tryd.prog) (t := 22) (tx := 9) (ty := 22) (e := 5) (ys := bytesOf s) (i := byteInfo) (z := .int .u8 0) (by kernel_rfl) byteInfo_eq (by kernel_rfl) (by kernel_rfl) (Nat.le_of_ble_eq_true (by kernel_rfl)) rfl hO1 hs hfit hc1 hi1 hty1
    exact ⟨v, w', h1, nb', h2, h3, h4⟩
  have e1' : ∃ _ : True, w1 = w.setCell ⟨b, o, none⟩ (.pointer (some ⟨b, o, none⟩)) ∧ w1.heap.size = w.heap.size := ⟨trivial, e1, s3⟩
  clear e1 s3
  go_wp2_with (at_builtin; refine wpList_run_append rfl _ _ 22 9 rfl _ _ rfl rfl _ hr ?_)
  rintro v w2 ⟨nb1, A, hO2, hty2⟩
  obtain ⟨_, e1, s3⟩ := e1'
  obtain ⟨B1, B2, arr', B3, B4, B5, B6⟩ := bld_write ha hle hn hi hc e1 A hO2
  have hty3 : ∀ y ∈ nb1, ∃ arr, (w2.setCell ⟨b, o + 1, none⟩ v).heap[y]? = some (.cells arr byteTy (0, 0)) := fun y hy => by
    obtain ⟨a, k⟩ := hty2 y hy
    exact ⟨a, by rw [(setCell_box (k := o + 1) B6 v).2.1 y fun e => B2 (e ▸ hy)]; exact k⟩
  obtain ⟨ao, n', cap, rfl⟩ : ∃ ao n' cap, v = .slice ao n' cap := by
    rcases hO2 with ⟨h1, _⟩ | ⟨b', cap, arr', ty', nb', h1, _⟩
    · injection h1 with h1 _; exact ⟨_, _, _, h1⟩
    · injection h1 with h1 _; exact ⟨_, _, _, h1⟩
  have d1 : w2.cell? ⟨b, o + 1, none⟩ = some u := by
    rw [Lib.cell_of_heap B6, Array.getElem?_setIfInBounds, if_neg (by omega)]; exact hu
  have f1 : w2.frozen? ⟨b, o + 1, none⟩ = false := Lib.frozen_of_heap B6 (o + 1)
  clear e1
  go_wp2
  go_ret2
  exact ⟨rfl, nb1, arr', _, B1, B3, B4, B5, hty3⟩

end Go.Abs.Bld
end

section
set_option maxRecDepth 100000
namespace Go.Abs.Bld
open Go.Proofs

theorem load_bytes {P : Program} {w : World} : ∀ (xs : List Int) (a : Addr) (acc : ByteArray), (∀ j x, xs[j]? = some x → w.cell? (a.add j) = some (.int .u8 x)) →
    ∃ st, (loadBytes a acc xs.length).run P w = .ok st w ∧ bytesOf st = bytesOf acc ++ xs.map byte
  | [], a, acc, _ => ⟨acc, by simp [loadBytes], by simp⟩
  | x :: xs, a, acc, h => by
    have h0 : w.cell? a = some (.int .u8 x) := by
      have := h 0 x rfl
      simpa [Addr.add] using this
    obtain ⟨st, h1, h2⟩ := load_bytes (P := P) (w := w) xs (a.add 1) (acc.push x.toNat.toUInt8) (fun j y hy => by
      have := h (j + 1) y (by simpa using hy)
      have e : (a.add 1).add j = a.add (j + 1) := by
        unfold Addr.add
        by_cases hj : j = 0
        · subst hj; simp
        · simp [hj]; omega
      rw [e]; exact this)
    refine ⟨st, ?_, ?_⟩
    · simp only [List.length_cons, loadBytes, Sem.run_bind, run_load, h0, Result.andThen]
      exact h1
    · rw [h2]
      have : bytesOf (acc.push x.toNat.toUInt8) = bytesOf acc ++ [byte x] := by
        unfold bytesOf byte
        rw [ByteArray.data_push]
        simp
      rw [this]
      simp

theorem unsafe_string {P : Program} {w : World} (pt it ty e : TypeId) (hp : P.underlying pt = some (.pointer e)) (hc : P.cellsOf e = 1) (g cells : Nat) (hsh : w.shape? g = some (e, cells)) (xs : List Int) (h0 : xs ≠ []) (hn : xs.length ≤ cells) (h63 : xs.length ≤ 9223372036854775807)
    (hcell : ∀ j x, xs[j]? = some x → w.cell? ((⟨g, 0, none⟩ : Addr).add j) = some (.int .u8 x)) :
    ∃ st, (Builtin.unsafeString_ #[pt, it] ty #[.pointer (some ⟨g, 0, none⟩), .int .i64 xs.length]).run P w = .ok (.string st) (w.freeze ⟨g, 0, none⟩ xs.length) ∧ bytesOf st = xs.map byte := by
  have hl : xs.length ≠ 0 := by simpa using h0
  obtain ⟨st, hlb, hst⟩ := load_bytes (P := P) (w := w) xs ⟨g, 0, none⟩ .empty hcell
  refine ⟨st, ?_, by rw [hst]; simp [bytesOf]⟩
  have hlies := Lib.liesAt_bytes (P := P) hc (cells / P.cellsOf e) xs.length (by rw [hc]; simpa using hn)
  have h63' : ¬ (9223372036854775807 : Int) < (xs.length : Int) := by omega
  have hdef : Builtin.unsafeString_ #[pt, it] ty #[.pointer (some ⟨g, 0, none⟩), .int .i64 xs.length] =
      (do
        let n ← Go.asInt (.int .i64 xs.length)
        if n < 0 then runtimePanic (.error "unsafe.String: len out of range")
        if n > IntKind.i64.max then unsupported (.unsafePointer "String: a length above the largest int")
        if n = 0 then pure (.string .empty)
        else if ← variablesAt ⟨g, 0, none⟩ (← elemOf pt) n.toNat then do
          let s ← loadBytes ⟨g, 0, none⟩ .empty n.toNat
          freeze ⟨g, 0, none⟩ n.toNat
          pure (.string s)
        else unsupported (.unsafePointer "String: not so many bytes at ptr")) := rfl
  rw [hdef]
  have hmax : IntKind.i64.max = 9223372036854775807 := rfl
  have hneg : ¬ (xs.length : Int) < 0 := by omega
  simp [Go.asInt, asIntOf, hmax, h63', hneg, hl, variablesAt, hsh, elemOf, run_underlying hp, hlies, hlb]

/-- What reading leaves: a draw, a row frozen, perhaps a block more. -/
structure Read (imm : Rd) (w : World) (nb : List Nat) (w' : World) : Prop where
  other : ∀ b, b < w.heap.size → b ∉ nb → w'.heap[b]? = w.heap[b]?
  size : w.heap.size ≤ w'.heap.size
  os : w'.os = w.os
  tape : w'.tape = w.tape
  output : w'.output = w.output

theorem Read.after {imm : Rd} {w w' : World} {nb : List Nat} (h : Read imm w nb w') (hn : ∀ y ∈ nb, imm y = none ∧ y < w.heap.size) (hc : ∀ b L, imm b = some L → ∃ arr ty fr, w.heap[b]? = some (.cells arr ty fr) ∧ arr.toList = L) : After imm w nb imm w' [] :=
  ⟨fun _ _ h => h, fun b L k => by
    obtain ⟨a, t, f, k1, k2⟩ := hc b L k
    refine ⟨a, t, f, ?_, k2⟩
    rw [h.other b (lt_of_heap k1) fun hm => by rw [(hn b hm).1] at k; cases k]
    exact k1, fun b h1 h2 h3 => ⟨h.other b h1 h2, h3⟩, List.nodup_nil, (fun b hb => by simp at hb), h.size, h.os, h.tape, h.output, fun b L k => by
    obtain ⟨a, t, f, k1, k2⟩ := hc b L k
    exact h.other b (lt_of_heap k1) fun hm => by rw [(hn b hm).1] at k; cases k⟩

theorem Read.drew (imm : Rd) (w : World) (nb : List Nat) : Read imm w nb w.drew := ⟨fun _ _ _ => rfl, Nat.le_refl _, rfl, rfl, rfl⟩

theorem Read.drewAlloc (imm : Rd) (w : World) (nb : List Nat) (o : Go.Obj) : Read imm w nb (w.drew.alloc o) :=
  ⟨fun b h _ => by
    show (w.heap.push _)[b]? = _
    rw [Array.getElem?_push, if_neg (by omega)], by show _ ≤ (w.heap.push _).size; simp, rfl, rfl, rfl⟩

theorem Read.freeze {imm : Rd} {w : World} {nb : List Nat} {g : Nat} (hg : g ∈ nb) (n : Nat) : Read imm w nb (w.drew.freeze ⟨g, 0, none⟩ n) := by
  unfold World.freeze
  split
  · exact Read.drew imm w nb
  · refine ⟨fun b _ hb => ?_, by simp, rfl, rfl, rfl⟩
    simp only [Array.getElem?_modify]
    rw [if_neg (fun e : g = b => hb (e ▸ hg))]
    rfl

set_option maxHeartbeats 2000000 in
set_option maxRecDepth 100000 in
theorem string {imm : Rd} {b o ty : Nat} {arr : Array Value} {w : World} {xs : List Int} {nb : List Nat} (ha : w.heap[b]? = some (.cells arr ty (0, 0))) (hle : o + 2 ≤ arr.size)
    (hB : BldAt imm w (b, o) xs ((arr.toList.drop o).take 2) nb) (hfit : xs.length ≤ 1099511627776) :
    Calls Tryd.prog 30 #[.pointer (some ⟨b, o, none⟩)] w fun e w' => ∃ st, e = .returned (.string st) ∧ bytesOf st = xs.map byte ∧ Read imm w nb w' := by
  obtain ⟨u, hu, hO, hty⟩ : ∃ u, arr[o + 1]? = some u ∧ OwnAt imm w false (.int .u8) xs [u] nb ∧ ∀ b ∈ nb, ∃ arr, w.heap[b]? = some (.cells arr byteTy (0, 0)) := by
    rcases hB with ⟨h1, h2, h3⟩ | ⟨u2, h1, h2, h3⟩
    · exact ⟨_, (bld_cells h1).2, .inl ⟨rfl, h2, h3⟩, fun y hy => by rw [h3] at hy; simp at hy⟩
    · exact ⟨_, (bld_cells h1).2, h2, h3⟩
  have hd : w.drew.heap[b]? = some (.cells arr ty (0, 0)) := ha
  have c1 : w.drew.cell? ⟨b, o + 1, none⟩ = some u := by rw [Lib.cell_of_heap hd]; exact hu
  have c0 : w.cell? ⟨b, o + 1, none⟩ = some u := c1
  have hnone : ∀ (W : World) (q : Option Addr), (Builtin.unsafeString_ #[91, 3] 9 #[.pointer q, .int .i64 0]).run Tryd.prog W = .ok (.string .empty) W := fun W q => Lib.run_unsafeString_none W _ _ _ q
  rcases hO with ⟨h1, rfl, _⟩ | ⟨g, cap, arr', ty', nb', h1, h2, h3, h4, h5, h6⟩
  · injection h1 with h1 _
    subst h1
    have hSD : (Builtin.unsafeSliceData_ #[22] 91 #[.slice none 0 0]).run Tryd.prog w.drew = .ok (.pointer none) w.drew := rfl
    have fin := Read.drew imm w nb
    clear hB hty
    go_enter Tryd.func30, Tryd.ntmps30
    go_wp2
    go_region
    all_goals (go_wp2; go_ret; exact ⟨_, rfl, rfl, fin⟩)
  · injection h1 with h1 _
    subst h1
    have hg : g ∈ nb := by rw [h2]; simp
    obtain ⟨arr2, k1⟩ := hty g hg
    rw [h3] at k1
    injection k1 with k1; injection k1 with _ k2
    subst k2
    have h5' : arr'.size = cap := by simpa [Ty.size] using h5
    have hg' : w.drew.heap[g]? = some (.cells arr' byteTy (0, 0)) := h3
    by_cases hx : xs = []
    · subst hx
      by_cases hc0 : cap = 0
      · subst hc0
        have hSD : (Builtin.unsafeSliceData_ #[22] 91 #[.slice (some ⟨g, 0, none⟩) 0 0]).run Tryd.prog w.drew = .ok (.pointer (some ⟨w.drew.heap.size, 0, none⟩)) (w.drew.alloc (.view ⟨g, 0, none⟩ 5)) :=
          Lib.run_unsafeSliceData_zero w.drew _ _ 5 (by kernel_rfl) ⟨g, 0, none⟩ 0 (5, arr'.size) (by simp [World.shape?, hg', byteTy])
        have c2 : (w.drew.alloc (.view ⟨g, 0, none⟩ 5)).cell? ⟨b, o + 1, none⟩ = some (.slice (some ⟨g, 0, none⟩) 0 0) := by
          have : (w.drew.alloc (.view ⟨g, 0, none⟩ 5)).heap[b]? = some (.cells arr ty (0, 0)) := (Lib.alloc_old w.drew _ b (lt_of_heap ha)).trans ha
          rw [Lib.cell_of_heap this]; exact hu
        have c3 : (w.alloc (.view ⟨g, 0, none⟩ 5)).drew.cell? ⟨b, o + 1, none⟩ = some (.slice (some ⟨g, 0, none⟩) 0 0) := c2
        have fin := Read.drewAlloc imm w nb (.view ⟨g, 0, none⟩ 5)
        clear hB hty
        go_enter Tryd.func30, Tryd.ntmps30
        go_wp2
        go_region
        all_goals (go_wp2; go_ret; exact ⟨_, rfl, rfl, fin⟩)
      · have hSD : (Builtin.unsafeSliceData_ #[22] 91 #[.slice (some ⟨g, 0, none⟩) 0 cap]).run Tryd.prog w.drew = .ok (.pointer (some ⟨g, 0, none⟩)) w.drew :=
          Lib.run_unsafeSliceData_row _ _ _ _ _ _ hc0
        have fin := Read.drew imm w nb
        clear hB hty hc0
        go_enter Tryd.func30, Tryd.ntmps30
        go_wp2
        go_region
        all_goals (go_wp2; go_ret; exact ⟨_, rfl, rfl, fin⟩)
    · have hpos : 0 < xs.length := List.length_pos_iff.2 hx
      have hSD : (Builtin.unsafeSliceData_ #[22] 91 #[.slice (some ⟨g, 0, none⟩) xs.length cap]).run Tryd.prog w.drew = .ok (.pointer (some ⟨g, 0, none⟩)) w.drew :=
        Lib.run_unsafeSliceData_row _ _ _ _ _ _ (by omega)
      obtain ⟨st, hUS, hst⟩ := unsafe_string (P := Tryd.prog) (w := w.drew) 91 3 9 5 (by kernel_rfl) (by kernel_rfl) g arr'.size (by simp [World.shape?, hg', byteTy]) xs hx (by omega) (by omega) (fun j x hj => by
        obtain ⟨hj', rfl⟩ := List.getElem?_eq_some_iff.1 hj
        rw [Addr.add_lit]
        exact els_bytes hg' h6.1 j hj')
      have fin : Read imm w nb (w.drew.freeze ⟨g, 0, none⟩ xs.length) := Read.freeze hg _
      clear hB hty hx
      go_enter Tryd.func30, Tryd.ntmps30
      go_wp2
      go_region
      all_goals (go_wp2; go_ret; exact ⟨_, rfl, hst, fin⟩)

end Go.Abs.Bld
end

section
set_option maxRecDepth 100000
namespace Go.Abs.Bld
open Go.Proofs

theorem fit_some {ρ : Type} {n : Nat} {x y : ρ} (h : (bif fits n then some x else none) = some y) : n ≤ 1099511627776 ∧ x = y := by
  cases e : fits n with
  | false => rw [e] at h; cases h
  | true => rw [e] at h; injection h with h; exact ⟨Nat.le_of_ble_eq_true e, h⟩

theorem back_bld {imm : Rd} {w w' : World} {b o ty : Nat} {arr : Array Value} {nb : List Nat} {xs : List Int} (ha : w.heap[b]? = some (.cells arr ty (0, 0))) (hle : o + 2 ≤ arr.size) (h : Written imm w b o ty arr nb xs w') :
    ∃ nb', After imm w (b :: nb) imm w' (b :: nb') ∧ Back imm w w' (.ptr false (0, places) .bld) xs (0, 0) [.pointer (some ⟨b, o, none⟩)] [.pointer (some ⟨b, o, none⟩)] (b :: nb') := by
  obtain ⟨nb', arr', v, A, h1, h2, h3, h4⟩ := h
  refine ⟨nb', A, b, o, arr, ty, arr', [.pointer (some ⟨b, o, none⟩), v], nb', rfl, rfl, rfl, ha, h1, h2, hle, rfl, .inr ⟨v, rfl, h3, h4⟩⟩

theorem writeByte_ok (glob : Nat → Option (List Cell)) : CallOk Tryd.prog glob 27 ⟨⟨[bp, .one (.pub (.int .u8))], .val (.one .err)⟩, writeByteF⟩ := by
  intro x y hF imm w args nb hG hc hP hn hi
  obtain ⟨hfit, rfl⟩ := fit_some hF
  obtain ⟨u1, r1, n1, n2, rfl, rfl, ⟨_, b, o, arr, ty, nb', e1, rfl, ha, hw, hle, hB⟩, u2, r2, n3, n4, rfl, rfl, ⟨_, rfl, _, u3, e2, h3⟩, rfl, rfl⟩ := hP
  injection e1 with e1 _
  injection e2 with e2 _
  subst e1; subst e2
  have h3 : [_] = [_] := h3
  injection h3 with h3 _
  subst h3
  simp only [List.append_nil] at hn hi
  refine invokes_of_calls Tryd.func27 rfl (by kernel_rfl) ((writeByte x.2.1 ha hle (hw.2 rfl) hB hn hi hc hfit).mono ?_)
  rintro e w' ⟨rfl, hW⟩
  obtain ⟨nb2, A, hBk⟩ := back_bld ha hle hW
  refine ⟨_, rfl, imm, [], b :: nb2, by simpa using A, ⟨rfl, rfl, _, rfl, .inl ⟨rfl, rfl⟩⟩, _, _, b :: nb2, [], rfl, by simp, hBk, _, _, [], [], rfl, rfl, rfl, rfl, rfl⟩

theorem writeString_ok (glob : Nat → Option (List Cell)) : CallOk Tryd.prog glob 29 ⟨⟨[bp, .one (.pub .str)], .tup [.one (.pub (.int .i64)), .one .err]⟩, writeStringF⟩ := by
  intro x y hF imm w args nb hG hc hP hn hi
  obtain ⟨hfit, rfl⟩ := fit_some hF
  obtain ⟨u1, r1, n1, n2, rfl, rfl, ⟨_, b, o, arr, ty, nb', e1, rfl, ha, hw, hle, hB⟩, u2, r2, n3, n4, rfl, rfl, ⟨_, rfl, _, u3, e2, s, h3, h4⟩, rfl, rfl⟩ := hP
  injection e1 with e1 _
  injection e2 with e2 _
  subst e1; subst e2
  injection h3 with h3 _
  subst h3
  simp only [List.append_nil] at hn hi
  have h4' : x.2.1 = bytesOf s := h4
  refine invokes_of_calls Tryd.func29 rfl (by kernel_rfl) ((writeString s ha hle (hw.2 rfl) hB hn hi hc (by rw [← h4']; exact hfit)).mono ?_)
  rintro e w' ⟨rfl, hW⟩
  rw [← h4'] at hW
  obtain ⟨nb2, A, hBk⟩ := back_bld ha hle hW
  refine ⟨_, rfl, imm, [], b :: nb2, by simpa using A, ⟨[_, _], rfl, _, _, [], [], rfl, rfl, ⟨rfl, rfl, rfl, _, rfl, ?_⟩, _, _, [], [], rfl, rfl, ⟨rfl, rfl, _, rfl, .inl ⟨rfl, rfl⟩⟩, rfl, rfl⟩, _, _, b :: nb2, [], rfl, by simp, hBk, _, _, [], [], rfl, rfl, rfl, rfl, rfl⟩
  show [_] = [_]
  rw [← bytesOf_length, ← h4']

theorem string_ok (glob : Nat → Option (List Cell)) : CallOk Tryd.prog glob 30 ⟨⟨[.one (.tak places)], .val (.one (.pub .str))⟩, stringF⟩ := by
  intro x y hF imm w args nb hG hc hP hn hi
  obtain ⟨hfit, rfl⟩ := fit_some hF
  obtain ⟨u1, r1, n1, n2, rfl, rfl, ⟨_, b, o, arr, ty, e1, ha, hok, hle, hB⟩, rfl, rfl⟩ := hP
  injection e1 with e1 _
  subst e1
  simp only [List.append_nil] at hn hi
  refine invokes_of_calls Tryd.func30 rfl (by kernel_rfl) ((string ha hle hB hfit).mono ?_)
  rintro e w' ⟨st, rfl, hst, hR⟩
  refine ⟨_, rfl, imm, [], [], ?_, ⟨rfl, rfl, rfl, _, rfl, st, rfl, hst.symm⟩, _, _, [], [], rfl, rfl, rfl, rfl, rfl⟩
  rw [List.append_nil]
  exact hR.after hi hc

end Go.Abs.Bld
end

section
set_option maxRecDepth 100000
namespace Go.Abs.Lay
open Go.Proofs Go.Shelf
def renPI : Ren where
  f := fun n => bif Nat.beq n 174 then 95 else bif Nat.beq n 247 then 115 else bif Nat.beq n 245 then 97 else bif Nat.beq n 287 then 96 else bif Nat.beq n 279 then 118 else bif Nat.beq n 280 then 119 else bif Nat.beq n 281 then 120 else bif Nat.beq n 282 then 121 else bif Nat.beq n 321 then 116 else bif Nat.beq n 322 then 117 else bif Nat.beq n 316 then 128 else bif Nat.beq n 171 then 130 else bif Nat.beq n 205 then 129 else bif Nat.beq n 243 then 133 else bif Nat.beq n 246 then 78 else bif Nat.beq n 283 then 100 else bif Nat.beq n 284 then 101 else bif Nat.beq n 285 then 102 else bif Nat.beq n 286 then 103 else bif Nat.beq n 129 then 123 else bif Nat.beq n 317 then 122 else bif Nat.beq n 318 then 124 else bif Nat.beq n 319 then 125 else bif Nat.beq n 320 then 126 else bif Nat.beq n 337 then 131 else bif Nat.beq n 338 then 132 else n
  t := fun n => bif Nat.beq n 9 then 9 else bif Nat.beq n 3 then 3 else bif Nat.beq n 2 then 2 else bif Nat.beq n 75 then 65 else bif Nat.beq n 85 then 114 else bif Nat.beq n 4 then 4 else bif Nat.beq n 167 then 133 else bif Nat.beq n 5 then 5 else bif Nat.beq n 53 then 55 else bif Nat.beq n 175 then 95 else bif Nat.beq n 46 then 70 else bif Nat.beq n 168 then 135 else bif Nat.beq n 37 then 22 else bif Nat.beq n 0 then 0 else bif Nat.beq n 210 then 144 else bif Nat.beq n 21 then 21 else bif Nat.beq n 127 then 91 else bif Nat.beq n 145 then 149 else bif Nat.beq n 143 then 147 else bif Nat.beq n 171 then 118 else bif Nat.beq n 173 then 121 else bif Nat.beq n 212 then 139 else bif Nat.beq n 51 then 140 else bif Nat.beq n 20 then 20 else bif Nat.beq n 213 then 141 else bif Nat.beq n 232 then 150 else bif Nat.beq n 233 then 151 else bif Nat.beq n 80 then 59 else n
  g := fun n => bif Nat.beq n 15 then 5 else bif Nat.beq n 16 then 6 else bif Nat.beq n 17 then 4 else bif Nat.beq n 18 then 7 else bif Nat.beq n 19 then 8 else n
theorem laysPI : LaysC.n174 Tryd.prog renPI where
  mixed := by kernel_rfl
  f129 := Tryd.func123.trans (congrArg some (by kernel_rfl))
  f171 := Tryd.func130.trans (congrArg some (by kernel_rfl))
  f174 := Tryd.func95.trans (congrArg some (by kernel_rfl))
  f205 := Tryd.func129.trans (congrArg some (by kernel_rfl))
  f243 := Tryd.func133.trans (congrArg some (by kernel_rfl))
  f245 := Tryd.func97.trans (congrArg some (by kernel_rfl))
  f246 := Tryd.func78.trans (congrArg some (by kernel_rfl))
  f247 := Tryd.func115.trans (congrArg some (by kernel_rfl))
  f279 := Tryd.func118.trans (congrArg some (by kernel_rfl))
  f280 := Tryd.func119.trans (congrArg some (by kernel_rfl))
  f281 := Tryd.func120.trans (congrArg some (by kernel_rfl))
  f282 := Tryd.func121.trans (congrArg some (by kernel_rfl))
  f283 := Tryd.func100.trans (congrArg some (by kernel_rfl))
  f284 := Tryd.func101.trans (congrArg some (by kernel_rfl))
  f285 := Tryd.func102.trans (congrArg some (by kernel_rfl))
  f286 := Tryd.func103.trans (congrArg some (by kernel_rfl))
  f287 := Tryd.func96.trans (congrArg some (by kernel_rfl))
  f316 := Tryd.func128.trans (congrArg some (by kernel_rfl))
  f317 := Tryd.func122.trans (congrArg some (by kernel_rfl))
  f318 := Tryd.func124.trans (congrArg some (by kernel_rfl))
  f319 := Tryd.func125.trans (congrArg some (by kernel_rfl))
  f320 := Tryd.func126.trans (congrArg some (by kernel_rfl))
  f321 := Tryd.func116.trans (congrArg some (by kernel_rfl))
  f322 := Tryd.func117.trans (congrArg some (by kernel_rfl))
  f337 := Tryd.func131.trans (congrArg some (by kernel_rfl))
  f338 := Tryd.func132.trans (congrArg some (by kernel_rfl))
  t0 := Tryd.underlying0
  a0 := Tryd.isAgg0
  z0 := Tryd.sizeOf0
  v0 := Tryd.zeroValue0
  t2 := Tryd.underlying2
  a2 := Tryd.isAgg2
  z2 := Tryd.sizeOf2
  v2 := Tryd.zeroValue2
  t3 := Tryd.underlying3
  a3 := Tryd.isAgg3
  z3 := Tryd.sizeOf3
  v3 := Tryd.zeroValue3
  t4 := Tryd.underlying4
  a4 := Tryd.isAgg4
  z4 := Tryd.sizeOf4
  v4 := Tryd.zeroValue4
  t5 := Tryd.underlying5
  a5 := Tryd.isAgg5
  z5 := Tryd.sizeOf5
  v5 := Tryd.zeroValue5
  t9 := Tryd.underlying9
  a9 := Tryd.isAgg9
  z9 := Tryd.sizeOf9
  v9 := Tryd.zeroValue9
  t20 := Tryd.underlying20
  a20 := Tryd.isAgg20
  z20 := Tryd.sizeOf20
  v20 := Tryd.zeroValue20
  t21 := Tryd.underlying21
  a21 := Tryd.isAgg21
  z21 := Tryd.sizeOf21
  v21 := Tryd.zeroValue21
  t37 := Tryd.underlying22
  a37 := Tryd.isAgg22
  z37 := Tryd.sizeOf22
  v37 := Tryd.zeroValue22
  t46 := Tryd.underlying70
  a46 := Tryd.isAgg70
  z46 := Tryd.sizeOf70
  v46 := Tryd.zeroValue70
  t51 := Tryd.underlying140
  a51 := Tryd.isAgg140
  z51 := Tryd.sizeOf140
  v51 := Tryd.zeroValue140
  t53 := Tryd.underlying55
  a53 := Tryd.isAgg55
  z53 := Tryd.sizeOf55
  v53 := Tryd.zeroValue55
  t75 := Tryd.underlying65
  a75 := Tryd.isAgg65
  z75 := Tryd.sizeOf65
  v75 := Tryd.zeroValue65
  t85 := Tryd.underlying114
  a85 := Tryd.isAgg114
  z85 := Tryd.sizeOf114
  v85 := Tryd.zeroValue114
  t127 := Tryd.underlying91
  a127 := Tryd.isAgg91
  z127 := Tryd.sizeOf91
  v127 := Tryd.zeroValue91
  t143 := Tryd.underlying147
  a143 := Tryd.isAgg147
  z143 := Tryd.sizeOf147
  v143 := Tryd.zeroValue147
  t145 := Tryd.underlying149
  a145 := Tryd.isAgg149
  z145 := Tryd.sizeOf149
  v145 := Tryd.zeroValue149
  t167 := Tryd.underlying133
  a167 := Tryd.isAgg133
  z167 := Tryd.sizeOf133
  v167 := Tryd.zeroValue133
  t168 := Tryd.underlying135
  a168 := Tryd.isAgg135
  z168 := Tryd.sizeOf135
  v168 := Tryd.zeroValue135
  t171 := Tryd.underlying118
  a171 := Tryd.isAgg118
  z171 := Tryd.sizeOf118
  v171 := Tryd.zeroValue118
  t173 := Tryd.underlying121
  a173 := Tryd.isAgg121
  z173 := Tryd.sizeOf121
  v173 := Tryd.zeroValue121
  t175 := Tryd.underlying95
  a175 := Tryd.isAgg95
  z175 := Tryd.sizeOf95
  v175 := Tryd.zeroValue95
  t210 := Tryd.underlying144
  a210 := Tryd.isAgg144
  z210 := Tryd.sizeOf144
  v210 := Tryd.zeroValue144
  t212 := Tryd.underlying139
  a212 := Tryd.isAgg139
  z212 := Tryd.sizeOf139
  v212 := Tryd.zeroValue139
  t213 := Tryd.underlying141
  a213 := Tryd.isAgg141
  z213 := Tryd.sizeOf141
  t232 := Tryd.underlying150
  a232 := Tryd.isAgg150
  z232 := Tryd.sizeOf150
  v232 := Tryd.zeroValue150
  t233 := Tryd.underlying151
  a233 := Tryd.isAgg151
  z233 := Tryd.sizeOf151
  v233 := Tryd.zeroValue151
  g15 := by kernel_rfl
  g16 := by kernel_rfl
  g17 := by kernel_rfl
  g18 := by kernel_rfl
  g19 := by kernel_rfl
  t80 := Tryd.underlying59
  a80 := Tryd.isAgg59
  z80 := Tryd.sizeOf59
  v80 := Tryd.zeroValue59
  i0 := by kernel_rfl
  i2 := by kernel_rfl
  i3 := by kernel_rfl
  i4 := by kernel_rfl
  i5 := by kernel_rfl
  i9 := by kernel_rfl
  i20 := by kernel_rfl
  i21 := by kernel_rfl
  i37 := by kernel_rfl
  i46 := by kernel_rfl
  i51 := by kernel_rfl
  i53 := by kernel_rfl
  i75 := by kernel_rfl
  i80 := by kernel_rfl
  i85 := by kernel_rfl
  i127 := by kernel_rfl
  i143 := by kernel_rfl
  i145 := by kernel_rfl
  i167 := by kernel_rfl
  i168 := by kernel_rfl
  i171 := by kernel_rfl
  i173 := by kernel_rfl
  i175 := by kernel_rfl
  i210 := by kernel_rfl
  i212 := by kernel_rfl
  i232 := by kernel_rfl
  i233 := by kernel_rfl
  m15 := by kernel_rfl
  m16 := by kernel_rfl
  m17 := by kernel_rfl
  m18 := by kernel_rfl
  m19 := by kernel_rfl
  c0 := by kernel_rfl
  c2 := by kernel_rfl
  c3 := by kernel_rfl
  c4 := by kernel_rfl
  c5 := by kernel_rfl
  c9 := by kernel_rfl
  c20 := by kernel_rfl
  c21 := by kernel_rfl
  c37 := by kernel_rfl
  c46 := by kernel_rfl
  c51 := by kernel_rfl
  c53 := by kernel_rfl
  c75 := by kernel_rfl
  c80 := by kernel_rfl
  c85 := by kernel_rfl
  c127 := by kernel_rfl
  c143 := by kernel_rfl
  c145 := by kernel_rfl
  c167 := by kernel_rfl
  c168 := by kernel_rfl
  c171 := by kernel_rfl
  c173 := by kernel_rfl
  c175 := by kernel_rfl
  c210 := by kernel_rfl
  c212 := by kernel_rfl
  c213 := by kernel_rfl
  c232 := by kernel_rfl
  c233 := by kernel_rfl
def renFI : Ren where
  f := fun n => bif Nat.beq n 173 then 45 else bif Nat.beq n 246 then 78 else bif Nat.beq n 283 then 100 else bif Nat.beq n 284 then 101 else bif Nat.beq n 285 then 102 else bif Nat.beq n 286 then 103 else bif Nat.beq n 129 then 123 else bif Nat.beq n 317 then 122 else bif Nat.beq n 318 then 124 else bif Nat.beq n 319 then 125 else bif Nat.beq n 320 then 126 else bif Nat.beq n 337 then 131 else bif Nat.beq n 338 then 132 else n
  t := fun n => bif Nat.beq n 2 then 2 else bif Nat.beq n 3 then 3 else bif Nat.beq n 9 then 9 else bif Nat.beq n 4 then 4 else bif Nat.beq n 171 then 118 else bif Nat.beq n 0 then 0 else bif Nat.beq n 53 then 55 else bif Nat.beq n 37 then 22 else bif Nat.beq n 5 then 5 else bif Nat.beq n 173 then 121 else bif Nat.beq n 212 then 139 else bif Nat.beq n 51 then 140 else bif Nat.beq n 20 then 20 else bif Nat.beq n 213 then 141 else bif Nat.beq n 46 then 70 else bif Nat.beq n 232 then 150 else bif Nat.beq n 233 then 151 else n
  g := fun n => bif Nat.beq n 17 then 4 else bif Nat.beq n 18 then 7 else bif Nat.beq n 19 then 8 else n
theorem laysFI : LaysM.n173 Tryd.prog renFI where
  mixed := by kernel_rfl
  f129 := Tryd.func123.trans (congrArg some (by kernel_rfl))
  f173 := Tryd.func45.trans (congrArg some (by kernel_rfl))
  f246 := Tryd.func78.trans (congrArg some (by kernel_rfl))
  f283 := Tryd.func100.trans (congrArg some (by kernel_rfl))
  f284 := Tryd.func101.trans (congrArg some (by kernel_rfl))
  f285 := Tryd.func102.trans (congrArg some (by kernel_rfl))
  f286 := Tryd.func103.trans (congrArg some (by kernel_rfl))
  f317 := Tryd.func122.trans (congrArg some (by kernel_rfl))
  f318 := Tryd.func124.trans (congrArg some (by kernel_rfl))
  f319 := Tryd.func125.trans (congrArg some (by kernel_rfl))
  f320 := Tryd.func126.trans (congrArg some (by kernel_rfl))
  f337 := Tryd.func131.trans (congrArg some (by kernel_rfl))
  f338 := Tryd.func132.trans (congrArg some (by kernel_rfl))
  t0 := Tryd.underlying0
  a0 := Tryd.isAgg0
  z0 := Tryd.sizeOf0
  v0 := Tryd.zeroValue0
  t2 := Tryd.underlying2
  a2 := Tryd.isAgg2
  z2 := Tryd.sizeOf2
  v2 := Tryd.zeroValue2
  t3 := Tryd.underlying3
  a3 := Tryd.isAgg3
  z3 := Tryd.sizeOf3
  v3 := Tryd.zeroValue3
  t4 := Tryd.underlying4
  a4 := Tryd.isAgg4
  z4 := Tryd.sizeOf4
  v4 := Tryd.zeroValue4
  t5 := Tryd.underlying5
  a5 := Tryd.isAgg5
  z5 := Tryd.sizeOf5
  v5 := Tryd.zeroValue5
  t9 := Tryd.underlying9
  a9 := Tryd.isAgg9
  z9 := Tryd.sizeOf9
  v9 := Tryd.zeroValue9
  t20 := Tryd.underlying20
  a20 := Tryd.isAgg20
  z20 := Tryd.sizeOf20
  v20 := Tryd.zeroValue20
  t37 := Tryd.underlying22
  a37 := Tryd.isAgg22
  z37 := Tryd.sizeOf22
  v37 := Tryd.zeroValue22
  t46 := Tryd.underlying70
  a46 := Tryd.isAgg70
  z46 := Tryd.sizeOf70
  v46 := Tryd.zeroValue70
  t51 := Tryd.underlying140
  a51 := Tryd.isAgg140
  z51 := Tryd.sizeOf140
  v51 := Tryd.zeroValue140
  t53 := Tryd.underlying55
  a53 := Tryd.isAgg55
  z53 := Tryd.sizeOf55
  v53 := Tryd.zeroValue55
  t171 := Tryd.underlying118
  a171 := Tryd.isAgg118
  z171 := Tryd.sizeOf118
  v171 := Tryd.zeroValue118
  t173 := Tryd.underlying121
  a173 := Tryd.isAgg121
  z173 := Tryd.sizeOf121
  v173 := Tryd.zeroValue121
  t212 := Tryd.underlying139
  a212 := Tryd.isAgg139
  z212 := Tryd.sizeOf139
  v212 := Tryd.zeroValue139
  t213 := Tryd.underlying141
  a213 := Tryd.isAgg141
  z213 := Tryd.sizeOf141
  t232 := Tryd.underlying150
  a232 := Tryd.isAgg150
  z232 := Tryd.sizeOf150
  v232 := Tryd.zeroValue150
  t233 := Tryd.underlying151
  a233 := Tryd.isAgg151
  z233 := Tryd.sizeOf151
  v233 := Tryd.zeroValue151
  g17 := by kernel_rfl
  g18 := by kernel_rfl
  g19 := by kernel_rfl
  i0 := by kernel_rfl
  i2 := by kernel_rfl
  i3 := by kernel_rfl
  i4 := by kernel_rfl
  i5 := by kernel_rfl
  i9 := by kernel_rfl
  i20 := by kernel_rfl
  i37 := by kernel_rfl
  i46 := by kernel_rfl
  i51 := by kernel_rfl
  i53 := by kernel_rfl
  i171 := by kernel_rfl
  i173 := by kernel_rfl
  i212 := by kernel_rfl
  i232 := by kernel_rfl
  i233 := by kernel_rfl
  m17 := by kernel_rfl
  m18 := by kernel_rfl
  m19 := by kernel_rfl
end Go.Abs.Lay
end

section
set_option maxRecDepth 100000
namespace Go.Abs.Lx
open Go.Proofs

theorem same_of_below {w w' : World} (h : RowKit.Below w.heap.size w w') : Same w w' := ⟨fun b hb => h.block b hb, h.size, h.os, h.tape, h.output⟩

theorem grow_same (w : World) (k : Nat) (os : Array Go.Obj) : Same w (Go.Sort.grow (w.drewN k) os) := by
  refine ⟨fun b hb => ?_, ?_, rfl, rfl, rfl⟩
  · show (w.heap ++ os)[b]? = _
    rw [Array.getElem?_append_left hb]
  · show _ ≤ (w.heap ++ os).size
    simp

theorem parseInt_ok {glob : Nat → Option (List Cell)} (hg : glob 6 = some [.err false]) : CallOk Tryd.prog glob 95 ⟨⟨[.one (.pub .str), .one (.pub (.int .i64)), .one (.pub (.int .i64))], .tup [.one (.pub (.int .i64)), .one .err]⟩, parseIntF⟩ := by
  intro x y hF imm w args nb hG hcells hP hnd hnb
  obtain ⟨hA, rfl⟩ := areAll_of (ts := [.str, .int .i64, .int .i64]) rfl hP
  obtain ⟨u1, r1, rfl, ⟨s, rfl, hs⟩, u2, r2, rfl, h2, u3, r3, rfl, h3, h4⟩ := hA
  have h2 : _ = _ := h2
  have h3 : _ = _ := h3
  have h4 : _ = _ := h4
  subst h2; subst h3; subst h4
  have hs : x.1 = bytesOf s := hs
  have hF : parseIntF x = some y := hF
  unfold parseIntF at hF
  cases hc : (decide (x.2.1 = 10) && decide (x.2.2.1 = 64) && fits x.1.length) with
  | false => rw [hc] at hF; cases hF
  | true =>
    rw [hc] at hF
    simp only [cond_true] at hF
    simp only [Bool.and_eq_true, decide_eq_true_eq] at hc
    obtain ⟨⟨e1, e2⟩, hl⟩ := hc
    have hsz : s.size ≤ 1099511627776 := by
      have := Nat.le_of_ble_eq_true hl
      rw [hs, bytesOf_length] at this
      exact this
    have f1 : x.2.1 = 10 := e1
    have f2 : x.2.2.1 = 64 := e2
    show Invokes Tryd.prog 95 #[.string s, .int .i64 x.2.1, .int .i64 x.2.2.1] w _
    rw [f1, f2]
    have hu : u8s x.1 = s.data.toList := by rw [hs, u8s_bytesOf]
    rw [hu] at hF
    have fin : ∀ {v : Int} {b : Bool} {u : Value} {w' : World}, Same w w' → y = ((v, b, ()), (), (), (), ()) → ((b = true ∧ u = .nilIface) ∨ (b = false ∧ ∃ t p, u = .iface t p)) → ∃ imm' n1 n2, After imm w [] imm' w' (n1 ++ n2) ∧
        ResOk imm' w' (.tup [.one (.pub (.int .i64)), .one .err]) y.1 (.tuple #[.int .i64 v, u]) n1 ∧ OutsArgs imm' w w' [.one (.pub .str), .one (.pub (.int .i64)), .one (.pub (.int .i64))] y.2 [.string s, .int .i64 x.2.1, .int .i64 x.2.2.1] n2 := by
      intro v b u w' hsame hy hu
      subst hy
      refine ⟨imm, [], [], hsame.after hcells, ⟨[_, _], rfl, _, _, [], [], rfl, rfl, ⟨rfl, rfl, rfl, _, rfl, rfl⟩, _, _, [], [], rfl, rfl, ⟨?_, rfl, _, rfl, hu⟩, rfl, rfl⟩, outs_none (ts := [.str, .int .i64, .int .i64]) (y := x) ⟨_, _, rfl, ⟨s, rfl, hs⟩, _, _, rfl, rfl, _, _, rfl, rfl, rfl⟩⟩
      rcases hu with ⟨_, rfl⟩ | ⟨_, t, p, rfl⟩ <;> rfl
    rw [f1, f2] at fin
    cases hp : Lib.parseIntB 64 s.data.toList with
    | ok v =>
      rw [hp] at hF
      injection hF with hF
      refine invokes_of_calls Tryd.func95 rfl (by kernel_rfl) ((Any.strconv_ParseInt_10_at64_ok Lay.laysPI s (by omega) v hp w).mono ?_)
      rintro e w' ⟨rfl, hw⟩
      refine ⟨_, rfl, fin (b := true) ?_ hF.symm (.inl ⟨rfl, rfl⟩)⟩
      rcases hw with rfl | ⟨t, rfl⟩
      · exact Same.refl _
      · exact ⟨fun b hb => Lib.bytesWorld_at_old w _ t b hb, by rw [Lib.bytesWorld_size]; omega, rfl, rfl, rfl⟩
    | range =>
      rw [hp] at hF
      injection hF with hF
      obtain ⟨us, hi, hcr⟩ := hG _ _ hg
      obtain ⟨arr, ty, fr, ha, hL⟩ := hcells _ _ hi
      obtain ⟨u, r, rfl, hu, hr⟩ := hcr ⟨imm, fun _ => 0, fun _ _ => .nilIface, fun _ => none, fun _ => none, fun _ => []⟩ fun _ _ h => h
      have hr : r = [] := hr
      subst hr
      have hcell : w.cell? ⟨6, 0, none⟩ = some u := by
        rw [Lib.cell_of_heap ha]
        have : arr[0]? = arr.toList[0]? := by simp
        rw [this, hL]; rfl
      refine invokes_of_calls Tryd.func95 rfl (by kernel_rfl) ((Any.strconv_ParseInt_10_at64_range Lay.laysPI s (by omega) hp u w hcell ?_).mono ?_)
      · rcases hu with ⟨h, _⟩ | ⟨_, t, v, rfl⟩
        · cases h
        · exact .inr ⟨t, v, rfl⟩
      rintro e w' ⟨N, rfl, _, _, hw⟩
      exact ⟨_, rfl, fin (b := false) (same_of_below hw) hF.symm (.inr ⟨rfl, _, _, rfl⟩)⟩
    | _ => rw [hp] at hF; cases hF

theorem formatInt_ok {glob : Nat → Option (List Cell)} (hg : glob 4 = some pow10) : CallOk Tryd.prog glob 45 ⟨⟨[.one (.pub (.int .i64)), .one (.pub (.int .i64))], .val (.one (.pub .str))⟩, formatIntF⟩ := by
  intro x y hF imm w args nb hG hcells hP hnd hnb
  obtain ⟨hA, rfl⟩ := areAll_of (ts := [.int .i64, .int .i64]) rfl hP
  obtain ⟨u1, r1, rfl, h1, u2, r2, rfl, h2, h4⟩ := hA
  have h1 : _ = _ := h1
  have h2 : _ = _ := h2
  have h4 : _ = _ := h4
  subst h1; subst h2; subst h4
  have hF : formatIntF x = some y := hF
  unfold formatIntF at hF
  cases hc : (decide (x.2.1 = 10) && decide (-9223372036854775808 ≤ x.1) && decide (x.1 ≤ 9223372036854775807)) with
  | false => rw [hc] at hF; cases hF
  | true =>
    rw [hc] at hF
    injection hF with hF
    simp only [Bool.and_eq_true, decide_eq_true_eq] at hc
    obtain ⟨⟨e1, e2⟩, e3⟩ := hc
    have f1 : x.2.1 = 10 := e1
    show Invokes Tryd.prog 45 #[.int .i64 x.1, .int .i64 x.2.1] w _
    rw [f1]
    obtain ⟨us, hi, hcr⟩ := hG _ _ hg
    obtain ⟨arr, ty, fr, ha, hL⟩ := hcells _ _ hi
    have hcs := hcr ⟨imm, fun _ => 0, fun _ _ => .nilIface, fun _ => none, fun _ => none, fun _ => []⟩ fun _ _ h => h
    have hus : us = Lib.pow10Tab.map fun z => Value.int .u64 z := by
      have all : ∀ (l : List Int) (us : List Value) (g : Gh), CellsRel g (l.map fun z => .v (.int .u64) z) us → us = l.map fun z => Value.int .u64 z := by
        intro l
        induction l with
        | nil => intro us g h; exact h
        | cons z l ih =>
          intro us g h
          obtain ⟨u, r, rfl, hu, hr⟩ := h
          have hu : [u] = [Value.int .u64 z] := hu.2
          injection hu with hu _
          subst hu
          rw [ih r g hr]; rfl
      exact all _ _ _ hcs
    have htab : Lib.TabIs Tryd.prog w "internal/strconv.uint64pow10" .u64 Lib.pow10Tab := by
      have hn : Tryd.prog.globalNamed "internal/strconv.uint64pow10" = some 4 := by kernel_rfl
      unfold Lib.TabIs World.var?
      rw [hn]
      simp only [Option.bind_some, ha]
      have : arr = (Lib.pow10Tab.map fun z => Value.int .u64 z).toArray := by
        apply Array.ext'
        rw [hL, hus]
      rw [this]
    refine invokes_of_calls Tryd.func45 rfl (by kernel_rfl) ((Any.strconv_FormatInt_10 Lay.laysFI x.1 e2 e3 w htab).mono ?_)
    rintro e w' ⟨rfl, k, os, rfl⟩
    subst hF
    exact ⟨_, rfl, imm, [], [], (grow_same w k os).after hcells, ⟨rfl, rfl, rfl, _, rfl, _, rfl, rfl⟩, outs_none (ts := [.int .i64, .int .i64]) (y := x) ⟨_, _, rfl, rfl, _, _, rfl, f1 ▸ rfl, rfl⟩⟩

end Go.Abs.Lx
end

section
namespace Go.Proofs.YtmallmelcmejeaaDoor
open Go.ChangeShapes Go.WideShapes Go.ChangeAt Go.RowKit
open Go.ChangeMaps (open_string shut_string)

set_option maxRecDepth 100000 in
theorem sys : ∀ n, Abs.Sys.TabOk Abs.D.S (Abs.D.S.tab n) := by
  refine Abs.Sys.ok (by kernel_rfl) (fun f hf => Abs.Sys.fns_all Abs.D.fns_ok hf) (fun f c hf hl => ?_)
  have hl : Abs.D.lib f = some c := hl
  unfold Abs.D.lib at hl
  cases h1 : Nat.beq f 27 with
  | true => have := Abs.beq_eq h1; subst this; rw [h1] at hl; injection hl with hl; subst hl; exact Abs.Bld.writeByte_ok _
  | false =>
  rw [h1] at hl
  cases h1 : Nat.beq f 29 with
  | true => have := Abs.beq_eq h1; subst this; injection hl with hl; subst hl; exact Abs.Bld.writeString_ok _
  | false =>
  rw [h1] at hl
  cases h1 : Nat.beq f 30 with
  | true => have := Abs.beq_eq h1; subst this; injection hl with hl; subst hl; exact Abs.Bld.string_ok _
  | false =>
  rw [h1] at hl
  cases h1 : Nat.beq f 93 with
  | true => have := Abs.beq_eq h1; subst this; injection hl with hl; subst hl; exact Abs.Bld.indexByte_ok _
  | false =>
  rw [h1] at hl
  cases h1 : Nat.beq f 95 with
  | true => have := Abs.beq_eq h1; subst this; injection hl with hl; subst hl; exact Abs.Lx.parseInt_ok rfl
  | false =>
  rw [h1] at hl
  cases h1 : Nat.beq f 45 with
  | true => have := Abs.beq_eq h1; subst this; injection hl with hl; subst hl; exact Abs.Lx.formatInt_ok rfl
  | false =>
  rw [h1] at hl
  cases h1 : Nat.beq f 46 with
  | true => have := Abs.beq_eq h1; subst this; injection hl with hl; subst hl; exact fun x y h => by cases h
  | false =>
  rw [h1] at hl
  cases hl

set_option maxRecDepth 100000 in
theorem walk_scan (a0 : ByteArray) (W : World) (hL : laidMetH Tryd.prog Rows.fnExactScanRow.laid W) : Calls Tryd.prog 4 #[.string a0] W fun e w' => e = .returned (.bool true) ∧ Below W.heap.size W w' := by
  obtain ⟨N, h⟩ := Abs.D.law_scan (Abs.bytesOf a0) (Abs.isByte_bytesOf a0)
  have hok := (sys N).fn 4 (by kernel_rfl) (Abs.bytesOf a0, ()) (true, (), ()) (h N (Nat.le_refl N)) (Abs.snap W) W [.string a0] [] (of_laid hL) (fun b L hb => Abs.snap_heap hb)
    ⟨_, _, [], [], rfl, rfl, ⟨rfl, rfl, rfl, _, rfl, a0, rfl, rfl⟩, rfl, rfl⟩ List.nodup_nil (fun b hb => by simp at hb)
  refine (Abs.calls_of_invokes Tryd.func4 rfl (by kernel_rfl) hok).mono ?_
  rintro e w' ⟨v, rfl, imm', n1, n2, A, ⟨_, h1, _, u, e2, h2⟩, h3⟩
  injection e2 with e2 _
  subst e2
  have h2 : [v] = [Value.bool true] := h2
  injection h2 with h2 _
  subst h2
  exact ⟨rfl, A.below⟩

theorem trodVars_len {H : Type} {enc : TypeId × Value → H} {P : Program} {w : World} {sp : Nat → Bool} : ∀ {ns : List String} {gs : List (DataW H)} {ps : List MemPlace}, DataW.TrodVars enc P w sp ns gs ps → gs.length = ns.length
  | [], [], _, _ => rfl
  | [], _ :: _, _, h => h.elim
  | _ :: _, [], _, h => h.elim
  | n :: ns, d :: ds, ps, h => by
    obtain ⟨g, t, cs, fuel, p, q, h1, h2, h3, h4, hs, e⟩ := h
    have := trodVars_len hs
    simp [this]

theorem own : ownKnob Tryd.prog.godebug = none := by kernel_rfl
theorem laidOut : laidOutB Tryd.prog = true := by kernel_rfl

set_option maxRecDepth 100000 in
theorem lifted_scan (os : Os) (started : os.Started) (H : Type) (enc : TypeId × Value → H) :
    ReturnsInHanded {} Tryd.checked os 4 .any (fun w args => (Rows.fnExactScanSpec.pre enc Tryd.prog Tryd.f4 Rows.fnExactScanRow.domain false w args ∧ laidMetH Tryd.prog Rows.fnExactScanRow.laid w) ∧ sizedMet enc Tryd.prog Tryd.f4 (OpenSpec.ofChange Rows.fnExactScanSpec) false w args)
      (Rows.fnExactScanSpec.post enc Tryd.prog Tryd.f4 false true false false) := by
  refine returnsInHanded_of_change_and (C := Tryd.checked) (X := fun w _ => laidMetH Tryd.prog Rows.fnExactScanRow.laid w) (fun _ _ _ hh h => h.of_heap hh) own started (by kernel_rfl) Tryd.func4
    (ChangeSpec.witness_shaped (enc := enc) (C := Tryd.checked) (os := os) (X := fun w _ => laidMetH Tryd.prog Rows.fnExactScanRow.laid w) false (World.laidAll Tryd.prog os Rows.fnExactScanRow.laid) #[.string ByteArray.empty] 8 (World.laidAll_os _ _ _)
      (World.shaped_of_ZipB (by kernel_rfl) (by kernel_rfl)) (by kernel_rfl) (by kernel_rfl) (by kernel_rfl)
      (by rw [MakeChecks.laidMetH_plain _ _ _ (by kernel_rfl)]; exact laidMet_laidAll _ (by kernel_rfl) (by kernel_rfl))) ?_
  intro W base args ds gs before hval0 hW _ _ hL _
  have hval : ∀ (j : Nat) t v, Tryd.f4.params[j]? = some t → args[j]? = some v → Value.okWide Tryd.prog W .any base t v := hval0
  have hW' := hW
  obtain ⟨p, q, hA0, hV, rfl, hfz, hnd⟩ := hW
  have hA : DataW.TrodAll enc Tryd.prog W 0 (fun _ => true) true Tryd.f4.params.toList args.toList ds p := hA0
  rw [Tryd.params4] at hA hval
  obtain ⟨v0, d0, hargs, rfl, h0⟩ := trodAll_one hA
  obtain rfl : args = #[v0] := by cases args; simp_all
  obtain ⟨a0, rfl, rfl, rfl, y0⟩ := open_string Tryd.underlying9 (hval 0 9 v0 rfl rfl) h0
  have hV3 := trodVars_len hV
  match gs, hV3, hV, hW' with
  | [g1, g2, g3], _, hV, hW' =>
    clear hA0 hval0
    refine (walk_scan a0 W hL).mono fun e W' ⟨he, bel⟩ => ?_
    subst he
    exact ⟨_, rfl, _, _, _, [], _, _, hW', trodAll_mk1 (shut_bool Tryd.underlying4 _), trodAll_mk1 (shut_string Tryd.underlying9 y0), Below.trodVars laidOut bel (by kernel_rfl) hV, bel.frame _, fun h => by cases h⟩

theorem row_scan : Rows.FnExactScanSaid :=
  OpenClaim.holds_of_wide 4 Tryd.f4 rfl rfl rfl rfl rfl rfl rfl ⟨rfl, rfl, rfl, rfl, rfl⟩ rfl rfl rfl rfl rfl (by kernel_rfl) Tryd.func4 (by kernel_rfl)
    (of_decide_eq_true (by kernel_rfl)) (by unfold Func.isWrapper; first | (rw [if_pos (by decide +kernel)]; kernel_rfl) | (rw [if_neg (by decide +kernel)]; exact ⟨rfl, rfl⟩))
    (fun os started H enc _ => lifted_scan os started H enc)

theorem fnExactScan_holds : Rows.FnExactScanCardSaid :=
  Claim7.holds_tied_plain_at .later [] [.data, .data, .data, .sentinel, .sentinel, .data, .data, .data] true (true, "607b33115784da865fe423d7123f84b6afc051212ae28e40bf49604fa8e2e808") true
    row_scan (fun _ h => by cases h) (by kernel_rfl) (fun _ h => by cases h) fnExactScan_row_tie rfl ⟨rfl, rfl⟩ (by kernel_rfl) rfl
    (fun f fn hf hfn => by
      obtain rfl : f = 4 := Option.some.inj ((show Tryd.prog.funcNamed "loop.example/warp/laws.FnExactScan" = some 4 by kernel_rfl).symm.trans hf) |>.symm
      obtain rfl : fn = Tryd.f4 := (Option.some.inj (Tryd.func4.symm.trans hfn)).symm
      exact ⟨by kernel_rfl, fun j t ht => by
        rw [Tryd.params4] at ht
        have hm : t ∈ [9] := by simpa using Array.mem_of_getElem? ht
        have hall : ([9].all fun u => !Tryd.prog.wantsStandIn u) = true := by kernel_rfl
        exact (show Tryd.prog.wantsStandIn t = false by simpa using List.all_eq_true.1 hall t hm)⟩)
    (by kernel_rfl)

end Go.Proofs.YtmallmelcmejeaaDoor
#print axioms Go.Proofs.YtmallmelcmejeaaDoor.fnExactScan_holds
end
