/-
  New's refusals; an index's Lines and Line; a character's units.
-/
import Derived.Test.YtkhbggihgodpkaaDoorW3
namespace Go.Proofs.YtkhbggihgodpkaaDoor
open Go.RowKit Go.Shelf Go.Lib

theorem cellsS_at : ∀ (xs : List (Nat × Nat)) (n : Nat) (x : Nat × Nat), xs[n]? = some x → (cellsS xs)[n * 2]? = some (.int .i64 (x.1 : Int)) ∧ (cellsS xs)[n * 2 + 1]? = some (.int .i64 (x.2 : Int))
  | [], n, x, h => by simp at h
  | y :: ys, 0, x, h => by
    obtain rfl : y = x := by simpa using h
    exact ⟨rfl, rfl⟩
  | y :: ys, n + 1, x, h => by
    have ih := cellsS_at ys n x (by simpa using h)
    have e : cellsS (y :: ys) = .int .i64 (y.1 : Int) :: .int .i64 (y.2 : Int) :: cellsS ys := by simp [cellsS]
    rw [e, show (n + 1) * 2 = n * 2 + 2 from by omega]
    exact ih
theorem Idx.at_ {w : World} {b g cap : Nat} {s : ByteArray} (h : Idx w b g cap s) {n : Nat} {x : Nat × Nat} (hn : (spans s.data.toList)[n]? = some x) :
    w.cell? ⟨g, n * 2, none⟩ = some (.int .i64 (x.1 : Int)) ∧ w.cell? ⟨g, n * 2 + 1, none⟩ = some (.int .i64 (x.2 : Int)) := by
  have hlt : n < (spans s.data.toList).length := (List.getElem?_eq_some_iff.1 hn).1
  rw [h.row.cellAt _ (by omega), h.row.cellAt _ (by omega)]
  exact cellsS_at _ _ _ hn

set_option maxHeartbeats 1000000 in
theorem new_big (s : ByteArray) (w : World) (hs : 65536 < (s.size : Int)) :
    Calls Tryd.prog 10 #[.string s] w fun e w' => e = .returned (.tuple #[.pointer none, .int .i64 40]) ∧ Below w.heap.size w w' := by
  go_enter Tryd.func10, Tryd.ntmps10
  go_wp2
  go_ret2
  exact ⟨rfl, Below.refl _ _⟩

set_option maxHeartbeats 1000000 in
theorem new_form (s : ByteArray) (w : World) (hs : (s.size : Int) ≤ 65536) (hv : validD s.data.toList = false) (hT : Tabs w) :
    Calls Tryd.prog 10 #[.string s] w fun e w' => e = .returned (.tuple #[.pointer none, .int .i64 4]) ∧ Below w.heap.size w w' := by
  have cv := Tryd.utf8_ValidString s w (by omega) hT
  rw [hv] at cv
  clear hT hv
  go_enter Tryd.func10, Tryd.ntmps10
  go_wp2_with (go_at_call 24; refine cv.mono ?_; rintro e w1 ⟨rfl, hb1⟩; clear cv)
  go_ret2
  exact ⟨rfl, hb1⟩

set_option maxHeartbeats 1000000 in
theorem lines_nil (w : World) : Calls Tryd.prog 13 #[.pointer none] w fun e w' => e = .returned (.int .i64 0) ∧ w' = w := by
  go_enter Tryd.func13, Tryd.ntmps13
  go_wp2
  go_ret
  exact ⟨rfl, rfl⟩

set_option maxHeartbeats 1000000 in
theorem lines_ok {w : World} {b g cap : Nat} {s : ByteArray} (h : Idx w b g cap s) :
    Calls Tryd.prog 13 #[.pointer (some ⟨b, 0, none⟩)] w fun e w' => e = .returned (.int .i64 ((spans s.data.toList).length : Int)) ∧ w' = w := by
  have h1 := h.lns
  clear h
  go_enter Tryd.func13, Tryd.ntmps13
  go_wp2
  go_ret
  exact ⟨rfl, rfl⟩

set_option maxHeartbeats 1000000 in
theorem line_nil (n : Int) (w : World) : Calls Tryd.prog 14 #[.pointer none, .int .i64 n] w fun e w' => e = .returned (.tuple #[.agg #[.int .i64 0, .int .i64 0], .int .i64 2]) ∧ Below w.heap.size w w' := by
  go_enter Tryd.func14, Tryd.ntmps14
  go_wp2
  refine bodyPost_ret (v := .tuple #[.agg #[.int .i64 0, .int .i64 0], .int .i64 2]) (by simp [results, Tryd.f14, go_sem]) rfl ⟨rfl, (Below.refl _ w).alloc (Nat.le_refl _) _⟩

set_option maxHeartbeats 1000000 in
theorem line_bad {w : World} {b g cap : Nat} {s : ByteArray} (h : Idx w b g cap s) (n : Int) (hn : ¬ (0 ≤ n ∧ n < ((spans s.data.toList).length : Int))) :
    Calls Tryd.prog 14 #[.pointer (some ⟨b, 0, none⟩), .int .i64 n] w fun e w' => e = .returned (.tuple #[.agg #[.int .i64 0, .int .i64 0], .int .i64 1]) ∧ Below w.heap.size w w' := by
  have h1 := h.lns
  clear h
  have h1a : (w.alloc (.cells #[.int .i64 0, .int .i64 0] 32)).cell? ⟨b, 1, none⟩ = _ := cell_alloc_l _ h1
  go_enter Tryd.func14, Tryd.ntmps14
  by_cases h0 : n < 0
  · clear hn
    go_wp2
    refine bodyPost_ret (v := .tuple #[.agg #[.int .i64 0, .int .i64 0], .int .i64 1]) (by simp [results, Tryd.f14, go_sem]) rfl ⟨rfl, (Below.refl _ w).alloc (Nat.le_refl _) _⟩
  · have h2 : ((spans s.data.toList).length : Int) ≤ n := by omega
    have h0' : 0 ≤ n := by omega
    clear hn
    go_wp2
    refine bodyPost_ret (v := .tuple #[.agg #[.int .i64 0, .int .i64 0], .int .i64 1]) (by simp [results, Tryd.f14, go_sem]) rfl ⟨rfl, (Below.refl _ w).alloc (Nat.le_refl _) _⟩

set_option maxHeartbeats 1000000 in
theorem line_ok {w : World} {b g cap : Nat} {s : ByteArray} (h : Idx w b g cap s) (n : Nat) (x : Nat × Nat) (hn : (spans s.data.toList)[n]? = some x) :
    Calls Tryd.prog 14 #[.pointer (some ⟨b, 0, none⟩), .int .i64 (n : Int)] w fun e w' => e = .returned (.tuple #[.agg #[.int .i64 (x.1 : Int), .int .i64 (x.2 : Int)], .int .i64 0]) ∧ Below w.heap.size w w' := by
  have h1 := h.lns
  have hlt : n < (spans s.data.toList).length := (List.getElem?_eq_some_iff.1 hn).1
  have c1 : w.cell? ⟨g, n * 2, none⟩ = some (.int .i64 (x.1 : Int)) := (h.at_ hn).1
  have c2 : w.cell? ⟨g, n * 2 + 1, none⟩ = some (.int .i64 (x.2 : Int)) := (h.at_ hn).2
  clear h hn
  have h1a : (w.alloc (.cells #[.int .i64 0, .int .i64 0] 32)).cell? ⟨b, 1, none⟩ = _ := cell_alloc_l _ h1
  have c1a : (w.alloc (.cells #[.int .i64 0, .int .i64 0] 32)).cell? ⟨g, n * 2, none⟩ = _ := cell_alloc_l _ c1
  have c2a : (w.alloc (.cells #[.int .i64 0, .int .i64 0] 32)).cell? ⟨g, n * 2 + 1, none⟩ = _ := cell_alloc_l _ c2
  have hz0 : 0 ≤ (n : Int) := by omega
  have hz : (n : Int) < ((spans s.data.toList).length : Int) := by omega
  go_enter Tryd.func14, Tryd.ntmps14
  go_wp2
  refine bodyPost_ret (v := .tuple #[.agg #[.int .i64 (x.1 : Int), .int .i64 (x.2 : Int)], .int .i64 0]) (by simp [results, Tryd.f14, go_sem]) rfl ⟨rfl, (Below.refl _ w).alloc (Nat.le_refl _) _⟩

set_option maxHeartbeats 1000000 in
theorem units_any (r : Int) (w : World) : Calls Tryd.prog 27 #[.int .i32 r] w fun e w' => e = .returned (.int .i64 (uB (two r) : Int)) ∧ w' = w := by
  go_enter Tryd.func27, Tryd.ntmps27
  by_cases h : 65535 < r
  · have h2 : two r = true := by simp [two]; omega
    rw [h2]
    go_wp2
    go_ret
    exact ⟨rfl, rfl⟩
  · have h2 : two r = false := by simp [two]; omega
    rw [h2]
    have h3 : r ≤ 65535 := by omega
    go_wp2
    go_ret
    exact ⟨rfl, rfl⟩
end Go.Proofs.YtkhbggihgodpkaaDoor
