/-
  Pos: a byte's position: the closure that sort.Search asks; the refusals.
-/
import Derived.Shelf.SlSorted.Search
import Derived.Test.YtkhbggihgodpkaaDoorW5
namespace Go.Proofs.YtkhbggihgodpkaaDoor
open Go.RowKit Go.Shelf Go.Lib

set_option maxRecDepth 100000 in
set_option maxHeartbeats 2000000 in
theorem pos1_any {w : World} {b g cap N bx bo : Nat} (i : Nat) (hi : i < N) (at' : Int) (f : Nat) (h1 : w.cell? ⟨b, 1, none⟩ = some (.slice (some ⟨g, 0, none⟩) N cap)) (hx : w.cell? ⟨bx, 0, none⟩ = some (.pointer (some ⟨b, 0, none⟩)))
    (ho : w.cell? ⟨bo, 0, none⟩ = some (.int .i64 at')) (hc : w.cell? ⟨g, i * 2, none⟩ = some (.int .i64 (f : Int))) :
    Calls Tryd.prog 30 #[.int .i64 (i : Int), .pointer (some ⟨bx, 0, none⟩), .pointer (some ⟨bo, 0, none⟩)] w fun e w' => e = .returned (.bool (decide (at' < (f : Int)))) ∧ ∃ q, w' = w.drewN q := by
  have hiz : (i : Int) < (N : Int) := by omega
  go_enter Tryd.func30, Tryd.ntmps30
  go_wp2
  go_quiet (fail)
  go_wp2
  go_ret
  exact ⟨rfl, _, rfl⟩

set_option maxRecDepth 100000 in
set_option maxHeartbeats 2000000 in
theorem pos_nil (at' : Int) (w : World) : Calls Tryd.prog 16 #[.pointer none, .int .i64 at'] w fun e w' => e = .returned (.tuple #[.agg #[.int .i64 0, .int .i64 0], .int .i64 2]) ∧ Below w.heap.size w w' := by
  go_enter Tryd.func16, Tryd.ntmps16
  go_wp2
  refine bodyPost_ret (v := .tuple #[.agg #[.int .i64 0, .int .i64 0], .int .i64 2]) (by simp [results, Tryd.f16, go_sem]) rfl ⟨rfl, ?_⟩
  exact (((Below.refl _ w).alloc (Nat.le_refl _) _).alloc (by simp) _).alloc (by simp; omega) _

set_option maxRecDepth 100000 in
set_option maxHeartbeats 4000000 in
theorem pos_bad {w : World} {b g cap : Nat} {s : ByteArray} (h : Idx w b g cap s) (at' : Int) (hn : at' < 0 ∨ (s.size : Int) < at') :
    Calls Tryd.prog 16 #[.pointer (some ⟨b, 0, none⟩), .int .i64 at'] w fun e w' => e = .returned (.tuple #[.agg #[.int .i64 0, .int .i64 0], .int .i64 1]) ∧ Below w.heap.size w w' := by
  have h0 := h.txt
  clear h
  have h0a : (((w.alloc (.cells #[.pointer (some ⟨b, 0, none⟩)] 23)).alloc (.cells #[.int .i64 at'] 3)).alloc (.cells #[.int .i64 0, .int .i64 0] 37)).cell? ⟨b, 0, none⟩ = _ := cell_alloc_l _ (cell_alloc_l _ (cell_alloc_l _ h0))
  have h1a : (((w.alloc (.cells #[.pointer (some ⟨b, 0, none⟩)] 23)).alloc (.cells #[.int .i64 at'] 3)).alloc (.cells #[.int .i64 0, .int .i64 0] 37)).cell? ⟨w.heap.size, 0, none⟩ = _ := cell_alloc_l _ (cell_alloc_l _ (cell_new_l w (.pointer (some ⟨b, 0, none⟩)) 23).1)
  go_enter Tryd.func16, Tryd.ntmps16
  by_cases hn0 : at' < 0
  · have d0 : decide (at' < 0) = true := by simpa using hn0
    clear hn
    go_wp2
    go_quiet (fail)
    go_wp2
    refine bodyPost_ret (v := .tuple #[.agg #[.int .i64 0, .int .i64 0], .int .i64 1]) (by simp [results, Tryd.f16, go_sem]) rfl ⟨rfl, ?_⟩
    exact (((below_drewN ((((Below.refl _ w).alloc (Nat.le_refl _) _).alloc (by simp) _).alloc (by simp; omega) _) _).setCell (by show w.heap.size ≤ w.heap.size + 1 + 1; omega) _).setCell (by show w.heap.size ≤ w.heap.size + 1 + 1; omega) _)
  · have d0 : decide (at' < 0) = false := by simpa using hn0
    have h2 : (s.size : Int) < at' := by omega
    have d1 : decide ((s.size : Int) < at') = true := by simpa using h2
    clear hn
    go_wp2
    go_quiet (fail)
    go_wp2
    refine bodyPost_ret (v := .tuple #[.agg #[.int .i64 0, .int .i64 0], .int .i64 1]) (by simp [results, Tryd.f16, go_sem]) rfl ⟨rfl, ?_⟩
    exact (((below_drewN ((((Below.refl _ w).alloc (Nat.le_refl _) _).alloc (by simp) _).alloc (by simp; omega) _) _).setCell (by show w.heap.size ≤ w.heap.size + 1 + 1; omega) _).setCell (by show w.heap.size ≤ w.heap.size + 1 + 1; omega) _)

set_option maxRecDepth 100000 in
set_option maxHeartbeats 4000000 in
theorem pos_mid {w : World} {b g cap : Nat} {s : ByteArray} (h : Idx w b g cap s) (k : Nat) (hk : k < s.size) (hr : Lib.runeStart ((s.data.toList.getD k 0).toNat : Int) = false) :
    Calls Tryd.prog 16 #[.pointer (some ⟨b, 0, none⟩), .int .i64 (k : Int)] w fun e w' => e = .returned (.tuple #[.agg #[.int .i64 0, .int .i64 0], .int .i64 1]) ∧ Below w.heap.size w w' := by
  have h0 := h.txt
  clear h
  have h0a : (((w.alloc (.cells #[.pointer (some ⟨b, 0, none⟩)] 23)).alloc (.cells #[.int .i64 (k : Int)] 3)).alloc (.cells #[.int .i64 0, .int .i64 0] 37)).cell? ⟨b, 0, none⟩ = _ := cell_alloc_l _ (cell_alloc_l _ (cell_alloc_l _ h0))
  have h1a : (((w.alloc (.cells #[.pointer (some ⟨b, 0, none⟩)] 23)).alloc (.cells #[.int .i64 (k : Int)] 3)).alloc (.cells #[.int .i64 0, .int .i64 0] 37)).cell? ⟨w.heap.size, 0, none⟩ = _ := cell_alloc_l _ (cell_alloc_l _ (cell_new_l w (.pointer (some ⟨b, 0, none⟩)) 23).1)
  have hkz : (k : Int) < (s.size : Int) := by omega
  have d0 : decide ((k : Int) < 0) = false := by simp
  have d1 : decide ((s.size : Int) < (k : Int)) = false := by simp; omega
  have d1n : decide (s.size < k) = false := by simp; omega
  have d2 : decide ((k : Int) < (s.size : Int)) = true := by simp; omega
  have d2n : decide (k < s.size) = true := by simp; omega
  have hc : s[k] = s.data.toList.getD k 0 := byte_at s k hk
  rw [← hc] at hr
  clear hc
  have cr := fun W => Tryd.utf8_RuneStart ((s[k].toNat : Nat) : Int) W (by omega) (by have := s[k].toNat_lt; omega)
  rw [hr] at cr
  clear hr
  go_enter Tryd.func16, Tryd.ntmps16
  go_wp2
  go_quiet ((go_at_call 28; exact Calls.quiet_of_same (cr _)))
  go_wp2
  refine bodyPost_ret (v := .tuple #[.agg #[.int .i64 0, .int .i64 0], .int .i64 1]) (by simp [results, Tryd.f16, go_sem]) rfl ⟨rfl, ?_⟩
  exact (((below_drewN ((((Below.refl _ w).alloc (Nat.le_refl _) _).alloc (by simp) _).alloc (by simp; omega) _) _).setCell (by show w.heap.size ≤ w.heap.size + 1 + 1; omega) _).setCell (by show w.heap.size ≤ w.heap.size + 1 + 1; omega) _)

end Go.Proofs.YtkhbggihgodpkaaDoor
