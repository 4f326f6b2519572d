/-
  awake: the first example.
-/
import Derived.Test.YtkhbggihgodpkaaDoorW9
namespace Go.Proofs.YtkhbggihgodpkaaDoor
open Go.RowKit Go.Shelf Go.Lib

def awT : ByteArray := ⟨#[97, 10, 195, 169, 13, 10, 240, 159, 152, 128, 120]⟩
theorem awV : validD awT.data.toList = true := by kernel_rfl
theorem awS : spans awT.data.toList = [(0, 1), (2, 4), (6, 11)] := by kernel_rfl
theorem awO1 : offsetV awT.data.toList 1 1 = (4, 0) := by kernel_rfl
theorem awO2 : offsetV awT.data.toList 2 2 = (10, 0) := by kernel_rfl
theorem awO3 : offsetV awT.data.toList 2 1 = (0, 60) := by kernel_rfl
theorem awO4 : offsetV awT.data.toList 1 2 = (0, 60) := by kernel_rfl
theorem awP1 : posV awT.data.toList 5 = ((1, 1), 0) := by kernel_rfl
theorem awP2 : posV awT.data.toList 3 = ((0, 0), 1) := by kernel_rfl
theorem awP3 : posV awT.data.toList 11 = ((2, 3), 0) := by kernel_rfl

theorem keep2 {W W' : World} {b : Nat} {u v : Value} (hb : Below W.heap.size W W') (h : W.cell? ⟨b, 0, none⟩ = some u ∧ W.cell? ⟨b, 1, none⟩ = some v) : W'.cell? ⟨b, 0, none⟩ = some u ∧ W'.cell? ⟨b, 1, none⟩ = some v :=
  ⟨(hb.cell (World.block_lt_of_cell? W ⟨b, 0, none⟩ h.1)).trans h.1, (hb.cell (World.block_lt_of_cell? W ⟨b, 1, none⟩ h.2)).trans h.2⟩

set_option maxRecDepth 100000 in
set_option maxHeartbeats 2000000 in
theorem awake_any (w : World) (hT : Tabs w) : Calls Tryd.prog 9 #[] w fun e w' => e = .returned (.bool true) ∧ Below w.heap.size w w' := by
  have cn := new_ok awT w (by decide) awV hT
  clear hT
  go_enter Tryd.func9, Tryd.ntmps9
  go_wp2_with (fail)
  refine cn.mono ?_
  rintro e w1 ⟨b, g, cap, rfl, hb1, hI, hlb, hlg⟩
  have c13 := hI.lines
  rw [awS] at c13
  have c14 := hI.line 1 (2, 4) (by rw [awS]; rfl)
  have o1 := hI.offset (by decide) 1 1
  have o2 := hI.offset (by decide) 2 2
  have o3 := hI.offset (by decide) 2 1
  have o4 := hI.offset (by decide) 1 2
  have p1 := hI.pos (by decide) 5
  have p2 := hI.pos (by decide) 3
  have p3 := hI.pos (by decide) 11
  rw [awO1] at o1
  rw [awO2] at o2
  rw [awO3] at o3
  rw [awO4] at o4
  rw [awP1] at p1
  rw [awP2] at p2
  rw [awP3] at p3
  have hs1 := hb1.size
  have hb0 := Below.refl w1.heap.size w1
  clear hI cn
  go_wp2_with (fail)
  refine (c13 _ hb0).mono ?_
  rintro e w2 ⟨rfl, hb2⟩
  have k2 := hb0.trans (hb2.mono (Nat.le_refl _))
  go_wp2_with (fail)
  refine (c14 _ k2).mono ?_
  rintro e w3 ⟨rfl, hb3⟩
  have k3 := k2.trans (hb3.mono k2.size)
  go_wp2_with (fail)
  obtain ⟨W3, hW3⟩ : ∃ W3, w3.alloc (.cells #[.int .i64 2, .int .i64 4] 32) = W3 := ⟨_, rfl⟩
  have l3 := cell_new2 w3 (.int .i64 2) (.int .i64 4) 32
  have k3' := k3.alloc k3.size (.cells #[.int .i64 2, .int .i64 4] 32)
  rw [hW3] at l3 k3' ⊢
  obtain ⟨B3, hB3⟩ : ∃ B3, w3.heap.size = B3 := ⟨_, rfl⟩
  rw [hB3] at l3 ⊢
  refine (o1 _ k3').mono ?_
  rintro e w4 ⟨rfl, hb4⟩
  have k4 := k3'.trans (hb4.mono k3'.size)
  have l4 := keep2 hb4 l3
  go_wp2_with (fail)
  refine (o2 _ k4).mono ?_
  rintro e w5 ⟨rfl, hb5⟩
  have k5 := k4.trans (hb5.mono k4.size)
  have l5 := keep2 hb5 l4
  go_wp2_with (fail)
  refine (o3 _ k5).mono ?_
  rintro e w6 ⟨rfl, hb6⟩
  have k6 := k5.trans (hb6.mono k5.size)
  have l6 := keep2 hb6 l5
  go_wp2_with (fail)
  refine (o4 _ k6).mono ?_
  rintro e w7 ⟨rfl, hb7⟩
  have k7 := k6.trans (hb7.mono k6.size)
  have l7 := keep2 hb7 l6
  go_wp2_with (fail)
  refine (p1 _ k7).mono ?_
  rintro e w8 ⟨rfl, hb8⟩
  have k8 := k7.trans (hb8.mono k7.size)
  have l8 := keep2 hb8 l7
  go_wp2_with (fail)
  obtain ⟨W8, hW8⟩ : ∃ W8, w8.alloc (.cells #[.int .i64 1, .int .i64 1] 37) = W8 := ⟨_, rfl⟩
  have i8 := cell_new2 w8 (.int .i64 1) (.int .i64 1) 37
  have k8' := k8.alloc k8.size (.cells #[.int .i64 1, .int .i64 1] 37)
  have l8' : W8.cell? ⟨B3, 0, none⟩ = some (.int .i64 2) ∧ W8.cell? ⟨B3, 1, none⟩ = some (.int .i64 4) := by rw [← hW8]; exact ⟨cell_alloc_l _ l8.1, cell_alloc_l _ l8.2⟩
  rw [hW8] at i8 k8' ⊢
  obtain ⟨B8, hB8⟩ : ∃ B8, w8.heap.size = B8 := ⟨_, rfl⟩
  rw [hB8] at i8 ⊢
  refine (p2 _ k8').mono ?_
  rintro e w9 ⟨rfl, hb9⟩
  have k9 := k8'.trans (hb9.mono k8'.size)
  have l9 := keep2 hb9 l8'
  have i9 := keep2 hb9 i8
  go_wp2_with (fail)
  obtain ⟨W9, hW9⟩ : ∃ W9, w9.alloc (.cells #[.int .i64 0, .int .i64 0] 37) = W9 := ⟨_, rfl⟩
  have k9' := k9.alloc k9.size (.cells #[.int .i64 0, .int .i64 0] 37)
  have l9' : W9.cell? ⟨B3, 0, none⟩ = some (.int .i64 2) ∧ W9.cell? ⟨B3, 1, none⟩ = some (.int .i64 4) := by rw [← hW9]; exact ⟨cell_alloc_l _ l9.1, cell_alloc_l _ l9.2⟩
  have i9' : W9.cell? ⟨B8, 0, none⟩ = some (.int .i64 1) ∧ W9.cell? ⟨B8, 1, none⟩ = some (.int .i64 1) := by rw [← hW9]; exact ⟨cell_alloc_l _ i9.1, cell_alloc_l _ i9.2⟩
  rw [hW9] at k9' ⊢
  refine (p3 _ k9').mono ?_
  rintro e w10 ⟨rfl, hb10⟩
  have k10 := k9'.trans (hb10.mono k9'.size)
  have l10 := keep2 hb10 l9'
  have i10 := keep2 hb10 i9'
  obtain ⟨l10a, l10b⟩ := l10
  obtain ⟨i10a, i10b⟩ := i10
  have l10c := cell_alloc_l (.cells #[.int .i64 2, .int .i64 3] 37) l10a
  have l10d := cell_alloc_l (.cells #[.int .i64 2, .int .i64 3] 37) l10b
  have i10c := cell_alloc_l (.cells #[.int .i64 2, .int .i64 3] 37) i10a
  have i10d := cell_alloc_l (.cells #[.int .i64 2, .int .i64 3] 37) i10b
  have kw := hb1.trans ((k10.alloc k10.size (.cells #[.int .i64 2, .int .i64 3] 37)).mono hb1.size)
  go_wp2_with (fail)
  go_ret
  exact ⟨rfl, kw⟩
end Go.Proofs.YtkhbggihgodpkaaDoor
