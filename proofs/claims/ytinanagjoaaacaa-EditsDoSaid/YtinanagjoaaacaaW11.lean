/-
  The law's awake: a walk.
-/
import Derived.Test.YtinanagjoaaacaaW10
namespace Go.Proofs.Ytinanagjoaaacaa
open Go.RowKit Go.Shelf Go.Lib Go.Sort

theorem lit_rd (W : World) (l : List Ed) : Rd (W.alloc (.cells (cellsE l).toArray 37)) (.slice (some ⟨W.heap.size, 0, none⟩) l.length l.length) l := by
  refine .inr ⟨W.heap.size, 0, l.length, rfl, by simp, fun i x hx => ?_⟩
  obtain ⟨a0, a1, a2⟩ := cellsE_at l i x hx
  have hc : ∀ k u, (cellsE l)[k]? = some u → (W.alloc (.cells (cellsE l).toArray 37)).cell? ⟨W.heap.size, k, none⟩ = some u := fun k u h => by
    have := cell_of_heap (World.alloc_heap_new W (.cells (cellsE l).toArray 37)) k
    rw [this]
    simpa using h
  rw [Nat.zero_add]
  exact ⟨hc _ _ a0, hc _ _ a1, hc _ _ a2⟩
/-! ### Sorted, of closed edits -/
theorem sortE_of {l s : List Ed} (h : srt l = s) : sortE l = if l.any badE = true then 1 else if inOrdB s = true then 0 else 63 := by unfold sortE; rw [h]
theorem rowE_of {n : Nat} {l s : List Ed} (h : srt l = s) : rowE n l = if (if l.any badE = true then (1 : Int) else if inOrdB s = true then 0 else 63) ≠ 0 then (if l.any badE = true then 1 else if inOrdB s = true then 0 else 63) else if s.any (fun x => decide ((n : Int) < x.to)) = true then 1 else 0 := by
  unfold rowE
  rw [sortE_of h, h]
theorem doS_of {t : ByteArray} {l s : List Ed} (h : srt l = s) (h0 : rowE t.size l = 0) : doS t l = ⟨(doL t.data.toList 0 s).toArray⟩ := by
  unfold doS
  rw [if_pos h0, h]
theorem backS_of {t : ByteArray} {l s : List Ed} (h : srt l = s) (h0 : rowE t.size l = 0) : backS t l = bkL t s := by
  unfold backS
  rw [if_pos h0, h]
theorem moveV_of {a : Int} {l s : List Ed} (h : srt l = s) (h0 : moveE a l = 0) : moveV a l = mvV a a (mvL s) := by
  unfold moveV
  rw [if_pos h0, h]
def abcd : ByteArray := ⟨#[97, 98, 99, 100]⟩
def lA : List Ed := [⟨3, 4, ⟨#[88]⟩, 0⟩, ⟨1, 2, ⟨#[]⟩, 0⟩]
def sA : List Ed := [⟨1, 2, ⟨#[]⟩, 1⟩, ⟨3, 4, ⟨#[88]⟩, 0⟩]
theorem srt_A : srt lA = sA := (srt_uniq (List.Perm.swap _ _ _) (by simp [sA, leE, key, emp])).symm
theorem rowE_A : rowE abcd.size lA = 0 := by rw [rowE_of srt_A]; kernel_rfl
theorem doS_A : doS abcd lA = ⟨#[97, 99, 88]⟩ := by rw [doS_of srt_A rowE_A]; kernel_rfl
theorem back_A : backS abcd lA = [⟨1, 1, ⟨#[98]⟩, 0⟩, ⟨2, 3, ⟨#[100]⟩, 0⟩] := by
  rw [backS_of srt_A rowE_A]
  kernel_rfl
theorem sortE_A : sortE lA = 0 := by rw [sortE_of srt_A]; kernel_rfl
theorem move2_A : moveE 2 lA = 0 ∧ moveV 2 lA = 1 := by
  have h : moveE 2 lA = 0 := by unfold moveE; rw [sortE_A]; rfl
  exact ⟨h, by rw [moveV_of srt_A h]; kernel_rfl⟩
theorem move4_A : moveE 4 lA = 0 ∧ moveV 4 lA = 3 := by
  have h : moveE 4 lA = 0 := by unfold moveE; rw [sortE_A]; rfl
  exact ⟨h, by rw [moveV_of srt_A h]; kernel_rfl⟩

theorem lA_txS : (lA.length + 1) * abcd.size + txS lA ≤ 1099511627776 := by decide +kernel
set_option maxRecDepth 100000 in
set_option maxHeartbeats 4000000 in
theorem awake_any (w : World) : Calls Try.prog 10 #[] w fun e w' => e = .returned (.bool true) ∧ RowKit.Below w.heap.size w w' := by
  go_enter Try.func10, Try.ntmps10
  go_wp2_with (fail)
  refine (edit_any 3 4 _ w).mono ?_
  rintro e w1 ⟨rfl, o1, rfl⟩
  go_wp2_with (fail)
  refine (edit_any 1 2 _ _).mono ?_
  rintro e w2 ⟨rfl, o2, rfl⟩
  obtain ⟨W2, hW2⟩ : ∃ W, (w.alloc o1).alloc o2 = W := ⟨_, rfl⟩
  have k2 : RowKit.Below w.heap.size w W2 := by rw [← hW2]; exact ((RowKit.Below.refl _ w).alloc (Nat.le_refl _) _).alloc (by simp) _
  rw [hW2]
  clear hW2
  have hr2 := lit_rd W2 lA
  have k3 := k2.alloc k2.size (.cells (cellsE lA).toArray 37)
  obtain ⟨W3, hW3⟩ : ∃ W, W2.alloc (.cells (cellsE lA).toArray 37) = W := ⟨_, rfl⟩
  rw [hW3] at hr2 k3
  have HW3 := Lib.hid hW3
  have HR := Lib.hid hr2
  have HK := Lib.hid k3
  obtain ⟨g, hg⟩ : ∃ g, W2.heap.size = g := ⟨_, rfl⟩
  have HG := Lib.hid hg
  rw [hg] at HR
  clear hW3 hr2 k2 k3 hg
  go_wp2_with (fail)
  rw [show W2.alloc (.cells #[.int .i64 3, .int .i64 4, .string ⟨#[88]⟩, .int .i64 1, .int .i64 2, .string ⟨#[]⟩] 37) = W3 from HW3.out, HG.out]
  have c1 := do_e abcd W3 _ lA HR.out (by decide) lA_txS
  rw [doS_A, rowE_A] at c1
  refine c1.mono ?_
  rintro e w4 ⟨rfl, hb4⟩
  clear c1
  have HR4 := Lib.hid (HR.out.below hb4 (Nat.le_refl _))
  have HK4 := Lib.hid (HK.out.trans (hb4.mono HK.out.size))
  clear hb4
  go_wp2_with (fail)
  have c2 := back_e abcd w4 _ lA HR4.out (by decide) lA_txS
  rw [back_A, rowE_A] at c2
  refine c2.mono ?_
  rintro e w5 ⟨hb5, v', rfl, hw5⟩
  clear c2
  have HR5 := Lib.hid (HR4.out.below hb5 (Nat.le_refl _))
  have HK5 := Lib.hid (HK4.out.trans (hb5.mono HK4.out.size))
  have HB5 := Lib.hid hw5.rd
  clear hb5 hw5
  go_wp2_with (fail)
  have c3 := move_e 2 w5 _ lA HR5.out (by decide) (by simp [lA]) (by decide +kernel) (by omega)
  unfold MovePost at c3
  rw [move2_A.1, move2_A.2] at c3
  refine c3.mono ?_
  rintro e w6 ⟨rfl, hb6⟩
  clear c3
  have HR6 := Lib.hid (HR5.out.below hb6 (Nat.le_refl _))
  have HB6 := Lib.hid (HB5.out.below hb6 (Nat.le_refl _))
  have HK6 := Lib.hid (HK5.out.trans (hb6.mono HK5.out.size))
  clear hb6
  go_wp2_with (fail)
  have c4 := move_e 4 w6 _ lA HR6.out (by decide) (by simp [lA]) (by decide +kernel) (by omega)
  unfold MovePost at c4
  rw [move4_A.1, move4_A.2] at c4
  refine c4.mono ?_
  rintro e w7 ⟨rfl, hb7⟩
  clear c4
  have HB7 := Lib.hid (HB6.out.below hb7 (Nat.le_refl _))
  have HK7 := Lib.hid (HK6.out.trans (hb7.mono HK6.out.size))
  clear hb7
  go_wp2_with (fail)
  refine (edit_any 1 1 _ w7).mono ?_
  rintro e w8 ⟨rfl, o8, rfl⟩
  go_wp2_with (fail)
  refine (edit_any 2 3 _ _).mono ?_
  rintro e w9 ⟨rfl, o9, rfl⟩
  obtain ⟨W9, hW9⟩ : ∃ W, (w7.alloc o8).alloc o9 = W := ⟨_, rfl⟩
  have k9 : RowKit.Below w7.heap.size w7 W9 := by rw [← hW9]; exact ((RowKit.Below.refl _ w7).alloc (Nat.le_refl _) _).alloc (by simp) _
  rw [hW9]
  clear hW9
  have hr9 := lit_rd W9 [⟨1, 1, ⟨#[98]⟩, 0⟩, ⟨2, 3, ⟨#[100]⟩, 0⟩]
  have k10 := k9.alloc k9.size (.cells (cellsE [⟨1, 1, ⟨#[98]⟩, 0⟩, ⟨2, 3, ⟨#[100]⟩, 0⟩]).toArray 37)
  obtain ⟨W10, hW10⟩ : ∃ W, W9.alloc (.cells (cellsE [⟨1, 1, ⟨#[98]⟩, 0⟩, ⟨2, 3, ⟨#[100]⟩, 0⟩]).toArray 37) = W := ⟨_, rfl⟩
  rw [hW10] at hr9 k10
  have HW10 := Lib.hid hW10
  have HR9 := Lib.hid hr9
  have HB10 := Lib.hid (HB7.out.below k10 (Nat.le_refl _))
  have HK10 := Lib.hid (HK7.out.trans (k10.mono HK7.out.size))
  clear hW10 hr9 k9 k10
  go_wp2_with (fail)
  rw [show W9.alloc (.cells #[.int .i64 1, .int .i64 1, .string ⟨#[98]⟩, .int .i64 2, .int .i64 3, .string ⟨#[100]⟩] 37) = W10 from HW10.out]
  have c5 := same_any W10 v' _ _ _ HB10.out HR9.out (by simp) (by simp)
  rw [show sameE [⟨1, 1, ⟨#[98]⟩, 0⟩, ⟨2, 3, ⟨#[100]⟩, 0⟩] [⟨1, 1, ⟨#[98]⟩, 0⟩, ⟨2, 3, ⟨#[100]⟩, 0⟩] = true from by kernel_rfl] at c5
  refine c5.mono ?_
  rintro e w11 ⟨rfl, n11, rfl⟩
  clear c5
  have HK11 := Lib.hid (below_drewN HK10.out n11)
  go_wp2_with (fail)
  have c6 := diff_any ⟨#[97, 98, 99]⟩ ⟨#[97, 120, 99]⟩ (W10.drewN n11) (by decide) (by decide) (by decide)
  refine c6.mono ?_
  rintro e w12 ⟨v, x, rfl, hb12, hw12, _⟩
  clear c6
  have HK12 := Lib.hid (HK11.out.trans (hb12.mono HK11.out.size))
  clear hb12
  rcases hw12 with ⟨_, h⟩ | ⟨g', cap', rfl, _⟩
  · cases h
  · go_wp2
    go_ret
    exact ⟨rfl, HK12.out⟩
end Go.Proofs.Ytinanagjoaaacaa
