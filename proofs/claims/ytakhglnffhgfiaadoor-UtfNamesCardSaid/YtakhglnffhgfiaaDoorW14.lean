/-
  The closed law UtfNames, walked: it answers true.
-/
import Derived.Test.YtakhglnffhgfiaaDoorW13
namespace Go.Proofs.YtakhglnffhgfiaaDoor
open Go.RowKit Go.Lib

theorem rnE0 : rn [] = (-1, 0) := by kernel_rfl
theorem rnE1 : rn [237, 160, 128] = (-1, 1) := by kernel_rfl
theorem rnE2 : rn [192, 128] = (-1, 1) := by kernel_rfl
theorem rnE3 : rn [244, 144, 128, 128] = (-1, 1) := by kernel_rfl
theorem rnE4 : rn [244, 143, 191, 191, 33] = (1114111, 4) := by kernel_rfl
theorem extE4 : ((⟨#[244, 143, 191, 191, 33]⟩ : ByteArray).extract 0 4).toList = [244, 143, 191, 191] := by kernel_rfl
theorem putE4 : putB 1114111 = ⟨#[244, 143, 191, 191]⟩ := by kernel_rfl
theorem rnE5 : rn [239, 191, 189] = (65533, 3) := by kernel_rfl
theorem extE5 : ((⟨#[239, 191, 189]⟩ : ByteArray).extract 0 3).toList = [239, 191, 189] := by kernel_rfl
theorem putE5 : putB 65533 = ⟨#[239, 191, 189]⟩ := by kernel_rfl
theorem rnE6 : rn [226, 130] = (-1, 1) := by kernel_rfl
theorem rnE7 : rn [0] = (0, 1) := by kernel_rfl
theorem extE7 : ((⟨#[0]⟩ : ByteArray).extract 0 1).toList = [0] := by kernel_rfl
theorem putE7 : putB 0 = ⟨#[0]⟩ := by kernel_rfl
theorem rnE8 : rn [127, 122] = (127, 1) := by kernel_rfl
theorem extE8 : ((⟨#[127, 122]⟩ : ByteArray).extract 0 1).toList = [127] := by kernel_rfl
theorem putE8 : putB 127 = ⟨#[127]⟩ := by kernel_rfl
theorem rnE9 : rn [194, 128] = (128, 2) := by kernel_rfl
theorem extE9 : ((⟨#[194, 128]⟩ : ByteArray).extract 0 2).toList = [194, 128] := by kernel_rfl
theorem putE9 : putB 128 = ⟨#[194, 128]⟩ := by kernel_rfl
theorem rnE10 : rn [223, 191] = (2047, 2) := by kernel_rfl
theorem extE10 : ((⟨#[223, 191]⟩ : ByteArray).extract 0 2).toList = [223, 191] := by kernel_rfl
theorem putE10 : putB 2047 = ⟨#[223, 191]⟩ := by kernel_rfl
theorem rnE11 : rn [224, 160, 128] = (2048, 3) := by kernel_rfl
theorem extE11 : ((⟨#[224, 160, 128]⟩ : ByteArray).extract 0 3).toList = [224, 160, 128] := by kernel_rfl
theorem putE11 : putB 2048 = ⟨#[224, 160, 128]⟩ := by kernel_rfl
theorem rnE12 : rn [240, 144, 128, 128] = (65536, 4) := by kernel_rfl
theorem extE12 : ((⟨#[240, 144, 128, 128]⟩ : ByteArray).extract 0 4).toList = [240, 144, 128, 128] := by kernel_rfl
theorem putE12 : putB 65536 = ⟨#[240, 144, 128, 128]⟩ := by kernel_rfl
theorem rnE13 : rn [128] = (-1, 1) := by kernel_rfl
theorem quiet_put (p : Int) (t : ByteArray) (h : putB p = t) (W : World) : Calls Tryd.prog 14 #[.int .i64 p] W fun e w' => e = .returned (.string t) ∧ w' = W := by
  rw [← h]
  exact (put_any p W).mono fun _ _ ⟨he, hw⟩ => ⟨he, hw.symm⟩
theorem grows_putv {w : World} (p : Int) (t : ByteArray) (h : putB p = t) : Grows 14 #[.int .i64 p] w (.string t) := by
  rw [← h]; exact grows_put p
def tabN : Array Value := #[.string ⟨#[]⟩, .int .i64 (-1), .int .i64 0, .string ⟨#[237, 160, 128]⟩, .int .i64 (-1), .int .i64 1, .string ⟨#[192, 128]⟩, .int .i64 (-1), .int .i64 1, .string ⟨#[244, 144, 128, 128]⟩, .int .i64 (-1), .int .i64 1, .string ⟨#[244, 143, 191, 191, 33]⟩, .int .i64 1114111, .int .i64 4, .string ⟨#[239, 191, 189]⟩, .int .i64 65533, .int .i64 3, .string ⟨#[226, 130]⟩, .int .i64 (-1), .int .i64 1, .string ⟨#[0]⟩, .int .i64 0, .int .i64 1, .string ⟨#[127, 122]⟩, .int .i64 127, .int .i64 1, .string ⟨#[194, 128]⟩, .int .i64 128, .int .i64 2, .string ⟨#[223, 191]⟩, .int .i64 2047, .int .i64 2, .string ⟨#[224, 160, 128]⟩, .int .i64 2048, .int .i64 3, .string ⟨#[240, 144, 128, 128]⟩, .int .i64 65536, .int .i64 4, .string ⟨#[128]⟩, .int .i64 (-1), .int .i64 1]

set_option maxRecDepth 100000 in
set_option maxHeartbeats 8000000 in
theorem names_law (w : World) (hT : Tabs w) : Calls Tryd.prog 6 #[] w fun e w' => e = .returned (.bool true) ∧ Below w.heap.size w w' := by
  have c24 := grows_of hT fun W hW => works_any W hW
  have h0 := Below.refl w.heap.size w
  have HT : Hid (Tabs w) := hT
  clear hT
  go_enter Tryd.func6, Tryd.ntmps6
  go_wp2_with (go_at_call 24; refine (c24 _ (by assumption)).mono ?_; rintro e w1 ⟨rfl, hb1⟩; clear c24)
  go_loopw [49] (fun i wr => ∃ k : Nat, k ≤ 14 ∧ i = .int .i64 k ∧ Below (w1.heap.size + 1) (w1.alloc (.cells tabN 37)) wr) (fun i _ => 14 - (RowKit.intOf i).toNat)
  case atStart => exact ⟨0, by omega, rfl, Below.refl _ _⟩
  case round =>
    obtain ⟨k, hk, rfl, hbr⟩ := hrel
    have hbw : Below w.heap.size w wr := (hb1.trans ((Below.refl _ w1).alloc hb1.size _)).trans (hbr.mono (by have := hb1.size; omega))
    by_cases hk14 : k = 14
    · subst hk14
      have t0 := grows_halves (w := w) 119070 55348 56606 (by decide)
      have t1 := grows_halves (w := w) 65535 0 0 (by decide)
      have t2 := grows_pair (w := w) 55348 56606 119070 true (by decide)
      have t3 := grows_pair (w := w) 56606 55348 0 false (by decide)
      have t4 := grows_pair (w := w) 56320 56320 0 false (by decide)
      have t5 := grows_pair (w := w) 56319 57344 0 false (by decide)
      have t6 := grows_putv (w := w) 65536 ⟨#[240, 144, 128, 128]⟩ putE12
      have t7 := grows_len16 HT.out ⟨#[240, 144, 128, 128]⟩ (by decide) 2 (by kernel_rfl)
      have t8 := grows_putv (w := w) 65535 ⟨#[239, 191, 191]⟩ (by kernel_rfl)
      have t9 := grows_len16 HT.out ⟨#[239, 191, 191]⟩ (by decide) 1 (by kernel_rfl)
      have t10 := grows_unit HT.out ⟨#[97, 98]⟩ 3 (by decide) 0 1 (by kernel_rfl)
      have t11 := grows_unit HT.out ⟨#[97, 98]⟩ (-1) (by decide) 0 1 (by kernel_rfl)
      have t12 := grows_byte HT.out ⟨#[97, 98]⟩ 3 (by decide) 0 1 (by kernel_rfl)
      have t13 := grows_byte HT.out ⟨#[97, 98]⟩ (-1) (by decide) 0 1 (by kernel_rfl)
      have t14 := grows_byte HT.out ⟨#[]⟩ 0 (by decide) 0 0 (by kernel_rfl)
      have t15 := grows_putv (w := w) 55296 ⟨#[]⟩ (by kernel_rfl)
      have t16 := grows_putv (w := w) (-1) ⟨#[]⟩ (by kernel_rfl)
      have t17 := grows_putv (w := w) 1114112 ⟨#[]⟩ (by kernel_rfl)
      clear hbr
      go_wp2_with fail
      refine (Grows.go t0 _ hbw).mono ?_
      clear t0
      rintro e v0 ⟨rfl, q0⟩
      go_wp2_with fail
      refine (Grows.go t1 _ q0).mono ?_
      clear t1
      rintro e v1 ⟨rfl, q1⟩
      go_wp2_with fail
      refine (Grows.go t2 _ q1).mono ?_
      clear t2
      rintro e v2 ⟨rfl, q2⟩
      go_wp2_with fail
      refine (Grows.go t3 _ q2).mono ?_
      clear t3
      rintro e v3 ⟨rfl, q3⟩
      go_wp2_with fail
      refine (Grows.go t4 _ q3).mono ?_
      clear t4
      rintro e v4 ⟨rfl, q4⟩
      go_wp2_with fail
      refine (Grows.go t5 _ q4).mono ?_
      clear t5
      rintro e v5 ⟨rfl, q5⟩
      go_wp2_with fail
      refine (Grows.go t6 _ q5).mono ?_
      clear t6
      rintro e v6 ⟨rfl, q6⟩
      go_wp2_with fail
      refine (Grows.go t7 _ q6).mono ?_
      clear t7
      rintro e v7 ⟨rfl, q7⟩
      go_wp2_with fail
      refine (Grows.go t8 _ q7).mono ?_
      clear t8
      rintro e v8 ⟨rfl, q8⟩
      go_wp2_with fail
      refine (Grows.go t9 _ q8).mono ?_
      clear t9
      rintro e v9 ⟨rfl, q9⟩
      go_wp2_with fail
      refine (Grows.go t10 _ q9).mono ?_
      clear t10
      rintro e v10 ⟨rfl, q10⟩
      go_wp2_with fail
      refine (Grows.go t11 _ q10).mono ?_
      clear t11
      rintro e v11 ⟨rfl, q11⟩
      go_wp2_with fail
      refine (Grows.go t12 _ q11).mono ?_
      clear t12
      rintro e v12 ⟨rfl, q12⟩
      go_wp2_with fail
      refine (Grows.go t13 _ q12).mono ?_
      clear t13
      rintro e v13 ⟨rfl, q13⟩
      go_wp2_with fail
      refine (Grows.go t14 _ q13).mono ?_
      clear t14
      rintro e v14 ⟨rfl, q14⟩
      go_wp2_with fail
      refine (Grows.go t15 _ q14).mono ?_
      clear t15
      rintro e v15 ⟨rfl, q15⟩
      go_wp2_with fail
      refine (Grows.go t16 _ q15).mono ?_
      clear t16
      rintro e v16 ⟨rfl, q16⟩
      go_wp2_with fail
      refine (Grows.go t17 _ q16).mono ?_
      clear t17
      rintro e v17 ⟨rfl, q17⟩
      go_wp2
      go_ret
      exact ⟨rfl, q17⟩
    have hcell : ∀ j v, tabN[j]? = some v → wr.cell? ⟨w1.heap.size, j, none⟩ = some v := fun j v hv => (hbr.cell (p := ⟨w1.heap.size, j, none⟩) (by simp)).trans (by simp [hv])
    have hsz1 : w1.heap.size + 1 ≤ wr.heap.size := by have := hbr.size; simp at this; omega
    by_cases hk0 : k = 0
    · subst hk0
      have d0 := hcell 0 (.string ⟨#[]⟩) rfl
      have d1 := hcell 1 (.int .i64 (-1)) rfl
      have d2 := hcell 2 (.int .i64 0) rfl
      have cr := rune_any ⟨#[]⟩ (wr.alloc (.cells #[.string ⟨#[]⟩, .int .i64 (-1), .int .i64 0] 37)) (Utf8Tabs_below HT.out (hbw.alloc hbw.size _))
      rw [show rn (⟨#[]⟩ : ByteArray).data.toList = ((-1), 0) from rnE0] at cr
      dsimp only at cr
      clear hcell
      go_wp2_with (go_at_call 8; refine cr.mono ?_; rintro e w2 ⟨rfl, hb2⟩; clear cr)
      have e0 : w2.cell? ⟨wr.heap.size, 0, none⟩ = some (.string ⟨#[]⟩) := (hb2.cell (p := ⟨wr.heap.size, 0, none⟩) (by simp)).trans (by simp)
      have e1 : w2.cell? ⟨wr.heap.size, 1, none⟩ = some (.int .i64 (-1)) := (hb2.cell (p := ⟨wr.heap.size, 1, none⟩) (by simp)).trans (by simp)
      have e2 : w2.cell? ⟨wr.heap.size, 2, none⟩ = some (.int .i64 0) := (hb2.cell (p := ⟨wr.heap.size, 2, none⟩) (by simp)).trans (by simp)
      have hb3 : Below (w1.heap.size + 1) (w1.alloc (.cells tabN 37)) w2 := (hbr.alloc hsz1 _).trans (hb2.mono (by simp; omega))
      clear hb2 d0 d1 d2
      go_quiet (fail)
      go_wp2
      go_roundw
      case rel => exact ⟨1, by omega, rfl, below_drewN hb3 _⟩
      case measure => simp [RowKit.intOf]
    by_cases hk1 : k = 1
    · subst hk1
      have d0 := hcell 3 (.string ⟨#[237, 160, 128]⟩) rfl
      have d1 := hcell 4 (.int .i64 (-1)) rfl
      have d2 := hcell 5 (.int .i64 1) rfl
      have cr := rune_any ⟨#[237, 160, 128]⟩ (wr.alloc (.cells #[.string ⟨#[237, 160, 128]⟩, .int .i64 (-1), .int .i64 1] 37)) (Utf8Tabs_below HT.out (hbw.alloc hbw.size _))
      rw [show rn (⟨#[237, 160, 128]⟩ : ByteArray).data.toList = ((-1), 1) from rnE1] at cr
      dsimp only at cr
      clear hcell
      go_wp2_with (go_at_call 8; refine cr.mono ?_; rintro e w2 ⟨rfl, hb2⟩; clear cr)
      have e0 : w2.cell? ⟨wr.heap.size, 0, none⟩ = some (.string ⟨#[237, 160, 128]⟩) := (hb2.cell (p := ⟨wr.heap.size, 0, none⟩) (by simp)).trans (by simp)
      have e1 : w2.cell? ⟨wr.heap.size, 1, none⟩ = some (.int .i64 (-1)) := (hb2.cell (p := ⟨wr.heap.size, 1, none⟩) (by simp)).trans (by simp)
      have e2 : w2.cell? ⟨wr.heap.size, 2, none⟩ = some (.int .i64 1) := (hb2.cell (p := ⟨wr.heap.size, 2, none⟩) (by simp)).trans (by simp)
      have hb3 : Below (w1.heap.size + 1) (w1.alloc (.cells tabN 37)) w2 := (hbr.alloc hsz1 _).trans (hb2.mono (by simp; omega))
      clear hb2 d0 d1 d2
      go_quiet (fail)
      go_wp2
      go_roundw
      case rel => exact ⟨2, by omega, rfl, below_drewN hb3 _⟩
      case measure => simp [RowKit.intOf]
    by_cases hk2 : k = 2
    · subst hk2
      have d0 := hcell 6 (.string ⟨#[192, 128]⟩) rfl
      have d1 := hcell 7 (.int .i64 (-1)) rfl
      have d2 := hcell 8 (.int .i64 1) rfl
      have cr := rune_any ⟨#[192, 128]⟩ (wr.alloc (.cells #[.string ⟨#[192, 128]⟩, .int .i64 (-1), .int .i64 1] 37)) (Utf8Tabs_below HT.out (hbw.alloc hbw.size _))
      rw [show rn (⟨#[192, 128]⟩ : ByteArray).data.toList = ((-1), 1) from rnE2] at cr
      dsimp only at cr
      clear hcell
      go_wp2_with (go_at_call 8; refine cr.mono ?_; rintro e w2 ⟨rfl, hb2⟩; clear cr)
      have e0 : w2.cell? ⟨wr.heap.size, 0, none⟩ = some (.string ⟨#[192, 128]⟩) := (hb2.cell (p := ⟨wr.heap.size, 0, none⟩) (by simp)).trans (by simp)
      have e1 : w2.cell? ⟨wr.heap.size, 1, none⟩ = some (.int .i64 (-1)) := (hb2.cell (p := ⟨wr.heap.size, 1, none⟩) (by simp)).trans (by simp)
      have e2 : w2.cell? ⟨wr.heap.size, 2, none⟩ = some (.int .i64 1) := (hb2.cell (p := ⟨wr.heap.size, 2, none⟩) (by simp)).trans (by simp)
      have hb3 : Below (w1.heap.size + 1) (w1.alloc (.cells tabN 37)) w2 := (hbr.alloc hsz1 _).trans (hb2.mono (by simp; omega))
      clear hb2 d0 d1 d2
      go_quiet (fail)
      go_wp2
      go_roundw
      case rel => exact ⟨3, by omega, rfl, below_drewN hb3 _⟩
      case measure => simp [RowKit.intOf]
    by_cases hk3 : k = 3
    · subst hk3
      have d0 := hcell 9 (.string ⟨#[244, 144, 128, 128]⟩) rfl
      have d1 := hcell 10 (.int .i64 (-1)) rfl
      have d2 := hcell 11 (.int .i64 1) rfl
      have cr := rune_any ⟨#[244, 144, 128, 128]⟩ (wr.alloc (.cells #[.string ⟨#[244, 144, 128, 128]⟩, .int .i64 (-1), .int .i64 1] 37)) (Utf8Tabs_below HT.out (hbw.alloc hbw.size _))
      rw [show rn (⟨#[244, 144, 128, 128]⟩ : ByteArray).data.toList = ((-1), 1) from rnE3] at cr
      dsimp only at cr
      clear hcell
      go_wp2_with (go_at_call 8; refine cr.mono ?_; rintro e w2 ⟨rfl, hb2⟩; clear cr)
      have e0 : w2.cell? ⟨wr.heap.size, 0, none⟩ = some (.string ⟨#[244, 144, 128, 128]⟩) := (hb2.cell (p := ⟨wr.heap.size, 0, none⟩) (by simp)).trans (by simp)
      have e1 : w2.cell? ⟨wr.heap.size, 1, none⟩ = some (.int .i64 (-1)) := (hb2.cell (p := ⟨wr.heap.size, 1, none⟩) (by simp)).trans (by simp)
      have e2 : w2.cell? ⟨wr.heap.size, 2, none⟩ = some (.int .i64 1) := (hb2.cell (p := ⟨wr.heap.size, 2, none⟩) (by simp)).trans (by simp)
      have hb3 : Below (w1.heap.size + 1) (w1.alloc (.cells tabN 37)) w2 := (hbr.alloc hsz1 _).trans (hb2.mono (by simp; omega))
      clear hb2 d0 d1 d2
      go_quiet (fail)
      go_wp2
      go_roundw
      case rel => exact ⟨4, by omega, rfl, below_drewN hb3 _⟩
      case measure => simp [RowKit.intOf]
    by_cases hk4 : k = 4
    · subst hk4
      have d0 := hcell 12 (.string ⟨#[244, 143, 191, 191, 33]⟩) rfl
      have d1 := hcell 13 (.int .i64 1114111) rfl
      have d2 := hcell 14 (.int .i64 4) rfl
      have cr := rune_any ⟨#[244, 143, 191, 191, 33]⟩ (wr.alloc (.cells #[.string ⟨#[244, 143, 191, 191, 33]⟩, .int .i64 1114111, .int .i64 4] 37)) (Utf8Tabs_below HT.out (hbw.alloc hbw.size _))
      rw [show rn (⟨#[244, 143, 191, 191, 33]⟩ : ByteArray).data.toList = (1114111, 4) from rnE4] at cr
      dsimp only at cr
      clear hcell
      go_wp2_with (go_at_call 8; refine cr.mono ?_; rintro e w2 ⟨rfl, hb2⟩; clear cr)
      have e0 : w2.cell? ⟨wr.heap.size, 0, none⟩ = some (.string ⟨#[244, 143, 191, 191, 33]⟩) := (hb2.cell (p := ⟨wr.heap.size, 0, none⟩) (by simp)).trans (by simp)
      have e1 : w2.cell? ⟨wr.heap.size, 1, none⟩ = some (.int .i64 1114111) := (hb2.cell (p := ⟨wr.heap.size, 1, none⟩) (by simp)).trans (by simp)
      have e2 : w2.cell? ⟨wr.heap.size, 2, none⟩ = some (.int .i64 4) := (hb2.cell (p := ⟨wr.heap.size, 2, none⟩) (by simp)).trans (by simp)
      have hb3 : Below (w1.heap.size + 1) (w1.alloc (.cells tabN 37)) w2 := (hbr.alloc hsz1 _).trans (hb2.mono (by simp; omega))
      clear hb2 d0 d1 d2
      have hex := extE4
      go_quiet ((go_at_call 14; exact Calls.quiet_of_same (quiet_put 1114111 _ putE4 _)))
      go_wp2
      go_roundw
      case rel => exact ⟨5, by omega, rfl, below_drewN hb3 _⟩
      case measure => simp [RowKit.intOf]
    by_cases hk5 : k = 5
    · subst hk5
      have d0 := hcell 15 (.string ⟨#[239, 191, 189]⟩) rfl
      have d1 := hcell 16 (.int .i64 65533) rfl
      have d2 := hcell 17 (.int .i64 3) rfl
      have cr := rune_any ⟨#[239, 191, 189]⟩ (wr.alloc (.cells #[.string ⟨#[239, 191, 189]⟩, .int .i64 65533, .int .i64 3] 37)) (Utf8Tabs_below HT.out (hbw.alloc hbw.size _))
      rw [show rn (⟨#[239, 191, 189]⟩ : ByteArray).data.toList = (65533, 3) from rnE5] at cr
      dsimp only at cr
      clear hcell
      go_wp2_with (go_at_call 8; refine cr.mono ?_; rintro e w2 ⟨rfl, hb2⟩; clear cr)
      have e0 : w2.cell? ⟨wr.heap.size, 0, none⟩ = some (.string ⟨#[239, 191, 189]⟩) := (hb2.cell (p := ⟨wr.heap.size, 0, none⟩) (by simp)).trans (by simp)
      have e1 : w2.cell? ⟨wr.heap.size, 1, none⟩ = some (.int .i64 65533) := (hb2.cell (p := ⟨wr.heap.size, 1, none⟩) (by simp)).trans (by simp)
      have e2 : w2.cell? ⟨wr.heap.size, 2, none⟩ = some (.int .i64 3) := (hb2.cell (p := ⟨wr.heap.size, 2, none⟩) (by simp)).trans (by simp)
      have hb3 : Below (w1.heap.size + 1) (w1.alloc (.cells tabN 37)) w2 := (hbr.alloc hsz1 _).trans (hb2.mono (by simp; omega))
      clear hb2 d0 d1 d2
      have hex := extE5
      go_quiet ((go_at_call 14; exact Calls.quiet_of_same (quiet_put 65533 _ putE5 _)))
      go_wp2
      go_roundw
      case rel => exact ⟨6, by omega, rfl, below_drewN hb3 _⟩
      case measure => simp [RowKit.intOf]
    by_cases hk6 : k = 6
    · subst hk6
      have d0 := hcell 18 (.string ⟨#[226, 130]⟩) rfl
      have d1 := hcell 19 (.int .i64 (-1)) rfl
      have d2 := hcell 20 (.int .i64 1) rfl
      have cr := rune_any ⟨#[226, 130]⟩ (wr.alloc (.cells #[.string ⟨#[226, 130]⟩, .int .i64 (-1), .int .i64 1] 37)) (Utf8Tabs_below HT.out (hbw.alloc hbw.size _))
      rw [show rn (⟨#[226, 130]⟩ : ByteArray).data.toList = ((-1), 1) from rnE6] at cr
      dsimp only at cr
      clear hcell
      go_wp2_with (go_at_call 8; refine cr.mono ?_; rintro e w2 ⟨rfl, hb2⟩; clear cr)
      have e0 : w2.cell? ⟨wr.heap.size, 0, none⟩ = some (.string ⟨#[226, 130]⟩) := (hb2.cell (p := ⟨wr.heap.size, 0, none⟩) (by simp)).trans (by simp)
      have e1 : w2.cell? ⟨wr.heap.size, 1, none⟩ = some (.int .i64 (-1)) := (hb2.cell (p := ⟨wr.heap.size, 1, none⟩) (by simp)).trans (by simp)
      have e2 : w2.cell? ⟨wr.heap.size, 2, none⟩ = some (.int .i64 1) := (hb2.cell (p := ⟨wr.heap.size, 2, none⟩) (by simp)).trans (by simp)
      have hb3 : Below (w1.heap.size + 1) (w1.alloc (.cells tabN 37)) w2 := (hbr.alloc hsz1 _).trans (hb2.mono (by simp; omega))
      clear hb2 d0 d1 d2
      go_quiet (fail)
      go_wp2
      go_roundw
      case rel => exact ⟨7, by omega, rfl, below_drewN hb3 _⟩
      case measure => simp [RowKit.intOf]
    by_cases hk7 : k = 7
    · subst hk7
      have d0 := hcell 21 (.string ⟨#[0]⟩) rfl
      have d1 := hcell 22 (.int .i64 0) rfl
      have d2 := hcell 23 (.int .i64 1) rfl
      have cr := rune_any ⟨#[0]⟩ (wr.alloc (.cells #[.string ⟨#[0]⟩, .int .i64 0, .int .i64 1] 37)) (Utf8Tabs_below HT.out (hbw.alloc hbw.size _))
      rw [show rn (⟨#[0]⟩ : ByteArray).data.toList = (0, 1) from rnE7] at cr
      dsimp only at cr
      clear hcell
      go_wp2_with (go_at_call 8; refine cr.mono ?_; rintro e w2 ⟨rfl, hb2⟩; clear cr)
      have e0 : w2.cell? ⟨wr.heap.size, 0, none⟩ = some (.string ⟨#[0]⟩) := (hb2.cell (p := ⟨wr.heap.size, 0, none⟩) (by simp)).trans (by simp)
      have e1 : w2.cell? ⟨wr.heap.size, 1, none⟩ = some (.int .i64 0) := (hb2.cell (p := ⟨wr.heap.size, 1, none⟩) (by simp)).trans (by simp)
      have e2 : w2.cell? ⟨wr.heap.size, 2, none⟩ = some (.int .i64 1) := (hb2.cell (p := ⟨wr.heap.size, 2, none⟩) (by simp)).trans (by simp)
      have hb3 : Below (w1.heap.size + 1) (w1.alloc (.cells tabN 37)) w2 := (hbr.alloc hsz1 _).trans (hb2.mono (by simp; omega))
      clear hb2 d0 d1 d2
      have hex := extE7
      go_quiet ((go_at_call 14; exact Calls.quiet_of_same (quiet_put 0 _ putE7 _)))
      go_wp2
      go_roundw
      case rel => exact ⟨8, by omega, rfl, below_drewN hb3 _⟩
      case measure => simp [RowKit.intOf]
    by_cases hk8 : k = 8
    · subst hk8
      have d0 := hcell 24 (.string ⟨#[127, 122]⟩) rfl
      have d1 := hcell 25 (.int .i64 127) rfl
      have d2 := hcell 26 (.int .i64 1) rfl
      have cr := rune_any ⟨#[127, 122]⟩ (wr.alloc (.cells #[.string ⟨#[127, 122]⟩, .int .i64 127, .int .i64 1] 37)) (Utf8Tabs_below HT.out (hbw.alloc hbw.size _))
      rw [show rn (⟨#[127, 122]⟩ : ByteArray).data.toList = (127, 1) from rnE8] at cr
      dsimp only at cr
      clear hcell
      go_wp2_with (go_at_call 8; refine cr.mono ?_; rintro e w2 ⟨rfl, hb2⟩; clear cr)
      have e0 : w2.cell? ⟨wr.heap.size, 0, none⟩ = some (.string ⟨#[127, 122]⟩) := (hb2.cell (p := ⟨wr.heap.size, 0, none⟩) (by simp)).trans (by simp)
      have e1 : w2.cell? ⟨wr.heap.size, 1, none⟩ = some (.int .i64 127) := (hb2.cell (p := ⟨wr.heap.size, 1, none⟩) (by simp)).trans (by simp)
      have e2 : w2.cell? ⟨wr.heap.size, 2, none⟩ = some (.int .i64 1) := (hb2.cell (p := ⟨wr.heap.size, 2, none⟩) (by simp)).trans (by simp)
      have hb3 : Below (w1.heap.size + 1) (w1.alloc (.cells tabN 37)) w2 := (hbr.alloc hsz1 _).trans (hb2.mono (by simp; omega))
      clear hb2 d0 d1 d2
      have hex := extE8
      go_quiet ((go_at_call 14; exact Calls.quiet_of_same (quiet_put 127 _ putE8 _)))
      go_wp2
      go_roundw
      case rel => exact ⟨9, by omega, rfl, below_drewN hb3 _⟩
      case measure => simp [RowKit.intOf]
    by_cases hk9 : k = 9
    · subst hk9
      have d0 := hcell 27 (.string ⟨#[194, 128]⟩) rfl
      have d1 := hcell 28 (.int .i64 128) rfl
      have d2 := hcell 29 (.int .i64 2) rfl
      have cr := rune_any ⟨#[194, 128]⟩ (wr.alloc (.cells #[.string ⟨#[194, 128]⟩, .int .i64 128, .int .i64 2] 37)) (Utf8Tabs_below HT.out (hbw.alloc hbw.size _))
      rw [show rn (⟨#[194, 128]⟩ : ByteArray).data.toList = (128, 2) from rnE9] at cr
      dsimp only at cr
      clear hcell
      go_wp2_with (go_at_call 8; refine cr.mono ?_; rintro e w2 ⟨rfl, hb2⟩; clear cr)
      have e0 : w2.cell? ⟨wr.heap.size, 0, none⟩ = some (.string ⟨#[194, 128]⟩) := (hb2.cell (p := ⟨wr.heap.size, 0, none⟩) (by simp)).trans (by simp)
      have e1 : w2.cell? ⟨wr.heap.size, 1, none⟩ = some (.int .i64 128) := (hb2.cell (p := ⟨wr.heap.size, 1, none⟩) (by simp)).trans (by simp)
      have e2 : w2.cell? ⟨wr.heap.size, 2, none⟩ = some (.int .i64 2) := (hb2.cell (p := ⟨wr.heap.size, 2, none⟩) (by simp)).trans (by simp)
      have hb3 : Below (w1.heap.size + 1) (w1.alloc (.cells tabN 37)) w2 := (hbr.alloc hsz1 _).trans (hb2.mono (by simp; omega))
      clear hb2 d0 d1 d2
      have hex := extE9
      go_quiet ((go_at_call 14; exact Calls.quiet_of_same (quiet_put 128 _ putE9 _)))
      go_wp2
      go_roundw
      case rel => exact ⟨10, by omega, rfl, below_drewN hb3 _⟩
      case measure => simp [RowKit.intOf]
    by_cases hk10 : k = 10
    · subst hk10
      have d0 := hcell 30 (.string ⟨#[223, 191]⟩) rfl
      have d1 := hcell 31 (.int .i64 2047) rfl
      have d2 := hcell 32 (.int .i64 2) rfl
      have cr := rune_any ⟨#[223, 191]⟩ (wr.alloc (.cells #[.string ⟨#[223, 191]⟩, .int .i64 2047, .int .i64 2] 37)) (Utf8Tabs_below HT.out (hbw.alloc hbw.size _))
      rw [show rn (⟨#[223, 191]⟩ : ByteArray).data.toList = (2047, 2) from rnE10] at cr
      dsimp only at cr
      clear hcell
      go_wp2_with (go_at_call 8; refine cr.mono ?_; rintro e w2 ⟨rfl, hb2⟩; clear cr)
      have e0 : w2.cell? ⟨wr.heap.size, 0, none⟩ = some (.string ⟨#[223, 191]⟩) := (hb2.cell (p := ⟨wr.heap.size, 0, none⟩) (by simp)).trans (by simp)
      have e1 : w2.cell? ⟨wr.heap.size, 1, none⟩ = some (.int .i64 2047) := (hb2.cell (p := ⟨wr.heap.size, 1, none⟩) (by simp)).trans (by simp)
      have e2 : w2.cell? ⟨wr.heap.size, 2, none⟩ = some (.int .i64 2) := (hb2.cell (p := ⟨wr.heap.size, 2, none⟩) (by simp)).trans (by simp)
      have hb3 : Below (w1.heap.size + 1) (w1.alloc (.cells tabN 37)) w2 := (hbr.alloc hsz1 _).trans (hb2.mono (by simp; omega))
      clear hb2 d0 d1 d2
      have hex := extE10
      go_quiet ((go_at_call 14; exact Calls.quiet_of_same (quiet_put 2047 _ putE10 _)))
      go_wp2
      go_roundw
      case rel => exact ⟨11, by omega, rfl, below_drewN hb3 _⟩
      case measure => simp [RowKit.intOf]
    by_cases hk11 : k = 11
    · subst hk11
      have d0 := hcell 33 (.string ⟨#[224, 160, 128]⟩) rfl
      have d1 := hcell 34 (.int .i64 2048) rfl
      have d2 := hcell 35 (.int .i64 3) rfl
      have cr := rune_any ⟨#[224, 160, 128]⟩ (wr.alloc (.cells #[.string ⟨#[224, 160, 128]⟩, .int .i64 2048, .int .i64 3] 37)) (Utf8Tabs_below HT.out (hbw.alloc hbw.size _))
      rw [show rn (⟨#[224, 160, 128]⟩ : ByteArray).data.toList = (2048, 3) from rnE11] at cr
      dsimp only at cr
      clear hcell
      go_wp2_with (go_at_call 8; refine cr.mono ?_; rintro e w2 ⟨rfl, hb2⟩; clear cr)
      have e0 : w2.cell? ⟨wr.heap.size, 0, none⟩ = some (.string ⟨#[224, 160, 128]⟩) := (hb2.cell (p := ⟨wr.heap.size, 0, none⟩) (by simp)).trans (by simp)
      have e1 : w2.cell? ⟨wr.heap.size, 1, none⟩ = some (.int .i64 2048) := (hb2.cell (p := ⟨wr.heap.size, 1, none⟩) (by simp)).trans (by simp)
      have e2 : w2.cell? ⟨wr.heap.size, 2, none⟩ = some (.int .i64 3) := (hb2.cell (p := ⟨wr.heap.size, 2, none⟩) (by simp)).trans (by simp)
      have hb3 : Below (w1.heap.size + 1) (w1.alloc (.cells tabN 37)) w2 := (hbr.alloc hsz1 _).trans (hb2.mono (by simp; omega))
      clear hb2 d0 d1 d2
      have hex := extE11
      go_quiet ((go_at_call 14; exact Calls.quiet_of_same (quiet_put 2048 _ putE11 _)))
      go_wp2
      go_roundw
      case rel => exact ⟨12, by omega, rfl, below_drewN hb3 _⟩
      case measure => simp [RowKit.intOf]
    by_cases hk12 : k = 12
    · subst hk12
      have d0 := hcell 36 (.string ⟨#[240, 144, 128, 128]⟩) rfl
      have d1 := hcell 37 (.int .i64 65536) rfl
      have d2 := hcell 38 (.int .i64 4) rfl
      have cr := rune_any ⟨#[240, 144, 128, 128]⟩ (wr.alloc (.cells #[.string ⟨#[240, 144, 128, 128]⟩, .int .i64 65536, .int .i64 4] 37)) (Utf8Tabs_below HT.out (hbw.alloc hbw.size _))
      rw [show rn (⟨#[240, 144, 128, 128]⟩ : ByteArray).data.toList = (65536, 4) from rnE12] at cr
      dsimp only at cr
      clear hcell
      go_wp2_with (go_at_call 8; refine cr.mono ?_; rintro e w2 ⟨rfl, hb2⟩; clear cr)
      have e0 : w2.cell? ⟨wr.heap.size, 0, none⟩ = some (.string ⟨#[240, 144, 128, 128]⟩) := (hb2.cell (p := ⟨wr.heap.size, 0, none⟩) (by simp)).trans (by simp)
      have e1 : w2.cell? ⟨wr.heap.size, 1, none⟩ = some (.int .i64 65536) := (hb2.cell (p := ⟨wr.heap.size, 1, none⟩) (by simp)).trans (by simp)
      have e2 : w2.cell? ⟨wr.heap.size, 2, none⟩ = some (.int .i64 4) := (hb2.cell (p := ⟨wr.heap.size, 2, none⟩) (by simp)).trans (by simp)
      have hb3 : Below (w1.heap.size + 1) (w1.alloc (.cells tabN 37)) w2 := (hbr.alloc hsz1 _).trans (hb2.mono (by simp; omega))
      clear hb2 d0 d1 d2
      have hex := extE12
      go_quiet ((go_at_call 14; exact Calls.quiet_of_same (quiet_put 65536 _ putE12 _)))
      go_wp2
      go_roundw
      case rel => exact ⟨13, by omega, rfl, below_drewN hb3 _⟩
      case measure => simp [RowKit.intOf]
    by_cases hk13 : k = 13
    · subst hk13
      have d0 := hcell 39 (.string ⟨#[128]⟩) rfl
      have d1 := hcell 40 (.int .i64 (-1)) rfl
      have d2 := hcell 41 (.int .i64 1) rfl
      have cr := rune_any ⟨#[128]⟩ (wr.alloc (.cells #[.string ⟨#[128]⟩, .int .i64 (-1), .int .i64 1] 37)) (Utf8Tabs_below HT.out (hbw.alloc hbw.size _))
      rw [show rn (⟨#[128]⟩ : ByteArray).data.toList = ((-1), 1) from rnE13] at cr
      dsimp only at cr
      clear hcell
      go_wp2_with (go_at_call 8; refine cr.mono ?_; rintro e w2 ⟨rfl, hb2⟩; clear cr)
      have e0 : w2.cell? ⟨wr.heap.size, 0, none⟩ = some (.string ⟨#[128]⟩) := (hb2.cell (p := ⟨wr.heap.size, 0, none⟩) (by simp)).trans (by simp)
      have e1 : w2.cell? ⟨wr.heap.size, 1, none⟩ = some (.int .i64 (-1)) := (hb2.cell (p := ⟨wr.heap.size, 1, none⟩) (by simp)).trans (by simp)
      have e2 : w2.cell? ⟨wr.heap.size, 2, none⟩ = some (.int .i64 1) := (hb2.cell (p := ⟨wr.heap.size, 2, none⟩) (by simp)).trans (by simp)
      have hb3 : Below (w1.heap.size + 1) (w1.alloc (.cells tabN 37)) w2 := (hbr.alloc hsz1 _).trans (hb2.mono (by simp; omega))
      clear hb2 d0 d1 d2
      go_quiet (fail)
      go_wp2
      go_roundw
      case rel => exact ⟨14, by omega, rfl, below_drewN hb3 _⟩
      case measure => simp [RowKit.intOf]
    omega
end Go.Proofs.YtakhglnffhgfiaaDoor
