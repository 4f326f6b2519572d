/-
  The reference's Lines: a walk.
-/
import Derived.OwnWalk
import Derived.Test.YtkhbggihgodpkaaDoorW4
import Derived.Test.YtkhbggihgodpkaaDoorR2
namespace Go.Proofs.YtkhbggihgodpkaaDoor
open Go.RowKit Go.Shelf Go.Lib

/-- A slice of a text's lines, in a row of its own. -/
def LRow (W : World) (B g cap : Nat) (s : ByteArray) : Prop :=
  B ≤ g ∧ W.ownsRow B 32 2 (.slice (some ⟨g, 0, none⟩) (spans s.data.toList).length cap) (spans s.data.toList).length (cellsS (spans s.data.toList))

set_option maxRecDepth 100000 in
set_option maxHeartbeats 2000000 in
theorem refLines_any (s : ByteArray) (w : World) (hs : s.size ≤ 70000) :
    Calls Tryd.prog 12 #[.string s] w fun e w' => ∃ g cap, e = .returned (.slice (some ⟨g, 0, none⟩) (spans s.data.toList).length cap) ∧ Below w.heap.size w w' ∧ LRow w' w.heap.size g cap s := by
  obtain ⟨i0, hi, hz0, hz1, hz2⟩ := info_parts info32
  have HB : Hid (∀ i (h : i < s.size), s[i] = s.data.toList.getD i 0) := byte_at s
  have HS : Hid (s.data.toList.length = s.size) := (Lib.size_eq s).symm
  have HN : Hid ((spans s.data.toList).length ≤ 70001) := by show _ ≤ _; have := spans_length s.data.toList; rw [← Lib.size_eq] at this; omega
  have HP : Hid (0 < (spans s.data.toList).length) := spF_pos _ _ _ _
  obtain ⟨B, hB⟩ : ∃ B, w.heap.size = B := ⟨_, rfl⟩
  rw [hB]
  have HB0 := Lib.hid hB
  clear hB
  go_enter Tryd.func12, Tryd.ntmps12
  go_wp2
  go_loopw [3, 4, 5] (fun ov fv iv wr => ∃ (a k : Nat) (pre : List (Nat × Nat)), fv = .int .i64 a ∧ iv = .int .i64 k ∧ a ≤ k ∧ k ≤ s.size ∧ Hid (spans s.data.toList = pre ++ spAt s.data.toList a k) ∧ wr.ownsRow B 32 2 ov pre.length (cellsS pre) ∧ Below B w wr)
    (fun _ _ iv _ => s.size - (intOf iv).toNat)
  case atStart => exact ⟨0, 0, [], rfl, rfl, Nat.le_refl _, Nat.zero_le _, rfl, World.ownsRow_nil _ _ _ _, by rw [← HB0.out]; exact Below.refl _ _⟩
  case round =>
    obtain ⟨a, k, pre, rfl, rfl, hak, hk, hpre, hown, hbw⟩ := hrel
    have hBw : B ≤ wr.heap.size := by have := hbw.size; have := HB0.out; omega
    have hpl : pre.length < 70002 := by
      have h1 := HN.out
      rw [hpre.out, List.length_append] at h1
      omega
    by_cases hlt : k < s.size
    · have hlz : (k : Int) < (s.size : Int) := by omega
      obtain ⟨c, hc⟩ : ∃ c, s[k] = c := ⟨_, rfl⟩
      have hcl : Hid (s.data.toList.getD k 0 = c) := by show _ = _; rw [← HB.out k hlt, hc]
      by_cases he : eol c = true
      · have hst : Hid (spans s.data.toList = (pre ++ [(a, k)]) ++ spAt s.data.toList (nx s.data.toList k) (nx s.data.toList k)) := by
          show _ = _
          rw [hpre.out, spAt_eol a (by rw [HS.out]; exact hlt) (by rw [hcl.out]; exact he), List.append_assoc]; rfl
        have hnew : (wr.alloc (.cells #[.int .i64 (a : Int), .int .i64 (k : Int)] 32)).heap[wr.heap.size]? = some (.cells #[.int .i64 (a : Int), .int .i64 (k : Int)] 32 (0, 0)) := World.alloc_heap_new wr _
        have HNW := Lib.hid hnew
        clear hpre hnew
        have hcc : c = 10 ∨ c = 13 := eol_or he
        clear he
        rcases hcc with rfl | rfl
        · have hnx : nx s.data.toList k = k + 1 := nx_one (by rw [hcl.out]; simp)
          rw [hnx] at hst
          clear hnx
          go_wp2_with (at_builtin; refine wpList_append_own _ rfl (.tmp 22) (.tmp 26) 28 rfl B 32 i0 (.agg #[.int .i64 0, .int .i64 0]) 2 16 Tryd.underlying28 hi hz0 hz1 hz2 rfl (by decide) _ _ _ rfl (hown.alloc _) ⟨wr.heap.size, 0, none⟩ 1 1 [.int .i64 (a : Int), .int .i64 (k : Int)] rfl rfl (World.news_of_block HNW.out) (by intro u hu; simp at hu; rcases hu with rfl | rfl <;> rfl) (by unfold maxLen; omega) (by omega) (by simp; omega) ?_; intro v' w1 hown' hgrow _)
          go_roundw
          case rel => exact ⟨k + 1, k + 1, pre ++ [(a, k)], by go_num, by go_num, by omega, by omega, hst, by rw [cellsS_snoc, List.length_append]; exact hown', (hbw.alloc hBw _).grown hgrow (by simp; omega) (fun j hj => (own_row hown j hj).1)⟩
          case measure => simp [intOf]; omega
        · by_cases h1 : k + 1 < s.size
          · have h1z : (k : Int) + 1 < (s.size : Int) := by omega
            obtain ⟨d, hd⟩ : ∃ d, s[k + 1] = d := ⟨_, rfl⟩
            have hdl : Hid (s.data.toList.getD (k + 1) 0 = d) := by show _ = _; rw [← HB.out (k + 1) h1, hd]
            by_cases h10 : d = 10
            · subst h10
              have hnx : Hid (nx s.data.toList k = k + 2) := nx_crlf hcl.out (by rw [HS.out]; exact h1) hdl.out
              rw [hnx.out] at hst
              go_wp2_with (at_builtin; refine wpList_append_own _ rfl (.tmp 22) (.tmp 26) 28 rfl B 32 i0 (.agg #[.int .i64 0, .int .i64 0]) 2 16 Tryd.underlying28 hi hz0 hz1 hz2 rfl (by decide) _ _ _ rfl (hown.alloc _) ⟨wr.heap.size, 0, none⟩ 1 1 [.int .i64 (a : Int), .int .i64 (k : Int)] rfl rfl (World.news_of_block HNW.out) (by intro u hu; simp at hu; rcases hu with rfl | rfl <;> rfl) (by unfold maxLen; omega) (by omega) (by simp; omega) ?_; intro v' w1 hown' hgrow _)
              go_roundw
              case rel => exact ⟨k + 2, k + 2, pre ++ [(a, k)], by go_num, by go_num, by omega, by omega, hst, by rw [cellsS_snoc, List.length_append]; exact hown', (hbw.alloc hBw _).grown hgrow (by simp; omega) (fun j hj => (own_row hown j hj).1)⟩
              case measure => simp [intOf]; omega
            · have hnx : Hid (nx s.data.toList k = k + 1) := nx_one (by rw [hdl.out]; intro h; exact h10 h.2.2)
              have d1 : ((d.toNat : Int) == 10) = false := u8_ne h10
              rw [hnx.out] at hst
              clear h10
              go_wp2_with (at_builtin; refine wpList_append_own _ rfl (.tmp 22) (.tmp 26) 28 rfl B 32 i0 (.agg #[.int .i64 0, .int .i64 0]) 2 16 Tryd.underlying28 hi hz0 hz1 hz2 rfl (by decide) _ _ _ rfl (hown.alloc _) ⟨wr.heap.size, 0, none⟩ 1 1 [.int .i64 (a : Int), .int .i64 (k : Int)] rfl rfl (World.news_of_block HNW.out) (by intro u hu; simp at hu; rcases hu with rfl | rfl <;> rfl) (by unfold maxLen; omega) (by omega) (by simp; omega) ?_; intro v' w1 hown' hgrow _)
              go_roundw
              case rel => exact ⟨k + 1, k + 1, pre ++ [(a, k)], by go_num, by go_num, by omega, by omega, hst, by rw [cellsS_snoc, List.length_append]; exact hown', (hbw.alloc hBw _).grown hgrow (by simp; omega) (fun j hj => (own_row hown j hj).1)⟩
              case measure => simp [intOf]; omega
          · have hnx : Hid (nx s.data.toList k = k + 1) := nx_one (by rw [HS.out]; intro h; exact h1 h.2.1)
            have h1z : ¬ ((k : Int) + 1 < (s.size : Int)) := by omega
            rw [hnx.out] at hst
            clear h1
            go_wp2_with (at_builtin; refine wpList_append_own _ rfl (.tmp 22) (.tmp 26) 28 rfl B 32 i0 (.agg #[.int .i64 0, .int .i64 0]) 2 16 Tryd.underlying28 hi hz0 hz1 hz2 rfl (by decide) _ _ _ rfl (hown.alloc _) ⟨wr.heap.size, 0, none⟩ 1 1 [.int .i64 (a : Int), .int .i64 (k : Int)] rfl rfl (World.news_of_block HNW.out) (by intro u hu; simp at hu; rcases hu with rfl | rfl <;> rfl) (by unfold maxLen; omega) (by omega) (by simp; omega) ?_; intro v' w1 hown' hgrow _)
            go_roundw
            case rel => exact ⟨k + 1, k + 1, pre ++ [(a, k)], by go_num, by go_num, by omega, by omega, hst, by rw [cellsS_snoc, List.length_append]; exact hown', (hbw.alloc hBw _).grown hgrow (by simp; omega) (fun j hj => (own_row hown j hj).1)⟩
            case measure => simp [intOf]; omega
      · have hst : Hid (spans s.data.toList = pre ++ spAt s.data.toList a (k + 1)) := by
          show _ = _
          rw [hpre.out, spAt_skip a (by rw [HS.out]; exact hlt) (by rw [hcl.out]; simpa using he)]
        have hcn : c ≠ 10 ∧ c ≠ 13 := by
          have he' : eol c = false := by simpa using he
          simpa [eol] using he'
        have e1 : ((c.toNat : Int) == 10) = false := u8_ne hcn.1
        have e2 : ((c.toNat : Int) == 13) = false := u8_ne hcn.2
        have e3 : ((c.toNat : Int) != 10) = true := u8_ne' hcn.1
        have e4 : ((c.toNat : Int) != 13) = true := u8_ne' hcn.2
        clear hpre he hcn
        go_wp2
        go_roundw
        case rel => exact ⟨a, k + 1, pre, rfl, by go_num, by omega, by omega, hst, hown, hbw⟩
        case measure => simp [intOf]; omega
    · have hke : (s.size : Int) ≤ (k : Int) := by omega
      have hst : Hid (spans s.data.toList = pre ++ [(a, s.size)]) := by
        show _ = _
        rw [hpre.out, show k = s.data.toList.length from by rw [HS.out]; omega, spAt_end, HS.out]
      have HNW : Hid _ := World.alloc_heap_new wr (.cells #[.int .i64 (a : Int), .int .i64 (s.size : Int)] 32)
      go_wp2_with (at_builtin; refine wpList_append_own _ rfl (.tmp 50) (.tmp 55) 28 rfl B 32 i0 (.agg #[.int .i64 0, .int .i64 0]) 2 16 Tryd.underlying28 hi hz0 hz1 hz2 rfl (by decide) _ _ _ rfl (hown.alloc _) ⟨wr.heap.size, 0, none⟩ 1 1 [.int .i64 (a : Int), .int .i64 (s.size : Int)] rfl rfl (World.news_of_block HNW.out) (by intro u hu; simp at hu; rcases hu with rfl | rfl <;> rfl) (by unfold maxLen; omega) (by omega) (by simp; omega) ?_; intro v' w1 hown' hgrow _)
      rw [← cellsS_snoc pre (a, s.size), ← show (pre ++ [(a, s.size)]).length = pre.length + 1 from by simp, ← hst.out] at hown'
      obtain ⟨g, cap, rfl, hg1, hg2⟩ := hown'.form HP.out
      go_ret
      exact ⟨g, cap, rfl, (hbw.alloc hBw _).grown hgrow (by simp; omega) (fun j hj => (own_row hown j hj).1), hg1, hown'⟩
end Go.Proofs.YtkhbggihgodpkaaDoor
