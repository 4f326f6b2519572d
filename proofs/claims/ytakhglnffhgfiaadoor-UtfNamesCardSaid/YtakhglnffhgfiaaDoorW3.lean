/-
  Walks: the reference's first character.
-/
import Derived.Test.YtakhglnffhgfiaaDoorW2
namespace Go.Proofs.YtakhglnffhgfiaaDoor
open Go.RowKit Go.Lib

theorem extract_list (t : ByteArray) (k : Nat) : (t.extract 0 k).data.toList = t.data.toList.take k := by
  rw [Lib.extract_data]; simp
theorem extract_size (t : ByteArray) (k : Nat) (h : k ≤ t.size) : (t.extract 0 k).size = k := by
  rw [Lib.size_eq, extract_list, List.length_take, ← Lib.size_eq]; omega

theorem putB_list (p : Int) : (putB p).data.toList = putL p := by
  by_cases h : 0 ≤ p ∧ p ≤ 1114111 ∧ ¬ (55296 ≤ p ∧ p < 57344)
  · rw [putL_ok h, putB_yes (by omega)]
    unfold encodeRune
    by_cases c1 : p ≤ 127
    · rw [encodeRuneZ_one (by omega) c1, encode_one (by omega) (by omega)]; rfl
    by_cases c2 : p ≤ 2047
    · rw [encodeRuneZ_two (by omega) c2, encode_two (by omega) (by omega)]; rfl
    by_cases c3 : p ≤ 65535
    · rw [encodeRuneZ_three (by omega), encode_three (by omega) (by omega) (by omega)]; rfl
    · rw [encodeRuneZ_four (by omega) (by omega), encode_four (by omega) (by omega)]; rfl
  · rw [putL_no h, putB_no (by omega)]

set_option maxHeartbeats 1000000 in
theorem refRune_any (s : ByteArray) (w : World) :
    Calls Tryd.prog 9 #[.string s] w fun e w' => e = .returned (.tuple #[.int .i64 (rn s.data.toList).1, .int .i64 ((rn s.data.toList).2 : Nat)]) ∧ Below w.heap.size w w' := by
  by_cases h0 : s.data.toList = []
  · have hr : rn s.data.toList = (-1, 0) := if_pos h0
    rw [hr]
    have he : s.toList.isEmpty = true := by rw [Lib.toList_data, h0]; rfl
    clear hr h0
    go_enter Tryd.func9, Tryd.ntmps9
    go_wp2
    go_ret2
    exact ⟨rfl, Below.refl _ _⟩
  · have he : s.toList.isEmpty = false := by rw [Lib.toList_data]; cases h : s.data.toList with | nil => exact absurd h h0 | cons _ _ => rfl
    have H0 : Hid (s.data.toList ≠ []) := h0
    clear h0
    go_enter Tryd.func9, Tryd.ntmps9
    go_wp2
    go_loopw [4] (fun n wr => ∃ k : Nat, 1 ≤ k ∧ k ≤ 5 ∧ n = .int .i64 k ∧ Below w.heap.size w wr ∧ Hid (∀ j, 1 ≤ j → j < k → hit s.data.toList j = false)) (fun n _ => 5 - (RowKit.intOf n).toNat)
    case atStart => exact ⟨1, by omega, by omega, rfl, Below.refl _ _, fun j _ _ => by omega⟩
    case round =>
      obtain ⟨k, hk1, hk5, rfl, hbw, HJ⟩ := hrel
      by_cases hc : k ≤ 4 ∧ k ≤ s.size
      · obtain ⟨c1, c2⟩ := hc
        have hB := bits_any (s.extract 0 k) wr (by rw [extract_size s k c2]; exact hk1) (by rw [extract_size s k c2]; exact c1)
        rw [extract_list] at hB
        have HH : Hid (hit s.data.toList k = (decide (0 ≤ bitsL (s.data.toList.take k)) && decide (putL (bitsL (s.data.toList.take k)) = s.data.toList.take k))) := rfl
        have HR : Hid (hit s.data.toList k = true → rn s.data.toList = (bitsL (s.data.toList.take k), k)) := fun h => rn_hit _ _ hk1 (by rw [← Lib.size_eq]; exact c2) h
        generalize bitsL (s.data.toList.take k) = x at hB HH HR
        by_cases hx : 0 ≤ x
        · go_wp2_with (go_at_call 26; refine hB.mono ?_; rintro e w' ⟨rfl, hb1⟩)
          go_region_with (go_at_call 15; refine (refPut_any x _).mono ?_; rintro e w' ⟨rfl, hb2⟩)
          go_wp2
          · have ht : ((putB x).toList == (s.extract 0 k).toList) = true := by assumption
            have hh : hit s.data.toList k = true := by
              rw [HH.out, ← putB_list, ← extract_list, ← Lib.toList_data, ← Lib.toList_data, decide_eq_true hx, decide_eq_true (eq_of_beq ht)]; rfl
            go_ret2
            rw [HR.out hh]
            exact ⟨rfl, (hbw.trans (hb1.mono hbw.size)).drew.trans (hb2.mono (Nat.le_trans hbw.size hb1.size))⟩
          · have ht : ((putB x).toList == (s.extract 0 k).toList) = false := by assumption
            have hh : hit s.data.toList k = false := by
              rw [HH.out, ← putB_list, ← extract_list, ← Lib.toList_data, ← Lib.toList_data, decide_eq_false (beq_eq_false_iff_ne.1 ht)]; exact Bool.and_false _
            go_roundw
            case rel => exact ⟨k + 1, by omega, by omega, by go_num, (hbw.trans (hb1.mono hbw.size)).drew.trans (hb2.mono (Nat.le_trans hbw.size hb1.size)), fun j h1 h2 => by
              by_cases hj : j = k
              · rw [hj]; exact hh
              · exact HJ.out j h1 (by omega)⟩
            case measure => simp [RowKit.intOf]; omega
        · have hx' : decide (0 ≤ x) = false := by simpa using hx
          go_wp2_with (go_at_call 26; refine hB.mono ?_; rintro e w' ⟨rfl, hb1⟩)
          go_quiet (fail)
          go_wp2
          go_roundw
          case rel => exact ⟨k + 1, by omega, by omega, by go_num, below_drewN (hbw.trans (hb1.mono hbw.size)) _, fun j h1 h2 => by
            by_cases hj : j = k
            · rw [hj, HH.out, hx']; rfl
            · exact HJ.out j h1 (by omega)⟩
          case measure => simp [RowKit.intOf]; omega
      · have hn : ¬ (k ≤ 4 ∧ k ≤ s.size) := hc
        have hnz : ¬ ((k : Int) ≤ 4) ∨ ((k : Int) ≤ 4 ∧ ¬ ((k : Int) ≤ (s.size : Int))) := by omega
        have HM : Hid (rn s.data.toList = (-1, 1)) := rn_miss _ H0.out fun j h1 h2 h3 => HJ.out j h1 (by rw [← Lib.size_eq] at h3; omega)
        clear hc hn
        rcases hnz with hnz | ⟨hnz, hny⟩
        all_goals
          go_wp2
          go_ret2
          rw [HM.out]
          exact ⟨rfl, hbw⟩
end Go.Proofs.YtakhglnffhgfiaaDoor
