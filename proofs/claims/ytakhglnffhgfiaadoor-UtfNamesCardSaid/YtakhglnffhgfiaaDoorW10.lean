/-
  Walks of the reference's Unit and Byte.
-/
import Derived.Test.YtakhglnffhgfiaaDoorW9
namespace Go.Proofs.YtakhglnffhgfiaaDoor
open Go.RowKit Go.Lib

set_option maxHeartbeats 2000000 in
theorem refUnit_any (s : ByteArray) (q : Int) (w : World) (hs : s.size ≤ 2305843009213693952) :
    Calls Tryd.prog 17 #[.string s, .int .i64 q] w fun e w' => e = .returned (.tuple #[.int .i64 (unitA s.data.toList q).1, .int .i64 (unitA s.data.toList q).2]) ∧ Below w.heap.size w w' := by
  by_cases hq : q < 0 ∨ (s.size : Int) < q
  · rw [show unitA s.data.toList q = (0, 1) by unfold unitA; rw [← Lib.size_eq, if_pos hq]]
    rcases hq with hq | hq
    · go_enter Tryd.func17, Tryd.ntmps17
      go_wp2
      go_ret2
      exact ⟨rfl, Below.refl _ _⟩
    · by_cases h0 : q < 0
      · omega
      · go_enter Tryd.func17, Tryd.ntmps17
        go_wp2
        go_ret2
        exact ⟨rfl, Below.refl _ _⟩
  · have h0 : 0 ≤ q := by omega
    have h1 : q ≤ (s.size : Int) := by omega
    clear hq
    have hl : s.data.toList.length = s.size := (Lib.size_eq s).symm
    rw [uRest_zero h0 (by omega)]
    obtain ⟨⟨R1, R2⟩, hR⟩ : ∃ R, uRest q s.data.toList 0 0 = R := ⟨_, rfl⟩
    rw [hR]
    have HR := Lib.hid hR
    have Hl := Lib.hid hl
    clear hR hl
    go_enter Tryd.func17, Tryd.ntmps17
    go_wp2
    go_loopw [6, 7] (fun n i wr => ∃ j m : Nat, i = .int .i64 j ∧ n = .int .i64 m ∧ j ≤ s.size ∧ (j : Int) ≤ q ∧ m ≤ 2 * j ∧ Below w.heap.size w wr ∧ Hid (uRest q s.data.toList j m = (R1, R2))) (fun _ i _ => s.size - (RowKit.intOf i).toNat)
    case atStart => exact ⟨0, 0, rfl, rfl, by omega, by omega, by omega, Below.refl _ _, HR⟩
    case round =>
      obtain ⟨j, m, rfl, rfl, hj, hjq, hm, hbw, hr⟩ := hrel
      by_cases hlt : j < s.size
      · have hlz : (j : Int) < (s.size : Int) := by omega
        by_cases he : (j : Int) = q
        · have hR := (uRest_at (n := m) (by rw [Hl.out]; exact hlt) he).symm.trans hr.out
          have ht : ((j : Int) == q) = true := beq_iff_eq.2 he
          have HR := Lib.hid hR
          clear he hr hR
          go_wp2
          go_ret2
          obtain ⟨e1, e2⟩ := Prod.mk.inj HR.out
          exact ⟨by rw [← e1, ← e2]; rfl, hbw⟩
        · have ht : ((j : Int) == q) = false := beq_eq_false_iff_ne.2 he
          have hjl : (j : Int) < q := by omega
          have hstep := (uRest_step (n := m) (by rw [Hl.out]; exact hlt) hjl).symm.trans hr.out
          obtain ⟨_, w1, w2⟩ := chsAt_step s.data.toList j (by rw [Hl.out]; exact hlt)
          rw [Hl.out] at w2
          have c := refRune_any (s.extract j s.size)
          simp only [ext_listR] at c
          obtain ⟨⟨r1, r2⟩, hrr⟩ : ∃ r, rn (s.data.toList.drop j) = r := ⟨_, rfl⟩
          simp only [hrr] at c hstep w1 w2
          have u1 := (uB_le (two r1)).2
          have cu := refUnits_any r1
          generalize two r1 = b at hstep u1 cu
          have Hst := Lib.hid hstep
          have u2 : (m : Int) ≤ 4611686018427387904 := by omega
          have u3 : ((uB b : Nat) : Int) ≤ 2 := by omega
          have u4 : (j : Int) + (r2 : Int) ≤ (s.size : Int) := by omega
          have C : Hid (∀ W : World, Calls Tryd.prog 9 #[.string (s.extract j s.size)] W fun e w' => e = .returned (.tuple #[.int .i64 r1, .int .i64 r2]) ∧ Below W.heap.size W w') := c
          have CU : Hid (∀ W : World, Calls Tryd.prog 28 #[.int .i64 r1] W fun e w' => e = .returned (.int .i64 (uB b : Nat)) ∧ W = w') := cu
          clear c cu hstep hrr hr he u1
          by_cases hp : q < (j : Int) + (r2 : Int)
          · go_wp2_with (first | (go_at_call 9; refine (C.out _).mono ?_; rintro e w' ⟨rfl, hb⟩) | (go_at_call 28; refine (CU.out _).mono ?_; rintro e w' ⟨rfl, rfl⟩))
            go_ret2
            have hx := uRest_past (n := m + uB b) (q := q) (l := s.data.toList) (i := j + r2) (by rw [Hl.out]; omega) (by omega)
            obtain ⟨e1, e2⟩ := Prod.mk.inj (hx.symm.trans Hst.out)
            exact ⟨by rw [← e1, ← e2]; rfl, hbw.trans (hb.mono hbw.size)⟩
          · go_wp2_with (first | (go_at_call 9; refine (C.out _).mono ?_; rintro e w' ⟨rfl, hb⟩) | (go_at_call 28; refine (CU.out _).mono ?_; rintro e w' ⟨rfl, rfl⟩))
            go_roundw
            case rel => exact ⟨j + r2, m + uB b, by go_num, by go_num, by omega, by omega, by omega, hbw.trans (hb.mono hbw.size), Hst⟩
            case measure => simp [RowKit.intOf]; omega
      · have hge : (s.size : Int) ≤ (j : Int) := by omega
        have hx := uRest_end (n := m) (q := q) (l := s.data.toList) (by rw [Hl.out]; omega)
        have hr' := hr.out
        rw [show j = s.data.toList.length by rw [Hl.out]; omega, hx] at hr'
        have HR := Lib.hid hr'
        clear hx hr' hr
        go_wp2
        go_ret2
        obtain ⟨e1, e2⟩ := Prod.mk.inj HR.out
        exact ⟨by rw [← e1, ← e2]; rfl, hbw⟩

set_option maxHeartbeats 2000000 in
theorem refByte_any (s : ByteArray) (q : Int) (w : World) (hs : s.size ≤ 2305843009213693952) :
    Calls Tryd.prog 19 #[.string s, .int .i64 q] w fun e w' => e = .returned (.tuple #[.int .i64 (byteA s.data.toList q).1, .int .i64 (byteA s.data.toList q).2]) ∧ Below w.heap.size w w' := by
  have cl := fun W => refLen16_any s W hs
  by_cases hq : q < 0 ∨ (len16 s.data.toList : Int) < q
  · rw [byteA_big hq]
    generalize len16 s.data.toList = L at cl hq
    have CL : Hid (∀ W : World, Calls Tryd.prog 23 #[.string s] W fun e w' => e = .returned (.int .i64 L) ∧ Below W.heap.size W w') := cl
    clear cl
    by_cases h0 : q < 0
    · go_enter Tryd.func19, Tryd.ntmps19
      go_wp2
      go_ret2
      exact ⟨rfl, Below.refl _ _⟩
    · have h1 : (L : Int) < q := by omega
      go_enter Tryd.func19, Tryd.ntmps19
      go_wp2_with (go_at_call 23; refine (CL.out _).mono ?_; rintro e w' ⟨rfl, hb0⟩)
      go_ret2
      exact ⟨rfl, hb0⟩
  · have h0 : 0 ≤ q := by omega
    have h1 : q ≤ (len16 s.data.toList : Int) := by omega
    clear hq
    have hl : s.data.toList.length = s.size := (Lib.size_eq s).symm
    have hz : len16 s.data.toList = 0 + sumU (chsAt s.data.toList 0) := by rw [chsAt_zero, Nat.zero_add]; rfl
    have hLb : len16 s.data.toList ≤ 2 * s.size := by have := len16_le s.data.toList; omega
    rw [bRest_zero h0]
    obtain ⟨⟨R1, R2⟩, hR⟩ : ∃ R, bRest q s.data.toList 0 0 = R := ⟨_, rfl⟩
    rw [hR]
    generalize len16 s.data.toList = L at cl h1 hz hLb
    have HR := Lib.hid hR
    have Hl := Lib.hid hl
    have Hz := Lib.hid hz
    have CL : Hid (∀ W : World, Calls Tryd.prog 23 #[.string s] W fun e w' => e = .returned (.int .i64 L) ∧ Below W.heap.size W w') := cl
    clear hR hl hz cl
    go_enter Tryd.func19, Tryd.ntmps19
    go_wp2_with (go_at_call 23; refine (CL.out _).mono ?_; rintro e w1 ⟨rfl, hb0⟩)
    go_loopw [6, 7] (fun n i wr => ∃ j m : Nat, i = .int .i64 j ∧ n = .int .i64 m ∧ j ≤ s.size ∧ (m : Int) ≤ q ∧ m ≤ 2 * j ∧ Below w.heap.size w wr ∧ Hid (L = m + sumU (chsAt s.data.toList j)) ∧ Hid (bRest q s.data.toList j m = (R1, R2))) (fun _ i _ => s.size - (RowKit.intOf i).toNat)
    case atStart => exact ⟨0, 0, rfl, rfl, by omega, by omega, by omega, hb0, Hz, HR⟩
    case round =>
      obtain ⟨j, m, rfl, rfl, hj, hjq, hm, hbw, hL, hr⟩ := hrel
      by_cases hlt : j < s.size
      · have hlz : (j : Int) < (s.size : Int) := by omega
        by_cases he : (m : Int) = q
        · have hR := (bRest_at (n := m) (by rw [Hl.out]; exact hlt) he).symm.trans hr.out
          have ht : ((m : Int) == q) = true := beq_iff_eq.2 he
          have HR := Lib.hid hR
          clear he hr hR
          go_wp2
          go_ret2
          obtain ⟨e1, e2⟩ := Prod.mk.inj HR.out
          exact ⟨by rw [← e1, ← e2]; rfl, hbw⟩
        · have ht : ((m : Int) == q) = false := beq_eq_false_iff_ne.2 he
          have hjl : (m : Int) < q := by omega
          have hstep := (bRest_step (i := j) (by rw [Hl.out]; exact hlt) hjl).symm.trans hr.out
          obtain ⟨w0, w1, w2⟩ := chsAt_step s.data.toList j (by rw [Hl.out]; exact hlt)
          rw [Hl.out] at w2
          have hL' := hL.out
          rw [w0, sumU_cons] at hL'
          have c := refRune_any (s.extract j s.size)
          simp only [ext_listR] at c
          clear w0
          obtain ⟨⟨r1, r2⟩, hrr⟩ : ∃ r, rn (s.data.toList.drop j) = r := ⟨_, rfl⟩
          simp only [hrr] at c hstep w1 w2 hL'
          have u1 := (uB_le (two r1)).2
          have cu := refUnits_any r1
          generalize two r1 = b at hstep u1 cu hL'
          have Hst := Lib.hid hstep
          have HL2 := Lib.hid hL'
          have u2 : (m : Int) ≤ 4611686018427387904 := by omega
          have u3 : ((uB b : Nat) : Int) ≤ 2 := by omega
          have u4 : (j : Int) + (r2 : Int) ≤ (s.size : Int) := by omega
          have C : Hid (∀ W : World, Calls Tryd.prog 9 #[.string (s.extract j s.size)] W fun e w' => e = .returned (.tuple #[.int .i64 r1, .int .i64 r2]) ∧ Below W.heap.size W w') := c
          have CU : Hid (∀ W : World, Calls Tryd.prog 28 #[.int .i64 r1] W fun e w' => e = .returned (.int .i64 (uB b : Nat)) ∧ W = w') := cu
          clear c cu hstep hrr hr he u1 hL' hL
          by_cases hp : q < (m : Int) + ((uB b : Nat) : Int)
          · go_wp2_with (first | (go_at_call 9; refine (C.out _).mono ?_; rintro e w' ⟨rfl, hb⟩) | (go_at_call 28; refine (CU.out _).mono ?_; rintro e w' ⟨rfl, rfl⟩))
            go_ret2
            have hx := bRest_past (n := m + uB b) (q := q) (l := s.data.toList) (i := j + r2) (by rw [Hl.out]; omega) (by omega)
            obtain ⟨e1, e2⟩ := Prod.mk.inj (hx.symm.trans Hst.out)
            exact ⟨by rw [← e1, ← e2]; rfl, hbw.trans (hb.mono hbw.size)⟩
          · go_wp2_with (first | (go_at_call 9; refine (C.out _).mono ?_; rintro e w' ⟨rfl, hb⟩) | (go_at_call 28; refine (CU.out _).mono ?_; rintro e w' ⟨rfl, rfl⟩))
            go_roundw
            case rel => exact ⟨j + r2, m + uB b, by go_num, by go_num, by omega, by omega, by omega, hbw.trans (hb.mono hbw.size), by show _ = _; rw [HL2.out]; omega, Hst⟩
            case measure => simp [RowKit.intOf]; omega
      · have hge : (s.size : Int) ≤ (j : Int) := by omega
        have hje : j = s.data.toList.length := by rw [Hl.out]; omega
        have hL' := hL.out
        rw [hje, chsAt_end, sumU_nil] at hL'
        have hx := bRest_end (n := m) (q := q) (l := s.data.toList) (by omega)
        have hr' := hr.out
        rw [hje, hx, Hl.out] at hr'
        have HR := Lib.hid hr'
        clear hx hr' hr hL' hL hje
        go_wp2
        go_ret2
        obtain ⟨e1, e2⟩ := Prod.mk.inj HR.out
        exact ⟨by rw [← e1, ← e2]; rfl, hbw⟩
end Go.Proofs.YtakhglnffhgfiaaDoor
