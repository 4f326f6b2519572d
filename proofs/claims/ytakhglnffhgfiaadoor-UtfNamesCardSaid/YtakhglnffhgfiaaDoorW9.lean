/-
  Walks of the reference's Valid, Len16, Unit and Byte, and of the program's Valid.
-/
import Derived.Test.YtakhglnffhgfiaaDoorW3
import Derived.Test.YtakhglnffhgfiaaDoorP3
namespace Go.Proofs.YtakhglnffhgfiaaDoor
open Go.RowKit Go.Lib

set_option maxHeartbeats 400000 in
theorem refUnits_any (p : Int) (w : World) : Calls Tryd.prog 28 #[.int .i64 p] w fun e w' => e = .returned (.int .i64 (uB (two p) : Nat)) ∧ w = w' := by
  by_cases h : 65536 ≤ p
  · rw [show uB (two p) = 2 by unfold uB two; rw [decide_eq_true h]; rfl]
    go_enter Tryd.func28, Tryd.ntmps28
    go_wp2
    go_ret
    exact ⟨rfl, rfl⟩
  · rw [show uB (two p) = 1 by unfold uB two; rw [decide_eq_false h]; rfl]
    go_enter Tryd.func28, Tryd.ntmps28
    go_wp2
    go_ret
    exact ⟨rfl, rfl⟩
set_option maxHeartbeats 400000 in
theorem valid_any (s : ByteArray) (w : World) (hs : s.size ≤ 9223372036854775807) (hT : Tabs w) :
    Calls Tryd.prog 20 #[.string s] w fun e w' => e = .returned (.bool (validD s.data.toList)) ∧ Below w.heap.size w w' := by
  have c := Tryd.utf8_ValidString s w hs hT
  go_enter Tryd.func20, Tryd.ntmps20
  go_wp2_with (go_at_call 29; refine c.mono ?_; rintro e w' ⟨rfl, hb⟩)
  go_ret
  exact ⟨rfl, hb⟩

theorem ext_listR (t : ByteArray) (k : Nat) : (t.extract k t.size).data.toList = t.data.toList.drop k := Lib.ext_list t k
theorem isEmpty_false {s : ByteArray} (h : s.data.toList ≠ []) : s.toList.isEmpty = false := by
  rw [Lib.toList_data]; cases h' : s.data.toList with | nil => exact absurd h' h | cons _ _ => rfl
theorem isEmpty_true {s : ByteArray} (h : s.data.toList = []) : s.toList.isEmpty = true := by rw [Lib.toList_data, h]; rfl

set_option maxHeartbeats 1000000 in
theorem refValid_any (s : ByteArray) (w : World) :
    Calls Tryd.prog 21 #[.string s] w fun e w' => e = .returned (.bool (validD s.data.toList)) ∧ Below w.heap.size w w' := by
  obtain ⟨R, hR⟩ : ∃ R, validD s.data.toList = R := ⟨_, rfl⟩
  rw [hR]
  have HR := Lib.hid hR
  clear hR
  go_enter Tryd.func21, Tryd.ntmps21
  go_wp2
  go_loopg [0] (s.size + 1) (fun g s0 wr => ∃ t : ByteArray, s0 = .string t ∧ t.size < g ∧ Below w.heap.size w wr ∧ Hid (validD t.data.toList = R))
  case atStart => exact ⟨s, rfl, by omega, Below.refl _ _, HR⟩
  case round =>
    obtain ⟨t, rfl, hg, hbw, hv⟩ := hrel
    by_cases h0 : t.data.toList = []
    · have he := isEmpty_true h0
      have hR : Hid (R = true) := by show _ = _; rw [← hv.out, h0]; rfl
      clear h0
      go_wp2
      go_ret
      exact ⟨by rw [hR.out]; rfl, hbw⟩
    · have he := isEmpty_false h0
      have hst := validD_step h0
      obtain ⟨w1, w2⟩ := rn_width _ h0
      rw [← Lib.size_eq] at w2
      rw [hv.out] at hst
      have c := refRune_any t
      obtain ⟨⟨r1, r2⟩, hr⟩ : ∃ r, rn t.data.toList = r := ⟨_, rfl⟩
      simp only [hr] at c hst w1 w2
      have Hst : Hid (R = if r1 < 0 then false else validD (t.data.toList.drop r2)) := hst
      have C : Hid (∀ W : World, Calls Tryd.prog 9 #[.string t] W fun e w' => e = .returned (.tuple #[.int .i64 r1, .int .i64 r2]) ∧ Below W.heap.size W w') := c
      clear c hst hr h0
      by_cases hn : r1 < 0
      · go_wp2_with (go_at_call 9; refine (C.out _).mono ?_; rintro e w' ⟨rfl, hb⟩)
        go_ret
        exact ⟨by rw [Hst.out, if_pos (by omega)]; rfl, hbw.trans (hb.mono hbw.size)⟩
      · go_wp2_with (go_at_call 9; refine (C.out _).mono ?_; rintro e w' ⟨rfl, hb⟩)
        go_roundg t.size
        case measure => omega
        case rel => exact ⟨_, rfl, by rw [Lib.ext_size]; omega, hbw.trans (hb.mono hbw.size), by show _ = _; rw [ext_listR, Hst.out, if_neg (by omega)]⟩

set_option maxHeartbeats 1000000 in
theorem refLen16_any (s : ByteArray) (w : World) (hs : s.size ≤ 2305843009213693952) :
    Calls Tryd.prog 23 #[.string s] w fun e w' => e = .returned (.int .i64 (len16 s.data.toList)) ∧ Below w.heap.size w w' := by
  obtain ⟨R, hR⟩ : ∃ R, len16 s.data.toList = R := ⟨_, rfl⟩
  have hRb : R ≤ 4611686018427387904 := by have := len16_le s.data.toList; rw [← Lib.size_eq] at this; omega
  rw [hR]
  have HR := Lib.hid hR
  clear hR
  go_enter Tryd.func23, Tryd.ntmps23
  go_wp2
  go_loopg [0, 3] (s.size + 1) (fun g s0 v wr => ∃ (t : ByteArray) (n : Nat), s0 = .string t ∧ v = .int .i64 n ∧ t.size < g ∧ Below w.heap.size w wr ∧ Hid (n + len16 t.data.toList = R))
  case atStart => exact ⟨s, 0, rfl, rfl, by omega, Below.refl _ _, by show _ = _; rw [Nat.zero_add]; exact HR.out⟩
  case round =>
    obtain ⟨t, n, rfl, rfl, hg, hbw, hv⟩ := hrel
    by_cases h0 : t.data.toList = []
    · have he := isEmpty_true h0
      have hR : Hid (n = R) := by show _ = _; rw [← hv.out, h0]; rfl
      clear h0
      go_wp2
      go_ret
      exact ⟨by rw [← hR.out]; rfl, hbw⟩
    · have he := isEmpty_false h0
      have hst := len16_step h0
      obtain ⟨w1, w2⟩ := rn_width _ h0
      rw [← Lib.size_eq] at w2
      have hv' := hv.out
      rw [hst] at hv'
      have c := refRune_any t
      obtain ⟨⟨r1, r2⟩, hr⟩ : ∃ r, rn t.data.toList = r := ⟨_, rfl⟩
      simp only [hr] at c hv' w1 w2
      have u1 := (uB_le (two r1)).2
      have cu := refUnits_any r1
      generalize two r1 = b at hv' u1 cu
      have Hst : Hid (n + (uB b + len16 (t.data.toList.drop r2)) = R) := hv'
      have u2 : (n : Int) ≤ 4611686018427387904 := by omega
      have u3 : ((uB b : Nat) : Int) ≤ 2 := by omega
      have C : Hid (∀ W : World, Calls Tryd.prog 9 #[.string t] W fun e w' => e = .returned (.tuple #[.int .i64 r1, .int .i64 r2]) ∧ Below W.heap.size W w') := c
      have CU : Hid (∀ W : World, Calls Tryd.prog 28 #[.int .i64 r1] W fun e w' => e = .returned (.int .i64 (uB b : Nat)) ∧ W = w') := cu
      clear c cu hst hr h0 hv' u1 hRb
      go_wp2_with (first | (go_at_call 9; refine (C.out _).mono ?_; rintro e w' ⟨rfl, hb⟩) | (go_at_call 28; refine (CU.out _).mono ?_; rintro e w' ⟨rfl, rfl⟩))
      go_roundg t.size
      case measure => omega
      case rel => exact ⟨_, n + uB b, rfl, by go_num, by rw [Lib.ext_size]; omega, hbw.trans (hb.mono hbw.size), by show _ = _; rw [ext_listR, ← Hst.out, Nat.add_assoc]⟩
end Go.Proofs.YtakhglnffhgfiaaDoor
