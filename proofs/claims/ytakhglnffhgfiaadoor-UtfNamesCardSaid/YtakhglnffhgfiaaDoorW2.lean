/-
  Walks: the first character, of the program and of the reference.
-/
import Derived.Test.YtakhglnffhgfiaaDoorSh1
import Derived.Test.YtakhglnffhgfiaaDoorW1
import Derived.Test.YtakhglnffhgfiaaDoorP1
import Derived.Deep.RegionWith
import Derived.Deep.QuietTactic
import Derived.BigQuiet
import Derived.Lib.Hide
import Derived.Laws.Slices
namespace Go.Proofs.YtakhglnffhgfiaaDoor
open Go.RowKit Go.Lib

abbrev Tabs (w : World) : Prop := Lib.Utf8Tabs 0 1 w

theorem decodeGo_list (s : ByteArray) : Lib.decodeGo s = if s.data.toList = [] then (65533, 0) else decodeL s.data.toList := by
  unfold Lib.decodeGo
  have h : (s.size = 0) ↔ (s.data.toList = []) := by
    rw [Lib.size_eq, List.length_eq_zero_iff]
  simp only [h]
  rfl

set_option maxHeartbeats 400000 in
theorem rune_any (s : ByteArray) (w : World) (hT : Tabs w) :
    Calls Tryd.prog 8 #[.string s] w fun e w' => e = .returned (.tuple #[.int .i64 (rn s.data.toList).1, .int .i64 ((rn s.data.toList).2 : Nat)]) ∧ Below w.heap.size w w' := by
  have c := Tryd.utf8_DecodeRuneInString s w hT
  rw [decodeGo_list] at c
  by_cases h0 : s.data.toList = []
  · have hr : rn s.data.toList = (-1, 0) := if_pos h0
    rw [hr]
    have he : s.toList.isEmpty = true := by rw [Lib.toList_data, h0]; rfl
    clear c
    go_enter Tryd.func8, Tryd.ntmps8
    go_wp2
    go_ret2
    exact ⟨rfl, Below.refl _ _⟩
  · have he : s.toList.isEmpty = false := by rw [Lib.toList_data]; cases h : s.data.toList with | nil => exact absurd h h0 | cons _ _ => rfl
    rw [if_neg h0] at c
    have hr : rn s.data.toList = if (decodeL s.data.toList).1 = 65533 ∧ (decodeL s.data.toList).2 = 1 then (-1, 1) else (((decodeL s.data.toList).1 : Int), (decodeL s.data.toList).2) := if_neg h0
    have w1 := decodeL_width s.data.toList
    have w2 := decodeL_rune s.data.toList
    rw [hr]
    generalize decodeL s.data.toList = d at c w1 w2 ⊢
    obtain ⟨r, n⟩ := d
    dsimp only at c w1 w2 ⊢
    clear h0 hr
    by_cases hx : r = 65533 ∧ n = 1
    · obtain ⟨rfl, rfl⟩ := hx
      go_enter Tryd.func8, Tryd.ntmps8
      go_wp2_with (go_at_call 25; refine c.mono ?_; rintro e w' ⟨rfl, hb⟩)
      go_ret2
      exact ⟨rfl, hb⟩
    · rw [if_neg hx]
      by_cases hy : r = 65533
      · subst hy
        have hn : 2 ≤ n := by omega
        clear hx
        go_enter Tryd.func8, Tryd.ntmps8
        go_wp2_with (go_at_call 25; refine c.mono ?_; rintro e w' ⟨rfl, hb⟩)
        go_ret2
        exact ⟨rfl, hb⟩
      · have hz : ((r : Int) == 65533) = false := beq_eq_false_iff_ne.2 (by omega)
        clear hx hy
        go_enter Tryd.func8, Tryd.ntmps8
        go_wp2_with (go_at_call 25; refine c.mono ?_; rintro e w' ⟨rfl, hb⟩)
        go_ret2
        exact ⟨rfl, hb⟩

theorem byte_at (t : ByteArray) (i : Nat) (h : i < t.size) : t[i] = t.data.toList.getD i 0 := by
  have h' : i < t.data.toList.length := by rw [← Lib.size_eq]; exact h
  rw [List.getD_eq_getElem?_getD, List.getElem?_eq_getElem h']
  rfl
set_option maxHeartbeats 400000 in
theorem bits_one (t : ByteArray) (w : World) (h1 : t.size = 1) :
    Calls Tryd.prog 26 #[.string t] w fun e w' => e = .returned (.int .i64 (bitsL t.data.toList)) ∧ Below w.heap.size w w' := by
  have hb := byte_at t 0 (by omega)
  have hl : bitsL t.data.toList = (t[0].toNat : Int) := by
    unfold bitsL
    rw [← Lib.size_eq, if_pos h1, hb]
  rw [hl]
  have h2 : (t.size : Int) = 1 := by omega
  have h3 : (t[0].toNat : Int) < 256 := by have := t[0].toNat_lt; omega
  clear hb hl
  go_enter Tryd.func26, Tryd.ntmps26
  go_wp2
  go_ret
  exact ⟨rfl, (Below.refl _ _).alloc (Nat.le_refl _) _⟩
theorem ret_i64 {a b : Int} (h : a = b) : Ending.returned (.int .i64 a) = .returned (.int .i64 b) := by rw [h]
set_option maxHeartbeats 1000000 in
theorem bits_more2 (t : ByteArray) (w : World) (hn : t.size = 2) :
    Calls Tryd.prog 26 #[.string t] w fun e w' => e = .returned (.int .i64 (bitsL t.data.toList)) ∧ Below w.heap.size w w' := by
  have hb : ∀ i (h : i < t.size), t[i] = t.data.toList.getD i 0 := byte_at t
  have hl : bitsL t.data.toList = bitsTo t.data.toList 2 2 := by
    unfold bitsL
    rw [← Lib.size_eq, if_neg (by omega), hn]
  rw [hl]
  have hbd := bitsTo_bound t.data.toList 2
  have hs0 : bitsTo t.data.toList 2 1 = ((t.data.toList.getD 0 0).toNat : Int) - 192 := rfl
  have hs : ∀ k, bitsTo t.data.toList 2 (k + 2) = bitsTo t.data.toList 2 (k + 1) * 64 + ((t.data.toList.getD (k + 1) 0).toNat : Int) - 128 := fun k => rfl
  generalize bitsTo t.data.toList 2 = B at hbd hs0 hs ⊢
  have h0 : 0 < t.size := by omega
  rw [← hb 0 h0] at hs0
  obtain ⟨c0, hc0⟩ : ∃ c0, t[0]'h0 = c0 := ⟨_, rfl⟩
  rw [hc0] at hs0
  have hb0 : (c0.toNat : Int) < 256 := by have := c0.toNat_lt; omega
  have HB : Hid (∀ i (h : i < t.size), t[i] = t.data.toList.getD i 0) := hb
  have HD : Hid (∀ k, k ≤ 4 → -100000000 ≤ B k ∧ B k ≤ 100000000) := hbd
  have HS0 := Lib.hid hs0
  have HS : Hid (∀ k, B (k + 2) = B (k + 1) * 64 + ((t.data.toList.getD (k + 1) 0).toNat : Int) - 128) := hs
  clear hb hbd hl hs0 hs
  go_enter Tryd.func26, Tryd.ntmps26
  go_wp2
  go_quiet (fail)
  go_wp2
  have Hn := Lib.hid hn
  clear hn hb0 hc0
  go_loop [5, 6] (fun o i => ∃ k : Nat, 1 ≤ k ∧ k ≤ 2 ∧ i = .int .i64 k ∧ o = .int .i64 (B k)) (fun _ i => 2 - (RowKit.intOf i).toNat)
  case atStart => exact ⟨1, by omega, by omega, rfl, by rw [HS0.out]⟩
  case round =>
    obtain ⟨k, hk1, hk2, rfl, rfl⟩ := hrel
    by_cases hlt : k < 2
    · have hlt2 : k < t.size := by rw [Hn.out]; exact hlt
      have hlt3 : (k : Int) < 2 := by omega
      have b1 := (HD.out k (by omega)).1
      have b2 := (HD.out k (by omega)).2
      obtain ⟨c, hc⟩ : ∃ c, t[k] = c := ⟨_, rfl⟩
      have HK : Hid (B (k + 1) = B k * 64 + (c.toNat : Int) - 128) := by
        show _ = _
        obtain ⟨j, rfl⟩ : ∃ j, k = j + 1 := ⟨k - 1, by omega⟩
        rw [HS.out, ← hc, HB.out _ hlt2]
      have b3 : (c.toNat : Int) < 256 := by have := c.toNat_lt; omega
      obtain ⟨x, hx⟩ : ∃ x, B k = x := ⟨_, rfl⟩
      rw [hx] at b1 b2 HK ⊢
      clear hx
      go_wp2
      go_round
      case rel => exact ⟨k + 1, by omega, by omega, by go_num, by rw [HK.out]⟩
      case measure => simp [RowKit.intOf]; omega
    · have hge : (2 : Int) ≤ (k : Int) := by omega
      go_wp2
      go_ret
      exact ⟨ret_i64 (by rw [show k = 2 by omega]), below_drewN ((Below.refl _ _).alloc (Nat.le_refl _) _) _⟩
set_option maxHeartbeats 1000000 in
theorem bits_more3 (t : ByteArray) (w : World) (hn : t.size = 3) :
    Calls Tryd.prog 26 #[.string t] w fun e w' => e = .returned (.int .i64 (bitsL t.data.toList)) ∧ Below w.heap.size w w' := by
  have hb : ∀ i (h : i < t.size), t[i] = t.data.toList.getD i 0 := byte_at t
  have hl : bitsL t.data.toList = bitsTo t.data.toList 3 3 := by
    unfold bitsL
    rw [← Lib.size_eq, if_neg (by omega), hn]
  rw [hl]
  have hbd := bitsTo_bound t.data.toList 3
  have hs0 : bitsTo t.data.toList 3 1 = ((t.data.toList.getD 0 0).toNat : Int) - 224 := rfl
  have hs : ∀ k, bitsTo t.data.toList 3 (k + 2) = bitsTo t.data.toList 3 (k + 1) * 64 + ((t.data.toList.getD (k + 1) 0).toNat : Int) - 128 := fun k => rfl
  generalize bitsTo t.data.toList 3 = B at hbd hs0 hs ⊢
  have h0 : 0 < t.size := by omega
  rw [← hb 0 h0] at hs0
  obtain ⟨c0, hc0⟩ : ∃ c0, t[0]'h0 = c0 := ⟨_, rfl⟩
  rw [hc0] at hs0
  have hb0 : (c0.toNat : Int) < 256 := by have := c0.toNat_lt; omega
  have HB : Hid (∀ i (h : i < t.size), t[i] = t.data.toList.getD i 0) := hb
  have HD : Hid (∀ k, k ≤ 4 → -100000000 ≤ B k ∧ B k ≤ 100000000) := hbd
  have HS0 := Lib.hid hs0
  have HS : Hid (∀ k, B (k + 2) = B (k + 1) * 64 + ((t.data.toList.getD (k + 1) 0).toNat : Int) - 128) := hs
  clear hb hbd hl hs0 hs
  go_enter Tryd.func26, Tryd.ntmps26
  go_wp2
  go_quiet (fail)
  go_wp2
  have Hn := Lib.hid hn
  clear hn hb0 hc0
  go_loop [5, 6] (fun o i => ∃ k : Nat, 1 ≤ k ∧ k ≤ 3 ∧ i = .int .i64 k ∧ o = .int .i64 (B k)) (fun _ i => 3 - (RowKit.intOf i).toNat)
  case atStart => exact ⟨1, by omega, by omega, rfl, by rw [HS0.out]⟩
  case round =>
    obtain ⟨k, hk1, hk2, rfl, rfl⟩ := hrel
    by_cases hlt : k < 3
    · have hlt2 : k < t.size := by rw [Hn.out]; exact hlt
      have hlt3 : (k : Int) < 3 := by omega
      have b1 := (HD.out k (by omega)).1
      have b2 := (HD.out k (by omega)).2
      obtain ⟨c, hc⟩ : ∃ c, t[k] = c := ⟨_, rfl⟩
      have HK : Hid (B (k + 1) = B k * 64 + (c.toNat : Int) - 128) := by
        show _ = _
        obtain ⟨j, rfl⟩ : ∃ j, k = j + 1 := ⟨k - 1, by omega⟩
        rw [HS.out, ← hc, HB.out _ hlt2]
      have b3 : (c.toNat : Int) < 256 := by have := c.toNat_lt; omega
      obtain ⟨x, hx⟩ : ∃ x, B k = x := ⟨_, rfl⟩
      rw [hx] at b1 b2 HK ⊢
      clear hx
      go_wp2
      go_round
      case rel => exact ⟨k + 1, by omega, by omega, by go_num, by rw [HK.out]⟩
      case measure => simp [RowKit.intOf]; omega
    · have hge : (3 : Int) ≤ (k : Int) := by omega
      go_wp2
      go_ret
      exact ⟨ret_i64 (by rw [show k = 3 by omega]), below_drewN ((Below.refl _ _).alloc (Nat.le_refl _) _) _⟩
set_option maxHeartbeats 1000000 in
theorem bits_more4 (t : ByteArray) (w : World) (hn : t.size = 4) :
    Calls Tryd.prog 26 #[.string t] w fun e w' => e = .returned (.int .i64 (bitsL t.data.toList)) ∧ Below w.heap.size w w' := by
  have hb : ∀ i (h : i < t.size), t[i] = t.data.toList.getD i 0 := byte_at t
  have hl : bitsL t.data.toList = bitsTo t.data.toList 4 4 := by
    unfold bitsL
    rw [← Lib.size_eq, if_neg (by omega), hn]
  rw [hl]
  have hbd := bitsTo_bound t.data.toList 4
  have hs0 : bitsTo t.data.toList 4 1 = ((t.data.toList.getD 0 0).toNat : Int) - 240 := rfl
  have hs : ∀ k, bitsTo t.data.toList 4 (k + 2) = bitsTo t.data.toList 4 (k + 1) * 64 + ((t.data.toList.getD (k + 1) 0).toNat : Int) - 128 := fun k => rfl
  generalize bitsTo t.data.toList 4 = B at hbd hs0 hs ⊢
  have h0 : 0 < t.size := by omega
  rw [← hb 0 h0] at hs0
  obtain ⟨c0, hc0⟩ : ∃ c0, t[0]'h0 = c0 := ⟨_, rfl⟩
  rw [hc0] at hs0
  have hb0 : (c0.toNat : Int) < 256 := by have := c0.toNat_lt; omega
  have HB : Hid (∀ i (h : i < t.size), t[i] = t.data.toList.getD i 0) := hb
  have HD : Hid (∀ k, k ≤ 4 → -100000000 ≤ B k ∧ B k ≤ 100000000) := hbd
  have HS0 := Lib.hid hs0
  have HS : Hid (∀ k, B (k + 2) = B (k + 1) * 64 + ((t.data.toList.getD (k + 1) 0).toNat : Int) - 128) := hs
  clear hb hbd hl hs0 hs
  go_enter Tryd.func26, Tryd.ntmps26
  go_wp2
  go_quiet (fail)
  go_wp2
  have Hn := Lib.hid hn
  clear hn hb0 hc0
  go_loop [5, 6] (fun o i => ∃ k : Nat, 1 ≤ k ∧ k ≤ 4 ∧ i = .int .i64 k ∧ o = .int .i64 (B k)) (fun _ i => 4 - (RowKit.intOf i).toNat)
  case atStart => exact ⟨1, by omega, by omega, rfl, by rw [HS0.out]⟩
  case round =>
    obtain ⟨k, hk1, hk2, rfl, rfl⟩ := hrel
    by_cases hlt : k < 4
    · have hlt2 : k < t.size := by rw [Hn.out]; exact hlt
      have hlt3 : (k : Int) < 4 := by omega
      have b1 := (HD.out k (by omega)).1
      have b2 := (HD.out k (by omega)).2
      obtain ⟨c, hc⟩ : ∃ c, t[k] = c := ⟨_, rfl⟩
      have HK : Hid (B (k + 1) = B k * 64 + (c.toNat : Int) - 128) := by
        show _ = _
        obtain ⟨j, rfl⟩ : ∃ j, k = j + 1 := ⟨k - 1, by omega⟩
        rw [HS.out, ← hc, HB.out _ hlt2]
      have b3 : (c.toNat : Int) < 256 := by have := c.toNat_lt; omega
      obtain ⟨x, hx⟩ : ∃ x, B k = x := ⟨_, rfl⟩
      rw [hx] at b1 b2 HK ⊢
      clear hx
      go_wp2
      go_round
      case rel => exact ⟨k + 1, by omega, by omega, by go_num, by rw [HK.out]⟩
      case measure => simp [RowKit.intOf]; omega
    · have hge : (4 : Int) ≤ (k : Int) := by omega
      go_wp2
      go_ret
      exact ⟨ret_i64 (by rw [show k = 4 by omega]), below_drewN ((Below.refl _ _).alloc (Nat.le_refl _) _) _⟩
theorem bits_any (t : ByteArray) (w : World) (h1 : 1 ≤ t.size) (h4 : t.size ≤ 4) :
    Calls Tryd.prog 26 #[.string t] w fun e w' => e = .returned (.int .i64 (bitsL t.data.toList)) ∧ Below w.heap.size w w' := by
  by_cases a : t.size = 1
  · exact bits_one t w a
  by_cases b : t.size = 2
  · exact bits_more2 t w b
  by_cases c : t.size = 3
  · exact bits_more3 t w c
  · exact bits_more4 t w (by omega)
end Go.Proofs.YtakhglnffhgfiaaDoor
