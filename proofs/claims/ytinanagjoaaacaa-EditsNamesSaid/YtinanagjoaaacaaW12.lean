/-
  EditsMake: a walk.
-/
import Derived.Test.YtinanagjoaaacaaP5
import Derived.Test.YtinanagjoaaacaaW11
namespace Go.Proofs.Ytinanagjoaaacaa
open Go.RowKit Go.Shelf Go.Lib Go.Sort

set_option maxRecDepth 100000 in
set_option maxHeartbeats 4000000 in
theorem diff_same (a : ByteArray) (w : World) : Calls Try.prog 13 #[.string a, .string a] w fun e w' => e = .returned (.slice none 0 0) ∧ w' = w := by
  have h : (a.toList == a.toList) = true := str_eq rfl
  go_enter Try.func13, Try.ntmps13
  go_wp2
  go_ret
  exact ⟨rfl, rfl⟩
/-- Diff, whatever the texts. -/
theorem diff_l (a b : ByteArray) (w : World) (ha : a.size ≤ 1099511627776) (hb : b.size ≤ 1099511627776) :
    Calls Try.prog 13 #[.string a, .string b] w fun e w' => ∃ p n cap l, e = .returned (.slice p n cap) ∧ RowKit.Below w.heap.size w w' ∧ Rw w' w.heap.size (.slice p n cap) l ∧ l.length = n ∧ n ≤ 1 ∧ (n = 0 ↔ a = b) ∧ (a = b → l = []) ∧ (a ≠ b → ∃ x, l = [x] ∧ IsDf a b x) := by
  by_cases hab : a = b
  · subst hab
    refine (diff_same a w).mono ?_
    rintro e w' ⟨rfl, rfl⟩
    exact ⟨none, 0, 0, [], rfl, RowKit.Below.refl _ _, .inl ⟨rfl, rfl⟩, rfl, by omega, by simp, fun _ => rfl, fun h => absurd rfl h⟩
  · refine (diff_any a b w hab ha hb).mono ?_
    rintro e w' ⟨v, x, rfl, h1, h2, h3⟩
    rcases h2 with ⟨_, h⟩ | ⟨g, cap, rfl, h4⟩
    · cases h
    · exact ⟨_, _, _, [x], rfl, h1, .inr ⟨g, cap, rfl, h4⟩, rfl, by simp, by simp [hab], fun h => absurd h hab, fun _ => ⟨x, rfl, h3⟩⟩
theorem make_done {a b : ByteArray} {l : List Ed} (h1 : a = b → l = []) (h2 : a ≠ b → ∃ x, l = [x] ∧ IsDf a b x) : rowE a.size l = 0 ∧ doS a l = b := by
  by_cases h : a = b
  · rw [h1 h, ← h]; exact nil_row a
  · obtain ⟨x, rfl, h3⟩ := h2 h
    exact df_row h3
theorem df_txS {a b : ByteArray} {l : List Ed} (h1 : a = b → l = []) (h2 : a ≠ b → ∃ x, l = [x] ∧ IsDf a b x) : txS l ≤ b.size := by
  by_cases h : a = b
  · rw [h1 h]; simp [txS]
  · obtain ⟨x, rfl, h3⟩ := h2 h
    obtain ⟨f, n, _, _, rfl, _⟩ := df_bounds h3
    simp [txS, ByteArray.size_extract]; omega
set_option maxRecDepth 100000 in
set_option maxHeartbeats 4000000 in
theorem make_any (a b : ByteArray) (w : World) : Calls Try.prog 4 #[.string a, .string b] w fun e w' => e = .returned (.bool true) ∧ RowKit.Below w.heap.size w w' := by
  by_cases h1 : a.size > 5000
  · have hz : (5000 : Int) < (a.size : Int) := by omega
    clear h1
    go_enter Try.func4, Try.ntmps4
    go_wp2_with (go_at_call 10; refine (awake_any _).mono ?_; rintro e w1 ⟨rfl, hb1⟩)
    go_ret
    exact ⟨rfl, hb1⟩
  by_cases h2 : b.size > 5000
  · have hz : ¬ ((5000 : Int) < (a.size : Int)) := by omega
    have hz2 : (5000 : Int) < (b.size : Int) := by omega
    clear h1 h2
    go_enter Try.func4, Try.ntmps4
    go_wp2_with (go_at_call 10; refine (awake_any _).mono ?_; rintro e w1 ⟨rfl, hb1⟩)
    go_ret
    exact ⟨rfl, hb1⟩
  · have hz : ¬ ((5000 : Int) < (a.size : Int)) := by omega
    have hz2 : ¬ ((5000 : Int) < (b.size : Int)) := by omega
    have ha : a.size ≤ 5000 := by omega
    have hb : b.size ≤ 5000 := by omega
    clear h1 h2
    go_enter Try.func4, Try.ntmps4
    go_wp2_with (fail)
    refine (awake_any _).mono ?_
    rintro e w1 ⟨rfl, hb1⟩
    have HB1 := Lib.hid hb1
    clear hb1
    go_wp2_with (fail)
    refine (diff_l a b w1 (by omega) (by omega)).mono ?_
    rintro e w2 ⟨p, n, cap, l, rfl, hb2, hw2, hl, hn, hiff, h3, h4⟩
    have HB2 := Lib.hid (HB1.out.trans (hb2.mono HB1.out.size))
    have hd := make_done h3 h4
    have htx := df_txS h3 h4
    have c := do_e a w2 _ l hw2.rd (by omega) (by
      have : (l.length + 1) * a.size ≤ 2 * a.size := Nat.mul_le_mul_right _ (by omega)
      omega)
    rw [hd.1, hd.2] at c
    have hn0 : ((n : Int) == 0) = (a.toList == b.toList) := by
      by_cases hab : a = b
      · rw [str_eq hab, hiff.2 hab]; rfl
      · rw [str_ne hab, eqF (by have : n ≠ 0 := fun e => hab (hiff.1 e); omega)]
    have hn1 : (n : Int) ≤ 1 := by omega
    have hbb : (b.toList == b.toList) = true := str_eq rfl
    clear hb2 hw2 hd htx h3 h4 hiff hl
    go_wp2_with (fail)
    refine c.mono ?_
    rintro e w3 ⟨rfl, hb3⟩
    clear c
    have HB3 := Lib.hid (HB2.out.trans (hb3.mono HB2.out.size))
    clear hb3
    obtain ⟨q, hq⟩ : ∃ q, (a.toList == b.toList) = q := ⟨_, rfl⟩
    rw [hq] at hn0
    cases q with
    | true =>
      go_wp2
      go_ret
      exact ⟨rfl, HB3.out⟩
    | false =>
      go_wp2
      go_ret
      exact ⟨rfl, HB3.out⟩
end Go.Proofs.Ytinanagjoaaacaa
