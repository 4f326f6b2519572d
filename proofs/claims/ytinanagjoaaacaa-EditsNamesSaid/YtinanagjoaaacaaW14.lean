/-
  EditsDiff: a walk.
-/
import Derived.Test.YtinanagjoaaacaaW13
namespace Go.Proofs.Ytinanagjoaaacaa
open Go.RowKit Go.Shelf Go.Lib Go.Sort

/-- What both differences answer. -/
def DfPost (a b : ByteArray) (w : World) (e : Ending) (w' : World) : Prop := ∃ v l, e = .returned v ∧ RowKit.Below w.heap.size w w' ∧ Rd w' v l ∧ (a = b → l = []) ∧ (a ≠ b → ∃ x, l = [x] ∧ IsDf a b x)
theorem diff_p (a b : ByteArray) (w : World) (ha : a.size ≤ 1099511627776) (hb : b.size ≤ 1099511627776) : Calls Try.prog 13 #[.string a, .string b] w (DfPost a b w) := by
  by_cases hab : a = b
  · subst hab
    refine (diff_same a w).mono ?_
    rintro e w' ⟨rfl, rfl⟩
    exact ⟨_, [], rfl, RowKit.Below.refl _ _, .inl ⟨rfl, rfl⟩, fun _ => rfl, fun h => absurd rfl h⟩
  · refine (diff_any a b w hab ha hb).mono ?_
    rintro e w' ⟨v, x, rfl, h1, h2, h3⟩
    exact ⟨_, [x], rfl, h1, h2.rd, fun h => absurd h hab, fun _ => ⟨x, rfl, h3⟩⟩
theorem rdiff_p (a b : ByteArray) (w : World) (ha : a.size ≤ 1099511627776) (hb : b.size ≤ 1099511627776) : Calls Try.prog 21 #[.string a, .string b] w (DfPost a b w) := by
  by_cases hab : a = b
  · subst hab
    refine (rdiff_same a w).mono ?_
    rintro e w' ⟨rfl, rfl⟩
    exact ⟨_, [], rfl, RowKit.Below.refl _ _, .inl ⟨rfl, rfl⟩, fun _ => rfl, fun h => absurd rfl h⟩
  · refine (rdiff_any a b w hab ha hb).mono ?_
    rintro e w' ⟨v, x, rfl, h1, h2, h3⟩
    exact ⟨_, [x], rfl, h1, h2.rd, fun h => absurd h hab, fun _ => ⟨x, rfl, h3⟩⟩
theorem same_refl : ∀ l : List Ed, sameE l l = true
  | [] => rfl
  | x :: l => by simp [sameE, eqE, same_refl l]
theorem df_same {a b : ByteArray} {l r : List Ed} (h1 : a = b → l = []) (h2 : a ≠ b → ∃ x, l = [x] ∧ IsDf a b x) (g1 : a = b → r = []) (g2 : a ≠ b → ∃ x, r = [x] ∧ IsDf a b x) : l = r ∧ l.length ≤ 1 := by
  by_cases h : a = b
  · rw [h1 h, g1 h]; exact ⟨rfl, Nat.zero_le _⟩
  · obtain ⟨x, rfl, hx⟩ := h2 h
    obtain ⟨y, rfl, hy⟩ := g2 h
    rw [df_uniq hx hy]
    exact ⟨rfl, Nat.le_refl _⟩
set_option maxRecDepth 100000 in
set_option maxHeartbeats 4000000 in
theorem ldiff_any (a b : ByteArray) (w : World) : Calls Try.prog 6 #[.string a, .string b] w fun e w' => e = .returned (.bool true) ∧ RowKit.Below w.heap.size w w' := by
  by_cases h1 : a.size > 5000
  · have hz : (5000 : Int) < (a.size : Int) := by omega
    clear h1
    go_enter Try.func6, Try.ntmps6
    go_wp2_with (go_at_call 10; refine (awake_any _).mono ?_; rintro e w1 ⟨rfl, hb1⟩)
    go_ret
    exact ⟨rfl, hb1⟩
  by_cases h2 : b.size > 5000
  · have hz : ¬ ((5000 : Int) < (a.size : Int)) := by omega
    have hz2 : (5000 : Int) < (b.size : Int) := by omega
    clear h1 h2
    go_enter Try.func6, Try.ntmps6
    go_wp2_with (go_at_call 10; refine (awake_any _).mono ?_; rintro e w1 ⟨rfl, hb1⟩)
    go_ret
    exact ⟨rfl, hb1⟩
  · have hz : ¬ ((5000 : Int) < (a.size : Int)) := by omega
    have hz2 : ¬ ((5000 : Int) < (b.size : Int)) := by omega
    have ha : a.size ≤ 5000 := by omega
    have hb : b.size ≤ 5000 := by omega
    clear h1 h2
    go_enter Try.func6, Try.ntmps6
    go_wp2_with (fail)
    refine (diff_p a b w (by omega) (by omega)).mono ?_
    rintro e w1 ⟨v1, l1, rfl, hb1, hr1, h1, h2⟩
    have HB1 := Lib.hid hb1
    have HR1 := Lib.hid hr1
    have H1 : Hid (a = b → l1 = []) := h1
    have H2 : Hid (a ≠ b → ∃ x, l1 = [x] ∧ IsDf a b x) := h2
    clear hb1 hr1 h1 h2
    go_wp2_with (fail)
    refine (rdiff_p a b w1 (by omega) (by omega)).mono ?_
    rintro e w2 ⟨v2, l2, rfl, hb2, hr2, h1, h2⟩
    obtain ⟨rfl, hl⟩ := df_same H1.out H2.out h1 h2
    have HB2 := Lib.hid (HB1.out.trans (hb2.mono HB1.out.size))
    have c := same_any w2 v1 v2 l1 l1 (HR1.out.below hb2 (Nat.le_refl _)) hr2 (by omega) (by omega)
    rw [same_refl] at c
    clear hb2 hr2 h1 h2 hl
    go_wp2_with (fail)
    refine c.mono ?_
    rintro e w3 ⟨rfl, n, rfl⟩
    clear c
    have HB3 := Lib.hid (below_drewN HB2.out n)
    go_wp2_with (fail)
    refine (awake_any _).mono ?_
    rintro e w4 ⟨rfl, hb4⟩
    go_wp2
    go_ret
    exact ⟨rfl, HB3.out.trans (hb4.mono HB3.out.size)⟩
end Go.Proofs.Ytinanagjoaaacaa
