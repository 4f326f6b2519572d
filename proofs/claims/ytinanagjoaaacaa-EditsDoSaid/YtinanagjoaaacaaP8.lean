/-
  Plain: the merging's two small cases.
-/
import Derived.Test.YtinanagjoaaacaaP7
namespace Go.Proofs.Ytinanagjoaaacaa
open Go.Sort

/-- What the merging is handed. -/
structure Halves (a m b : Nat) (d : Array Ed) : Prop where
  h1 : a < m
  h2 : m < b
  h3 : b ≤ d.size
  l : SortedIn ltE a m d
  r : SortedIn ltE m b d
  tag : ∀ x y, a ≤ x → x < m → m ≤ y → y < b → d[x]!.tag < d[y]!.tag
/-- 'cmp' of one of the right half with one of the left half. -/
theorem Halves.lt {a m b : Nat} {d : Array Ed} (h : Halves a m b d) {x y : Nat} (h1 : a ≤ x) (h2 : x < m) (h3 : m ≤ y) (h4 : y < b) : (cf d[y]! d[x]! < 0) ↔ ltE d[y]! d[x]! = true := by
  have := ltOf_tag (h.tag x y h1 h2 h3 h4)
  unfold ltOf at this
  rw [← this]
  simp
theorem join_sorted {a p b : Nat} {d : Array Ed} (h1 : SortedIn ltE a p d) (h2 : SortedIn ltE p b d) (h3 : ∀ x y, a ≤ x → x < p → p ≤ y → y < b → ltE d[y]! d[x]! = false) : SortedIn ltE a b d := by
  intro i j hi hij hj
  by_cases h4 : j < p
  · exact h1 i j hi hij h4
  · by_cases h5 : i < p
    · exact h3 i j hi h5 (by omega) hj
    · exact h2 i j (by omega) hij hj
theorem sorted_one {p : Nat} {d : Array Ed} {q : Nat} (h : q ≤ p + 1) : SortedIn ltE p q d := fun i j h1 h2 h3 => by omega
theorem rot_nil {s m : Nat} {d : Array Ed} : RotIs s m m d d := by
  refine ⟨rfl, fun k => ?_⟩
  rw [if_neg (by omega)]
  split
  · congr 1; omega
  · rfl
theorem rot_nil' {m e : Nat} {d : Array Ed} : RotIs m m e d d := by
  refine ⟨rfl, fun k => ?_⟩
  by_cases h : m ≤ k ∧ k < m + (e - m)
  · rw [if_pos h]; congr 1; omega
  · rw [if_neg h, if_neg (by omega)]
/-- One exchange more to the right. -/
theorem rot_up {a e : Nat} {d d' : Array Ed} (h : RotIs a (a + 1) (e + 1) d d') (h1 : a ≤ e) (h2 : e + 1 < d.size) : RotIs a (a + 1) (e + 2) d (swp d' e (e + 1)) := by
  refine ⟨by rw [swp_size]; exact h.size, fun k => ?_⟩
  have hs := h.size
  rw [swp_get d' (by omega) (by omega), h.get e, h.get (e + 1), h.get k]
  repeat' split
  all_goals first | omega | rfl | (congr 1 <;> omega)
/-- One exchange more to the left. -/
theorem rot_down {s m : Nat} {d d' : Array Ed} (h : RotIs (s + 1) m (m + 1) d d') (h1 : s + 1 ≤ m) (h2 : m < d.size) : RotIs s m (m + 1) d (swp d' (s + 1) s) := by
  refine ⟨by rw [swp_size]; exact h.size, fun k => ?_⟩
  have hs := h.size
  rw [swp_get d' (by omega) (by omega), h.get s, h.get (s + 1), h.get k]
  repeat' split
  all_goals first | omega | rfl | (congr 1 <;> omega)
/-- One element ahead of a sorted stretch, moved to its place. -/
theorem ins_left {a i b : Nat} {d d' : Array Ed} (H : Halves a (a + 1) b d) (h1 : a + 1 ≤ i) (h2 : i ≤ b) (hlo : ∀ y, a + 1 ≤ y → y < i → ltE d[y]! d[a]! = true) (hhi : ∀ y, i ≤ y → y < b → ltE d[y]! d[a]! = false) (hr : RotIs a (a + 1) i d d') : SortedIn ltE a b d' := by
  have hc : Cut a a (a + 1) i b d := ⟨Nat.le_refl _, by omega, h1, h2, fun x y p q => by omega, fun x y p q r s => by
    have hx : x = a := by omega
    subst hx
    have := hlo y r s
    rw [ltE_iff] at this
    rw [ltE_false, leE_iff]
    omega⟩
  obtain ⟨⟨s1, s2, s3, s4⟩, hx⟩ := cut_done hc hr H.l H.r
  have hR : SortedIn ltE (a + (i - (a + 1))) b d' := join_sorted s3 s4 (fun x y p q r s => by
    have hxi : x = i - 1 := by omega
    have ex := hr.get x
    have ey := hr.get y
    rw [if_neg (by omega), if_pos (by omega), show x - (i - (a + 1)) = a from by omega] at ex
    rw [if_neg (by omega), if_neg (by omega)] at ey
    rw [ex, ey]
    exact hhi y r s)
  exact join_sorted s2 hR hx
/-- One element behind a sorted stretch, moved to its place. -/
theorem ins_right {a i m : Nat} {d d' : Array Ed} (H : Halves a m (m + 1) d) (h1 : a ≤ i) (h2 : i ≤ m) (hlo : ∀ x, a ≤ x → x < i → ltE d[m]! d[x]! = false) (hhi : ∀ x, i ≤ x → x < m → ltE d[m]! d[x]! = true) (hr : RotIs i m (m + 1) d d') : SortedIn ltE a (m + 1) d' := by
  have hc : Cut a i m (m + 1) (m + 1) d := ⟨h1, h2, by omega, Nat.le_refl _, fun x y p q r s => by omega, fun x y p q r s => by
    have hy : y = m := by omega
    subst hy
    have := hhi x p q
    rw [ltE_iff] at this
    rw [ltE_false, leE_iff]
    omega⟩
  obtain ⟨⟨s1, s2, s3, s4⟩, hx⟩ := cut_done hc hr H.l H.r
  have hL : SortedIn ltE a (i + (m + 1 - m)) d' := join_sorted s1 s2 (fun x y p q r s => by
    have ex := hr.get x
    have ey := hr.get y
    rw [if_neg (by omega), if_neg (by omega)] at ex
    rw [if_pos (by omega), show y + (m - i) = m from by omega] at ey
    rw [ex, ey]
    exact hlo x p q)
  exact join_sorted hL s3 (fun x y p q r s => hx x y p q r s)
end Go.Proofs.Ytinanagjoaaacaa
