/-
  Plain: one lemma for the three cases of the merging.
-/
import Derived.Test.YtinanagjoaaacaaP6
namespace Go.Proofs.Ytinanagjoaaacaa
open Go.Sort

/-- The stretches [s, m) and [m, e) exchanged. -/
structure RotIs (s m e : Nat) (d d' : Array Ed) : Prop where
  size : d'.size = d.size
  get : ∀ k, d'[k]! = if s ≤ k ∧ k < s + (e - m) then d[k + (m - s)]! else if s + (e - m) ≤ k ∧ k < e then d[k - (e - m)]! else d[k]!
theorem rot_is {s m e f : Nat} {d : Array Ed} (h1 : s < m) (h2 : m < e) (h3 : e ≤ d.size) (hf : e - s ≤ f) : RotIs s m e d (rot m f (m - s) (e - m) d) := by
  refine ⟨rot_size _ _ _ _ _, fun k => ?_⟩
  rw [rot_get m f (m - s) (e - m) d (by omega) (by omega) (by omega) (by omega) (by omega) k]
  rw [show m - (m - s) = s from by omega, show m + (e - m) = e from by omega]

/-- Where the halves are cut. -/
structure Cut (a s m e b : Nat) (d : Array Ed) : Prop where
  h1 : a ≤ s
  h2 : s ≤ m
  h3 : m ≤ e
  h4 : e ≤ b
  c1 : ∀ x y, a ≤ x → x < s → e ≤ y → y < b → ltE d[y]! d[x]! = false
  c2 : ∀ x y, s ≤ x → x < m → m ≤ y → y < e → ltE d[x]! d[y]! = false
/-- Behind the exchange: four sorted stretches, and nothing of the right part is ahead of the left part. -/
theorem cut_done {a s m e b : Nat} {d d' : Array Ed} (hc : Cut a s m e b d) (hr : RotIs s m e d d') (hl : SortedIn ltE a m d) (hh : SortedIn ltE m b d) :
    (SortedIn ltE a s d' ∧ SortedIn ltE s (s + (e - m)) d' ∧ SortedIn ltE (s + (e - m)) e d' ∧ SortedIn ltE e b d') ∧ ∀ x y, a ≤ x → x < s + (e - m) → s + (e - m) ≤ y → y < b → ltE d'[y]! d'[x]! = false := by
  obtain ⟨h1, h2, h3, h4, c1, c2⟩ := hc
  refine ⟨⟨fun i j p q r => ?_, fun i j p q r => ?_, fun i j p q r => ?_, fun i j p q r => ?_⟩, fun x y p q r t => ?_⟩
  · rw [hr.get i, hr.get j, if_neg (by omega), if_neg (by omega), if_neg (by omega), if_neg (by omega)]
    exact hl i j p q (by omega)
  · rw [hr.get i, hr.get j, if_pos (by omega), if_pos (by omega)]
    exact hh _ _ (by omega) (by omega) (by omega)
  · rw [hr.get i, hr.get j, if_neg (by omega), if_pos (by omega), if_neg (by omega), if_pos (by omega)]
    exact hl _ _ (by omega) (by omega) (by omega)
  · rw [hr.get i, hr.get j, if_neg (by omega), if_neg (by omega), if_neg (by omega), if_neg (by omega)]
    exact hh i j (by omega) q r
  · rw [hr.get x, hr.get y]
    by_cases hx : s ≤ x
    · rw [if_pos (by omega : s ≤ x ∧ x < s + (e - m)), if_neg (by omega : ¬ (s ≤ y ∧ y < s + (e - m)))]
      by_cases hy : y < e
      · rw [if_pos (by omega)]
        exact c2 _ _ (by omega) (by omega) (by omega) (by omega)
      · rw [if_neg (by omega)]
        exact hh _ _ (by omega) (by omega) t
    · rw [if_neg (by omega : ¬ (s ≤ x ∧ x < s + (e - m))), if_neg (by omega : ¬ (s + (e - m) ≤ x ∧ x < e)), if_neg (by omega : ¬ (s ≤ y ∧ y < s + (e - m)))]
      by_cases hy : y < e
      · rw [if_pos (by omega)]
        exact hl _ _ p (by omega) (by omega)
      · rw [if_neg (by omega)]
        exact c1 _ _ p (by omega) (by omega) t
end Go.Proofs.Ytinanagjoaaacaa
