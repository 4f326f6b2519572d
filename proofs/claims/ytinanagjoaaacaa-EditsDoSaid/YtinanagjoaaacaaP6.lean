/-
  Plain: what the exchanges and the rotation do.
-/
import Derived.Test.YtinanagjoaaacaaW17
namespace Go.Proofs.Ytinanagjoaaacaa
open Go.Sort

theorem swr_get (a b : Nat) : ∀ (n i : Nat) (d : Array Ed), a + i + n ≤ b → b + i + n ≤ d.size → ∀ k, (swr a b n i d)[k]! =
    if a + i ≤ k ∧ k < a + i + n then d[b + (k - a)]! else if b + i ≤ k ∧ k < b + i + n then d[a + (k - b)]! else d[k]!
  | 0, i, d, _, _, k => by
    rw [swr, if_neg (by omega), if_neg (by omega)]
  | n + 1, i, d, h1, h2, k => by
    rw [swr, swr_get a b n (i + 1) _ (by omega) (by rw [swp_size]; omega) k]
    have hp : a + i < d.size := by omega
    have hq : b + i < d.size := by omega
    by_cases h3 : a + (i + 1) ≤ k ∧ k < a + (i + 1) + n
    · rw [if_pos h3, if_pos (by omega), swp_get d hp hq, if_neg (by omega), if_neg (by omega)]
    · rw [if_neg h3]
      by_cases h4 : b + (i + 1) ≤ k ∧ k < b + (i + 1) + n
      · rw [if_pos h4, if_neg (by omega), if_pos (by omega), swp_get d hp hq, if_neg (by omega), if_neg (by omega)]
      · rw [if_neg h4, swp_get d hp hq]
        by_cases h5 : k = b + i
        · rw [if_pos h5, if_neg (by omega), if_pos (by omega), show a + (k - b) = a + i from by omega]
        · rw [if_neg h5]
          by_cases h6 : k = a + i
          · rw [if_pos h6, if_pos (by omega), show b + (k - a) = b + i from by omega]
          · rw [if_neg h6, if_neg (by omega), if_neg (by omega)]
theorem swr_perm (a b lo hi : Nat) : ∀ (n i : Nat) (d : Array Ed), lo ≤ a → a + i + n ≤ b → b + i + n ≤ hi → hi ≤ d.size → PermIn lo hi d (swr a b n i d)
  | 0, _, _, _, _, _, _ => permIn_refl _ _ _
  | n + 1, i, d, h0, h1, h2, h3 => by
    rw [swr]
    exact permIn_trans _ _ _ lo hi (swp_permIn d lo hi (a + i) (b + i) (by omega) (by omega) (by omega) (by omega) h3) (swr_perm a b lo hi n (i + 1) _ h0 (by omega) (by omega) (by rw [swp_size]; exact h3))
theorem rot_get (m : Nat) : ∀ (f i j : Nat) (d : Array Ed), 0 < i → 0 < j → i ≤ m → m + j ≤ d.size → i + j ≤ f → ∀ k, (rot m f i j d)[k]! =
    if m - i ≤ k ∧ k < m - i + j then d[k + i]! else if m - i + j ≤ k ∧ k < m + j then d[k - j]! else d[k]!
  | 0, i, j, d, h1, h2, _, _, h5, _ => by omega
  | f + 1, i, j, d, h1, h2, h3, h4, h5, k => by
    rw [rot]
    by_cases hij : i = j
    · subst hij
      rw [if_pos rfl, swr_get _ _ _ _ _ (by omega) (by omega)]
      by_cases h6 : m - i ≤ k ∧ k < m - i + i
      · rw [if_pos (by omega), if_pos h6, show m + (k - (m - i)) = k + i from by omega]
      · rw [if_neg (by omega), if_neg h6]
        by_cases h7 : m - i + i ≤ k ∧ k < m + i
        · rw [if_pos (by omega), if_pos h7, show m - i + (k - m) = k - i from by omega]
        · rw [if_neg (by omega), if_neg h7]
    · rw [if_neg hij]
      by_cases hji : j < i
      · rw [if_pos hji, rot_get m f (i - j) j _ (by omega) h2 (by omega) (by rw [swr_size]; exact h4) (by omega) k]
        have hg := swr_get (m - i) m j 0 d (by omega) (by omega)
        rw [hg, hg, hg]
        repeat' split
        all_goals first | omega | rfl | (congr 1 <;> omega)
      · rw [if_neg hji, rot_get m f i (j - i) _ h1 (by omega) h3 (by rw [swr_size]; omega) (by omega) k]
        have hg := swr_get (m - i) (m + j - i) i 0 d (by omega) (by omega)
        rw [hg, hg, hg]
        repeat' split
        all_goals first | omega | rfl | (congr 1 <;> omega)
theorem rot_perm (m lo hi : Nat) : ∀ (f i j : Nat) (d : Array Ed), i ≤ m → lo ≤ m - i → m + j ≤ hi → hi ≤ d.size → PermIn lo hi d (rot m f i j d)
  | 0, _, _, _, _, _, _, _ => permIn_refl _ _ _
  | f + 1, i, j, d, h1, h2, h3, h4 => by
    rw [rot]
    split
    · exact swr_perm _ _ lo hi _ _ _ h2 (by omega) (by omega) h4
    · split
      · exact permIn_trans _ _ _ lo hi (swr_perm (m - i) m lo hi j 0 d h2 (by omega) (by omega) h4) (rot_perm m lo hi f (i - j) j _ (by omega) (by omega) h3 (by rw [swr_size]; exact h4))
      · exact permIn_trans _ _ _ lo hi (swr_perm (m - i) (m + j - i) lo hi i 0 d h2 (by omega) (by omega) h4) (rot_perm m lo hi f i (j - i) _ h1 h2 (by omega) (by rw [swr_size]; exact h4))
end Go.Proofs.Ytinanagjoaaacaa
