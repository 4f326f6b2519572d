/-
  Plain: the bytes of a character; two texts with an 0A between.
-/
import Derived.Test.YtkhbggihgodpkaaDoorP8
namespace Go.Proofs.YtkhbggihgodpkaaDoor
open Go.Lib

theorem sizeN_bytes (n b0 b1 b2 b3 : Nat) (h : sizeN n b0 b1 b2 b3 ≠ 0) :
    (sizeN n b0 b1 b2 b3 = 1 ∧ b0 < 128) ∨ (194 ≤ b0 ∧ 2 ≤ sizeN n b0 b1 b2 b3 ∧ sizeN n b0 b1 b2 b3 ≤ 4 ∧ (128 ≤ b1 ∧ b1 ≤ 191) ∧ (3 ≤ sizeN n b0 b1 b2 b3 → 128 ≤ b2 ∧ b2 ≤ 191) ∧ (4 ≤ sizeN n b0 b1 b2 b3 → 128 ≤ b3 ∧ b3 ≤ 191)) := by
  unfold sizeN at h ⊢
  repeat' split
  all_goals first | omega | (rename_i h1; exfalso; simp_all)
/-- The bytes of a character behind its first are continuation bytes; its first is none. -/
theorem rn_bytes {l : List UInt8} (hne : l ≠ []) (h : 0 ≤ (rn l).1) :
    (∀ j, 1 ≤ j → j < (rn l).2 → 128 ≤ (l.getD j 0).toNat ∧ (l.getD j 0).toNat ≤ 191) ∧ (((l.getD 0 0).toNat < 128 ∧ (rn l).2 = 1) ∨ 194 ≤ (l.getD 0 0).toNat) := by
  have hs := szL_rn hne
  rw [if_neg (by omega)] at hs
  have hw := rn_width l hne
  have hb := sizeN_bytes l.length (l.getD 0 0).toNat (l.getD 1 0).toNat (l.getD 2 0).toNat (l.getD 3 0).toNat (by show szL l ≠ 0; omega)
  have e : sizeN l.length (l.getD 0 0).toNat (l.getD 1 0).toNat (l.getD 2 0).toNat (l.getD 3 0).toNat = (rn l).2 := hs
  rw [e] at hb
  rcases hb with ⟨h1, h2⟩ | ⟨h1, h2, h3, h4, h5, h6⟩
  · exact ⟨fun j h3 h4 => by omega, .inl ⟨h2, h1⟩⟩
  · refine ⟨fun j h7 h8 => ?_, .inr h1⟩
    have hj : j = 1 ∨ j = 2 ∨ j = 3 := by omega
    rcases hj with rfl | rfl | rfl
    · exact h4
    · exact h5 (by omega)
    · exact h6 (by omega)

theorem rn_bad_nl {l t : List UInt8} (hne : l ≠ []) (h : (rn l).1 < 0) : (rn (l ++ 10 :: t)).1 < 0 := by
  refine Decidable.byContradiction fun hx => ?_
  have hne' : l ++ 10 :: t ≠ [] := by simp
  obtain ⟨ht, hok⟩ := rn_take hne' (by omega)
  have hl : 0 < l.length := List.length_pos_iff.2 hne
  by_cases hn : (rn (l ++ 10 :: t)).2 ≤ l.length
  · rw [List.take_append_of_le_length hn] at ht
    have := rn_put _ hok (l.drop (rn (l ++ 10 :: t)).2)
    rw [ht, List.take_append_drop] at this
    rw [this] at h
    simp only at h
    omega
  · have hb := (rn_bytes hne' (by omega)).1 l.length (by omega) (by omega)
    have e : (l ++ 10 :: t).getD l.length 0 = 10 := by simp [List.getD]
    rw [e] at hb
    simp at hb
theorem validD_nl : ∀ (n : Nat) (a t : List UInt8), a.length ≤ n → validD (a ++ 10 :: t) = (validD a && validD t)
  | 0, a, t, hn => by
    have : a = [] := List.eq_nil_of_length_eq_zero (by omega)
    subst this
    rw [List.nil_append, validD_nil, Bool.true_and, show (10 :: t : List UInt8) = [10] ++ t from rfl, validD_append 1 [10] t (by simp) (by kernel_rfl)]
  | n + 1, a, t, hn => by
    by_cases hne : a = []
    · subst hne
      rw [List.nil_append, validD_nil, Bool.true_and, show (10 :: t : List UInt8) = [10] ++ t from rfl, validD_append 1 [10] t (by simp) (by kernel_rfl)]
    · have hst := validD_step hne
      obtain ⟨w1, w2⟩ := rn_width a hne
      rw [validD_step (l := a ++ 10 :: t) (by simp)]
      by_cases hp : (rn a).1 < 0
      · rw [if_pos (rn_bad_nl hne hp)]
        rw [if_pos hp] at hst
        rw [hst]; rfl
      · rw [if_neg hp] at hst
        rw [rn_append hne (by omega), if_neg hp, List.drop_append_of_le_length w2, validD_nl n _ t (by rw [List.length_drop]; omega), hst]

/-! ### two texts with an 0A between -/
def shift (d : Nat) (xs : List (Nat × Nat)) : List (Nat × Nat) := xs.map fun x => (x.1 + d, x.2 + d)
theorem getD_app (p t : List UInt8) (i : Nat) : (p ++ t).getD (p.length + i) 0 = t.getD i 0 := by
  rw [List.getD_eq_getElem?_getD, List.getD_eq_getElem?_getD, List.getElem?_append_right (by omega), show p.length + i - p.length = i from by omega]
theorem nx_app (p t : List UInt8) (i : Nat) : nx (p ++ t) (p.length + i) = p.length + nx t i := by
  unfold nx
  rw [getD_app, show p.length + i + 1 = p.length + (i + 1) from by omega, getD_app, List.length_append]
  by_cases h : t.getD i 0 = 13 ∧ i + 1 < t.length ∧ t.getD (i + 1) 0 = 10
  · rw [if_pos h, if_pos ⟨h.1, by omega, h.2.2⟩]; omega
  · rw [if_neg h, if_neg (fun h2 => h ⟨h2.1, by omega, h2.2.2⟩)]
theorem spF_app (p t : List UInt8) : ∀ (f a i : Nat), spF (p ++ t) f (p.length + a) (p.length + i) = shift p.length (spF t f a i)
  | 0, a, i => by simp [spF, shift, Nat.add_comm]
  | f + 1, a, i => by
    simp only [spF, List.length_append, getD_app, nx_app]
    by_cases h : i < t.length
    · rw [if_pos h, if_pos (by omega)]
      by_cases he : eol (t.getD i 0) = true
      · rw [if_pos he, if_pos he, spF_app p t f]
        simp [shift]; omega
      · rw [if_neg he, if_neg he, show p.length + i + 1 = p.length + (i + 1) from by omega, spF_app p t f]
    · rw [if_neg h, if_neg (by omega)]
      simp [shift]; omega
theorem spAt_app (p t : List UInt8) (a i : Nat) : spAt (p ++ t) (p.length + a) (p.length + i) = shift p.length (spAt t a i) := by
  unfold spAt
  rw [List.length_append, show p.length + t.length - (p.length + i) = t.length - i from by omega]
  exact spF_app p t _ a i
theorem getD_lt (s t : List UInt8) (i : Nat) (h : i < s.length) : (s ++ t).getD i 0 = s.getD i 0 := by
  rw [List.getD_eq_getElem?_getD, List.getD_eq_getElem?_getD, List.getElem?_append_left h]
theorem spAt_two (s t : List UInt8) (hs : s = [] ∨ s.getD (s.length - 1) 0 ≠ 13) : ∀ (d a i : Nat), s.length - i = d → i ≤ s.length → spAt (s ++ 10 :: t) a i = spAt s a i ++ shift (s.length + 1) (spans t)
  | 0, a, i, hd, hi => by
    obtain rfl : i = s.length := by omega
    have hg : (s ++ 10 :: t).getD s.length 0 = 10 := by simp [List.getD]
    rw [spAt_end, spAt_eol a (by simp) (by rw [hg]; rfl), nx_one (by rw [hg]; intro h; exact absurd h.1 (by decide))]
    have h2 := spAt_app (s ++ [10]) t 0 0
    rw [List.append_assoc, List.length_append] at h2
    simp only [List.length_cons, List.length_nil, Nat.add_zero, List.cons_append, List.nil_append, Nat.zero_add] at h2
    rw [h2]
    rfl
  | d + 1, a, i, hd, hi => by
    have hlt : i < s.length := by omega
    have hlt' : i < (s ++ 10 :: t).length := by rw [List.length_append]; omega
    have hg := getD_lt s (10 :: t) i hlt
    cases he : eol (s.getD i 0) with
    | true =>
      have hx : nx (s ++ 10 :: t) i = nx s i := by
        unfold nx
        rw [hg]
        by_cases h1 : i + 1 < s.length
        · rw [getD_lt s (10 :: t) (i + 1) h1, List.length_append]
          by_cases h : s.getD i 0 = 13 ∧ i + 1 < s.length ∧ s.getD (i + 1) 0 = 10
          · rw [if_pos h, if_pos ⟨h.1, by omega, h.2.2⟩]
          · rw [if_neg h, if_neg (fun h2 => h ⟨h2.1, h1, h2.2.2⟩)]
        · have h13 : s.getD i 0 ≠ 13 := by
            rcases hs with rfl | hs
            · simp at hlt
            · rw [show i = s.length - 1 from by omega]; exact hs
          rw [if_neg (fun h => h13 h.1), if_neg (fun h => h13 h.1)]
      have hn := nx_le s i hlt
      rw [spAt_eol a hlt he, spAt_eol a hlt' (by rw [hg]; exact he), hx, List.cons_append]
      have := spAt_two s t hs (s.length - nx s i) (nx s i) (nx s i) rfl hn.2.1
      rw [this]
    | false =>
      rw [spAt_skip a hlt he, spAt_skip a hlt' (by rw [hg]; exact he), spAt_two s t hs d a (i + 1) (by omega) (by omega)]
termination_by d => d
decreasing_by all_goals (first | omega | (simp_wf; omega))
theorem spans_two (s t : List UInt8) (hs : s = [] ∨ s.getD (s.length - 1) 0 ≠ 13) : spans (s ++ 10 :: t) = spans s ++ shift (s.length + 1) (spans t) := spAt_two s t hs _ 0 0 rfl (Nat.zero_le _)
end Go.Proofs.YtkhbggihgodpkaaDoor
