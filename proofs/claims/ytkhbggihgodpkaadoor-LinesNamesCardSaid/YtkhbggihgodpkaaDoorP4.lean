/-
  Plain: sums over two texts; places and units tell each other; what is put.
-/
import Derived.Test.YtkhbggihgodpkaaDoorP3
namespace Go.Proofs.YtkhbggihgodpkaaDoor
open Go.Lib

theorem rn_take {l : List UInt8} (hne : l ≠ []) (h : 0 ≤ (rn l).1) :
    putL (rn l).1 = l.take (rn l).2 ∧ (0 ≤ (rn l).1 ∧ (rn l).1 ≤ 1114111 ∧ ¬ (55296 ≤ (rn l).1 ∧ (rn l).1 < 57344)) := by
  unfold rn at h ⊢
  rw [if_neg hne] at h ⊢
  by_cases hv : (decodeL l).1 = 65533 ∧ (decodeL l).2 = 1
  · rw [if_pos hv] at h
    simp at h
  · rw [if_neg hv]
    obtain ⟨_, _, hs, hm⟩ := bits_decode l hne hv
    have hok : 0 ≤ ((decodeL l).1 : Int) ∧ ((decodeL l).1 : Int) ≤ 1114111 ∧ ¬ (55296 ≤ ((decodeL l).1 : Int) ∧ ((decodeL l).1 : Int) < 57344) := by omega
    exact ⟨by rw [putL_ok hok]; exact encode_decode l hne hv, hok⟩
/-- A character that stands there stands there whatever comes behind. -/
theorem rn_append {l : List UInt8} (hne : l ≠ []) (h : 0 ≤ (rn l).1) (r : List UInt8) : rn (l ++ r) = rn l := by
  obtain ⟨ht, hok⟩ := rn_take hne h
  have h1 := rn_put _ hok (l.drop (rn l).2 ++ r)
  have h2 := rn_put _ hok (l.drop (rn l).2)
  rw [← List.append_assoc] at h1
  rw [ht, List.take_append_drop] at h1
  rw [ht, List.take_append_drop] at h2
  rw [h1, ← h2]
theorem putL_last (p : Int) (h : 2 ≤ (putL p).length) (l : List UInt8) (x : UInt8) (hx : putL p = l ++ [x]) : 128 ≤ x.toNat := by
  have hlen := putL_length p
  by_cases hok : 0 ≤ p ∧ p ≤ 1114111 ∧ ¬ (55296 ≤ p ∧ p < 57344)
  · rw [if_pos hok] at hlen
    rw [putL_ok hok] at hx
    have hl := congrArg List.getLast? hx
    rw [List.getLast?_append] at hl
    unfold encodeRune at hl
    by_cases c1 : p ≤ 127
    · rw [if_pos c1] at hlen; omega
    have e2 := toNat_byte (128 + p % 64) (by omega) (by omega)
    by_cases c2 : p ≤ 2047
    · rw [encodeRuneZ_two (by omega) c2] at hl
      simp only [List.map_cons, List.map_nil, List.getLast?_cons_cons, List.getLast?_singleton, Option.some_or, Option.some.injEq] at hl
      rw [← hl, e2]; omega
    by_cases c3 : p ≤ 65535
    · rw [encodeRuneZ_three (by omega)] at hl
      simp only [List.map_cons, List.map_nil, List.getLast?_cons_cons, List.getLast?_singleton, Option.some_or, Option.some.injEq] at hl
      rw [← hl, e2]; omega
    · rw [encodeRuneZ_four (by omega) (by omega)] at hl
      simp only [List.map_cons, List.map_nil, List.getLast?_cons_cons, List.getLast?_singleton, Option.some_or, Option.some.injEq] at hl
      rw [← hl, e2]; omega
  · rw [if_neg hok] at hlen
    omega
theorem rn_bad_x {l : List UInt8} (hne : l ≠ []) (h : (rn l).1 < 0) : (rn (l ++ [120])).1 < 0 := by
  refine Decidable.byContradiction fun hx => ?_
  have hne' : l ++ [120] ≠ [] := by simp
  obtain ⟨ht, hok⟩ := rn_take hne' (by omega)
  have hw := rn_width _ hne'
  have hl : 0 < l.length := List.length_pos_iff.2 hne
  rw [List.length_append] at hw
  simp only [List.length_cons, List.length_nil] at hw
  by_cases hn : (rn (l ++ [120])).2 ≤ l.length
  · rw [List.take_append_of_le_length hn] at ht
    have := rn_put _ hok (l.drop (rn (l ++ [120])).2)
    rw [ht, List.take_append_drop] at this
    rw [this] at h
    simp only at h
    omega
  · rw [List.take_of_length_le (by rw [List.length_append]; simp only [List.length_cons, List.length_nil]; omega)] at ht
    have := putL_last _ (by rw [ht]; simp; omega) l 120 ht
    simp at this
theorem len16_append : ∀ (n : Nat) (a b : List UInt8), a.length ≤ n → validD a = true → len16 (a ++ b) = len16 a + len16 b
  | 0, a, b, hn, _ => by
    have : a = [] := List.eq_nil_of_length_eq_zero (by omega)
    subst this
    rw [List.nil_append, len16_nil, Nat.zero_add]
  | n + 1, a, b, hn, hv => by
    by_cases hne : a = []
    · subst hne
      rw [List.nil_append, len16_nil, Nat.zero_add]
    · have hst := validD_step hne
      obtain ⟨w1, w2⟩ := rn_width a hne
      by_cases hp : (rn a).1 < 0
      · rw [hv, if_pos hp] at hst; exact absurd hst (by simp)
      · rw [hv, if_neg hp] at hst
        rw [len16_step hne, len16_step (l := a ++ b) (by simp [hne]), rn_append hne (by omega), List.drop_append_of_le_length w2,
          len16_append n _ b (by rw [List.length_drop]; omega) hst.symm, Nat.add_assoc]
theorem validD_append : ∀ (n : Nat) (a b : List UInt8), a.length ≤ n → validD a = true → validD (a ++ b) = validD b
  | 0, a, b, hn, _ => by
    have : a = [] := List.eq_nil_of_length_eq_zero (by omega)
    subst this
    rfl
  | n + 1, a, b, hn, hv => by
    by_cases hne : a = []
    · subst hne
      rfl
    · have hst := validD_step hne
      obtain ⟨w1, w2⟩ := rn_width a hne
      by_cases hp : (rn a).1 < 0
      · rw [hv, if_pos hp] at hst; exact absurd hst (by simp)
      · rw [hv, if_neg hp] at hst
        rw [validD_step (l := a ++ b) (by simp [hne]), rn_append hne (by omega), if_neg hp, List.drop_append_of_le_length w2]
        exact validD_append n _ b (by rw [List.length_drop]; omega) hst.symm
theorem validD_x : ∀ (n : Nat) (a : List UInt8), a.length ≤ n → validD a = false → validD (a ++ [120]) = false
  | 0, a, hn, hv => by
    have : a = [] := List.eq_nil_of_length_eq_zero (by omega)
    subst this
    rw [validD_nil] at hv; exact absurd hv (by simp)
  | n + 1, a, hn, hv => by
    by_cases hne : a = []
    · subst hne
      rw [validD_nil] at hv; exact absurd hv (by simp)
    · have hst := validD_step hne
      obtain ⟨w1, w2⟩ := rn_width a hne
      rw [validD_step (l := a ++ [120]) (by simp)]
      by_cases hp : (rn a).1 < 0
      · rw [if_pos (rn_bad_x hne hp)]
      · rw [hv, if_neg hp] at hst
        rw [rn_append hne (by omega), if_neg hp, List.drop_append_of_le_length w2]
        exact validD_x n _ (by rw [List.length_drop]; omega) hst.symm

/-! ### places and units -/
theorem uScan_some {q : Int} : ∀ (n : Nat) (xs : List (Nat × Bool)) (u : Int), uScan q n xs = some (u, 0) → ∃ pre x post, xs = pre ++ x :: post ∧ (x.1 : Int) = q ∧ u = ((n + sumU pre : Nat) : Int)
  | n, [], u, h => by simp [uScan] at h
  | n, x :: xs, u, h => by
    simp only [uScan] at h
    by_cases h1 : (x.1 : Int) = q
    · rw [if_pos h1] at h
      simp only [Option.some.injEq, Prod.mk.injEq, and_true] at h
      exact ⟨[], x, xs, rfl, h1, by rw [← h, sumU_nil]; rfl⟩
    · rw [if_neg h1] at h
      by_cases h2 : q < (x.1 : Int)
      · rw [if_pos h2] at h
        simp at h
      · rw [if_neg h2] at h
        obtain ⟨pre, y, post, e1, e2, e3⟩ := uScan_some _ xs u h
        exact ⟨x :: pre, y, post, by rw [e1]; rfl, e2, by rw [e3, sumU_cons, Nat.add_assoc]⟩
theorem bScan_some {q : Int} : ∀ (n : Nat) (xs : List (Nat × Bool)) (i : Int), bScan q n xs = some (i, 0) → ∃ pre x post, xs = pre ++ x :: post ∧ (x.1 : Int) = i ∧ q = ((n + sumU pre : Nat) : Int)
  | n, [], u, h => by simp [bScan] at h
  | n, x :: xs, u, h => by
    simp only [bScan] at h
    by_cases h1 : (n : Int) = q
    · rw [if_pos h1] at h
      simp only [Option.some.injEq, Prod.mk.injEq, and_true] at h
      exact ⟨[], x, xs, rfl, h, by rw [← h1, sumU_nil]; rfl⟩
    · rw [if_neg h1] at h
      by_cases h2 : q < (n : Int)
      · rw [if_pos h2] at h
        simp at h
      · rw [if_neg h2] at h
        obtain ⟨pre, y, post, e1, e2, e3⟩ := bScan_some _ xs u h
        exact ⟨x :: pre, y, post, by rw [e1]; rfl, e2, by rw [e3, sumU_cons, Nat.add_assoc]⟩
theorem bScan_pre (x : Nat × Bool) (post : List (Nat × Bool)) : ∀ (n : Nat) (pre : List (Nat × Bool)), bScan ((n + sumU pre : Nat) : Int) n (pre ++ x :: post) = some ((x.1 : Int), 0)
  | n, [] => by simp [bScan, sumU]
  | n, y :: pre => by
    have := (uB_le y.2).1
    rw [sumU_cons]
    simp only [List.cons_append, bScan]
    rw [if_neg (by omega), if_neg (by omega), ← Nat.add_assoc]
    exact bScan_pre x post _ pre
theorem uScan_pre (x : Nat × Bool) (post : List (Nat × Bool)) : ∀ (n : Nat) (pre : List (Nat × Bool)), (∀ y ∈ pre, y.1 < x.1) → uScan (x.1 : Int) n (pre ++ x :: post) = some (((n + sumU pre : Nat) : Int), 0)
  | n, [], _ => by simp [uScan, sumU]
  | n, y :: pre, h => by
    have hy := h y (by simp)
    simp only [List.cons_append, uScan]
    rw [if_neg (by omega), if_neg (by omega), sumU_cons, ← Nat.add_assoc]
    exact uScan_pre x post _ pre fun z hz => h z (by simp [hz])
theorem uScan_far {q : Int} : ∀ (n : Nat) (xs : List (Nat × Bool)), (∀ y ∈ xs, (y.1 : Int) < q) → uScan q n xs = none
  | _, [], _ => rfl
  | n, y :: xs, h => by
    have hy := h y (by simp)
    simp only [uScan]
    rw [if_neg (by omega), if_neg (by omega)]
    exact uScan_far _ xs fun z hz => h z (by simp [hz])
theorem bScan_total : ∀ (n : Nat) (xs : List (Nat × Bool)), bScan ((n + sumU xs : Nat) : Int) n xs = none
  | _, [] => rfl
  | n, y :: xs => by
    have := (uB_le y.2).1
    rw [sumU_cons]
    simp only [bScan]
    rw [if_neg (by omega), if_neg (by omega), ← Nat.add_assoc]
    exact bScan_total _ xs
/-- Places rise, and lie within the text. -/
theorem chsF_mem : ∀ (f i : Nat) (l : List UInt8) (y : Nat × Bool), y ∈ chsF f i l → i ≤ y.1 ∧ y.1 < i + l.length
  | 0, _, _, _, h => by simp [chsF] at h
  | f + 1, i, l, y, h => by
    unfold chsF at h
    split at h
    · simp at h
    · rename_i hne
      have hl : 0 < l.length := List.length_pos_iff.2 hne
      obtain ⟨w1, w2⟩ := rn_width l hne
      rcases List.mem_cons.1 h with rfl | h
      · exact ⟨Nat.le_refl _, by dsimp only; omega⟩
      · have := chsF_mem f _ _ y h
        rw [List.length_drop] at this
        omega
theorem chsF_rise : ∀ (f i : Nat) (l : List UInt8) (pre : List (Nat × Bool)) (x : Nat × Bool) (post : List (Nat × Bool)), chsF f i l = pre ++ x :: post → ∀ y ∈ pre, y.1 < x.1
  | 0, _, _, pre, x, post, h => by
    have := congrArg List.length h
    simp [chsF] at this
  | f + 1, i, l, pre, x, post, h => by
    intro y hy
    unfold chsF at h
    split at h
    · have := congrArg List.length h
      simp at this
    · rename_i hne
      obtain ⟨w1, w2⟩ := rn_width l hne
      cases pre with
      | nil => simp at hy
      | cons z pre =>
        rw [List.cons_append] at h
        obtain ⟨h1, h2⟩ := List.cons.inj h
        rcases List.mem_cons.1 hy with rfl | hy
        · have hx : x ∈ chsF f (i + (rn l).2) (l.drop (rn l).2) := by rw [h2]; simp
          have := (chsF_mem _ _ _ x hx).1
          rw [← h1]
          dsimp only
          omega
        · exact chsF_rise f _ _ pre x post h2 y hy
theorem back_unit {l : List UInt8} {q u : Int} (h : unitA l q = (u, 0)) : byteA l u = (q, 0) := by
  unfold unitA at h
  by_cases h0 : q < 0 ∨ (l.length : Int) < q
  · rw [if_pos h0] at h
    simp at h
  · rw [if_neg h0] at h
    cases hs : uScan q 0 (chs l) with
    | some r =>
      rw [hs] at h
      simp only at h
      subst h
      obtain ⟨pre, x, post, e1, e2, e3⟩ := uScan_some _ _ _ hs
      rw [Nat.zero_add] at e3
      have hb := bScan_pre x post 0 pre
      rw [Nat.zero_add] at hb
      rw [e3, ← e2]
      exact byteA_some (by omega) (List.prefix_refl _) (by rw [e1]; exact hb)
    | none =>
      rw [hs] at h
      simp only at h
      by_cases h1 : q < (l.length : Int)
      · rw [if_pos h1] at h
        simp at h
      · rw [if_neg h1] at h
        have hu : ((len16 l : Nat) : Int) = u := (Prod.mk.inj h).1
        have hn := bScan_total 0 (chs l)
        rw [Nat.zero_add] at hn
        rw [byteA_none (by omega) (by rw [← hu]; exact hn), if_pos hu]
        exact Prod.ext (by dsimp only; omega) rfl
theorem back_byte {l : List UInt8} {q i : Int} (h : byteA l q = (i, 0)) : unitA l i = (q, 0) := by
  unfold byteA at h
  by_cases h0 : q < 0
  · rw [if_pos h0] at h
    simp at h
  · rw [if_neg h0] at h
    cases hs : bScan q 0 (chs l) with
    | some r =>
      rw [hs] at h
      simp only at h
      subst h
      obtain ⟨pre, x, post, e1, e2, e3⟩ := bScan_some _ _ _ hs
      rw [Nat.zero_add] at e3
      have hx := chsF_mem l.length 0 l x (by have : x ∈ chs l := by rw [e1]; simp
                                             exact this)
      have hu := uScan_pre x post 0 pre (chsF_rise _ _ _ _ _ _ e1)
      rw [Nat.zero_add] at hu
      rw [e3, ← e2]
      exact unitA_some (by omega) (by omega) (List.prefix_refl _) (by rw [e1]; exact hu)
    | none =>
      rw [hs] at h
      simp only at h
      by_cases h1 : (len16 l : Int) = q
      · rw [if_pos h1] at h
        have hi : (l.length : Int) = i := (Prod.mk.inj h).1
        have hn : uScan i 0 (chs l) = none := uScan_far _ _ fun y hy => by
          have := chsF_mem l.length 0 l y hy
          omega
        rw [unitA_none (by omega) (by omega) hn, if_neg (by omega), h1]
      · rw [if_neg h1] at h
        by_cases h2 : q < (len16 l : Int)
        · rw [if_pos h2] at h
          simp at h
        · rw [if_neg h2] at h
          simp at h
/-- The units ahead of the first of two texts' seam. -/
theorem chs_append : ∀ (n i : Nat) (a b : List UInt8), a.length ≤ n → validD a = true → chsF (a ++ b).length i (a ++ b) = chsF a.length i a ++ chsF b.length (i + a.length) b
  | 0, i, a, b, hn, _ => by
    have : a = [] := List.eq_nil_of_length_eq_zero (by omega)
    subst this
    simp [chsF]
  | n + 1, i, a, b, hn, hv => by
    by_cases hne : a = []
    · subst hne
      simp [chsF]
    · have hst := validD_step hne
      have hl : 0 < a.length := List.length_pos_iff.2 hne
      obtain ⟨w1, w2⟩ := rn_width a hne
      by_cases hp : (rn a).1 < 0
      · rw [hv, if_pos hp] at hst; exact absurd hst (by simp)
      · rw [hv, if_neg hp] at hst
        have hra := rn_append hne (show 0 ≤ (rn a).1 by omega) b
        obtain ⟨m, hm⟩ : ∃ m, (a ++ b).length = m + 1 := ⟨(a ++ b).length - 1, by rw [List.length_append]; omega⟩
        obtain ⟨k, hk⟩ : ∃ k, a.length = k + 1 := ⟨a.length - 1, by omega⟩
        have ih := chs_append n (i + (rn a).2) (a.drop (rn a).2) b (by rw [List.length_drop]; omega) hst.symm
        have hnab : a ++ b ≠ [] := by simp [hne]
        have e1 : chsF (a ++ b).length i (a ++ b) = (i, two (rn a).1) :: chsF m (i + (rn a).2) (a.drop (rn a).2 ++ b) := by
          rw [hm]
          simp only [chsF, if_neg hnab]
          rw [hra, List.drop_append_of_le_length w2]
        have e2 : chsF a.length i a = (i, two (rn a).1) :: chsF k (i + (rn a).2) (a.drop (rn a).2) := by
          rw [hk]
          simp only [chsF, if_neg hne]
        rw [List.length_append] at hm
        rw [e1, e2, chsF_fuel m (a.drop (rn a).2 ++ b).length _ _ (by rw [List.length_append, List.length_drop]; omega) (Nat.le_refl _), ih,
          chsF_fuel k (a.drop (rn a).2).length _ _ (by rw [List.length_drop]; omega) (Nat.le_refl _), List.cons_append]
        congr 3
        rw [List.length_drop]
        omega
theorem unit_seam {a b : List UInt8} (hv : validD a = true) : unitA (a ++ b) (a.length : Int) = ((len16 a : Int), 0) := by
  have hc : chs (a ++ b) = chs a ++ chsF b.length a.length b := by
    have := chs_append a.length 0 a b (Nat.le_refl _) hv
    rw [Nat.zero_add] at this
    exact this
  have hfar : uScan (a.length : Int) 0 (chs a) = none := uScan_far _ _ fun y hy => by
    have := chsF_mem a.length 0 a y hy
    omega
  by_cases hb : b = []
  · subst hb
    rw [List.append_nil, unitA_none (by omega) (by omega) hfar, if_neg (by omega)]
  · have hl : 0 < b.length := List.length_pos_iff.2 hb
    obtain ⟨m, hm⟩ : ∃ m, b.length = m + 1 := ⟨b.length - 1, by omega⟩
    refine unitA_some (by omega) (by rw [List.length_append]; omega) (List.prefix_refl _) ?_
    rw [hc, uScan_append, hfar, hm]
    simp only [chsF, if_neg hb, uScan, Nat.zero_add]
    rw [if_pos trivial]
    rfl
theorem putL_ne {p : Int} (h : putL p ≠ []) : 0 ≤ p ∧ p ≤ 1114111 ∧ ¬ (55296 ≤ p ∧ p < 57344) :=
  Decidable.byContradiction fun hx => h (putL_no hx)
theorem put_valid {p : Int} (h : putL p ≠ []) : validD (putL p) = true := by
  have := rn_put p (putL_ne h) []
  rw [List.append_nil] at this
  rw [validD_step h, this, if_neg (by have := (putL_ne h).1; dsimp only; omega), List.drop_length]
  rfl
theorem put_len16 {p : Int} (h : putL p ≠ []) : len16 (putL p) = uB (two p) := by
  have := rn_put p (putL_ne h) []
  rw [List.append_nil] at this
  rw [len16_step h, this, List.drop_length, len16_nil]
  rfl
end Go.Proofs.YtkhbggihgodpkaaDoor
