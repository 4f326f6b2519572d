/-
  Plain: the document's sorting, one by one.
-/
import Derived.Test.YtinanagjoaaacaaP11
namespace Go.Proofs.Ytinanagjoaaacaa

/-- Does an edit stand ahead of another one, as the document tells it? -/
def aheadB (x y : Ed) : Bool := if x.fr = y.fr then decide (x.to = x.fr) && !decide (y.to = y.fr) else decide (x.fr < y.fr)
theorem ahead_key (x y : Ed) : aheadB x y = decide (key x < key y) := by
  unfold aheadB key emp
  by_cases h : x.fr = y.fr
  · rw [if_pos h]
    by_cases h1 : x.fr = x.to
    · rw [if_pos h1, decide_eq_true h1.symm]
      by_cases h2 : y.fr = y.to
      · rw [if_pos h2, decide_eq_true h2.symm]; simp; omega
      · rw [if_neg h2, decide_eq_false (fun e => h2 e.symm)]; simp; omega
    · rw [if_neg h1, decide_eq_false (fun e => h1 e.symm)]
      by_cases h2 : y.fr = y.to
      · rw [if_pos h2]; simp; omega
      · rw [if_neg h2]; simp; omega
  · rw [if_neg h]
    have := emp_two x
    have := emp_two y
    unfold emp at *
    exact decide_eq_decide.2 ⟨fun _ => by omega, fun _ => by omega⟩
/-- Where an edit is laid in, from a place downward. -/
def posR (x : Ed) (out : List Ed) : Nat → Nat
  | 0 => 0
  | a + 1 => if key x < key out[a]! then posR x out a else a + 1
theorem posR_le (x : Ed) (out : List Ed) : ∀ a, posR x out a ≤ a
  | 0 => Nat.le_refl _
  | a + 1 => by
    unfold posR
    split
    · exact Nat.le_succ_of_le (posR_le x out a)
    · exact Nat.le_refl _
theorem posR_up (x : Ed) (out : List Ed) : ∀ a j, posR x out a ≤ j → j < a → key x < key out[j]!
  | 0, j, _, h => by omega
  | a + 1, j, h1, h2 => by
    unfold posR at h1
    split at h1
    · rename_i hk
      by_cases hj : j = a
      · rw [hj]; exact hk
      · exact posR_up x out a j h1 (by omega)
    · omega
theorem posR_low (x : Ed) (out : List Ed) : ∀ a, posR x out a = 0 ∨ ¬ key x < key out[posR x out a - 1]!
  | 0 => .inl rfl
  | a + 1 => by
    by_cases hk : key x < key out[a]!
    · have e : posR x out (a + 1) = posR x out a := by rw [posR, if_pos hk]
      rw [e]; exact posR_low x out a
    · have e : posR x out (a + 1) = a + 1 := by rw [posR, if_neg hk]
      rw [e]; exact .inr (by rw [Nat.add_sub_cancel]; exact hk)
def insR (x : Ed) (out : List Ed) : List Ed := out.take (posR x out out.length) ++ [x] ++ out.drop (posR x out out.length)
def rsF : List Ed → Nat → List Ed
  | _, 0 => []
  | L, k + 1 => match L[k]? with
    | some x => insR x (rsF L k)
    | none => rsF L k
theorem rsF_step {L : List Ed} {k : Nat} {x : Ed} (h : L[k]? = some x) : rsF L (k + 1) = insR x (rsF L k) := by rw [rsF, h]
theorem insR_perm (x : Ed) (out : List Ed) : (insR x out).Perm (x :: out) := by
  unfold insR
  have h := List.take_append_drop (posR x out out.length) out
  have h2 : (out.take (posR x out out.length) ++ [x] ++ out.drop (posR x out out.length)).Perm (x :: (out.take (posR x out out.length) ++ out.drop (posR x out out.length))) := by
    rw [List.append_assoc]
    exact List.perm_middle
  rw [h] at h2
  exact h2
theorem rsF_perm (L : List Ed) : ∀ k, k ≤ L.length → (rsF L k).Perm (L.take k)
  | 0, _ => by simp [rsF]
  | k + 1, hk => by
    obtain ⟨x, hx⟩ : ∃ x, L[k]? = some x := ⟨_, List.getElem?_eq_getElem (by omega)⟩
    rw [rsF_step hx, take_snoc hx]
    exact (insR_perm x _).trans (((rsF_perm L k (by omega)).cons x).trans (List.perm_append_singleton x _).symm)
theorem rsF_length {L : List Ed} {k : Nat} (hk : k ≤ L.length) : (rsF L k).length = k := by
  rw [(rsF_perm L k hk).length_eq, List.length_take]; omega
theorem mem_take_tag {l : List Ed} {k : Nat} {y : Ed} (h : y ∈ (tagL l).take k) : y.tag < k := by
  obtain ⟨i, hi⟩ := List.getElem?_of_mem h
  rw [List.getElem?_take] at hi
  split at hi
  · rename_i hik
    rw [tagL_at, Option.map_eq_some_iff] at hi
    obtain ⟨a, _, rfl⟩ := hi
    exact hik
  · cases hi
theorem rsF_sorted (l : List Ed) : ∀ k, k ≤ (tagL l).length → (rsF (tagL l) k).Pairwise fun a b => leE a b = true
  | 0, _ => by simp [rsF]
  | k + 1, hk => by
    obtain ⟨x, hx⟩ : ∃ x, (tagL l)[k]? = some x := ⟨_, List.getElem?_eq_getElem (by omega)⟩
    have ih := rsF_sorted l k (by omega)
    have hp := rsF_perm (tagL l) k (by omega)
    have hxt : x.tag = k := by
      rw [tagL_at, Option.map_eq_some_iff] at hx
      obtain ⟨a, _, rfl⟩ := hx
      rfl
    have htag : ∀ y, y ∈ rsF (tagL l) k → y.tag < x.tag := fun y hy => by
      rw [hxt]
      exact mem_take_tag (hp.mem_iff.1 hy)
    rw [rsF_step hx]
    obtain ⟨out, ho⟩ : ∃ o, rsF (tagL l) k = o := ⟨_, rfl⟩
    rw [ho] at ih htag ⊢
    unfold insR
    have hle := posR_le x out out.length
    have hup := posR_up x out out.length
    have hlow := posR_low x out out.length
    obtain ⟨p, hpp⟩ : ∃ p, posR x out out.length = p := ⟨_, rfl⟩
    rw [hpp] at hle hup hlow ⊢
    have hpw := ih
    rw [List.pairwise_iff_getElem] at hpw
    have hA : ∀ a, a ∈ out.take p → leE a x = true := by
      intro a ha
      obtain ⟨i, hi⟩ := List.getElem?_of_mem ha
      rw [List.getElem?_take] at hi
      split at hi
      · rename_i hip
        have hil := (List.getElem?_eq_some_iff.1 hi).1
        have hia := (List.getElem?_eq_some_iff.1 hi).2
        have ht := htag a (List.mem_of_getElem? hi)
        rcases hlow with h0 | h0
        · omega
        · rw [getElem!_pos out (p - 1) (by omega)] at h0
          rw [leE_iff]
          by_cases hi1 : i = p - 1
          · subst hi1
            rw [hia] at h0
            omega
          · have := hpw i (p - 1) hil (by omega) (by omega)
            rw [hia, leE_iff] at this
            omega
      · cases hi
    have hB : ∀ b, b ∈ out.drop p → leE x b = true := by
      intro b hb
      obtain ⟨i, hi⟩ := List.getElem?_of_mem hb
      rw [List.getElem?_drop] at hi
      have hil := (List.getElem?_eq_some_iff.1 hi).1
      have := hup (p + i) (by omega) hil
      rw [getElem!_pos out (p + i) hil, (List.getElem?_eq_some_iff.1 hi).2] at this
      rw [leE_iff]; exact .inl this
    rw [List.append_assoc, List.pairwise_append]
    refine ⟨ih.sublist (List.take_sublist _ _), ?_, ?_⟩
    · rw [List.singleton_append, List.pairwise_cons]
      exact ⟨hB, ih.sublist (List.drop_sublist _ _)⟩
    · intro a ha b hb
      rcases List.mem_append.1 hb with hb | hb
      · obtain rfl : b = x := by simpa using hb
        exact hA a ha
      · exact leE_trans a x b (hA a ha) (hB b hb)
/-- One by one, the same. -/
theorem rsF_srt (l : List Ed) : rsF (tagL l) (tagL l).length = srt l := by
  refine srt_uniq ?_ (rsF_sorted l _ (Nat.le_refl _))
  have := rsF_perm (tagL l) _ (Nat.le_refl _)
  rw [List.take_length] at this
  exact this
end Go.Proofs.Ytinanagjoaaacaa
