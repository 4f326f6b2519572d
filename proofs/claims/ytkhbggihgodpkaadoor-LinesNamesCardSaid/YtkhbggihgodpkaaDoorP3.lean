/-
  Plain: the reference's loops, step by step, come to the same answers.
-/
import Derived.Test.YtkhbggihgodpkaaDoorP2
namespace Go.Proofs.YtkhbggihgodpkaaDoor
open Go.Lib

theorem drop_ne {l : List UInt8} {i : Nat} (h : i < l.length) : l.drop i ≠ [] := by
  intro hx
  have := congrArg List.length hx
  simp at this
  omega

/-- The answer of a search for a byte from place i on, n units having been counted. -/
def uRest (q : Int) (l : List UInt8) (i n : Nat) : Int × Int :=
  match uScan q n (chsAt l i) with
  | some r => r
  | none => if q < (l.length : Int) then (0, 60) else ((n + sumU (chsAt l i) : Nat), 0)
theorem uRest_zero {q : Int} {l : List UInt8} (h0 : 0 ≤ q) (h1 : q ≤ (l.length : Int)) : unitA l q = uRest q l 0 0 := by
  unfold unitA uRest len16
  rw [if_neg (by omega), chsAt_zero]
  cases uScan q 0 (chs l) <;> simp
theorem uRest_end {q : Int} {l : List UInt8} {n : Nat} (h0 : (l.length : Int) ≤ q) : uRest q l l.length n = ((n : Int), 0) := by
  unfold uRest
  rw [chsAt_end]
  simp only [uScan]
  rw [if_neg (by omega)]
  simp [sumU]
theorem uRest_at {q : Int} {l : List UInt8} {i n : Nat} (h : i < l.length) (hq : (i : Int) = q) : uRest q l i n = ((n : Int), 0) := by
  unfold uRest
  rw [(chsAt_step l i h).1]
  simp [uScan, hq]
theorem uRest_step {q : Int} {l : List UInt8} {i n : Nat} (h : i < l.length) (hq : (i : Int) < q) :
    uRest q l i n = uRest q l (i + (rn (l.drop i)).2) (n + uB (two (rn (l.drop i)).1)) := by
  unfold uRest
  rw [(chsAt_step l i h).1]
  simp only [uScan]
  rw [if_neg (by omega), if_neg (by omega), sumU_cons]
  simp only [Nat.add_assoc]
theorem uRest_past {q : Int} {l : List UInt8} {i n : Nat} (h : i ≤ l.length) (hq : q < (i : Int)) : uRest q l i n = (0, 60) := by
  unfold uRest
  by_cases hl : i < l.length
  · rw [(chsAt_step l i hl).1]
    simp only [uScan]
    rw [if_neg (by omega), if_pos hq]
  · have he : i = l.length := by omega
    rw [he, chsAt_end]
    simp only [uScan]
    rw [if_pos (by omega)]

/-- The answer of a search for a number of units from place i on, n units having been counted. -/
def bRest (q : Int) (l : List UInt8) (i n : Nat) : Int × Int :=
  match bScan q n (chsAt l i) with
  | some r => r
  | none => if ((n + sumU (chsAt l i) : Nat) : Int) = q then ((l.length : Int), 0) else if q < ((n + sumU (chsAt l i) : Nat) : Int) then (0, 60) else (0, 1)
theorem bRest_zero {q : Int} {l : List UInt8} (h0 : 0 ≤ q) : byteA l q = bRest q l 0 0 := by
  unfold byteA bRest len16
  rw [if_neg (by omega), chsAt_zero]
  cases bScan q 0 (chs l) <;> simp
theorem bRest_end {q : Int} {l : List UInt8} {n : Nat} (h0 : (n : Int) = q) : bRest q l l.length n = ((l.length : Int), 0) := by
  unfold bRest
  rw [chsAt_end]
  simp [bScan, sumU, h0]
theorem bRest_at {q : Int} {l : List UInt8} {i n : Nat} (h : i < l.length) (hq : (n : Int) = q) : bRest q l i n = ((i : Int), 0) := by
  unfold bRest
  rw [(chsAt_step l i h).1]
  simp [bScan, hq]
theorem bRest_step {q : Int} {l : List UInt8} {i n : Nat} (h : i < l.length) (hq : (n : Int) < q) :
    bRest q l i n = bRest q l (i + (rn (l.drop i)).2) (n + uB (two (rn (l.drop i)).1)) := by
  unfold bRest
  rw [(chsAt_step l i h).1]
  simp only [bScan]
  rw [if_neg (by omega), if_neg (by omega), sumU_cons]
  simp only [Nat.add_assoc]
theorem bRest_past {q : Int} {l : List UInt8} {i n : Nat} (h : i ≤ l.length) (hq : q < (n : Int)) : bRest q l i n = (0, 60) := by
  unfold bRest
  by_cases hl : i < l.length
  · rw [(chsAt_step l i hl).1]
    simp only [bScan]
    rw [if_neg (by omega), if_pos hq]
  · have he : i = l.length := by omega
    rw [he, chsAt_end]
    have e0 : n + sumU ([] : List (Nat × Bool)) = n := rfl
    rw [e0]
    simp only [bScan]
    rw [if_neg (by omega), if_pos hq]
theorem bScan_big {q : Int} : ∀ (n : Nat) (xs : List (Nat × Bool)), ((n + sumU xs : Nat) : Int) < q → bScan q n xs = none
  | _, [], _ => rfl
  | n, x :: xs, h => by
    rw [sumU_cons] at h
    have := (uB_le x.2).1
    simp only [bScan]
    rw [if_neg (by omega), if_neg (by omega)]
    exact bScan_big _ _ (by omega)
theorem byteA_big {l : List UInt8} {q : Int} (h : q < 0 ∨ (len16 l : Int) < q) : byteA l q = (0, 1) := by
  by_cases h0 : q < 0
  · unfold byteA
    rw [if_pos h0]
  · rw [byteA_none (by omega) (bScan_big 0 (chs l) (by unfold len16 at h; omega)), if_neg (by omega), if_neg (by omega)]

/-- The units that are left from place i on. -/
theorem sumU_chsF_at : ∀ f i j l, sumU (chsF f i l) = sumU (chsF f j l)
  | 0, _, _, _ => rfl
  | f + 1, i, j, l => by
    unfold chsF
    split
    · rfl
    · rw [sumU_cons, sumU_cons, sumU_chsF_at f (i + (rn l).2) (j + (rn l).2)]
theorem len16_nil : len16 [] = 0 := rfl
theorem len16_step {l : List UInt8} (h : l ≠ []) : len16 l = uB (two (rn l).1) + len16 (l.drop (rn l).2) := by
  have hl : 0 < l.length := List.length_pos_iff.2 h
  obtain ⟨w1, w2⟩ := rn_width l h
  unfold len16 chs
  obtain ⟨m, hm⟩ : ∃ m, l.length = m + 1 := ⟨l.length - 1, by omega⟩
  rw [hm]
  simp only [chsF, if_neg h]
  rw [sumU_cons, chsF_fuel m (l.drop (rn l).2).length _ _ (by rw [List.length_drop]; omega) (Nat.le_refl _), sumU_chsF_at _ _ 0]
theorem len16_at (l : List UInt8) (i : Nat) : len16 (l.drop i) = sumU (chsAt l i) := by
  unfold len16 chs chsAt
  rw [List.length_drop]
  exact sumU_chsF_at _ _ _ _
theorem len16_le (l : List UInt8) : len16 l ≤ 2 * l.length := sumU_chs l

theorem validGoD_fuel : ∀ (n m : Nat) (l : List UInt8), l.length ≤ n → l.length ≤ m → validGoD n l = validGoD m l
  | 0, m, l, hn, _ => by
    have : l = [] := List.eq_nil_of_length_eq_zero (by omega)
    subst this
    cases m <;> simp [validGoD]
  | n + 1, 0, l, _, hm => by
    have : l = [] := List.eq_nil_of_length_eq_zero (by omega)
    subst this
    simp [validGoD]
  | n + 1, m + 1, l, hn, hm => by
    by_cases hne : l = []
    · subst hne
      simp [validGoD]
    · have hw := decodeL_width l
      have hl : 0 < l.length := List.length_pos_iff.2 hne
      simp only [validGoD, if_neg hne]
      rw [validGoD_fuel n m _ (by rw [List.length_drop]; omega) (by rw [List.length_drop]; omega)]
theorem validD_nil : validD [] = true := rfl
theorem validD_step {l : List UInt8} (h : l ≠ []) : validD l = if (rn l).1 < 0 then false else validD (l.drop (rn l).2) := by
  have hl : 0 < l.length := List.length_pos_iff.2 h
  have hw := decodeL_width l
  unfold validD rn
  obtain ⟨m, hm⟩ : ∃ m, l.length = m + 1 := ⟨l.length - 1, by omega⟩
  rw [hm]
  simp only [validGoD, if_neg h]
  by_cases hv : (decodeL l).1 = 65533 ∧ (decodeL l).2 = 1
  · rw [if_pos hv, if_pos hv, if_pos (by simp)]
  · rw [if_neg hv, if_neg hv, if_neg (by simp only; omega)]
    rw [validGoD_fuel m (l.drop (decodeL l).2).length _ (by rw [List.length_drop]; omega) (Nat.le_refl _)]
end Go.Proofs.YtkhbggihgodpkaaDoor
