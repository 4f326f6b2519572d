/-
  Plain: the spans of a text's lines.
-/
import Derived.Test.YtkhbggihgodpkaaDoorP4
namespace Go.Proofs.YtkhbggihgodpkaaDoor
open Go.Lib

def eol (c : UInt8) : Bool := c == 10 || c == 13
/-- Where the next line begins, behind an end at place i. -/
def nx (l : List UInt8) (i : Nat) : Nat := if l.getD i 0 = 13 ∧ i + 1 < l.length ∧ l.getD (i + 1) 0 = 10 then i + 2 else i + 1
def spF (l : List UInt8) : Nat → Nat → Nat → List (Nat × Nat)
  | 0, a, _ => [(a, l.length)]
  | f + 1, a, i => if i < l.length then (if eol (l.getD i 0) then (a, i) :: spF l f (nx l i) (nx l i) else spF l f a (i + 1)) else [(a, l.length)]
/-- The lines from place i on, the first of them begun at a. -/
def spAt (l : List UInt8) (a i : Nat) : List (Nat × Nat) := spF l (l.length - i) a i
def spans (l : List UInt8) : List (Nat × Nat) := spAt l 0 0
theorem nx_le (l : List UInt8) (i : Nat) (h : i < l.length) : i < nx l i ∧ nx l i ≤ l.length ∧ nx l i ≤ i + 2 := by
  unfold nx
  split <;> omega
theorem spF_end (l : List UInt8) (a i : Nat) (h : l.length ≤ i) : ∀ f, spF l f a i = [(a, l.length)]
  | 0 => rfl
  | f + 1 => by simp only [spF]; rw [if_neg (by omega)]
theorem spF_fuel (l : List UInt8) : ∀ (n m a i : Nat), l.length - i ≤ n → l.length - i ≤ m → spF l n a i = spF l m a i
  | 0, m, a, i, hn, _ => by rw [spF_end l a i (by omega), spF_end l a i (by omega)]
  | n + 1, 0, a, i, _, hm => by rw [spF_end l a i (by omega), spF_end l a i (by omega)]
  | n + 1, m + 1, a, i, hn, hm => by
    by_cases h : i < l.length
    · have hx := nx_le l i h
      simp only [spF, if_pos h]
      rw [spF_fuel l n m (nx l i) (nx l i) (by omega) (by omega), spF_fuel l n m a (i + 1) (by omega) (by omega)]
    · rw [spF_end l a i (by omega), spF_end l a i (by omega)]
theorem spAt_end (l : List UInt8) (a : Nat) : spAt l a l.length = [(a, l.length)] := spF_end l a _ (Nat.le_refl _) _
theorem spAt_skip {l : List UInt8} {i : Nat} (a : Nat) (h : i < l.length) (he : eol (l.getD i 0) = false) : spAt l a i = spAt l a (i + 1) := by
  unfold spAt
  obtain ⟨m, hm⟩ : ∃ m, l.length - i = m + 1 := ⟨l.length - i - 1, by omega⟩
  rw [hm]
  simp only [spF, if_pos h, he]
  rw [if_neg (by simp), spF_fuel l m (l.length - (i + 1)) _ _ (by omega) (by omega)]
theorem spAt_eol {l : List UInt8} {i : Nat} (a : Nat) (h : i < l.length) (he : eol (l.getD i 0) = true) : spAt l a i = (a, i) :: spAt l (nx l i) (nx l i) := by
  have hx := nx_le l i h
  unfold spAt
  obtain ⟨m, hm⟩ : ∃ m, l.length - i = m + 1 := ⟨l.length - i - 1, by omega⟩
  rw [hm]
  simp only [spF, if_pos h, he, if_true]
  rw [spF_fuel l m (l.length - nx l i) _ _ (by omega) (by omega)]
theorem nx_crlf {l : List UInt8} {i : Nat} (h1 : l.getD i 0 = 13) (h2 : i + 1 < l.length) (h3 : l.getD (i + 1) 0 = 10) : nx l i = i + 2 := if_pos ⟨h1, h2, h3⟩
theorem nx_one {l : List UInt8} {i : Nat} (h : ¬ (l.getD i 0 = 13 ∧ i + 1 < l.length ∧ l.getD (i + 1) 0 = 10)) : nx l i = i + 1 := if_neg h
theorem spF_length (l : List UInt8) : ∀ f a i, (spF l f a i).length ≤ f + 1
  | 0, _, _ => Nat.le_refl _
  | f + 1, a, i => by
    simp only [spF]
    split
    · split
      · rw [List.length_cons]
        have := spF_length l f (nx l i) (nx l i)
        omega
      · have := spF_length l f a (i + 1)
        omega
    · simp
theorem spans_length (l : List UInt8) : (spans l).length ≤ l.length + 1 := spF_length l _ _ _
theorem spF_pos (l : List UInt8) : ∀ f a i, 0 < (spF l f a i).length
  | 0, _, _ => by simp [spF]
  | f + 1, a, i => by
    simp only [spF]
    split
    · split
      · simp
      · exact spF_pos l f a (i + 1)
    · simp
end Go.Proofs.YtkhbggihgodpkaaDoor
