/-
  Plain laws of the lines' spans: where each begins and ends; which line a byte is in.
-/
import Derived.Test.YtkhbggihgodpkaaDoorP5
namespace Go.Proofs.YtkhbggihgodpkaaDoor
open Go.Lib

def noEol (l : List UInt8) (a b : Nat) : Prop := ∀ j, a ≤ j → j < b → eol (l.getD j 0) = false
/-- Lines from place a on. -/
def Good (l : List UInt8) : Nat → List (Nat × Nat) → Prop
  | _, [] => False
  | a, [x] => x.1 = a ∧ x.2 = l.length ∧ a ≤ l.length ∧ noEol l a l.length
  | a, x :: y :: r => x.1 = a ∧ a ≤ x.2 ∧ x.2 < l.length ∧ eol (l.getD x.2 0) = true ∧ noEol l a x.2 ∧ Good l (nx l x.2) (y :: r)
theorem good_cons {l : List UInt8} {a : Nat} {x : Nat × Nat} {xs : List (Nat × Nat)} (h1 : x.1 = a) (h2 : a ≤ x.2) (h3 : x.2 < l.length) (h4 : eol (l.getD x.2 0) = true) (h5 : noEol l a x.2) (h6 : Good l (nx l x.2) xs) : Good l a (x :: xs) := by
  cases xs with
  | nil => exact h6.elim
  | cons y r => exact ⟨h1, h2, h3, h4, h5, h6⟩
theorem spF_good (l : List UInt8) : ∀ (f a i : Nat), a ≤ i → i ≤ l.length → l.length - i ≤ f → noEol l a i → Good l a (spF l f a i)
  | 0, a, i, h1, h2, h3, h4 => by
    obtain rfl : i = l.length := by omega
    exact ⟨rfl, rfl, h1, h4⟩
  | f + 1, a, i, h1, h2, h3, h4 => by
    unfold spF
    split
    · rename_i hlt
      have hx := nx_le l i hlt
      split
      · rename_i he
        exact good_cons rfl h1 hlt he h4 (spF_good l f _ _ (Nat.le_refl _) hx.2.1 (by omega) (fun j (h5 : nx l i ≤ j) (h6 : j < nx l i) => absurd h6 (by omega)))
      · rename_i he
        refine spF_good l f a (i + 1) (by omega) (by omega) (by omega) (fun j h5 h6 => ?_)
        rcases Nat.lt_or_ge j i with h7 | h7
        · exact h4 j h5 h7
        · obtain rfl : j = i := by omega
          simpa using he
    · obtain rfl : i = l.length := by omega
      exact ⟨rfl, rfl, h1, h4⟩
theorem spans_good (l : List UInt8) : Good l 0 (spans l) := spF_good l _ 0 0 (Nat.le_refl _) (Nat.zero_le _) (by omega) (fun j h5 h6 => by omega)

theorem good_at {l : List UInt8} : ∀ {a : Nat} {xs : List (Nat × Nat)} {i : Nat} {x : Nat × Nat}, Good l a xs → xs[i]? = some x →
    a ≤ x.1 ∧ x.1 ≤ x.2 ∧ x.2 ≤ l.length ∧ noEol l x.1 x.2 ∧ (i = 0 → x.1 = a) ∧
    ((∃ y, xs[i + 1]? = some y ∧ x.2 < l.length ∧ eol (l.getD x.2 0) = true ∧ y.1 = nx l x.2) ∨ (xs.length = i + 1 ∧ x.2 = l.length))
  | a, [], i, x, h, _ => h.elim
  | a, [z], 0, x, h, hx => by
    obtain rfl : z = x := by simpa using hx
    obtain ⟨h1, h2, h3, h4⟩ := h
    exact ⟨by omega, by omega, by omega, by rw [h1, h2]; exact h4, fun _ => h1, .inr ⟨rfl, h2⟩⟩
  | a, [z], i + 1, x, h, hx => by simp at hx
  | a, z :: y :: r, 0, x, h, hx => by
    obtain rfl : z = x := by simpa using hx
    obtain ⟨h1, h2, h3, h4, h5, h6⟩ := h
    have hy : y.1 = nx l z.2 := by
      cases r with
      | nil => exact h6.1
      | cons _ _ => exact h6.1
    exact ⟨by omega, by omega, by omega, by rw [h1]; exact h5, fun _ => h1, .inl ⟨y, rfl, h3, h4, hy⟩⟩
  | a, z :: y :: r, i + 1, x, h, hx => by
    obtain ⟨h1, h2, h3, h4, h5, h6⟩ := h
    have ih := good_at (i := i) (x := x) h6 (by simpa using hx)
    have hn := nx_le l z.2 h3
    refine ⟨by omega, ih.2.1, ih.2.2.1, ih.2.2.2.1, fun hh => by omega, ?_⟩
    rcases ih.2.2.2.2.2 with ⟨y', hy, h7⟩ | ⟨h7, h8⟩
    · exact .inl ⟨y', by simpa using hy, h7⟩
    · exact .inr ⟨by simp only [List.length_cons] at h7 ⊢; omega, h8⟩

/-- What there is to say about line i. -/
theorem span_at {l : List UInt8} {i : Nat} {x : Nat × Nat} (h : (spans l)[i]? = some x) :
    x.1 ≤ x.2 ∧ x.2 ≤ l.length ∧ noEol l x.1 x.2 ∧ (i = 0 → x.1 = 0) ∧
    ((∃ y, (spans l)[i + 1]? = some y ∧ x.2 < l.length ∧ eol (l.getD x.2 0) = true ∧ y.1 = nx l x.2) ∨ ((spans l).length = i + 1 ∧ x.2 = l.length)) := (good_at (spans_good l) h).2

theorem span_next {l : List UInt8} {i : Nat} {x y : Nat × Nat} (h : (spans l)[i]? = some x) (hy : (spans l)[i + 1]? = some y) : x.2 < l.length ∧ eol (l.getD x.2 0) = true ∧ y.1 = nx l x.2 ∧ x.2 < y.1 ∧ y.1 ≤ x.2 + 2 := by
  rcases (span_at h).2.2.2.2 with ⟨y', h1, h2, h3, h4⟩ | ⟨h1, _⟩
  · rw [hy] at h1
    obtain rfl := Option.some.inj h1
    have hn := nx_le l x.2 h2
    exact ⟨h2, h3, h4, by omega, by omega⟩
  · have := (List.getElem?_eq_some_iff.1 hy).1
    omega

theorem span_rise {l : List UInt8} : ∀ (d i : Nat) (x y : Nat × Nat), (spans l)[i]? = some x → (spans l)[i + d + 1]? = some y → x.2 < y.1
  | 0, i, x, y, hx, hy => (span_next hx hy).2.2.2.1
  | d + 1, i, x, y, hx, hy => by
    have hlt := (List.getElem?_eq_some_iff.1 hy).1
    obtain ⟨z, hz⟩ : ∃ z, (spans l)[i + d + 1]? = some z := ⟨_, List.getElem?_eq_getElem (by omega)⟩
    have h1 := span_rise d i x z hx hz
    have h2 := span_next hz (by rw [show i + d + 1 + 1 = i + (d + 1) + 1 from by omega]; exact hy)
    have h3 := span_at hz
    omega
theorem span_lt {l : List UInt8} {i j : Nat} {x y : Nat × Nat} (h : i < j) (hx : (spans l)[i]? = some x) (hy : (spans l)[j]? = some y) : x.1 < y.1 ∧ x.2 < y.1 := by
  have h1 := span_rise (j - i - 1) i x y hx (by rw [show i + (j - i - 1) + 1 = j from by omega]; exact hy)
  have h2 := span_at hx
  omega

theorem spans_ne (l : List UInt8) : 0 < (spans l).length := spF_pos _ _ _ _

/-- Where line i begins. -/
def startOf (l : List UInt8) (i : Nat) : Nat := ((spans l)[i]?.getD (0, 0)).1
theorem startOf_eq {l : List UInt8} {i : Nat} {x : Nat × Nat} (h : (spans l)[i]? = some x) : startOf l i = x.1 := by unfold startOf; rw [h]; rfl
theorem start_mono {l : List UInt8} (k : Nat) (a b : Nat) (hab : a ≤ b) (hb : b < (spans l).length) (h : k < startOf l a) : k < startOf l b := by
  rcases Nat.lt_or_ge a b with h1 | h1
  · obtain ⟨x, hx⟩ : ∃ x, (spans l)[a]? = some x := ⟨_, List.getElem?_eq_getElem (by omega)⟩
    obtain ⟨y, hy⟩ : ∃ y, (spans l)[b]? = some y := ⟨_, List.getElem?_eq_getElem hb⟩
    rw [startOf_eq hx] at h
    rw [startOf_eq hy]
    have := span_lt h1 hx hy
    omega
  · obtain rfl : a = b := by omega
    exact h

/-- How many of the first numbers do not meet a test that holds from some number on. -/
theorem countP_upto (p : Nat → Bool) : ∀ (N n : Nat), n < N → (∀ i, i ≤ n → p i = false) → (∀ i, n < i → i < N → p i = true) → (List.range N).countP (fun i => !p i) = n + 1
  | 0, n, h, _, _ => by omega
  | N + 1, n, h, h1, h2 => by
    rw [List.range_succ, List.countP_append]
    rcases Nat.lt_or_ge n N with h3 | h3
    · rw [countP_upto p N n h3 h1 (fun i h4 h5 => h2 i h4 (by omega))]
      simp [h2 N h3 (by omega)]
    · obtain rfl : n = N := by omega
      have : (List.range n).countP (fun i => !p i) = n := by
        have e : (List.range n).countP (fun i => !p i) = (List.range n).length := List.countP_eq_length.2 (fun i hi => by
          have := List.mem_range.1 hi
          simp [h1 i (by omega)])
        rw [e, List.length_range]
      rw [this]
      simp [h1 n (Nat.le_refl _)]

theorem line_go {l : List UInt8} (k : Nat) : ∀ m, m < (spans l).length → (∀ i, m < i → i < (spans l).length → k < startOf l i) → ∃ n, n < (spans l).length ∧ startOf l n ≤ k ∧ ∀ i, n < i → i < (spans l).length → k < startOf l i
  | 0, h, hm => by
    obtain ⟨x, hx⟩ : ∃ x, (spans l)[0]? = some x := ⟨_, List.getElem?_eq_getElem h⟩
    refine ⟨0, h, ?_, hm⟩
    rw [startOf_eq hx, (span_at hx).2.2.2.1 rfl]
    omega
  | m + 1, h, hm => by
    by_cases h1 : startOf l (m + 1) ≤ k
    · exact ⟨m + 1, h, h1, hm⟩
    · refine line_go k m (by omega) (fun i h2 h3 => ?_)
      rcases Nat.lt_or_ge (m + 1) i with h4 | h4
      · exact hm i h4 h3
      · obtain rfl : i = m + 1 := by omega
        omega
/-- The line that byte k is in. -/
theorem line_of (l : List UInt8) (k : Nat) : ∃ n x, (spans l)[n]? = some x ∧ x.1 ≤ k ∧ ∀ i, n < i → i < (spans l).length → k < startOf l i := by
  have h0 := spans_ne l
  obtain ⟨n, h1, h2, h3⟩ := line_go (l := l) k ((spans l).length - 1) (by omega) (fun i h4 h5 => by omega)
  obtain ⟨x, hx⟩ : ∃ x, (spans l)[n]? = some x := ⟨_, List.getElem?_eq_getElem h1⟩
  rw [startOf_eq hx] at h2
  exact ⟨n, x, hx, h2, h3⟩
theorem line_uniq {l : List UInt8} {k n m : Nat} (hn : n < (spans l).length) (hm : m < (spans l).length) (h1 : startOf l n ≤ k) (h2 : ∀ i, n < i → i < (spans l).length → k < startOf l i) (h3 : startOf l m ≤ k) (h4 : ∀ i, m < i → i < (spans l).length → k < startOf l i) : n = m := by
  rcases Nat.lt_trichotomy n m with h | h | h
  · have := h2 m h hm; omega
  · exact h
  · have := h4 n h hn; omega
/-- The number of lines that begin at or ahead of byte k. -/
theorem line_count {l : List UInt8} {k n : Nat} (hn : n < (spans l).length) (h1 : startOf l n ≤ k) (h2 : ∀ i, n < i → i < (spans l).length → k < startOf l i) :
    (List.range (spans l).length).countP (fun i => !decide ((k : Int) < (startOf l i : Int))) = n + 1 := by
  refine countP_upto (fun i => decide ((k : Int) < (startOf l i : Int))) _ n hn (fun i hi => ?_) (fun i h3 h4 => ?_)
  · refine decide_eq_false (fun h => ?_)
    have h5 : k < startOf l i := by omega
    have := start_mono k i n hi hn h5
    omega
  · have := h2 i h3 h4
    exact decide_eq_true (by omega)
end Go.Proofs.YtkhbggihgodpkaaDoor
