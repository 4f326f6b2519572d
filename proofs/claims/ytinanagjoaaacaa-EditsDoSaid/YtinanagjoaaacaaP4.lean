/-
  Plain: the difference of two texts.
-/
import Derived.Test.YtinanagjoaaacaaP2
namespace Go.Proofs.Ytinanagjoaaacaa

/-- Does an inner byte stand at a place? -/
def inB (c : UInt8) : Bool := decide (128 ≤ c.toNat) && decide (c.toNat ≤ 191)
def inn (a : List UInt8) (i : Nat) : Bool := decide (i < a.length) && inB (a.getD i 0)
/-- As far as two texts begin alike. -/
structure IsCp (a b : List UInt8) (i : Nat) : Prop where
  la : i ≤ a.length
  lb : i ≤ b.length
  eq : ∀ j, j < i → a.getD j 0 = b.getD j 0
  ne : i < a.length → i < b.length → a.getD i 0 ≠ b.getD i 0
theorem cp_uniq {a b : List UInt8} {i j : Nat} (h : IsCp a b i) (k : IsCp a b j) : i = j := by
  rcases Nat.lt_trichotomy i j with h1 | h1 | h1
  · exact absurd (k.eq i h1) (h.ne (by have := k.la; omega) (by have := k.lb; omega))
  · exact h1
  · exact absurd (h.eq j h1) (k.ne (by have := h.la; omega) (by have := h.lb; omega))
/-- Back over inner bytes. -/
def bkO (a b : List UInt8) : Nat → Nat
  | 0 => 0
  | f + 1 => if (inn a (f + 1) || inn b (f + 1)) = true then bkO a b f else f + 1
theorem bkO_le (a b : List UInt8) : ∀ f, bkO a b f ≤ f
  | 0 => Nat.le_refl _
  | f + 1 => by
    unfold bkO
    split
    · have := bkO_le a b f; omega
    · exact Nat.le_refl _
/-- As far as two texts end alike, not above m. -/
structure IsCs (a b : List UInt8) (m n : Nat) : Prop where
  le : n ≤ m
  eq : ∀ j, j < n → a.getD (a.length - 1 - j) 0 = b.getD (b.length - 1 - j) 0
  ne : n < m → a.getD (a.length - 1 - n) 0 ≠ b.getD (b.length - 1 - n) 0
theorem cs_uniq {a b : List UInt8} {m i j : Nat} (h : IsCs a b m i) (k : IsCs a b m j) : i = j := by
  rcases Nat.lt_trichotomy i j with h1 | h1 | h1
  · exact absurd (k.eq i h1) (h.ne (by have := k.le; omega))
  · exact h1
  · exact absurd (h.eq j h1) (k.ne (by have := h.le; omega))
def bkS (a : List UInt8) : Nat → Nat
  | 0 => 0
  | n + 1 => if inn a (a.length - (n + 1)) = true then bkS a n else n + 1
theorem bkS_le (a : List UInt8) : ∀ n, bkS a n ≤ n
  | 0 => Nat.le_refl _
  | n + 1 => by
    unfold bkS
    split
    · have := bkS_le a n; omega
    · exact Nat.le_refl _
/-- The difference of two unlike texts. -/
def IsDf (a b : ByteArray) (x : Ed) : Prop := ∃ i k f n, IsCp a.data.toList b.data.toList i ∧ f = bkO a.data.toList b.data.toList i ∧ IsCs a.data.toList b.data.toList (min a.size b.size - f) k ∧ n = bkS a.data.toList k ∧
  x = ⟨(f : Int), (a.size : Int) - (n : Int), b.extract f (b.size - n), 0⟩
theorem df_uniq {a b : ByteArray} {x y : Ed} (h : IsDf a b x) (hy : IsDf a b y) : x = y := by
  obtain ⟨i, k, f, n, h1, h2, h3, h4, h5⟩ := h
  obtain ⟨i', k', f', n', g1, g2, g3, g4, g5⟩ := hy
  obtain rfl := cp_uniq h1 g1
  subst h2 g2
  obtain rfl := cs_uniq h3 g3
  subst h4 g4 h5 g5
  rfl
end Go.Proofs.Ytinanagjoaaacaa
