/-
  Plain: what Sort, row and Do answer.
-/
import Derived.Test.YtinanagjoaaacaaW4
namespace Go.Proofs.Ytinanagjoaaacaa
open Go.Sort

def inOrdB : List Ed → Bool
  | x :: y :: r => decide (x.to ≤ y.fr) && inOrdB (y :: r)
  | _ => true
theorem inOrdB_iff : ∀ s : List Ed, inOrdB s = true ↔ InOrd s
  | [] => ⟨fun _ i x y h => by simp at h, fun _ => rfl⟩
  | [z] => ⟨fun _ i x y _ h => by simp at h, fun _ => rfl⟩
  | z :: y :: r => by
    have ih := inOrdB_iff (y :: r)
    unfold inOrdB
    rw [Bool.and_eq_true, decide_eq_true_eq, ih]
    constructor
    · rintro ⟨h1, h2⟩ i a b ha hb
      cases i with
      | zero =>
        obtain rfl : z = a := by simpa using ha
        obtain rfl : y = b := by simpa using hb
        exact h1
      | succ i => exact h2 i a b (by simpa using ha) (by simpa using hb)
    · intro h
      exact ⟨h 0 z y rfl rfl, fun i a b ha hb => h (i + 1) a b (by simpa using ha) (by simpa using hb)⟩
def sortE (l : List Ed) : Int := if l.any badE = true then 1 else if inOrdB (srt l) = true then 0 else 63
def sortS (l : List Ed) : List Ed := if sortE l = 0 then srt l else []
theorem sortE_ok {l : List Ed} (h : sortE l = 0) : l.any badE = false ∧ InOrd (srt l) := by
  unfold sortE at h
  by_cases h1 : l.any badE = true
  · rw [if_pos h1] at h; omega
  · rw [if_neg h1] at h
    by_cases h2 : inOrdB (srt l) = true
    · exact ⟨by simpa using h1, (inOrdB_iff _).1 h2⟩
    · rw [if_neg h2] at h; omega
theorem any_tag (l : List Ed) : (tagL l).any badE = l.any badE := by
  have : ∀ (n : Nat) (l : List Ed), (tagF n l).any badE = l.any badE := by
    intro n l
    induction l generalizing n with
    | nil => rfl
    | cons x r ih => simp only [tagF, List.any_cons, ih]; rfl
  exact this 0 l
theorem any_srt (l : List Ed) (p : Ed → Bool) : (srt l).any p = (tagL l).any p := by
  rw [Bool.eq_iff_iff, List.any_eq_true, List.any_eq_true]
  constructor
  · rintro ⟨x, h1, h2⟩; exact ⟨x, (srt_perm l).mem_iff.1 h1, h2⟩
  · rintro ⟨x, h1, h2⟩; exact ⟨x, (srt_perm l).mem_iff.2 h1, h2⟩
/-- Edits of which each begins at a byte, ends no earlier, and begins no earlier than the one before ends. -/
def Fit (s : List Ed) : Prop := (∀ x, x ∈ s → 0 ≤ x.fr ∧ x.fr ≤ x.to) ∧ InOrd s
theorem srt_fit {l : List Ed} (h : sortE l = 0) : Fit (srt l) := by
  obtain ⟨h1, h2⟩ := sortE_ok h
  refine ⟨fun x hx => ?_, h2⟩
  have h3 : (srt l).any badE = false := by rw [any_srt, any_tag]; exact h1
  rw [List.any_eq_false] at h3
  have := h3 x hx
  unfold badE at this
  simp at this
  omega
theorem Fit.tail {x : Ed} {s : List Ed} (h : Fit (x :: s)) : Fit s :=
  ⟨fun y hy => h.1 y (by simp [hy]), fun i a b ha hb => h.2 (i + 1) a b (by simpa using ha) (by simpa using hb)⟩
/-- Ends rise. -/
theorem fit_rise {s : List Ed} (h : Fit s) : ∀ (d i : Nat) (x y : Ed), s[i]? = some x → s[i + d + 1]? = some y → x.to ≤ y.fr
  | 0, i, x, y, hx, hy => h.2 i x y hx hy
  | d + 1, i, x, y, hx, hy => by
    have hlt := (List.getElem?_eq_some_iff.1 hy).1
    obtain ⟨z, hz⟩ : ∃ z, s[i + d + 1]? = some z := ⟨_, List.getElem?_eq_getElem (by omega)⟩
    have h1 := fit_rise h d i x z hx hz
    have h2 := h.2 (i + d + 1) z y hz (by rw [show i + d + 1 + 1 = i + (d + 1) + 1 from by omega]; exact hy)
    have h3 := h.1 z (List.mem_of_getElem? hz)
    omega
theorem fit_last {s : List Ed} (h : Fit s) {n : Nat} {y : Ed} (hn : s.length = n + 1) (hy : s[n]? = some y) (b : Int) : s.any (fun x => decide (b < x.to)) = decide (b < y.to) := by
  by_cases hb : b < y.to
  · rw [decide_eq_true hb, List.any_eq_true]
    exact ⟨y, List.mem_of_getElem? hy, decide_eq_true hb⟩
  · rw [decide_eq_false hb, List.any_eq_false]
    intro x hx
    obtain ⟨i, hi⟩ := List.getElem?_of_mem hx
    have hil := (List.getElem?_eq_some_iff.1 hi).1
    have hxy : x.to ≤ y.to := by
      rcases Nat.lt_or_ge i n with h1 | h1
      · have h2 := fit_rise h (n - i - 1) i x y hi (by rw [show i + (n - i - 1) + 1 = n from by omega]; exact hy)
        have h3 := h.1 y (List.mem_of_getElem? hy)
        omega
      · obtain rfl : i = n := by omega
        obtain rfl := Option.some.inj (hi.symm.trans hy)
        omega
    simp; omega
def rowE (n : Nat) (l : List Ed) : Int := if sortE l ≠ 0 then sortE l else if (srt l).any (fun x => decide ((n : Int) < x.to)) = true then 1 else 0
def rowS (n : Nat) (l : List Ed) : List Ed := if rowE n l = 0 then srt l else []
theorem rowE_ok {n : Nat} {l : List Ed} (h : rowE n l = 0) : sortE l = 0 ∧ ∀ x, x ∈ srt l → x.to ≤ (n : Int) := by
  unfold rowE at h
  by_cases h1 : sortE l = 0
  · rw [if_neg (by simpa using h1)] at h
    refine ⟨h1, fun x hx => ?_⟩
    by_cases h2 : (srt l).any (fun x => decide ((n : Int) < x.to)) = true
    · rw [if_pos h2] at h; omega
    · have h3 : (srt l).any (fun x => decide ((n : Int) < x.to)) = false := by simpa using h2
      rw [List.any_eq_false] at h3
      have := h3 x hx
      simp at this
      omega
  · rw [if_pos (by simpa using h1)] at h
    exact absurd h h1

/-- The text behind sorted edits, from a byte on. -/
def doL (t : List UInt8) : Nat → List Ed → List UInt8
  | at', [] => t.drop at'
  | at', x :: r => (t.drop at').take (x.fr.toNat - at') ++ x.tx.data.toList ++ doL t x.to.toNat r
def txS (s : List Ed) : Nat := (s.map fun x => x.tx.size).sum
theorem txS_cons (x : Ed) (s : List Ed) : txS (x :: s) = x.tx.size + txS s := by simp [txS]
theorem doL_length (t : List UInt8) : ∀ (s : List Ed) (at' : Nat), (doL t at' s).length ≤ (s.length + 1) * t.length + txS s
  | [], at' => by
    have : (t.drop at').length ≤ t.length := by rw [List.length_drop]; omega
    simp only [doL, List.length_nil, Nat.zero_add, Nat.one_mul]
    omega
  | x :: s, at' => by
    have ih := doL_length t s x.to.toNat
    have h1 : ((t.drop at').take (x.fr.toNat - at')).length ≤ t.length := by rw [List.length_take, List.length_drop]; omega
    have h2 := Lib.size_eq x.tx
    simp only [doL, List.length_append, txS_cons, List.length_cons]
    have h3 : (s.length + 1 + 1) * t.length = (s.length + 1) * t.length + t.length := by rw [Nat.add_mul (s.length + 1), Nat.one_mul]
    omega
theorem txS_perm {a b : List Ed} (h : a.Perm b) : txS a = txS b := (h.map _).sum_nat
theorem txS_tag (l : List Ed) : txS (tagL l) = txS l := by
  have : ∀ (n : Nat) (l : List Ed), txS (tagF n l) = txS l := by
    intro n l
    induction l generalizing n with
    | nil => rfl
    | cons x r ih => simp only [tagF, txS_cons, ih]
  exact this 0 l
theorem txS_srt (l : List Ed) : txS (srt l) = txS l := (txS_perm (srt_perm l)).trans (txS_tag l)
end Go.Proofs.Ytinanagjoaaacaa
