/-
  Plain: the next character of a line; what Span and Range answer.
-/
import Derived.Test.YtkhbggihgodpkaaDoorP10
namespace Go.Proofs.YtkhbggihgodpkaaDoor
open Go.Lib

theorem offA_or (m : List UInt8) (c : Int) : (offA m c).2 = 0 ∨ offA m c = (0, 60) := by
  have hb : ∀ (n : Nat) (xs : List (Nat × Bool)) (r : Int × Int), bScan c n xs = some r → r.2 = 0 ∨ r = (0, 60) := by
    intro n xs
    induction xs generalizing n with
    | nil => intro r h; simp [bScan] at h
    | cons x xs ih =>
      intro r h
      simp only [bScan] at h
      split at h
      · exact .inl (by rw [← Option.some.inj h])
      · split at h
        · exact .inr (Option.some.inj h).symm
        · exact ih _ _ h
  unfold offA
  cases hs : bScan c 0 (chs m) with
  | some r => exact hb _ _ _ hs
  | none =>
    dsimp only
    split
    · exact .inl rfl
    · exact .inr rfl
theorem offsetV_or (l : List UInt8) (p1 p2 : Int) : (offsetV l p1 p2).2 = 0 ∨ offsetV l p1 p2 = (0, 60) := by
  unfold offsetV
  split
  · exact .inr rfl
  · rcases offA_or (slice l (startOf l p1.toNat) ((spans l)[p1.toNat]?.getD (0, 0)).2) p2 with h | h
    · exact .inl h
    · rw [h]
      exact .inr rfl

/-- The character at a place within a line. -/
theorem off_next {l : List UInt8} (hv : validD l = true) {n i : Nat} {x : Nat × Nat} (h : Place l n x i) (hi : i < x.2) :
    szL (l.drop i) = (rn (l.drop i)).2 ∧ 1 ≤ (rn (l.drop i)).2 ∧ Place l n x (i + (rn (l.drop i)).2) ∧
    len16 (slice l x.1 (i + (rn (l.drop i)).2)) = len16 (slice l x.1 i) + uB (two (rn (l.drop i)).1) ∧
    (∀ k, validD (l.take k) = true → k ≤ l.length → i < k → i + (rn (l.drop i)).2 ≤ k) := by
  obtain ⟨a1, a2, _⟩ := span_at h.line
  have lo := h.lo
  have hil : i < l.length := by omega
  have hd := drop_valid hv h.bd
  have hne : l.drop i ≠ [] := drop_ne hil
  have hst := validD_step hne
  obtain ⟨w1, w2⟩ := rn_width _ hne
  rw [List.length_drop] at w2
  by_cases hp : (rn (l.drop i)).1 < 0
  · rw [hd, if_pos hp] at hst
    exact absurd hst (by simp)
  have hsz := szL_rn hne
  rw [if_neg hp] at hsz
  have hbt := (rn_bytes hne (by omega)).1
  obtain ⟨ht, hok⟩ := rn_take hne (show 0 ≤ (rn (l.drop i)).1 by omega)
  have hpn : putL (rn (l.drop i)).1 ≠ [] := List.length_pos_iff.1 (by rw [ht, List.length_take, List.length_drop]; omega)
  have hlast : ∀ k, validD (l.take k) = true → k ≤ l.length → i < k → i + (rn (l.drop i)).2 ≤ k := by
    intro k hk hkl hik
    refine Decidable.byContradiction fun hx => ?_
    have h1 := hbt (k - i) (by omega) (by omega)
    rw [getD_drop, show i + (k - i) = k from by omega] at h1
    exact (starts_iff l k).1 (starts_of hv hk) (by omega) h1
  have hbd : validD (l.take (i + (rn (l.drop i)).2)) = true := by
    rw [take_split l i _ (by omega), show i + (rn (l.drop i)).2 - i = (rn (l.drop i)).2 from by omega, validD_append _ _ _ (Nat.le_refl _) h.bd, ← ht]
    exact put_valid hpn
  refine ⟨hsz, w1, ⟨h.line, by omega, hlast x.2 (span_bd2 hv h.line) a2 hi, hbd⟩, ?_, hlast⟩
  have e : slice l x.1 (i + (rn (l.drop i)).2) = slice l x.1 i ++ putL (rn (l.drop i)).1 := by
    rw [ht]
    unfold slice
    rw [show i + (rn (l.drop i)).2 - x.1 = (i - x.1) + (rn (l.drop i)).2 from by omega, List.take_add, List.drop_drop, show x.1 + (i - x.1) = i from by omega]
  rw [e, len16_append _ _ _ (Nat.le_refl _) (slice_valid lo (span_bd1 hv h.line) h.bd), put_len16 hpn]
theorem place_start {l : List UInt8} (hv : validD l = true) {n : Nat} {x : Nat × Nat} (hx : (spans l)[n]? = some x) : Place l n x x.1 :=
  ⟨hx, Nat.le_refl _, (span_at hx).1, span_bd1 hv hx⟩
theorem slice_nil (l : List UInt8) (a : Nat) : slice l a a = [] := by unfold slice; rw [Nat.sub_self, List.take_zero]

/-- Has the search for a position come to byte i, and not past it? -/
def Upto (l : List UInt8) (n : Nat) (c : Int) (i : Nat) : Prop := ∀ z : Nat, offsetV l (n : Int) c = ((z : Int), 0) → i ≤ z
theorem upto_start {l : List UInt8} (hv : validD l = true) {n : Nat} {x : Nat × Nat} (hx : (spans l)[n]? = some x) (c : Int) : Upto l n c x.1 := by
  intro z hz
  obtain ⟨m, y, k, hp, hm, _, hk⟩ := offPlace hv hz
  obtain rfl : n = m := by omega
  obtain rfl : x = y := Option.some.inj (hx.symm.trans hp.line)
  have := hp.lo
  omega
theorem upto_next {l : List UInt8} (hv : validD l = true) {n i : Nat} {x : Nat × Nat} (h : Place l n x i) (hi : i < x.2) {c : Int} (hu : Upto l n c i) (hc : (len16 (slice l x.1 i) : Int) ≠ c) : Upto l n c (i + (rn (l.drop i)).2) := by
  intro z hz
  have h1 := hu z hz
  obtain ⟨m, y, k, hp, hm, h2, hk⟩ := offPlace hv hz
  obtain rfl : n = m := by omega
  obtain rfl : x = y := Option.some.inj (h.line.symm.trans hp.line)
  obtain rfl : z = k := by omega
  have hne : i ≠ z := fun he => hc (by rw [he]; exact h2.symm)
  exact (off_next hv h hi).2.2.2.2 z hp.bd (by have := hp.hi; have := (span_at h.line).2.1; omega) (by omega)
theorem upto_end {l : List UInt8} (hv : validD l = true) {n i : Nat} {x : Nat × Nat} (h : Place l n x i) (hi : x.2 ≤ i) {c : Int} (hu : Upto l n c i) (hc : (len16 (slice l x.1 i) : Int) ≠ c) : offsetV l (n : Int) c = (0, 60) := by
  rcases offsetV_or l n c with h0 | h0
  · exfalso
    obtain ⟨⟨z, e⟩, ho⟩ : ∃ o, offsetV l (n : Int) c = o := ⟨_, rfl⟩
    rw [ho] at h0
    dsimp only at h0
    subst h0
    obtain ⟨m, y, k, hp, hm, h2, hk⟩ := offPlace hv ho
    obtain rfl : n = m := by omega
    obtain rfl : x = y := Option.some.inj (h.line.symm.trans hp.line)
    subst hk
    have h1 := hu k ho
    have h3 := hp.hi
    have h4 := h.hi
    obtain rfl : i = k := by omega
    exact hc h2.symm
  · exact h0

/-- The line that byte k is in, by the search from the first line on. -/
theorem lineNo_stop {l : List UInt8} {k n : Nat} (hn : n < (spans l).length) (h1 : startOf l n ≤ k) (h2 : n + 1 = (spans l).length ∨ k < startOf l (n + 1)) : lineNo l k = n := by
  obtain ⟨x, hx⟩ : ∃ x, (spans l)[n]? = some x := ⟨_, List.getElem?_eq_getElem hn⟩
  rw [startOf_eq hx] at h1
  refine lineNo_eq hx h1 fun i h3 h4 => ?_
  rcases h2 with h2 | h2
  · omega
  · exact start_mono k (n + 1) i h3 h4 h2

def spanV (l : List UInt8) (p1 p2 q1 q2 : Int) : (Int × Int) × Int :=
  if (offsetV l p1 p2).2 ≠ 0 then ((0, 0), (offsetV l p1 p2).2) else if (offsetV l q1 q2).2 ≠ 0 then ((0, 0), (offsetV l q1 q2).2) else
    if (offsetV l q1 q2).1 < (offsetV l p1 p2).1 then ((0, 0), 60) else (((offsetV l p1 p2).1, (offsetV l q1 q2).1), 0)
def rangeV (l : List UInt8) (a b : Int) : ((Int × Int) × (Int × Int)) × Int :=
  if b < a then (((0, 0), (0, 0)), 1) else if (posV l a).2 ≠ 0 then (((0, 0), (0, 0)), (posV l a).2) else if (posV l b).2 ≠ 0 then (((0, 0), (0, 0)), (posV l b).2) else (((posV l a).1, (posV l b).1), 0)
end Go.Proofs.YtkhbggihgodpkaaDoor
