/-
  Plain: where characters begin; a position's byte and a byte's position tell each other, in the same order.
-/
import Derived.Test.YtkhbggihgodpkaaDoorP7
import Derived.Test.YtkhbggihgodpkaaDoorP9
namespace Go.Proofs.YtkhbggihgodpkaaDoor
open Go.Lib

theorem rs_byte (c : UInt8) : runeStart (c.toNat : Int) = true ↔ ¬ (128 ≤ c.toNat ∧ c.toNat ≤ 191) := by
  have := c.toNat_lt
  unfold runeStart
  simp only [bne_iff_ne, ne_eq]
  omega
theorem starts_iff (l : List UInt8) (k : Nat) : startsAt l k = true ↔ (k < l.length → ¬ (128 ≤ (l.getD k 0).toNat ∧ (l.getD k 0).toNat ≤ 191)) := by
  unfold startsAt
  split
  · rename_i h
    rw [rs_byte]
    exact ⟨fun h1 _ => h1, fun h1 => h1 h⟩
  · rename_i h
    exact ⟨fun _ h1 => absurd h1 h, fun _ => rfl⟩
theorem getD_drop (l : List UInt8) (w j : Nat) : (l.drop w).getD j 0 = l.getD (w + j) 0 := by
  rw [List.getD_eq_getElem?_getD, List.getD_eq_getElem?_getD, List.getElem?_drop]
theorem take_split (l : List UInt8) (w k : Nat) (h : w ≤ k) : l.take k = l.take w ++ (l.drop w).take (k - w) := by
  rw [← List.take_add, show w + (k - w) = k from by omega]

/-- What is ahead of a character's beginning is valid. -/
theorem take_valid : ∀ (n : Nat) (l : List UInt8) (k : Nat), l.length ≤ n → validD l = true → k ≤ l.length → startsAt l k = true → validD (l.take k) = true
  | 0, l, k, hn, _, hk, _ => by
    obtain rfl : k = 0 := by omega
    rw [List.take_zero]; rfl
  | n + 1, l, k, hn, hv, hk, hs => by
    by_cases h0 : k = 0
    · subst h0
      rw [List.take_zero]; rfl
    · have hl : 0 < l.length := by omega
      have hne : l ≠ [] := List.length_pos_iff.1 hl
      have hst := validD_step hne
      obtain ⟨w1, w2⟩ := rn_width l hne
      by_cases hp : (rn l).1 < 0
      · rw [hv, if_pos hp] at hst
        exact absurd hst (by simp)
      rw [hv, if_neg hp] at hst
      have hb := (rn_bytes hne (by omega)).1
      have hs' := (starts_iff l k).1 hs
      have hkw : (rn l).2 ≤ k := by
        refine Decidable.byContradiction fun hx => ?_
        exact hs' (by omega) (hb k (by omega) (by omega))
      obtain ⟨ht, hok⟩ := rn_take hne (show 0 ≤ (rn l).1 by omega)
      have e := take_split l (rn l).2 k hkw
      have hrn : rn (l.take k) = rn l := by
        rw [e, ← ht, rn_put _ hok, ht, length_take_le' l _ w2]
      have hnt : l.take k ≠ [] := List.length_pos_iff.1 (by rw [List.length_take]; omega)
      rw [validD_step hnt, hrn, if_neg hp, List.drop_take]
      refine take_valid n _ _ (by rw [List.length_drop]; omega) hst.symm (by rw [List.length_drop]; omega) ((starts_iff _ _).2 fun h1 => ?_)
      rw [List.length_drop] at h1
      rw [getD_drop, show (rn l).2 + (k - (rn l).2) = k from by omega]
      exact hs' (by omega)
theorem drop_valid {l : List UInt8} {k : Nat} (hv : validD l = true) (hb : validD (l.take k) = true) : validD (l.drop k) = true := by
  have := validD_append _ (l.take k) (l.drop k) (Nat.le_refl _) hb
  rw [List.take_append_drop] at this
  rw [← this]; exact hv
theorem starts_of {l : List UInt8} {k : Nat} (hv : validD l = true) (hb : validD (l.take k) = true) : startsAt l k = true := by
  refine (starts_iff l k).2 fun h => ?_
  have hd := drop_valid hv hb
  have hne : l.drop k ≠ [] := drop_ne h
  have hst := validD_step hne
  by_cases hp : (rn (l.drop k)).1 < 0
  · rw [hd, if_pos hp] at hst
    exact absurd hst (by simp)
  have := (rn_bytes hne (by omega)).2
  rw [getD_drop, Nat.add_zero] at this
  omega
theorem slice_valid {l : List UInt8} {a b : Nat} (hab : a ≤ b) (ha : validD (l.take a) = true) (hb : validD (l.take b) = true) : validD (slice l a b) = true := by
  have h := validD_append _ (l.take a) (slice l a b) (Nat.le_refl _) ha
  unfold slice at h ⊢
  rw [← take_split l a b hab] at h
  rw [← h]; exact hb
theorem take_snoc' (l : List UInt8) (k : Nat) (h : k < l.length) : l.take (k + 1) = l.take k ++ [l.getD k 0] := by
  rw [List.take_succ_eq_append_getElem h, List.getD_eq_getElem?_getD, List.getElem?_eq_getElem h]; rfl
theorem eol_or {c : UInt8} (h : eol c = true) : c = 10 ∨ c = 13 := by simpa [eol] using h
theorem eol_valid {c : UInt8} (h : eol c = true) : validD [c] = true := by
  rcases eol_or h with rfl | rfl <;> kernel_rfl
theorem eol_starts {l : List UInt8} {k : Nat} (h : eol (l.getD k 0) = true) : startsAt l k = true := by
  refine (starts_iff l k).2 fun _ => ?_
  rcases eol_or h with h | h <;> rw [h] <;> decide
theorem end_starts (l : List UInt8) : startsAt l l.length = true := (starts_iff l _).2 fun h => absurd h (Nat.lt_irrefl _)

/-- A line begins and ends where a character begins. -/
theorem span_bd2 {l : List UInt8} (hv : validD l = true) {i : Nat} {x : Nat × Nat} (hx : (spans l)[i]? = some x) : validD (l.take x.2) = true := by
  obtain ⟨h1, h2, _, _, h3⟩ := span_at hx
  refine take_valid _ l _ (Nat.le_refl _) hv h2 ?_
  rcases h3 with ⟨y, _, _, h4, _⟩ | ⟨_, h4⟩
  · exact eol_starts h4
  · rw [h4]; exact end_starts l
theorem span_bd1 {l : List UInt8} (hv : validD l = true) {i : Nat} {x : Nat × Nat} (hx : (spans l)[i]? = some x) : validD (l.take x.1) = true := by
  cases i with
  | zero => rw [(span_at hx).2.2.2.1 rfl, List.take_zero]; rfl
  | succ j =>
    have hlt := (List.getElem?_eq_some_iff.1 hx).1
    obtain ⟨y, hy⟩ : ∃ y, (spans l)[j]? = some y := ⟨_, List.getElem?_eq_getElem (by omega)⟩
    obtain ⟨h1, h2, h3, _, _⟩ := span_next hy hx
    have hy2 := span_bd2 hv hy
    have hone : validD (l.take (y.2 + 1)) = true := by
      rw [take_snoc' l y.2 h1, validD_append _ _ _ (Nat.le_refl _) hy2]
      exact eol_valid h2
    rw [h3]
    unfold nx
    split
    · rename_i h4
      rw [take_snoc' l (y.2 + 1) h4.2.1, validD_append _ _ _ (Nat.le_refl _) hone]
      exact eol_valid (by rw [h4.2.2]; rfl)
    · exact hone

theorem chsF_cut : ∀ (f i : Nat) (l : List UInt8) (pre : List (Nat × Bool)) (x : Nat × Bool) (post : List (Nat × Bool)), validD l = true → chsF f i l = pre ++ x :: post →
    i ≤ x.1 ∧ x.1 - i < l.length ∧ validD (l.take (x.1 - i)) = true ∧ len16 (l.take (x.1 - i)) = sumU pre
  | 0, i, l, pre, x, post, _, h => by
    have := congrArg List.length h
    simp [chsF] at this
  | f + 1, i, l, pre, x, post, hv, h => by
    unfold chsF at h
    split at h
    · have := congrArg List.length h
      simp at this
    · rename_i hne
      have hl : 0 < l.length := List.length_pos_iff.2 hne
      obtain ⟨w1, w2⟩ := rn_width l hne
      have hst := validD_step hne
      by_cases hp : (rn l).1 < 0
      · rw [hv, if_pos hp] at hst
        exact absurd hst (by simp)
      rw [hv, if_neg hp] at hst
      obtain ⟨ht, hok⟩ := rn_take hne (show 0 ≤ (rn l).1 by omega)
      have hpn : putL (rn l).1 ≠ [] := List.length_pos_iff.1 (by rw [ht, List.length_take]; omega)
      cases pre with
      | nil =>
        obtain ⟨h1, _⟩ := List.cons.inj h
        rw [← h1]
        dsimp only
        rw [Nat.sub_self, List.take_zero]
        exact ⟨Nat.le_refl _, hl, rfl, rfl⟩
      | cons z pre =>
        rw [List.cons_append] at h
        obtain ⟨h1, h2⟩ := List.cons.inj h
        obtain ⟨g1, g2, g3, g4⟩ := chsF_cut f _ _ pre x post hst.symm h2
        rw [List.length_drop] at g2
        have e := take_split l (rn l).2 (x.1 - i) (by omega)
        rw [show x.1 - i - (rn l).2 = x.1 - (i + (rn l).2) from by omega, ← ht] at e
        refine ⟨by omega, by omega, ?_, ?_⟩
        · rw [e, validD_append _ _ _ (Nat.le_refl _) (put_valid hpn)]
          exact g3
        · rw [e, len16_append _ _ _ (Nat.le_refl _) (put_valid hpn), g4, put_len16 hpn, sumU_cons, ← h1]

theorem off_spec {m : List UInt8} (hv : validD m = true) {c d : Int} (h : offA m c = (d, 0)) : ∃ k : Nat, d = (k : Int) ∧ k ≤ m.length ∧ validD (m.take k) = true ∧ (len16 (m.take k) : Int) = c := by
  unfold offA at h
  cases hs : bScan c 0 (chs m) with
  | some r =>
    rw [hs] at h
    simp only at h
    subst h
    obtain ⟨pre, x, post, e1, e2, e3⟩ := bScan_some _ _ _ hs
    obtain ⟨g1, g2, g3, g4⟩ := chsF_cut m.length 0 m pre x post hv e1
    rw [Nat.sub_zero] at g2 g3 g4
    exact ⟨x.1, e2.symm, by omega, g3, by rw [g4, e3, Nat.zero_add]⟩
  | none =>
    rw [hs] at h
    simp only at h
    by_cases h1 : (len16 m : Int) = c
    · rw [if_pos h1] at h
      exact ⟨m.length, (Prod.mk.inj h).1.symm, Nat.le_refl _, by rw [List.take_length]; exact hv, by rw [List.take_length]; exact h1⟩
    · rw [if_neg h1] at h
      simp at h
theorem off_of {m : List UInt8} {k : Nat} (hk : k ≤ m.length) (hb : validD (m.take k) = true) : offA m (len16 (m.take k) : Int) = ((k : Int), 0) := by
  have hc : chs m = chs (m.take k) ++ chsF (m.drop k).length k (m.drop k) := by
    have := chs_append _ 0 (m.take k) (m.drop k) (Nat.le_refl _) hb
    rw [Nat.zero_add, List.take_append_drop, length_take_le' m k hk] at this
    rw [show chs (m.take k) = chsF k 0 (m.take k) from by unfold chs; rw [length_take_le' m k hk]]
    exact this
  by_cases hkl : k < m.length
  · obtain ⟨j, hj⟩ : ∃ j, (m.drop k).length = j + 1 := ⟨(m.drop k).length - 1, by rw [List.length_drop]; omega⟩
    rw [hj] at hc
    simp only [chsF, if_neg (drop_ne hkl)] at hc
    have hb := bScan_pre (k, two (rn (m.drop k)).1) (chsF j (k + (rn (m.drop k)).2) ((m.drop k).drop (rn (m.drop k)).2)) 0 (chs (m.take k))
    rw [Nat.zero_add, ← hc] at hb
    unfold offA
    rw [show (len16 (m.take k) : Int) = ((sumU (chs (m.take k)) : Nat) : Int) from rfl, hb]
  · obtain rfl : k = m.length := by omega
    have hn := bScan_total 0 (chs m)
    rw [Nat.zero_add] at hn
    unfold offA
    rw [List.take_length, show (len16 m : Int) = ((sumU (chs m) : Nat) : Int) from rfl, hn]
    dsimp only
    rw [if_pos rfl]

/-- Byte k, where a character begins or the line ends, in line n. -/
structure Place (l : List UInt8) (n : Nat) (x : Nat × Nat) (k : Nat) : Prop where
  line : (spans l)[n]? = some x
  lo : x.1 ≤ k
  hi : k ≤ x.2
  bd : validD (l.take k) = true
theorem slice_take (l : List UInt8) (a k b : Nat) (h2 : k ≤ b) : (slice l a b).take (k - a) = slice l a k := by
  unfold slice
  rw [List.take_take, Nat.min_eq_left (by omega)]

theorem offPlace {l : List UInt8} (hv : validD l = true) {p1 p2 i : Int} (h : offsetV l p1 p2 = (i, 0)) :
    ∃ (n : Nat) (x : Nat × Nat) (k : Nat), Place l n x k ∧ p1 = (n : Int) ∧ p2 = (len16 (slice l x.1 k) : Int) ∧ i = (k : Int) := by
  unfold offsetV at h
  by_cases hn : p1 < 0 ∨ ((spans l).length : Int) ≤ p1 ∨ p2 < 0
  · rw [if_pos hn] at h
    simp at h
  · rw [if_neg hn] at h
    obtain ⟨n, rfl⟩ : ∃ n : Nat, p1 = (n : Int) := ⟨p1.toNat, by omega⟩
    obtain ⟨x, hx⟩ : ∃ x, (spans l)[n]? = some x := ⟨_, List.getElem?_eq_getElem (by omega)⟩
    rw [Int.toNat_natCast, startOf_eq hx, hx, Option.getD_some] at h
    obtain ⟨a1, a2, _⟩ := span_at hx
    have hsv := slice_valid a1 (span_bd1 hv hx) (span_bd2 hv hx)
    obtain ⟨⟨d, z⟩, ho⟩ : ∃ o, offA (slice l x.1 x.2) p2 = o := ⟨_, rfl⟩
    rw [ho] at h
    obtain ⟨e1, e2⟩ := Prod.mk.inj h
    dsimp only at e1 e2
    subst e2
    rw [if_pos rfl] at e1
    obtain ⟨k, rfl, hk, hb, hu⟩ := off_spec hsv ho
    rw [slice_length l _ _ a2] at hk
    have et := slice_take l x.1 (x.1 + k) x.2 (by omega)
    rw [show x.1 + k - x.1 = k from by omega] at et
    rw [et] at hb hu
    refine ⟨n, x, x.1 + k, ⟨hx, by omega, by omega, ?_⟩, rfl, hu.symm, by omega⟩
    have h5 := validD_append _ (l.take x.1) (slice l x.1 (x.1 + k)) (Nat.le_refl _) (span_bd1 hv hx)
    unfold slice at h5 hb
    rw [← take_split l x.1 (x.1 + k) (by omega), hb] at h5
    exact h5
theorem placeOff {l : List UInt8} (hv : validD l = true) {n k : Nat} {x : Nat × Nat} (h : Place l n x k) : offsetV l (n : Int) (len16 (slice l x.1 k) : Int) = ((k : Int), 0) := by
  have hx := h.line
  have hlt := (List.getElem?_eq_some_iff.1 hx).1
  obtain ⟨a1, a2, _⟩ := span_at hx
  have lo := h.lo
  have hi := h.hi
  unfold offsetV
  rw [if_neg (by omega), Int.toNat_natCast, startOf_eq hx, hx, Option.getD_some]
  have et := slice_take l x.1 k x.2 h.hi
  have ho := off_of (m := slice l x.1 x.2) (k := k - x.1) (by rw [slice_length l _ _ a2]; omega) (by rw [et]; exact slice_valid h.lo (span_bd1 hv hx) h.bd)
  rw [et] at ho
  rw [ho]
  dsimp only
  rw [if_pos rfl]
  exact Prod.ext (by dsimp only; omega) rfl
theorem placePos {l : List UInt8} (hv : validD l = true) {n k : Nat} {x : Nat × Nat} (h : Place l n x k) : posV l (k : Int) = (((n : Int), (len16 (slice l x.1 k) : Int)), 0) := by
  have hx := h.line
  obtain ⟨a1, a2, _⟩ := span_at hx
  have lo := h.lo
  have hi := h.hi
  have hl := lineNo_eq (k := k) hx h.lo (fun i h1 h2 => by
    obtain ⟨y, hy⟩ : ∃ y, (spans l)[i]? = some y := ⟨_, List.getElem?_eq_getElem h2⟩
    rw [startOf_eq hy]
    have := (span_lt h1 hx hy).2
    omega)
  unfold posV
  rw [Int.toNat_natCast, if_neg (by rw [starts_of hv h.bd]; simp; omega), hl, startOf_eq hx, hx, Option.getD_some, Nat.min_eq_left hi]
theorem posPlace {l : List UInt8} (hv : validD l = true) {at' q1 q2 : Int} (h : posV l at' = ((q1, q2), 0)) :
    ∃ (n : Nat) (x : Nat × Nat) (k j : Nat), Place l n x k ∧ q1 = (n : Int) ∧ q2 = (len16 (slice l x.1 k) : Int) ∧ at' = (j : Int) ∧ j ≤ l.length ∧
      ((k = j ∧ ¬ (0 < j ∧ j < l.length ∧ l.getD (j - 1) 0 = 13 ∧ l.getD j 0 = 10)) ∨ (k + 1 = j ∧ j < l.length ∧ l.getD (j - 1) 0 = 13 ∧ l.getD j 0 = 10)) := by
  unfold posV at h
  by_cases hn : at' < 0 ∨ (l.length : Int) < at' ∨ startsAt l at'.toNat = false
  · rw [if_pos hn] at h
    simp at h
  · rw [if_neg hn] at h
    obtain ⟨j, rfl⟩ : ∃ j : Nat, at' = (j : Int) := ⟨at'.toNat, by omega⟩
    rw [Int.toNat_natCast] at h hn
    have hst : startsAt l j = true := by
      cases hc : startsAt l j with
      | true => rfl
      | false => exact absurd (.inr (.inr hc)) hn
    obtain ⟨x, hx, h1, h2, _⟩ := lineNo_spec l j
    rw [startOf_eq hx, hx, Option.getD_some] at h
    obtain ⟨e1, _⟩ := Prod.mk.inj h
    obtain ⟨e2, e3⟩ := Prod.mk.inj e1
    obtain ⟨a1, a2, a3, a4, a5⟩ := span_at hx
    have hjl : j ≤ l.length := by omega
    by_cases hj : j ≤ x.2
    · rw [Nat.min_eq_left hj] at e3
      refine ⟨lineNo l j, x, j, j, ⟨hx, h1, hj, take_valid _ l j (Nat.le_refl _) hv hjl hst⟩, e2.symm, e3.symm, rfl, hjl, .inl ⟨rfl, ?_⟩⟩
      rintro ⟨b1, b2, b3, b4⟩
      by_cases hjx : x.1 = j
      · cases hl : lineNo l j with
        | zero =>
          rw [hl] at a4
          have := a4 rfl
          omega
        | succ i =>
          rw [hl] at hx
          have hlt := (List.getElem?_eq_some_iff.1 hx).1
          obtain ⟨y, hy⟩ : ∃ y, (spans l)[i]? = some y := ⟨_, List.getElem?_eq_getElem (by omega)⟩
          obtain ⟨c1, c2, c3, _, _⟩ := span_next hy hx
          unfold nx at c3
          split at c3
          · rename_i h4
            rw [show j - 1 = y.2 + 1 from by omega, h4.2.2] at b3
            exact absurd b3 (by decide)
          · rename_i h4
            have : y.2 = j - 1 := by omega
            rw [this, show j - 1 + 1 = j from by omega] at h4
            exact h4 ⟨b3, b2, b4⟩
      · have := a3 (j - 1) (by omega) (by omega)
        rw [b3] at this
        exact absurd this (by decide)
    · rw [Nat.min_eq_right (by omega)] at e3
      have hlt := (List.getElem?_eq_some_iff.1 hx).1
      rcases a5 with ⟨y, hy, c1, c2, c3⟩ | ⟨_, c1⟩
      · have h3 := h2 (lineNo l j + 1) (by omega) ((List.getElem?_eq_some_iff.1 hy).1)
        rw [startOf_eq hy, c3] at h3
        unfold nx at h3
        split at h3
        · rename_i h4
          obtain rfl : j = x.2 + 1 := by omega
          exact ⟨_, x, x.2, x.2 + 1, ⟨hx, a1, Nat.le_refl _, span_bd2 hv hx⟩, e2.symm, e3.symm, rfl, hjl, .inr ⟨rfl, h4.2.1, h4.1, h4.2.2⟩⟩
        · omega
      · omega

theorem offset_pos {l : List UInt8} (hv : validD l = true) {p1 p2 i : Int} (h : offsetV l p1 p2 = (i, 0)) : posV l i = ((p1, p2), 0) := by
  obtain ⟨n, x, k, hp, rfl, rfl, rfl⟩ := offPlace hv h
  exact placePos hv hp
/-- Where the text has 0D ahead of a byte and 0A at it. -/
def crlf (l : List UInt8) (j : Nat) : Prop := 0 < j ∧ j < l.length ∧ l.getD (j - 1) 0 = 13 ∧ l.getD j 0 = 10
theorem pos_offset {l : List UInt8} (hv : validD l = true) {at' q1 q2 : Int} (h : posV l at' = ((q1, q2), 0)) :
    ∃ j : Nat, at' = (j : Int) ∧ j ≤ l.length ∧ ((crlf l j ∧ offsetV l q1 q2 = ((j : Int) - 1, 0)) ∨ (¬ crlf l j ∧ offsetV l q1 q2 = ((j : Int), 0))) := by
  obtain ⟨n, x, k, j, hp, rfl, rfl, rfl, hj, h1⟩ := posPlace hv h
  refine ⟨j, rfl, hj, ?_⟩
  have ho := placeOff hv hp
  rcases h1 with ⟨rfl, h2⟩ | ⟨rfl, h2, h3, h4⟩
  · exact .inr ⟨h2, ho⟩
  · refine .inl ⟨⟨by omega, h2, h3, h4⟩, ?_⟩
    rw [ho]
    exact Prod.ext (by dsimp only; omega) rfl

theorem len16_mono {l : List UInt8} {a b c : Nat} (ha : validD (l.take a) = true) (hab : a ≤ b) (hbc : b ≤ c) (hb : validD (l.take b) = true) : len16 (slice l a b) ≤ len16 (slice l a c) := by
  have e : slice l a c = slice l a b ++ slice l b c := by
    unfold slice
    rw [show c - a = (b - a) + (c - b) from by omega, List.take_add, List.drop_drop, show a + (b - a) = b from by omega]
  rw [e, len16_append _ _ _ (Nat.le_refl _) (slice_valid hab ha hb)]
  omega
def lessP (p1 p2 q1 q2 : Int) : Bool := decide (p1 < q1) || (decide (p1 = q1) && decide (p2 < q2))
/-- The same order. -/
theorem order {l : List UInt8} (hv : validD l = true) {p1 p2 q1 q2 a b : Int} (hp : offsetV l p1 p2 = (a, 0)) (hq : offsetV l q1 q2 = (b, 0)) :
    (p1 = q1 ∧ p2 = q2 ↔ a = b) ∧ ((p1 < q1 ∨ p1 = q1 ∧ p2 < q2) ↔ a < b) := by
  have hpa := offset_pos hv hp
  have hqb := offset_pos hv hq
  have heq : p1 = q1 ∧ p2 = q2 ↔ a = b := by
    constructor
    · rintro ⟨rfl, rfl⟩
      exact (Prod.mk.inj (hp.symm.trans hq)).1
    · rintro rfl
      exact Prod.mk.inj (Prod.mk.inj (hpa.symm.trans hqb)).1
  refine ⟨heq, ?_⟩
  have mono : ∀ {p1 p2 q1 q2 a b : Int}, offsetV l p1 p2 = (a, 0) → offsetV l q1 q2 = (b, 0) → (p1 < q1 ∨ p1 = q1 ∧ p2 < q2) → a < b := by
    intro p1 p2 q1 q2 a b hp hq h
    obtain ⟨n, x, k, hk, rfl, rfl, rfl⟩ := offPlace hv hp
    obtain ⟨m, y, j, hj, rfl, rfl, rfl⟩ := offPlace hv hq
    rcases h with h | ⟨h, h2⟩
    · have h1 := (span_lt (show n < m by omega) hk.line hj.line).2
      have := hk.hi
      have := hj.lo
      omega
    · obtain rfl : n = m := by omega
      obtain rfl : x = y := Option.some.inj (hk.line.symm.trans hj.line)
      refine Decidable.byContradiction fun hx => ?_
      have := len16_mono (c := k) (span_bd1 hv hj.line) hj.lo (by omega) hj.bd
      omega
  constructor
  · exact mono hp hq
  · intro hab
    refine Decidable.byContradiction fun hx => ?_
    have h2 : q1 < p1 ∨ q1 = p1 ∧ q2 < p2 := by
      have : ¬ (p1 = q1 ∧ p2 = q2) := fun h => by have := heq.1 h; omega
      omega
    have := mono hq hp h2
    omega
end Go.Proofs.YtkhbggihgodpkaaDoor
