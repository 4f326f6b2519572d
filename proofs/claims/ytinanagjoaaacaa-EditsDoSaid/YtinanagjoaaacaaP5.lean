/-
  Plain: a difference makes the one text of the other.
-/
import Derived.Test.YtinanagjoaaacaaP4
import Derived.Test.YtinanagjoaaacaaW5
namespace Go.Proofs.Ytinanagjoaaacaa

theorem srt_one (x : Ed) (h : x.tag = 0) : srt [x] = [x] := by
  obtain ⟨a, b, c, d⟩ := x
  dsimp only at h
  subst h
  exact (srt_uniq (s := [⟨a, b, c, 0⟩]) (List.Perm.refl _) (List.pairwise_singleton _ _)).symm
theorem take_eq {a b : List UInt8} {f : Nat} (ha : f ≤ a.length) (hb : f ≤ b.length) (h : ∀ j, j < f → a.getD j 0 = b.getD j 0) : a.take f = b.take f := by
  apply List.ext_getElem
  · rw [List.length_take, List.length_take]; omega
  · intro i h1 h2
    rw [List.length_take] at h1
    have := h i (by omega)
    rw [List.getD_eq_getElem?_getD, List.getD_eq_getElem?_getD, List.getElem?_eq_getElem (by omega), List.getElem?_eq_getElem (by omega)] at this
    rw [List.getElem_take, List.getElem_take]
    simpa using this
theorem drop_eq {a b : List UInt8} {n : Nat} (ha : n ≤ a.length) (hb : n ≤ b.length) (h : ∀ j, j < n → a.getD (a.length - 1 - j) 0 = b.getD (b.length - 1 - j) 0) : a.drop (a.length - n) = b.drop (b.length - n) := by
  apply List.ext_getElem
  · rw [List.length_drop, List.length_drop]; omega
  · intro i h1 h2
    rw [List.length_drop] at h1
    have := h (n - 1 - i) (by omega)
    rw [show a.length - 1 - (n - 1 - i) = a.length - n + i from by omega, show b.length - 1 - (n - 1 - i) = b.length - n + i from by omega] at this
    rw [List.getD_eq_getElem?_getD, List.getD_eq_getElem?_getD, List.getElem?_eq_getElem (by omega), List.getElem?_eq_getElem (by omega)] at this
    rw [List.getElem_drop, List.getElem_drop]
    simpa using this
theorem df_bounds {a b : ByteArray} {x : Ed} (h : IsDf a b x) : ∃ f n : Nat, f + n ≤ a.size ∧ f + n ≤ b.size ∧ x = ⟨(f : Int), (a.size : Int) - (n : Int), b.extract f (b.size - n), 0⟩ ∧
    a.data.toList.take f = b.data.toList.take f ∧ a.data.toList.drop (a.size - n) = b.data.toList.drop (b.size - n) := by
  obtain ⟨i, k, f, n, h1, h2, h3, h4, h5⟩ := h
  have e1 := Lib.size_eq a
  have e2 := Lib.size_eq b
  have hf : f ≤ i := by rw [h2]; exact bkO_le _ _ _
  have hn : n ≤ k := by rw [h4]; exact bkS_le _ _
  have := h3.le
  have := h1.la
  have := h1.lb
  refine ⟨f, n, by omega, by omega, h5, take_eq (by omega) (by omega) (fun j hj => h1.eq j (by omega)), ?_⟩
  rw [e1, e2]
  exact drop_eq (by omega) (by omega) (fun j hj => h3.eq j (by omega))
theorem df_row {a b : ByteArray} {x : Ed} (h : IsDf a b x) : rowE a.size [x] = 0 ∧ doS a [x] = b := by
  obtain ⟨f, n, h1, h2, rfl, h3, h4⟩ := df_bounds h
  have hs := srt_one ⟨(f : Int), (a.size : Int) - (n : Int), b.extract f (b.size - n), 0⟩ rfl
  have hr : rowE a.size [⟨(f : Int), (a.size : Int) - (n : Int), b.extract f (b.size - n), 0⟩] = 0 := by
    have hb : badE ⟨(f : Int), (a.size : Int) - (n : Int), b.extract f (b.size - n), 0⟩ = false := by
      unfold badE; simp; omega
    have hso : sortE [⟨(f : Int), (a.size : Int) - (n : Int), b.extract f (b.size - n), 0⟩] = 0 := by
      unfold sortE
      rw [hs]
      simp [hb, inOrdB]
    unfold rowE
    rw [hso, hs]
    simp; omega
  refine ⟨hr, ?_⟩
  unfold doS
  rw [if_pos hr, hs]
  have e1 := Lib.size_eq a
  have e2 := Lib.size_eq b
  apply ByteArray.ext
  apply Array.toList_inj.1
  simp only [doL, ext_list', Int.toNat_natCast, List.drop_zero, Nat.sub_zero]
  rw [show ((a.size : Int) - (n : Int)).toNat = a.size - n from by omega, h3, h4]
  have g1 : b.data.toList = b.data.toList.take f ++ b.data.toList.drop f := (List.take_append_drop f _).symm
  have g2 : b.data.toList.drop f = (b.data.toList.drop f).take (b.size - n - f) ++ (b.data.toList.drop f).drop (b.size - n - f) := (List.take_append_drop _ _).symm
  rw [List.drop_drop, show f + (b.size - n - f) = b.size - n from by omega] at g2
  rw [List.append_assoc, ← g2, ← g1]
theorem nil_row (a : ByteArray) : rowE a.size [] = 0 ∧ doS a [] = a := by
  have hs : srt [] = [] := List.eq_nil_of_length_eq_zero (by rw [srt_length]; rfl)
  have hr : rowE a.size [] = 0 := by
    unfold rowE sortE
    rw [hs]
    simp [inOrdB]
  refine ⟨hr, ?_⟩
  unfold doS
  rw [if_pos hr, hs]
  simp [doL]
end Go.Proofs.Ytinanagjoaaacaa
