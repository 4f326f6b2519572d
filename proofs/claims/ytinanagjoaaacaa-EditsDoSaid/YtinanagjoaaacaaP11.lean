/-
  Plain: sorted edits are their own sorting; the edits that put back; one edit after the other.
-/
import Derived.Test.YtinanagjoaaacaaP5
import Derived.Test.YtinanagjoaaacaaW7
namespace Go.Proofs.Ytinanagjoaaacaa

/-! ### Fitting edits are sorted -/
theorem tag_ord {l : List Ed} (h : InOrd l) : InOrd (tagL l) := by
  intro i x y hx hy
  rw [tagL_at, Option.map_eq_some_iff] at hx hy
  obtain ⟨a, ha, rfl⟩ := hx
  obtain ⟨b, hb, rfl⟩ := hy
  exact h i a b ha hb
theorem tag_fit {l : List Ed} (h : Fit l) : Fit (tagL l) := by
  refine ⟨fun x hx => ?_, tag_ord h.2⟩
  obtain ⟨i, hi⟩ := List.getElem?_of_mem hx
  rw [tagL_at, Option.map_eq_some_iff] at hi
  obtain ⟨a, ha, rfl⟩ := hi
  exact h.1 a (List.mem_of_getElem? ha)
theorem fit_srt {l : List Ed} (h : Fit l) : srt l = tagL l := by
  refine (srt_uniq (List.Perm.refl _) ?_).symm
  rw [List.pairwise_iff_getElem]
  intro i j hi hj hij
  have hf := tag_fit h
  have hx : (tagL l)[i]? = some (tagL l)[i] := List.getElem?_eq_getElem hi
  have hy : (tagL l)[j]? = some (tagL l)[j] := List.getElem?_eq_getElem hj
  have h1 := fit_rise hf (j - i - 1) i _ _ hx (by rw [show i + (j - i - 1) + 1 = j from by omega]; exact hy)
  have h2 := hf.1 _ (List.mem_of_getElem? hx)
  have h3 := hf.1 _ (List.mem_of_getElem? hy)
  have t1 : (tagL l)[i].tag = i := by
    have := hx
    rw [tagL_at, Option.map_eq_some_iff] at this
    obtain ⟨a, _, he⟩ := this
    rw [← he]
  have t2 : (tagL l)[j].tag = j := by
    have := hy
    rw [tagL_at, Option.map_eq_some_iff] at this
    obtain ⟨a, _, he⟩ := this
    rw [← he]
  rw [leE_iff, t1, t2]
  unfold key
  have e1 := emp_two (tagL l)[j]
  by_cases hlt : (tagL l)[i].fr < (tagL l)[j].fr
  · have e2 := emp_two (tagL l)[i]
    omega
  · have e2 : emp (tagL l)[i] = 0 := by unfold emp; rw [if_pos (by omega)]
    omega
theorem fit_sortE {l : List Ed} (h : Fit l) : sortE l = 0 := by
  have hb : l.any badE = false := by
    rw [List.any_eq_false]
    intro x hx
    have := h.1 x hx
    unfold badE
    simp; omega
  unfold sortE
  rw [hb, if_neg (by simp), if_pos ((inOrdB_iff _).2 (by rw [fit_srt h]; exact tag_ord h.2))]
theorem tag_mem {l : List Ed} {x : Ed} (h : x ∈ tagL l) : ∃ y, y ∈ l ∧ x.fr = y.fr ∧ x.to = y.to ∧ x.tx = y.tx := by
  obtain ⟨i, hi⟩ := List.getElem?_of_mem h
  rw [tagL_at, Option.map_eq_some_iff] at hi
  obtain ⟨a, ha, rfl⟩ := hi
  exact ⟨a, List.mem_of_getElem? ha, rfl, rfl, rfl⟩
theorem fit_rowE {l : List Ed} {n : Nat} (h : Fit l) (hm : ∀ x, x ∈ l → x.to ≤ (n : Int)) : rowE n l = 0 := by
  unfold rowE
  rw [fit_sortE h, if_neg (by simp), if_neg ?_]
  rw [Bool.not_eq_true, List.any_eq_false, fit_srt h]
  intro x hx
  obtain ⟨y, hy, _, h2, _⟩ := tag_mem hx
  have := hm y hy
  simp; omega
theorem doL_tag (t : List UInt8) : ∀ (l : List Ed) (n a : Nat), doL t a (tagF n l) = doL t a l
  | [], _, _ => rfl
  | x :: r, n, a => by simp only [tagF, doL]; rw [doL_tag t r (n + 1) x.to.toNat]
theorem fit_doS {l : List Ed} {t : ByteArray} (h : Fit l) (hm : ∀ x, x ∈ l → x.to ≤ (t.size : Int)) : doS t l = ⟨(doL t.data.toList 0 l).toArray⟩ := by
  unfold doS
  rw [if_pos (fit_rowE h hm), fit_srt h, tagL, doL_tag]

/-! ### The edits that put back -/
theorem bk_step (t : ByteArray) (m : Int) (x : Ed) (r : List Ed) : (mvF m (x :: r)).map (bkE t) = ⟨x.fr + m, x.fr + m + x.tx.size, t.extract x.fr.toNat x.to.toNat, 0⟩ :: (mvF (m + dE x) r).map (bkE t) := rfl
/-- Putting back, from a place on: the text made is 'pre' and what follows. -/
theorem bk_do (t : ByteArray) : ∀ (s : List Ed) (a : Nat) (pre : List UInt8), Fit s → (∀ x, x ∈ s → x.to ≤ (t.size : Int)) → (∀ x, s[0]? = some x → (a : Int) ≤ x.fr) → a ≤ t.size →
    doL (pre ++ doL t.data.toList a s) pre.length ((mvF ((pre.length : Int) - a) s).map (bkE t)) = t.data.toList.drop a ∧
    (∀ y, y ∈ (mvF ((pre.length : Int) - a) s).map (bkE t) → y.to ≤ ((pre ++ doL t.data.toList a s).length : Int)) ∧ Fit ((mvF ((pre.length : Int) - a) s).map (bkE t)) ∧
    (∀ y, ((mvF ((pre.length : Int) - a) s).map (bkE t))[0]? = some y → (pre.length : Int) ≤ y.fr)
  | [], a, pre, _, _, _, _ => by
    refine ⟨by simp [mvF, doL], fun y hy => by simp [mvF] at hy, ⟨fun y hy => by simp [mvF] at hy, fun i x y hx => by simp [mvF] at hx⟩, fun y hy => by simp [mvF] at hy⟩
  | x :: r, a, pre, hf, hm, h0, ha => by
    have hx := hf.1 x (by simp)
    have hxm := hm x (by simp)
    have hxa := h0 x rfl
    have hts := Lib.size_eq t
    obtain ⟨xf, xt, xx, xg⟩ := x
    dsimp only at hx hxm hxa
    obtain ⟨f, rfl⟩ : ∃ f : Nat, xf = (f : Int) := ⟨xf.toNat, by omega⟩
    obtain ⟨z, rfl⟩ : ∃ z : Nat, xt = (z : Int) := ⟨xt.toNat, by omega⟩
    have ih := bk_do t r z (pre ++ (t.data.toList.drop a).take (f - a) ++ xx.data.toList) hf.tail (fun y hy => hm y (by simp [hy])) (fun y hy => hf.2 0 _ y rfl (by simpa using hy)) (by omega)
    have hcl : ((t.data.toList.drop a).take (f - a)).length = f - a := by rw [List.length_take, List.length_drop]; omega
    have hxl : xx.data.toList.length = xx.size := (Lib.size_eq xx).symm
    have hpl : (pre ++ (t.data.toList.drop a).take (f - a) ++ xx.data.toList).length = pre.length + (f - a) + xx.size := by rw [List.length_append, List.length_append, hcl, hxl]
    have hmv : ((pre.length : Int) - (a : Int)) + dE ⟨(f : Int), (z : Int), xx, xg⟩ = ((pre ++ (t.data.toList.drop a).take (f - a) ++ xx.data.toList).length : Int) - (z : Int) := by
      rw [hpl, dE]; dsimp only; omega
    have hT : pre ++ doL t.data.toList a (⟨(f : Int), (z : Int), xx, xg⟩ :: r) = (pre ++ (t.data.toList.drop a).take (f - a) ++ xx.data.toList) ++ doL t.data.toList z r := by
      simp only [doL, Int.toNat_natCast, List.append_assoc]
    rw [bk_step, hmv, hT]
    obtain ⟨i1, i2, i3, i4⟩ := ih
    dsimp only
    have ef : (f : Int) + ((pre.length : Int) - (a : Int)) = ((pre.length + (f - a) : Nat) : Int) := by omega
    have et : (f : Int) + ((pre.length : Int) - (a : Int)) + (xx.size : Int) = ((pre ++ (t.data.toList.drop a).take (f - a) ++ xx.data.toList).length : Int) := by rw [hpl]; omega
    rw [et, ef]
    refine ⟨?_, ?_, ⟨?_, ?_⟩, ?_⟩
    · simp only [doL, Int.toNat_natCast]
      rw [i1]
      have hd : (pre ++ (t.data.toList.drop a).take (f - a) ++ xx.data.toList ++ doL t.data.toList z r).drop pre.length = (t.data.toList.drop a).take (f - a) ++ (xx.data.toList ++ doL t.data.toList z r) := by
        rw [List.append_assoc, List.append_assoc, List.drop_left' rfl]
      rw [hd, show pre.length + (f - a) - pre.length = f - a from by omega, List.take_left' hcl, ext_list']
      have e1 : t.data.toList.drop a = (t.data.toList.drop a).take (f - a) ++ t.data.toList.drop f := by
        have := (List.take_append_drop (f - a) (t.data.toList.drop a)).symm
        rw [List.drop_drop, show a + (f - a) = f from by omega] at this
        exact this
      have e2 : t.data.toList.drop f = (t.data.toList.drop f).take (z - f) ++ t.data.toList.drop z := by
        have := (List.take_append_drop (z - f) (t.data.toList.drop f)).symm
        rw [List.drop_drop, show f + (z - f) = z from by omega] at this
        exact this
      rw [List.append_assoc, ← e2, ← e1]
    · intro y hy
      rcases List.mem_cons.1 hy with rfl | hy
      · simp only [List.length_append]; omega
      · exact i2 y hy
    · intro y hy
      rcases List.mem_cons.1 hy with rfl | hy
      · dsimp only
        rw [hpl]; omega
      · exact i3.1 y hy
    · intro i u v hu hv
      cases i with
      | zero =>
        obtain rfl := Option.some.inj hu
        exact i4 v (by simpa using hv)
      | succ i => exact i3.2 i u v (by simpa using hu) (by simpa using hv)
    · intro y hy
      obtain rfl := Option.some.inj hy
      dsimp only
      omega
theorem toArr_list (l : List UInt8) : (⟨l.toArray⟩ : ByteArray).data.toList = l := by simp
theorem toArr_size (l : List UInt8) : (⟨l.toArray⟩ : ByteArray).size = l.length := by simp [ByteArray.size]
/-- Put back, the text is what it was. -/
theorem back_do {t : ByteArray} {l : List Ed} (h : rowE t.size l = 0) : rowE (doS t l).size (backS t l) = 0 ∧ doS (doS t l) (backS t l) = t := by
  obtain ⟨h1, h2⟩ := rowE_ok h
  have hf := srt_fit h1
  have hb : backS t l = bkL t (srt l) := if_pos h
  have hd : doS t l = ⟨(doL t.data.toList 0 (srt l)).toArray⟩ := if_pos h
  obtain ⟨i1, i2, i3, _⟩ := bk_do t (srt l) 0 [] hf h2 (fun x hx => (hf.1 x (List.mem_of_getElem? hx)).1) (Nat.zero_le _)
  simp only [List.length_nil, List.nil_append, Int.natCast_zero, Int.sub_self, List.drop_zero] at i1 i2 i3
  rw [hb, hd]
  have hm : ∀ x, x ∈ bkL t (srt l) → x.to ≤ ((⟨(doL t.data.toList 0 (srt l)).toArray⟩ : ByteArray).size : Int) := fun x hx => by
    rw [toArr_size]; exact i2 x hx
  refine ⟨fit_rowE i3 hm, ?_⟩
  rw [fit_doS (l := bkL t (srt l)) i3 hm, toArr_list]
  apply ByteArray.ext
  apply Array.toList_inj.1
  simpa [bkL, mvL] using i1
theorem back_len (t : ByteArray) (l : List Ed) : (backS t l).length ≤ l.length := by
  unfold backS
  split
  · rw [bkL, List.length_map, mvL, mvF_length, srt_length]; exact Nat.le_refl _
  · simp
theorem sub_size (t : ByteArray) (a b : Nat) : (t.extract a b).size ≤ t.size := by rw [ByteArray.size_extract]; omega
theorem back_txS (t : ByteArray) (l : List Ed) : txS (backS t l) ≤ l.length * t.size := by
  have h : ∀ (s : List Ed) (m : Int), txS ((mvF m s).map (bkE t)) ≤ s.length * t.size := by
    intro s
    induction s with
    | nil => intro m; simp [mvF, txS]
    | cons x r ih =>
      intro m
      rw [bk_step, txS_cons, List.length_cons, Nat.add_mul, Nat.one_mul]
      have := ih (m + dE x)
      have := sub_size t x.fr.toNat x.to.toNat
      dsimp only
      omega
  unfold backS
  split
  · have := h (srt l) 0
    rw [srt_length] at this
    exact this
  · simp [txS]

/-! ### One edit after the other -/
theorem doL_skip (t : List UInt8) (s : List Ed) (a b : Nat) (hab : a ≤ b) (h : ∀ x, s[0]? = some x → (b : Int) ≤ x.fr) : doL t a s = (t.drop a).take (b - a) ++ doL t b s := by
  have key : ∀ c, b ≤ c → (t.drop a).take (c - a) = (t.drop a).take (b - a) ++ (t.drop b).take (c - b) := by
    intro c hc
    rw [show c - a = (b - a) + (c - b) from by omega, List.take_add, List.drop_drop, show a + (b - a) = b from by omega]
  cases s with
  | nil =>
    simp only [doL]
    have := (List.take_append_drop (b - a) (t.drop a)).symm
    rw [List.drop_drop, show a + (b - a) = b from by omega] at this
    exact this
  | cons x r =>
    have hx := h x rfl
    simp only [doL]
    rw [key x.fr.toNat (by omega), List.append_assoc, List.append_assoc, List.append_assoc]
/-- The text behind the edits from the k-th one on. -/
def onesU (t : ByteArray) (s : List Ed) (k : Nat) : ByteArray := ⟨(doL t.data.toList 0 (s.drop k)).toArray⟩
theorem Fit.drop {s : List Ed} (h : Fit s) (k : Nat) : Fit (s.drop k) :=
  ⟨fun x hx => h.1 x (List.mem_of_mem_drop hx), fun i x y hx hy => h.2 (k + i) x y (by rw [List.getElem?_drop] at hx; exact hx) (by rw [List.getElem?_drop] at hy; exact hy)⟩
theorem ones_step {t : ByteArray} {s : List Ed} {k : Nat} {x : Ed} (hf : Fit s) (hm : ∀ x, x ∈ s → x.to ≤ (t.size : Int)) (hx : s[k]? = some x) :
    rowE (onesU t s (k + 1)).size [x] = 0 ∧ doS (onesU t s (k + 1)) [x] = onesU t s k := by
  have hmem := List.mem_of_getElem? hx
  have h1 := hf.1 x hmem
  have h2 := hm x hmem
  have hts := Lib.size_eq t
  obtain ⟨xf, xt, xx, xg⟩ := x
  dsimp only at h1 h2
  obtain ⟨f, rfl⟩ : ∃ f : Nat, xf = (f : Int) := ⟨xf.toNat, by omega⟩
  obtain ⟨z, rfl⟩ : ∃ z : Nat, xt = (z : Int) := ⟨xt.toNat, by omega⟩
  have hnx : ∀ y, (s.drop (k + 1))[0]? = some y → (z : Int) ≤ y.fr := fun y hy => by
    rw [List.getElem?_drop] at hy
    exact hf.2 k _ y hx hy
  have hsk := doL_skip t.data.toList (s.drop (k + 1)) 0 z (Nat.zero_le _) hnx
  rw [List.drop_zero, Nat.sub_zero] at hsk
  have hzl : (t.data.toList.take z).length = z := by rw [List.length_take]; omega
  have hfit1 : Fit [(⟨(f : Int), (z : Int), xx, xg⟩ : Ed)] := ⟨fun y hy => by
    obtain rfl : y = _ := by simpa using hy
    exact h1, fun i u v _ hv => by simp at hv⟩
  have hm1 : ∀ y, y ∈ [(⟨(f : Int), (z : Int), xx, xg⟩ : Ed)] → y.to ≤ ((onesU t s (k + 1)).size : Int) := fun y hy => by
    obtain rfl : y = _ := by simpa using hy
    unfold onesU
    rw [toArr_size, hsk, List.length_append, hzl]
    dsimp only
    omega
  refine ⟨fit_rowE hfit1 hm1, ?_⟩
  rw [fit_doS hfit1 hm1]
  unfold onesU
  congr 2
  rw [toArr_list]
  have hk := (List.getElem?_eq_some_iff.1 hx).1
  have hdr : s.drop k = ⟨(f : Int), (z : Int), xx, xg⟩ :: s.drop (k + 1) := by
    rw [List.drop_eq_getElem_cons hk, (List.getElem?_eq_some_iff.1 hx).2]
  rw [hdr]
  simp only [doL, Int.toNat_natCast, List.drop_zero, Nat.sub_zero]
  rw [hsk, List.take_append_of_le_length (by rw [hzl]; omega), List.take_take, Nat.min_eq_left (by omega), List.drop_left' hzl]
theorem ones_size {t : ByteArray} {s : List Ed} (k : Nat) : (onesU t s k).size ≤ (s.length + 1) * t.size + txS s := by
  unfold onesU
  rw [toArr_size]
  have h1 := doL_length t.data.toList (s.drop k) 0
  have h2 : txS (s.drop k) ≤ txS s := by
    have := congrArg txS (List.take_append_drop k s)
    have h3 : ∀ a b : List Ed, txS (a ++ b) = txS a + txS b := by intro a b; simp [txS]
    rw [h3] at this; omega
  have h3 : ((s.drop k).length + 1) * t.size ≤ (s.length + 1) * t.size := Nat.mul_le_mul_right _ (by rw [List.length_drop]; omega)
  rw [← Lib.size_eq] at h1
  omega
theorem ones_end (t : ByteArray) (s : List Ed) : onesU t s s.length = t := by
  unfold onesU
  rw [List.drop_length]
  simp [doL]
end Go.Proofs.Ytinanagjoaaacaa
