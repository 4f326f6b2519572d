/-
  Plain: edits, their order, tags; the insertion sort is stable.
-/
import Derived.Sort.LotA
import Derived.Shelf.SlSortCmp.Insertion
namespace Go.Proofs.Ytinanagjoaaacaa
open Go.Sort

/-- An edit, and the place at which it was handed in. -/
structure Ed where
  fr : Int
  to : Int
  tx : ByteArray
  tag : Nat
instance : Inhabited Ed := ⟨⟨0, 0, ByteArray.empty, 0⟩⟩

def emp (x : Ed) : Int := if x.fr = x.to then 0 else 1
def cf (x y : Ed) : Int := if x.fr < y.fr then -1 else if y.fr < x.fr then 1 else emp x - emp y
def key (x : Ed) : Int := 2 * x.fr + emp x
theorem emp_two (x : Ed) : emp x = 0 ∨ emp x = 1 := by unfold emp; split <;> omega
theorem cf_key (x y : Ed) : cf x y < 0 ↔ key x < key y := by
  have := emp_two x
  have := emp_two y
  unfold cf key
  split
  · omega
  · split <;> omega
/-- Not behind, sorted. -/
def leE (x y : Ed) : Bool := decide (key x < key y) || (decide (key x = key y) && decide (x.tag ≤ y.tag))
def ltE (x y : Ed) : Bool := !leE y x
theorem leE_iff (x y : Ed) : leE x y = true ↔ key x < key y ∨ key x = key y ∧ x.tag ≤ y.tag := by unfold leE; simp
theorem ltE_iff (x y : Ed) : ltE x y = true ↔ key x < key y ∨ key x = key y ∧ x.tag < y.tag := by
  unfold ltE
  have := leE_iff y x
  cases h : leE y x with
  | true =>
    have h2 := this.1 h
    simp; omega
  | false =>
    have h2 : ¬ (key y < key x ∨ key y = key x ∧ y.tag ≤ x.tag) := fun hx => by rw [this.2 hx] at h; cases h
    simp; omega
theorem ltE_false (x y : Ed) : ltE x y = false ↔ leE y x = true := by unfold ltE; simp
theorem swoE : SWO ltE where
  irrefl x := by rw [ltE_false, leE_iff]; omega
  trans x y z h1 h2 := by rw [ltE_iff] at *; omega
  ntrans x y z h1 h2 := by rw [ltE_false, leE_iff] at *; omega
theorem ltOf_tag {x y : Ed} (h : y.tag < x.tag) : ltOf cf x y = ltE x y := by
  have h1 := cf_key x y
  have h2 := ltE_iff x y
  unfold ltOf
  cases hl : ltE x y with
  | true => exact decide_eq_true (by have := h2.1 hl; omega)
  | false =>
    refine decide_eq_false (fun hx => ?_)
    rw [h2.2 (by omega)] at hl
    cases hl

/-! ### The insertion sort -/
theorem insInner_tag (a : Nat) : ∀ (j : Nat) (d : Array Ed), j < d.size → (∀ p, a ≤ p → p < j → d[p]!.tag < d[j]!.tag) → insInner (ltOf cf) a j d = insInner ltE a j d
  | 0, d, _, _ => by unfold insInner; rfl
  | j + 1, d, hj, h => by
    unfold insInner
    by_cases haj : j + 1 > a
    · have e := ltOf_tag (h j (by omega) (by omega))
      rw [e]
      split
      · refine insInner_tag a j _ (by rw [swp_size]; omega) (fun p hp1 hp2 => ?_)
        rw [swp_get d hj (by omega), swp_get d hj (by omega), if_neg (by omega), if_neg (by omega), if_pos rfl]
        exact h p hp1 (by omega)
      · rfl
    · simp [haj]
theorem insInner_perm (lt : Ed → Ed → Bool) (a b : Nat) : ∀ (j : Nat) (d : Array Ed), j < b → b ≤ d.size → PermIn a b d (insInner lt a j d)
  | 0, d, _, _ => by unfold insInner; exact permIn_refl _ _ _
  | j + 1, d, hj, hb => by
    unfold insInner
    split
    · rename_i hc
      simp only [Bool.and_eq_true, decide_eq_true_eq] at hc
      exact permIn_trans _ _ _ a b (swp_permIn d a b (j + 1) j (by omega) hj (by omega) (by omega) hb) (insInner_perm lt a b j _ (by omega) (by rw [swp_size]; exact hb))
    · exact permIn_refl _ _ _
theorem io_go (lt : Ed → Ed → Bool) (a b i : Nat) (d : Array Ed) (h : i < b) : insOuter lt a b i d = insOuter lt a b (i + 1) (insInner lt a i d) := by rw [insOuter, if_pos h]
theorem io_stop (lt : Ed → Ed → Bool) (a b i : Nat) (d : Array Ed) (h : ¬ i < b) : insOuter lt a b i d = d := by rw [insOuter, if_neg h]
theorem insOuter_tag (a b : Nat) : ∀ (n i : Nat) (d : Array Ed), b - i = n → a ≤ i → b ≤ d.size → (∀ p q, a ≤ p → p < q → i ≤ q → q < b → d[p]!.tag < d[q]!.tag) → insOuter (ltOf cf) a b i d = insOuter ltE a b i d
  | 0, i, d, hn, _, _, _ => by
    rw [io_stop _ _ _ _ _ (by omega), io_stop _ _ _ _ _ (by omega)]
  | n + 1, i, d, hn, hai, hb, h => by
    rw [io_go _ _ _ i d (by omega), io_go _ _ _ i d (by omega), insInner_tag a i d (by omega) (fun p h1 h2 => h p i h1 h2 (Nat.le_refl _) (by omega))]
    have hp := insInner_perm ltE a (i + 1) i d (by omega) (by omega)
    refine insOuter_tag a b n (i + 1) _ (by omega) (by omega) (by rw [hp.1]; exact hb) (fun p q h1 h2 h3 h4 => ?_)
    rw [hp.2.1 q (.inr (by omega))]
    rcases Nat.lt_or_ge p (i + 1) with h5 | h5
    · exact permIn_all d _ a (i + 1) (fun x => x.tag < d[q]!.tag) (by omega) hp (fun k h6 h7 => h k q h6 (by omega) (by omega) h4) p h1 h5
    · rw [hp.2.1 p (.inr h5)]
      exact h p q h1 h2 (by omega) h4
/-- Handed in order, the insertion sort by 'cmp' lays them sorted, equals in their own order. -/
theorem ins_sorted (d : Array Ed) (a b : Nat) (hab : a ≤ b) (hb : b ≤ d.size) (h : ∀ p q, a ≤ p → p < q → q < b → d[p]!.tag < d[q]!.tag) :
    PermIn a b d (insertionSort (ltOf cf) d a b) ∧ SortedIn ltE a b (insertionSort (ltOf cf) d a b) := by
  have e : insertionSort (ltOf cf) d a b = insertionSort ltE d a b := insOuter_tag a b _ (a + 1) d rfl (by omega) hb (fun p q h1 h2 _ h4 => h p q h1 h2 h4)
  rw [e]
  exact insertionSort_holds swoE d a b hab hb

/-! ### Tags -/
def tagF : Nat → List Ed → List Ed
  | _, [] => []
  | n, x :: r => ⟨x.fr, x.to, x.tx, n⟩ :: tagF (n + 1) r
def tagL (l : List Ed) : List Ed := tagF 0 l
theorem tagF_length : ∀ (n : Nat) (l : List Ed), (tagF n l).length = l.length
  | _, [] => rfl
  | n, x :: r => by simp [tagF, tagF_length (n + 1) r]
theorem tagF_at : ∀ (n : Nat) (l : List Ed) (i : Nat), (tagF n l)[i]? = (l[i]?).map fun x => ⟨x.fr, x.to, x.tx, n + i⟩
  | _, [], i => by simp [tagF]
  | n, x :: r, 0 => by simp [tagF]
  | n, x :: r, i + 1 => by
    simp only [tagF, List.getElem?_cons_succ]
    rw [tagF_at (n + 1) r i, show n + 1 + i = n + (i + 1) from by omega]
theorem tagL_length (l : List Ed) : (tagL l).length = l.length := tagF_length 0 l
theorem tagL_at (l : List Ed) (i : Nat) : (tagL l)[i]? = (l[i]?).map fun x => ⟨x.fr, x.to, x.tx, i⟩ := by
  have := tagF_at 0 l i
  rw [Nat.zero_add] at this
  exact this
/-- Sorted. -/
def srt (l : List Ed) : List Ed := (tagL l).mergeSort leE
theorem leE_trans (a b c : Ed) (h1 : leE a b = true) (h2 : leE b c = true) : leE a c = true := by rw [leE_iff] at *; omega
theorem leE_total (a b : Ed) : (leE a b || leE b a) = true := by
  rw [Bool.or_eq_true, leE_iff, leE_iff]; omega
theorem srt_perm (l : List Ed) : (srt l).Perm (tagL l) := List.mergeSort_perm _ _
theorem srt_pw (l : List Ed) : (srt l).Pairwise fun a b => leE a b = true := List.pairwise_mergeSort leE_trans leE_total _
theorem srt_length (l : List Ed) : (srt l).length = l.length := by rw [(srt_perm l).length_eq, tagL_length]
theorem tagL_mem {l : List Ed} {x : Ed} (h : x ∈ tagL l) : (tagL l)[x.tag]? = some x := by
  obtain ⟨i, hi⟩ := List.getElem?_of_mem h
  have h2 := hi
  rw [tagL_at, Option.map_eq_some_iff] at h2
  obtain ⟨y, _, he⟩ := h2
  have : x.tag = i := by rw [← he]
  rw [this]; exact hi
theorem srt_uniq {l s : List Ed} (hp : s.Perm (tagL l)) (hs : s.Pairwise fun a b => leE a b = true) : s = srt l := by
  refine List.Perm.eq_of_pairwise (fun a b ha hb h1 h2 => ?_) hs (srt_pw l) (hp.trans (srt_perm l).symm)
  have h3 := tagL_mem (hp.mem_iff.1 ha)
  have h4 := tagL_mem ((srt_perm l).mem_iff.1 hb)
  rw [leE_iff] at h1 h2
  rw [show a.tag = b.tag from by omega] at h3
  exact Option.some.inj (h3.symm.trans h4)
end Go.Proofs.Ytinanagjoaaacaa
