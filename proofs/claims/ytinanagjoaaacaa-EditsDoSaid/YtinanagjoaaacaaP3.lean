/-
  Plain: how far all is moved.
-/
import Derived.Test.YtinanagjoaaacaaP2
namespace Go.Proofs.Ytinanagjoaaacaa
open Go.Sort

/-- How far an edit moves what stands behind it. -/
def dE (x : Ed) : Int := (x.tx.size : Int) - (x.to - x.fr)
def dN (s : List Ed) : Int := (s.map dE).sum
theorem dN_cons (x : Ed) (s : List Ed) : dN (x :: s) = dE x + dN s := by simp [dN]
theorem dN_snoc (s : List Ed) (x : Ed) : dN (s ++ [x]) = dN s + dE x := by simp [dN]
theorem take_snoc {s : List Ed} {k : Nat} {x : Ed} (h : s[k]? = some x) : s.take (k + 1) = s.take k ++ [x] := by
  rw [List.take_add_one, h]; rfl
theorem dN_take {s : List Ed} {k : Nat} {x : Ed} (h : s[k]? = some x) : dN (s.take (k + 1)) = dN (s.take k) + dE x := by
  rw [take_snoc h, dN_snoc]
def mvF : Int → List Ed → List (Int × Ed)
  | _, [] => []
  | n, x :: r => (n, x) :: mvF (n + dE x) r
def mvL (s : List Ed) : List (Int × Ed) := mvF 0 s
theorem mvF_length : ∀ (n : Int) (s : List Ed), (mvF n s).length = s.length
  | _, [] => rfl
  | n, x :: r => by simp [mvF, mvF_length]
theorem mvF_drop {s : List Ed} {k : Nat} {x : Ed} (n : Int) (h : s[k]? = some x) : mvF n (s.drop k) = (n, x) :: mvF (n + dE x) (s.drop (k + 1)) := by
  have hk := (List.getElem?_eq_some_iff.1 h).1
  rw [List.drop_eq_getElem_cons hk, (List.getElem?_eq_some_iff.1 h).2]; rfl
theorem mvF_map : ∀ (n : Int) (s : List Ed), (mvF n s).map (fun y => y.2) = s
  | _, [] => rfl
  | n, x :: r => by simp [mvF, mvF_map]
theorem mvF_at : ∀ (n : Int) (s : List Ed) (k : Nat), (mvF n s)[k]? = (s[k]?).map fun x => (n + dN (s.take k), x)
  | _, [], k => by simp [mvF]
  | n, x :: r, 0 => by simp [mvF, dN]
  | n, x :: r, k + 1 => by
    simp only [mvF, List.getElem?_cons_succ, List.take_succ_cons, dN_cons]
    rw [mvF_at (n + dE x) r k]
    congr 1
    funext y
    rw [Int.add_assoc]
/-- What a round is handed, whatever stands ahead of it. -/
theorem mv_pre {s : List Ed} {pre : List (Int × Ed)} {x : Int × Ed} (h : pre ++ [x] <+: mvL s) : s[pre.length]? = some x.2 ∧ x.1 = dN (s.take pre.length) ∧ pre = mvL (s.take pre.length) := by
  obtain ⟨r, hr⟩ := h
  have h1 : (mvL s)[pre.length]? = some x := by rw [← hr]; simp
  have h2 := h1
  rw [mvL, mvF_at, Option.map_eq_some_iff] at h2
  obtain ⟨y, hy, he⟩ := h2
  refine ⟨by rw [hy, ← he], by rw [← he]; simp, ?_⟩
  have h3 : pre = (mvL s).take pre.length := by rw [← hr]; simp
  have h4 : ∀ (n : Int) (s : List Ed) (k : Nat), (mvF n s).take k = mvF n (s.take k) := by
    intro n s
    induction s generalizing n with
    | nil => intro k; simp [mvF]
    | cons a r ih =>
      intro k
      cases k with
      | zero => simp [mvF]
      | succ k => simp only [mvF, List.take_succ_cons, ih]
  exact h3.trans (h4 0 s pre.length)
/-- The bounds of how far. -/
theorem fit_dN {s : List Ed} (h : Fit s) : ∀ (k : Nat) (y : Ed), s[k]? = some y → -y.fr ≤ dN (s.take k) ∧ -y.to ≤ dN (s.take (k + 1)) := by
  intro k
  induction k with
  | zero =>
    intro y hy
    have h1 := h.1 y (List.mem_of_getElem? hy)
    rw [dN_take hy]
    simp only [List.take_zero, dN, List.map_nil, List.sum_nil, dE]
    omega
  | succ k ih =>
    intro y hy
    have h1 := h.1 y (List.mem_of_getElem? hy)
    have hk := (List.getElem?_eq_some_iff.1 hy).1
    obtain ⟨x, hx⟩ : ∃ x, s[k]? = some x := ⟨_, List.getElem?_eq_getElem (by omega)⟩
    have h2 := ih x hx
    have h3 := h.2 k x y hx hy
    rw [dN_take hy, dE]
    omega
theorem dN_le {s : List Ed} (h : Fit s) : ∀ k, dN (s.take k) ≤ txS (s.take k) := by
  intro k
  have : ∀ s : List Ed, (∀ x, x ∈ s → x.fr ≤ x.to) → dN s ≤ txS s := by
    intro s
    induction s with
    | nil => intro _; simp [dN, txS]
    | cons x r ih =>
      intro h
      have h1 := ih (fun y hy => h y (by simp [hy]))
      have h2 := h x (by simp)
      rw [dN_cons, txS_cons, dE]; omega
  exact this _ (fun x hx => (h.1 x (List.mem_of_mem_take hx)).2)
theorem txS_take (s : List Ed) (k : Nat) : txS (s.take k) ≤ txS s := by
  have := congrArg txS (List.take_append_drop k s)
  have h2 : ∀ a b : List Ed, txS (a ++ b) = txS a + txS b := by intro a b; simp [txS]
  rw [h2] at this; omega
theorem dN_bounds {s : List Ed} (h : Fit s) (hi : ∀ x, x ∈ s → x.to ≤ 9223372036854775807) (k : Nat) (hk : k ≤ s.length) : -9223372036854775807 ≤ dN (s.take k) ∧ dN (s.take k) ≤ (txS s : Int) := by
  have h1 := dN_le h k
  have h2 := txS_take s k
  refine ⟨?_, by omega⟩
  cases k with
  | zero => simp [dN]
  | succ k =>
    obtain ⟨x, hx⟩ : ∃ x, s[k]? = some x := ⟨_, List.getElem?_eq_getElem (by omega)⟩
    have h3 := (fit_dN h k x hx).2
    have h4 := hi x (List.mem_of_getElem? hx)
    omega
end Go.Proofs.Ytinanagjoaaacaa
