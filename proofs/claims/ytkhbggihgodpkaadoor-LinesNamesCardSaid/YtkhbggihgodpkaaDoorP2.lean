/-
  Plain: a text's characters, as places and units; how many units; which stand ahead of a byte; the byte behind any number of them.
-/
import Derived.Test.YtkhbggihgodpkaaDoorP1
namespace Go.Proofs.YtkhbggihgodpkaaDoor
open Go.Lib

def uB (b : Bool) : Nat := if b then 2 else 1
theorem uB_le (b : Bool) : 1 ≤ uB b ∧ uB b ≤ 2 := by unfold uB; split <;> omega
def two (p : Int) : Bool := decide (65536 ≤ p)
/-- The characters from a place on: each one's place, and its units. -/
def chsF : Nat → Nat → List UInt8 → List (Nat × Bool)
  | 0, _, _ => []
  | f + 1, i, l => if l = [] then [] else (i, two (rn l).1) :: chsF f (i + (rn l).2) (l.drop (rn l).2)
def chs (l : List UInt8) : List (Nat × Bool) := chsF l.length 0 l
theorem chsF_nil : ∀ f i, chsF f i [] = []
  | 0, _ => rfl
  | _ + 1, _ => rfl
theorem chsF_fuel : ∀ (n m i : Nat) (l : List UInt8), l.length ≤ n → l.length ≤ m → chsF n i l = chsF m i l
  | 0, m, i, l, hn, _ => by
    have : l = [] := List.eq_nil_of_length_eq_zero (by omega)
    subst this
    rw [chsF_nil, chsF_nil]
  | n + 1, 0, i, l, _, hm => by
    have : l = [] := List.eq_nil_of_length_eq_zero (by omega)
    subst this
    rw [chsF_nil, chsF_nil]
  | n + 1, m + 1, i, l, hn, hm => by
    by_cases hne : l = []
    · subst hne
      rw [chsF_nil, chsF_nil]
    · have hw := (rn_width l hne).1
      have hl : 0 < l.length := List.length_pos_iff.2 hne
      simp only [chsF, if_neg hne]
      rw [chsF_fuel n m _ _ (by rw [List.length_drop]; omega) (by rw [List.length_drop]; omega)]
/-- From place i on. -/
def chsAt (l : List UInt8) (i : Nat) : List (Nat × Bool) := chsF (l.length - i) i (l.drop i)
theorem chsAt_zero (l : List UInt8) : chsAt l 0 = chs l := by simp [chsAt, chs]
theorem chsAt_end (l : List UInt8) : chsAt l l.length = [] := by simp [chsAt, chsF_nil]
theorem chsAt_step (l : List UInt8) (i : Nat) (h : i < l.length) :
    chsAt l i = (i, two (rn (l.drop i)).1) :: chsAt l (i + (rn (l.drop i)).2) ∧ 1 ≤ (rn (l.drop i)).2 ∧ i + (rn (l.drop i)).2 ≤ l.length := by
  have hne : l.drop i ≠ [] := by
    intro hx
    have := congrArg List.length hx
    simp at this
    omega
  obtain ⟨w1, w2⟩ := rn_width _ hne
  rw [List.length_drop] at w2
  refine ⟨?_, w1, by omega⟩
  obtain ⟨m, hm⟩ : ∃ m, l.length - i = m + 1 := ⟨l.length - i - 1, by omega⟩
  unfold chsAt
  rw [hm]
  simp only [chsF, if_neg hne, List.drop_drop]
  rw [chsF_fuel m (l.length - (i + (rn (l.drop i)).2)) _ _ (by rw [List.length_drop]; omega) (by rw [List.length_drop]; omega)]

def sumU (xs : List (Nat × Bool)) : Nat := (xs.map fun x => uB x.2).sum
theorem sumU_append (a b : List (Nat × Bool)) : sumU (a ++ b) = sumU a + sumU b := by simp [sumU]
theorem sumU_snoc (a : List (Nat × Bool)) (x : Nat × Bool) : sumU (a ++ [x]) = sumU a + uB x.2 := by simp [sumU]
theorem sumU_cons (a : List (Nat × Bool)) (x : Nat × Bool) : sumU (x :: a) = uB x.2 + sumU a := by simp [sumU]
theorem sumU_nil : sumU [] = 0 := rfl
theorem sumU_len : ∀ xs : List (Nat × Bool), sumU xs ≤ 2 * xs.length
  | [] => Nat.le_refl _
  | x :: xs => by
    rw [sumU_cons, List.length_cons]
    have := sumU_len xs
    have := (uB_le x.2).2
    omega
theorem chsF_length : ∀ f i l, (chsF f i l).length ≤ f
  | 0, _, _ => Nat.le_refl _
  | f + 1, i, l => by
    unfold chsF
    split
    · simp
    · rw [List.length_cons]
      have := chsF_length f (i + (rn l).2) (l.drop (rn l).2)
      omega
theorem chs_length (l : List UInt8) : (chs l).length ≤ l.length := chsF_length _ _ _
theorem sumU_prefix {a b : List (Nat × Bool)} (h : a <+: b) : sumU a ≤ sumU b := by
  obtain ⟨c, rfl⟩ := h
  rw [sumU_append]; omega
theorem sumU_chs (l : List UInt8) : sumU (chs l) ≤ 2 * l.length := by
  have := sumU_len (chs l)
  have := chs_length l
  omega

/-- How many units: a text's. -/
def len16 (l : List UInt8) : Nat := sumU (chs l)

/-- Looking for a byte among characters: the answer with which it is left early, if it is. -/
def uScan (at' : Int) : Nat → List (Nat × Bool) → Option (Int × Int)
  | _, [] => none
  | n, x :: r => if (x.1 : Int) = at' then some (n, 0) else if at' < (x.1 : Int) then some (0, 60) else uScan at' (n + uB x.2) r
def unitA (l : List UInt8) (at' : Int) : Int × Int :=
  if at' < 0 ∨ (l.length : Int) < at' then (0, 1) else match uScan at' 0 (chs l) with
    | some r => r
    | none => if at' < (l.length : Int) then (0, 60) else (len16 l, 0)
theorem uScan_append (at' : Int) : ∀ (n : Nat) (a b : List (Nat × Bool)), uScan at' n (a ++ b) = match uScan at' n a with | some r => some r | none => uScan at' (n + sumU a) b
  | n, [], b => by simp [uScan, sumU]
  | n, x :: a, b => by
    simp only [List.cons_append, uScan]
    split
    · rfl
    · split
      · rfl
      · rw [uScan_append at' (n + uB x.2) a b, sumU_cons, Nat.add_assoc]

/-- Looking for a number of units. -/
def bScan (u : Int) : Nat → List (Nat × Bool) → Option (Int × Int)
  | _, [] => none
  | n, x :: r => if (n : Int) = u then some (x.1, 0) else if u < (n : Int) then some (0, 60) else bScan u (n + uB x.2) r
def byteA (l : List UInt8) (u : Int) : Int × Int :=
  if u < 0 then (0, 1) else match bScan u 0 (chs l) with
    | some r => r
    | none => if (len16 l : Int) = u then (l.length, 0) else if u < (len16 l : Int) then (0, 60) else (0, 1)
theorem bScan_append (u : Int) : ∀ (n : Nat) (a b : List (Nat × Bool)), bScan u n (a ++ b) = match bScan u n a with | some r => some r | none => bScan u (n + sumU a) b
  | n, [], b => by simp [bScan, sumU]
  | n, x :: a, b => by
    simp only [List.cons_append, bScan]
    split
    · rfl
    · split
      · rfl
      · rw [bScan_append u (n + uB x.2) a b, sumU_cons, Nat.add_assoc]
theorem unitA_some {l : List UInt8} {q : Int} {pre : List (Nat × Bool)} {r : Int × Int} (h0 : 0 ≤ q) (h1 : q ≤ (l.length : Int)) (hp : pre <+: chs l) (h : uScan q 0 pre = some r) : unitA l q = r := by
  obtain ⟨c, hc⟩ := hp
  unfold unitA
  rw [if_neg (by omega), ← hc, uScan_append, h]
theorem unitA_none {l : List UInt8} {q : Int} (h0 : 0 ≤ q) (h1 : q ≤ (l.length : Int)) (h : uScan q 0 (chs l) = none) : unitA l q = if q < (l.length : Int) then (0, 60) else ((len16 l : Int), 0) := by
  unfold unitA
  rw [if_neg (by omega), h]
theorem uScan_yes {q : Int} {pre : List (Nat × Bool)} {x : Nat × Bool} (h : uScan q 0 pre = none) (hx : (x.1 : Int) = q) : uScan q 0 (pre ++ [x]) = some ((sumU pre : Int), 0) := by
  rw [uScan_append, h]; simp [uScan, hx]
theorem uScan_past {q : Int} {pre : List (Nat × Bool)} {x : Nat × Bool} (h : uScan q 0 pre = none) (hx : q < (x.1 : Int)) : uScan q 0 (pre ++ [x]) = some (0, 60) := by
  rw [uScan_append, h]; simp only [uScan]; rw [if_neg (by omega), if_pos hx]
theorem uScan_on {q : Int} {pre : List (Nat × Bool)} {x : Nat × Bool} (h : uScan q 0 pre = none) (hx : (x.1 : Int) < q) : uScan q 0 (pre ++ [x]) = none := by
  rw [uScan_append, h]; simp only [uScan]; rw [if_neg (by omega), if_neg (by omega)]
theorem byteA_some {l : List UInt8} {q : Int} {pre : List (Nat × Bool)} {r : Int × Int} (h0 : 0 ≤ q) (hp : pre <+: chs l) (h : bScan q 0 pre = some r) : byteA l q = r := by
  obtain ⟨c, hc⟩ := hp
  unfold byteA
  rw [if_neg (by omega), ← hc, bScan_append, h]
theorem byteA_none {l : List UInt8} {q : Int} (h0 : 0 ≤ q) (h : bScan q 0 (chs l) = none) : byteA l q = if (len16 l : Int) = q then ((l.length : Int), 0) else if q < (len16 l : Int) then (0, 60) else (0, 1) := by
  unfold byteA
  rw [if_neg (by omega), h]
theorem bScan_yes {q : Int} {pre : List (Nat × Bool)} {x : Nat × Bool} (h : bScan q 0 pre = none) (hx : (sumU pre : Int) = q) : bScan q 0 (pre ++ [x]) = some ((x.1 : Int), 0) := by
  rw [bScan_append, h]; simp [bScan, hx]
theorem bScan_past {q : Int} {pre : List (Nat × Bool)} {x : Nat × Bool} (h : bScan q 0 pre = none) (hx : q < (sumU pre : Int)) : bScan q 0 (pre ++ [x]) = some (0, 60) := by
  rw [bScan_append, h]; simp only [bScan, Nat.zero_add]; rw [if_neg (by omega), if_pos hx]
theorem bScan_on {q : Int} {pre : List (Nat × Bool)} {x : Nat × Bool} (h : bScan q 0 pre = none) (hx : (sumU pre : Int) < q) : bScan q 0 (pre ++ [x]) = none := by
  rw [bScan_append, h]; simp only [bScan, Nat.zero_add]; rw [if_neg (by omega), if_neg (by omega)]
end Go.Proofs.YtkhbggihgodpkaaDoor
