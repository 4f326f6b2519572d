/-
  Plain: the reference's size of a character is the decoder's.
-/
import Derived.Test.YtkhbggihgodpkaaDoorP6
namespace Go.Proofs.YtkhbggihgodpkaaDoor
open Go.Lib

def sizeN (n b0 b1 b2 b3 : Nat) : Nat :=
  if b0 < 128 then 1
  else if 194 ≤ b0 ∧ b0 ≤ 223 then (if 2 ≤ n ∧ (128 ≤ b1 ∧ b1 ≤ 191) then 2 else 0)
  else if 224 ≤ b0 ∧ b0 ≤ 239 then (if 3 ≤ n ∧ (128 ≤ b1 ∧ b1 ≤ 191) ∧ (128 ≤ b2 ∧ b2 ≤ 191) ∧ ¬ (b0 = 224 ∧ b1 < 160) ∧ ¬ (b0 = 237 ∧ 159 < b1) then 3 else 0)
  else if 240 ≤ b0 ∧ b0 ≤ 244 then (if 4 ≤ n ∧ (128 ≤ b1 ∧ b1 ≤ 191) ∧ (128 ≤ b2 ∧ b2 ≤ 191) ∧ (128 ≤ b3 ∧ b3 ≤ 191) ∧ ¬ (b0 = 240 ∧ b1 < 144) ∧ ¬ (b0 = 244 ∧ 143 < b1) then 4 else 0)
  else 0
set_option maxHeartbeats 4000000 in
theorem sizeN_decode (n b0 b1 b2 b3 : Nat) (h0 : b0 < 256) (h1 : b1 < 256) (h2 : b2 < 256) (h3 : b3 < 256) :
    sizeN n b0 b1 b2 b3 = (if (decodeN n b0 b1 b2 b3).1 = 65533 ∧ (decodeN n b0 b1 b2 b3).2 = 1 then 0 else (decodeN n b0 b1 b2 b3).2) := by
  unfold sizeN decodeN
  repeat' split
  all_goals (try dsimp only at *)
  all_goals omega
set_option maxHeartbeats 4000000 in
theorem sizeN_four (n b0 b1 b2 b3 : Nat) (h0 : b0 < 256) (h1 : b1 < 256) (h2 : b2 < 256) (h3 : b3 < 256) :
    sizeN n b0 b1 b2 b3 = 4 ↔ 65536 ≤ (decodeN n b0 b1 b2 b3).1 := by
  unfold sizeN decodeN
  repeat' split
  all_goals (try dsimp only at *)
  all_goals first | omega | (simp only [eq_self, true_iff, false_iff]; omega)

/-- The size of the character at a list's beginning; 0: there is none. -/
def szL (l : List UInt8) : Nat := sizeN l.length (l.getD 0 0).toNat (l.getD 1 0).toNat (l.getD 2 0).toNat (l.getD 3 0).toNat
theorem szL_rn {l : List UInt8} (h : l ≠ []) : szL l = if (rn l).1 < 0 then 0 else (rn l).2 := by
  unfold szL rn
  rw [sizeN_decode _ _ _ _ _ (UInt8.toNat_lt _) (UInt8.toNat_lt _) (UInt8.toNat_lt _) (UInt8.toNat_lt _), if_neg h, decodeL_N]
  split
  · rfl
  · rw [if_neg (by omega)]
theorem szL_four {l : List UInt8} (h : l ≠ []) : decide (szL l = 4) = two (rn l).1 := by
  unfold szL rn two
  rw [if_neg h]
  have := sizeN_four l.length (l.getD 0 0).toNat (l.getD 1 0).toNat (l.getD 2 0).toNat (l.getD 3 0).toNat (UInt8.toNat_lt _) (UInt8.toNat_lt _) (UInt8.toNat_lt _) (UInt8.toNat_lt _)
  rw [← decodeL_N] at this
  rw [decide_eq_decide, this]
  split
  · rename_i h1
    rw [h1.1]
    omega
  · show _ ↔ (65536 : Int) ≤ ((decodeL l).1 : Int)
    omega
theorem szL_le {l : List UInt8} : szL l ≤ l.length ∨ l = [] := by
  by_cases h : l = []
  · exact .inr h
  · left
    rw [szL_rn h]
    have := rn_width l h
    split <;> omega
end Go.Proofs.YtkhbggihgodpkaaDoor
