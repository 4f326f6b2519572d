/-
  Plain laws of UTF-8: a put character reads again; the reference's search for the first character finds the decoder's.
-/
import Derived.Lib.MapLaws
import Derived.Lib.ValidAsc
namespace Go.Proofs.YtkhbggihgodpkaaDoor
open Go.Lib

def putL (p : Int) : List UInt8 := if 0 ≤ p ∧ p ≤ 1114111 ∧ ¬ (55296 ≤ p ∧ p < 57344) then encodeRune p else []
/-- The first character: its code point (-1: none) and how many bytes it has. -/
def rn (l : List UInt8) : Int × Nat :=
  if l = [] then (-1, 0) else if (decodeL l).1 = 65533 ∧ (decodeL l).2 = 1 then (-1, 1) else (((decodeL l).1 : Int), (decodeL l).2)

theorem putL_ok {p : Int} (h : 0 ≤ p ∧ p ≤ 1114111 ∧ ¬ (55296 ≤ p ∧ p < 57344)) : putL p = encodeRune p := if_pos h
theorem putL_no {p : Int} (h : ¬ (0 ≤ p ∧ p ≤ 1114111 ∧ ¬ (55296 ≤ p ∧ p < 57344))) : putL p = [] := if_neg h
theorem toNat_byte (z : Int) (h0 : 0 ≤ z) (h1 : z < 256) : (z.toNat.toUInt8).toNat = z.toNat := by
  simp only [Nat.toUInt8_eq, UInt8.toNat_ofNat']
  omega

theorem decodeL_put (p : Int) (h : 0 ≤ p ∧ p ≤ 1114111 ∧ ¬ (55296 ≤ p ∧ p < 57344)) (r : List UInt8) :
    decodeL (putL p ++ r) = (p.toNat, (putL p).length) := by
  rw [putL_ok h, decodeL_N]
  unfold encodeRune
  by_cases c1 : p ≤ 127
  · rw [encodeRuneZ_one (by omega) c1]
    have e0 := toNat_byte p (by omega) (by omega)
    simp only [List.map_cons, List.map_nil, List.cons_append, List.nil_append, List.getD_cons_zero, List.getD_cons_succ, List.length_cons, List.length_nil]
    rw [e0]
    unfold decodeN
    rw [if_pos (by omega)]
  by_cases c2 : p ≤ 2047
  · rw [encodeRuneZ_two (by omega) c2]
    have e0 := toNat_byte (192 + p / 64) (by omega) (by omega)
    have e1 := toNat_byte (128 + p % 64) (by omega) (by omega)
    simp only [List.map_cons, List.map_nil, List.cons_append, List.nil_append, List.getD_cons_zero, List.getD_cons_succ, List.length_cons, List.length_nil]
    rw [e0, e1]
    unfold decodeN
    rw [if_neg (by omega), if_pos (by omega), if_pos (by omega)]
    apply Prod.ext
    · dsimp only; omega
    · rfl
  by_cases c3 : p ≤ 65535
  · rw [encodeRuneZ_three (by omega)]
    have e0 := toNat_byte (224 + p / 4096) (by omega) (by omega)
    have e1 := toNat_byte (128 + p / 64 % 64) (by omega) (by omega)
    have e2 := toNat_byte (128 + p % 64) (by omega) (by omega)
    simp only [List.map_cons, List.map_nil, List.cons_append, List.nil_append, List.getD_cons_zero, List.getD_cons_succ, List.length_cons, List.length_nil]
    rw [e0, e1, e2]
    unfold decodeN
    rw [if_neg (by omega), if_neg (by omega), if_pos (by omega), if_pos (by omega)]
    apply Prod.ext
    · dsimp only; omega
    · rfl
  · rw [encodeRuneZ_four (by omega) (by omega)]
    have e0 := toNat_byte (240 + p / 262144) (by omega) (by omega)
    have e1 := toNat_byte (128 + p / 4096 % 64) (by omega) (by omega)
    have e2 := toNat_byte (128 + p / 64 % 64) (by omega) (by omega)
    have e3 := toNat_byte (128 + p % 64) (by omega) (by omega)
    simp only [List.map_cons, List.map_nil, List.cons_append, List.nil_append, List.getD_cons_zero, List.getD_cons_succ, List.length_cons, List.length_nil]
    rw [e0, e1, e2, e3]
    unfold decodeN
    rw [if_neg (by omega), if_neg (by omega), if_neg (by omega), if_pos (by omega), if_pos (by omega)]
    apply Prod.ext
    · dsimp only; omega
    · rfl

theorem putL_length (p : Int) : (putL p).length = if 0 ≤ p ∧ p ≤ 1114111 ∧ ¬ (55296 ≤ p ∧ p < 57344) then (if p ≤ 127 then 1 else if p ≤ 2047 then 2 else if p ≤ 65535 then 3 else 4) else 0 := by
  unfold putL encodeRune encodeRuneZ
  repeat' split
  all_goals first | rfl | (exfalso; omega)

theorem rn_put (p : Int) (h : 0 ≤ p ∧ p ≤ 1114111 ∧ ¬ (55296 ≤ p ∧ p < 57344)) (r : List UInt8) : rn (putL p ++ r) = (p, (putL p).length) := by
  have hl := putL_length p
  rw [if_pos h] at hl
  have hne : putL p ++ r ≠ [] := by
    intro hx
    have : (putL p).length = 0 := by rw [(List.append_eq_nil_iff.1 hx).1]; rfl
    split at hl
    · omega
    · split at hl
      · omega
      · split at hl <;> omega
  unfold rn
  rw [if_neg hne, decodeL_put p h]
  rw [if_neg]
  · dsimp only
    rw [Int.toNat_of_nonneg h.1]
  · rintro ⟨h1, h2⟩
    dsimp only at h1 h2
    rw [h2] at hl
    split at hl
    · omega
    · split at hl
      · omega
      · split at hl <;> omega

/-- The bits of a list of one to four bytes, as the reference has them. -/
def bitsTo (l : List UInt8) (n : Nat) : Nat → Int
  | 0 => 0
  | 1 => ((l.getD 0 0).toNat : Int) - (if n = 2 then 192 else if n = 3 then 224 else if n = 4 then 240 else 0)
  | k + 2 => bitsTo l n (k + 1) * 64 + ((l.getD (k + 1) 0).toNat : Int) - 128
def bitsL (l : List UInt8) : Int := if l.length = 1 then ((l.getD 0 0).toNat : Int) else bitsTo l l.length l.length

/-- Is the code point of the first n bytes theirs? -/
def hit (l : List UInt8) (n : Nat) : Bool := decide (0 ≤ bitsL (l.take n)) && decide (putL (bitsL (l.take n)) = l.take n)

theorem rn_hit (l : List UInt8) (n : Nat) (h1 : 1 ≤ n) (h4 : n ≤ l.length) (h : hit l n = true) : rn l = (bitsL (l.take n), n) := by
  unfold hit at h
  simp only [Bool.and_eq_true, decide_eq_true_eq] at h
  obtain ⟨_, hp⟩ := h
  have hlen : (putL (bitsL (l.take n))).length = n := by rw [hp, List.length_take]; omega
  have hok : 0 ≤ bitsL (l.take n) ∧ bitsL (l.take n) ≤ 1114111 ∧ ¬ (55296 ≤ bitsL (l.take n) ∧ bitsL (l.take n) < 57344) := by
    refine Decidable.byContradiction fun hx => ?_
    rw [putL_no hx] at hlen
    simp at hlen
    omega
  have := rn_put _ hok (l.drop n)
  rw [hlen, hp, List.take_append_drop] at this
  exact this

theorem getD_take (l : List UInt8) (n i : Nat) (h : i < n) : (l.take n).getD i 0 = l.getD i 0 := by
  simp [List.getD, h]
theorem length_take_le' (l : List UInt8) (n : Nat) (h : n ≤ l.length) : (l.take n).length = n := by rw [List.length_take]; omega

theorem bits_decode (l : List UInt8) (hne : l ≠ []) (hv : ¬ ((decodeL l).1 = 65533 ∧ (decodeL l).2 = 1)) :
    bitsL (l.take (decodeL l).2) = (decodeL l).1 ∧ (decodeL l).2 ≤ 4 ∧ ¬ (55296 ≤ (decodeL l).1 ∧ (decodeL l).1 < 57344) ∧ (decodeL l).1 ≤ 1114111 := by
  have hl : 0 < l.length := List.length_pos_iff.2 hne
  rw [decodeL_N] at hv ⊢
  have k0 := (l.getD 0 0).toNat_lt
  have k1 := (l.getD 1 0).toNat_lt
  have k2 := (l.getD 2 0).toNat_lt
  have k3 := (l.getD 3 0).toNat_lt
  unfold bitsL
  rcases decodeN_shape l.length (l.getD 0 0).toNat (l.getD 1 0).toNat (l.getD 2 0).toNat (l.getD 3 0).toNat with ⟨c, e⟩ | ⟨c1, c2, c3, cv, e⟩ | ⟨c1, c2, c3, c4, cv, cs, e⟩ | ⟨c1, c2, c3, c4, c5, cv, cw, e⟩ | e
  · rw [e]
    dsimp only
    rw [length_take_le' l 1 (by omega), if_pos rfl, getD_take _ _ _ (by omega)]
    omega
  · rw [e]
    dsimp only
    rw [length_take_le' l 2 (by omega), if_neg (by omega)]
    simp only [bitsTo, getD_take _ 2 _ (show 0 < 2 by omega), getD_take _ 2 _ (show 1 < 2 by omega), Nat.zero_add, if_true]
    omega
  · rw [e]
    dsimp only
    rw [length_take_le' l 3 (by omega), if_neg (by omega)]
    simp only [bitsTo, getD_take _ 3 _ (show 0 < 3 by omega), getD_take _ 3 _ (show 1 < 3 by omega), getD_take _ 3 _ (show 2 < 3 by omega), Nat.zero_add, Nat.reduceAdd, Nat.reduceEqDiff, if_true, if_false]
    omega
  · rw [e]
    dsimp only
    rw [length_take_le' l 4 (by omega), if_neg (by omega)]
    simp only [bitsTo, getD_take _ 4 _ (show 0 < 4 by omega), getD_take _ 4 _ (show 1 < 4 by omega), getD_take _ 4 _ (show 2 < 4 by omega), getD_take _ 4 _ (show 3 < 4 by omega), Nat.zero_add, Nat.reduceAdd, Nat.reduceEqDiff, if_true, if_false]
    omega
  · rw [e] at hv
    exact absurd ⟨rfl, rfl⟩ hv

theorem rn_miss (l : List UInt8) (hne : l ≠ []) (h : ∀ n, 1 ≤ n → n ≤ 4 → n ≤ l.length → hit l n = false) : rn l = (-1, 1) := by
  unfold rn
  rw [if_neg hne]
  refine Decidable.byContradiction fun hx => ?_
  by_cases hv : (decodeL l).1 = 65533 ∧ (decodeL l).2 = 1
  · rw [if_pos hv] at hx
    exact hx rfl
  · obtain ⟨hb, h4, hs, hm⟩ := bits_decode l hne hv
    have he := encode_decode l hne hv
    have := h (decodeL l).2 (decodeL_width l) h4 (decodeL_le l hne)
    unfold hit at this
    rw [hb, putL_ok (by omega), he] at this
    simp at this

theorem bitsTo_bound (l : List UInt8) (n : Nat) : ∀ k, k ≤ 4 → -100000000 ≤ bitsTo l n k ∧ bitsTo l n k ≤ 100000000
  | 0, _ => by simp [bitsTo]
  | 1, _ => by
    have k0 := (l.getD 0 0).toNat_lt
    simp only [bitsTo]
    repeat' split
    all_goals omega
  | 2, _ => by
    have k0 := (l.getD 0 0).toNat_lt
    have k1 := (l.getD 1 0).toNat_lt
    simp only [bitsTo, Nat.zero_add]
    repeat' split
    all_goals omega
  | 3, _ => by
    have k0 := (l.getD 0 0).toNat_lt
    have k1 := (l.getD 1 0).toNat_lt
    have k2 := (l.getD 2 0).toNat_lt
    simp only [bitsTo, Nat.zero_add, Nat.reduceAdd]
    repeat' split
    all_goals omega
  | 4, _ => by
    have k0 := (l.getD 0 0).toNat_lt
    have k1 := (l.getD 1 0).toNat_lt
    have k2 := (l.getD 2 0).toNat_lt
    have k3 := (l.getD 3 0).toNat_lt
    simp only [bitsTo, Nat.zero_add, Nat.reduceAdd]
    repeat' split
    all_goals omega
  | k + 5, h => by omega
theorem rn_width (l : List UInt8) (hne : l ≠ []) : 1 ≤ (rn l).2 ∧ (rn l).2 ≤ l.length := by
  have hl : 0 < l.length := List.length_pos_iff.2 hne
  have h1 := decodeL_width l
  have h2 := decodeL_le l hne
  unfold rn
  rw [if_neg hne]
  split
  · exact ⟨Nat.le_refl _, hl⟩
  · exact ⟨h1, h2⟩
theorem rn_point (l : List UInt8) : -1 ≤ (rn l).1 ∧ (rn l).1 ≤ 1114111 := by
  have := decodeL_rune l
  unfold rn
  repeat' split
  all_goals (simp only; omega)
end Go.Proofs.YtkhbggihgodpkaaDoor
