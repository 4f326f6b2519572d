/-
  The example that the laws ask first, walked: it answers true.
-/
import Derived.Test.YtakhglnffhgfiaaDoorW11
import Derived.Test.YtakhglnffhgfiaaDoorP4
namespace Go.Proofs.YtakhglnffhgfiaaDoor
open Go.RowKit Go.Lib

def exL : List UInt8 := [97, 195, 169, 226, 130, 172, 240, 157, 132, 158]
def badL : List UInt8 := [255, 97]
theorem ex1 : unitA exL 6 = (3, 0) := by kernel_rfl
theorem ex2 : byteA exL 5 = (10, 0) := by kernel_rfl
theorem ex3 : byteA exL 4 = (0, 60) := by kernel_rfl
theorem ex4 : unitA exL 2 = (0, 60) := by kernel_rfl
theorem ex5 : validD exL = true := by kernel_rfl
theorem ex6 : len16 exL = 5 := by kernel_rfl
theorem ex7 : len16 badL = 2 := by kernel_rfl
theorem ex8 : validD badL = false := by kernel_rfl

theorem grows_unit {w : World} (hT : Tabs w) (s : ByteArray) (q : Int) (hs : s.size ≤ 2305843009213693952) (r1 r2 : Int) (h : unitA s.data.toList q = (r1, r2)) : Grows 16 #[.string s, .int .i64 q] w (.tuple #[.int .i64 r1, .int .i64 r2]) := by
  have := grows_of hT fun W hW => unit_any s q W hs hW
  rw [h] at this
  exact this
theorem grows_byte {w : World} (hT : Tabs w) (s : ByteArray) (q : Int) (hs : s.size ≤ 2305843009213693952) (r1 r2 : Int) (h : byteA s.data.toList q = (r1, r2)) : Grows 18 #[.string s, .int .i64 q] w (.tuple #[.int .i64 r1, .int .i64 r2]) := by
  have := grows_of hT fun W hW => byte_any s q W hs hW
  rw [h] at this
  exact this
theorem grows_valid {w : World} (hT : Tabs w) (s : ByteArray) (hs : s.size ≤ 2305843009213693952) (r : Bool) (h : validD s.data.toList = r) : Grows 20 #[.string s] w (.bool r) := by
  have := grows_of hT fun W hW => valid_any s W (by omega) hW
  rw [h] at this
  exact this
theorem grows_len16 {w : World} (hT : Tabs w) (s : ByteArray) (hs : s.size ≤ 2305843009213693952) (r : Nat) (h : len16 s.data.toList = r) : Grows 22 #[.string s] w (.int .i64 r) := by
  have := grows_of hT fun W hW => len16_any s W hs hW
  rw [h] at this
  exact this

set_option maxHeartbeats 1000000 in
theorem works_any (w : World) (hT : Tabs w) : Calls Tryd.prog 24 #[] w fun e w' => e = .returned (.bool true) ∧ Below w.heap.size w w' := by
  have c1 := grows_unit hT ⟨#[97, 195, 169, 226, 130, 172, 240, 157, 132, 158]⟩ 6 (by decide) 3 0 ex1
  have c2 := grows_byte hT ⟨#[97, 195, 169, 226, 130, 172, 240, 157, 132, 158]⟩ 5 (by decide) 10 0 ex2
  have c3 := grows_byte hT ⟨#[97, 195, 169, 226, 130, 172, 240, 157, 132, 158]⟩ 4 (by decide) 0 60 ex3
  have c4 := grows_unit hT ⟨#[97, 195, 169, 226, 130, 172, 240, 157, 132, 158]⟩ 2 (by decide) 0 60 ex4
  have c5 := grows_valid hT ⟨#[97, 195, 169, 226, 130, 172, 240, 157, 132, 158]⟩ (by decide) true ex5
  have c6 := grows_len16 hT ⟨#[97, 195, 169, 226, 130, 172, 240, 157, 132, 158]⟩ (by decide) 5 ex6
  have c7 := grows_len16 hT ⟨#[255, 97]⟩ (by decide) 2 ex7
  have c8 := grows_valid hT ⟨#[255, 97]⟩ (by decide) false ex8
  have h0 := Below.refl w.heap.size w
  clear hT
  go_enter Tryd.func24, Tryd.ntmps24
  go_wp2_with fail
  refine (c1 _ h0).mono ?_
  rintro e w1 ⟨rfl, h1⟩
  go_wp2_with fail
  refine (c2 _ h1).mono ?_
  rintro e w2 ⟨rfl, h2⟩
  go_wp2_with fail
  refine (c3 _ h2).mono ?_
  rintro e w3 ⟨rfl, h3⟩
  go_wp2_with fail
  refine (c4 _ h3).mono ?_
  rintro e w4 ⟨rfl, h4⟩
  go_wp2_with fail
  refine (c5 _ h4).mono ?_
  rintro e w5 ⟨rfl, h5⟩
  go_wp2_with fail
  refine (c6 _ h5).mono ?_
  rintro e w6 ⟨rfl, h6⟩
  go_wp2_with fail
  refine (c7 _ h6).mono ?_
  rintro e w7 ⟨rfl, h7⟩
  go_wp2_with fail
  refine (c8 _ h7).mono ?_
  rintro e w8 ⟨rfl, h8⟩
  go_wp2
  go_ret
  exact ⟨rfl, h8⟩

theorem append_list (a b : ByteArray) : (a ++ b).data.toList = a.data.toList ++ b.data.toList := by simp [ByteArray.data_append]
theorem append_size (a b : ByteArray) : (a ++ b).size = a.size + b.size := ByteArray.size_append

set_option maxHeartbeats 1000000 in
theorem sums_long (a b : ByteArray) (w : World) (h : 3000 < (a.size : Int) ∨ 3000 < (b.size : Int)) (hT : Tabs w) :
    Calls Tryd.prog 5 #[.string a, .string b] w fun e w' => e = .returned (.bool true) ∧ Below w.heap.size w w' := by
  have c24 := grows_of hT fun W hW => works_any W hW
  have h0 := Below.refl w.heap.size w
  clear hT
  by_cases ha : 3000 < (a.size : Int)
  · clear h
    go_enter Tryd.func5, Tryd.ntmps5
    go_wp2_with (go_at_call 24; refine (c24 _ (by assumption)).mono ?_; rintro e w' ⟨rfl, hb1⟩)
    go_ret
    exact ⟨rfl, by assumption⟩
  · have hb : 3000 < (b.size : Int) := by omega
    clear h
    go_enter Tryd.func5, Tryd.ntmps5
    go_wp2_with (go_at_call 24; refine (c24 _ (by assumption)).mono ?_; rintro e w' ⟨rfl, hb1⟩)
    go_ret
    exact ⟨rfl, by assumption⟩

set_option maxHeartbeats 1000000 in
theorem sums_law (a b : ByteArray) (w : World) (ha : (a.size : Int) ≤ 3000) (hb : (b.size : Int) ≤ 3000) (hT : Tabs w) :
    Calls Tryd.prog 5 #[.string a, .string b] w fun e w' => e = .returned (.bool true) ∧ Below w.heap.size w w' := by
  have c24 := grows_of hT fun W hW => works_any W hW
  have h0 := Below.refl w.heap.size w
  by_cases hv : validD a.data.toList = true
  · have c20 := grows_valid hT a (by omega) true hv
    have cu := grows_unit hT (a ++ b) (a.size : Int) (by rw [append_size]; omega) (len16 a.data.toList : Nat) 0 (by rw [append_list, Lib.size_eq]; exact unit_seam hv)
    have c1 := grows_len16 hT a (by omega) _ rfl
    have c2 := grows_len16 hT b (by omega) _ rfl
    have c3 := grows_len16 hT (a ++ b) (by rw [append_size]; omega) (len16 a.data.toList + len16 b.data.toList) (by rw [append_list]; exact len16_append _ _ _ (Nat.le_refl _) hv)
    have c4 := grows_valid hT b (by omega) _ rfl
    have c5 := grows_valid hT (a ++ b) (by rw [append_size]; omega) (validD b.data.toList) (by rw [append_list]; exact validD_append _ _ _ (Nat.le_refl _) hv)
    have n1 : (len16 a.data.toList : Int) ≤ 6000 := by have := len16_le a.data.toList; rw [← Lib.size_eq] at this; omega
    have n2 : (len16 b.data.toList : Int) ≤ 6000 := by have := len16_le b.data.toList; rw [← Lib.size_eq] at this; omega
    generalize len16 a.data.toList = m1 at cu c1 c3 n1
    generalize len16 b.data.toList = m2 at c2 c3 n2
    generalize validD b.data.toList = v at c4 c5
    clear hT hv
    go_enter Tryd.func5, Tryd.ntmps5
    go_wp2_with (first | (go_at_call 24; refine (c24 _ (by assumption)).mono ?_; rintro e w' ⟨rfl, hb1⟩) | (go_at_call 20; refine (c20 _ (by assumption)).mono ?_; rintro e w' ⟨rfl, hb2⟩) | (go_at_call 16; refine (cu _ (by assumption)).mono ?_; rintro e w1 ⟨rfl, h1⟩; clear cu c20 c24))
    refine (c1 _ h1).mono ?_
    rintro e w2 ⟨rfl, h2⟩
    go_wp2_with fail
    refine (c2 _ h2).mono ?_
    rintro e w3 ⟨rfl, h3⟩
    go_wp2_with fail
    refine (c3 _ h3).mono ?_
    rintro e w4 ⟨rfl, h4⟩
    go_wp2_with fail
    refine (c4 _ h4).mono ?_
    rintro e w5 ⟨rfl, h5⟩
    go_wp2_with fail
    refine (c5 _ h5).mono ?_
    rintro e w6 ⟨rfl, h6⟩
    go_wp2_with fail
    refine (c1 _ h6).mono ?_
    rintro e w7 ⟨rfl, h7⟩
    go_wp2
    go_ret
    exact ⟨rfl, h7⟩
  · have hv' : validD a.data.toList = false := by simpa using hv
    have c20 := grows_valid hT a (by omega) false hv'
    have c21 := grows_valid hT (a ++ ⟨#[120]⟩) (by rw [append_size]; have : (⟨#[120]⟩ : ByteArray).size = 1 := rfl; omega) false (by rw [append_list]; exact validD_x _ _ (Nat.le_refl _) hv')
    clear hT hv hv'
    go_enter Tryd.func5, Tryd.ntmps5
    go_wp2_with (first | (go_at_call 24; refine (c24 _ (by assumption)).mono ?_; rintro e w' ⟨rfl, hb1⟩; clear c24))
    refine (c20 _ (by assumption)).mono ?_
    rintro e w1 ⟨rfl, h1⟩
    go_wp2_with fail
    refine (c21 _ h1).mono ?_
    rintro e w2 ⟨rfl, h2⟩
    go_wp2
    go_ret
    exact ⟨rfl, h2⟩
end Go.Proofs.YtakhglnffhgfiaaDoor
