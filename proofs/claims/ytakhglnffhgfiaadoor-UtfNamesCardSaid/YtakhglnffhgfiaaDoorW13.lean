/-
  The law UtfBack, walked: it answers true.
-/
import Derived.Test.YtakhglnffhgfiaaDoorW12
namespace Go.Proofs.YtakhglnffhgfiaaDoor
open Go.RowKit Go.Lib

theorem Grows.go {f : Nat} {args : Array Value} {w : World} {v : Value} (h : Grows f args w v) (W : World) (hW : Below w.heap.size w W) : Calls Tryd.prog f args W fun e w' => e = .returned v ∧ Below w.heap.size w w' := h W hW
theorem grows_rune {w : World} (hT : Tabs w) (s : ByteArray) (r1 : Int) (r2 : Nat) (h : rn s.data.toList = (r1, r2)) : Grows 8 #[.string s] w (.tuple #[.int .i64 r1, .int .i64 r2]) := by
  have := grows_of hT fun W hW => rune_any s W hW
  rw [h] at this
  exact this
theorem grows_put {w : World} (p : Int) : Grows 14 #[.int .i64 p] w (.string (putB p)) := fun W hW => (put_any p W).mono fun _ _ ⟨he, hw⟩ => ⟨he, hw ▸ hW⟩
theorem grows_halves {w : World} (p a b : Int) (h : halvesI p = (a, b)) : Grows 12 #[.int .i64 p] w (.tuple #[.int .i64 a, .int .i64 b]) := fun W hW => (halves_any p W).mono fun _ _ ⟨he, hw⟩ => ⟨by rw [he, h], hw ▸ hW⟩
theorem grows_pair {w : World} (p q a : Int) (b : Bool) (h : pairI p q = (a, b)) : Grows 10 #[.int .i64 p, .int .i64 q] w (.tuple #[.int .i64 a, .bool b]) := fun W hW => (pair_any p q W).mono fun _ _ ⟨he, hw⟩ => ⟨by rw [he, h], hw ▸ hW⟩

set_option maxHeartbeats 1000000 in
theorem back_long (s : ByteArray) (q p : Int) (w : World) (h : 3000 < (s.size : Int)) (hT : Tabs w) :
    Calls Tryd.prog 7 #[.string s, .int .i64 q, .int .i64 p] w fun e w' => e = .returned (.bool true) ∧ Below w.heap.size w w' := by
  have c24 := grows_of hT fun W hW => works_any W hW
  have h0 := Below.refl w.heap.size w
  clear hT
  go_enter Tryd.func7, Tryd.ntmps7
  go_wp2_with (go_at_call 24; refine (Grows.go c24 _ (by assumption)).mono ?_; rintro e w' ⟨rfl, hb1⟩)
  go_ret
  exact ⟨rfl, by assumption⟩
/-- What is put, put ahead of a text: the facts that the law asks. -/
theorem put_facts {p : Int} (h : putB p ≠ ⟨#[]⟩) : putL p ≠ [] ∧ (putB p).toList.isEmpty = false ∧ (putB p).size = (putL p).length := by
  have hne : putL p ≠ [] := by
    intro hx
    apply h
    have := putB_list p
    rw [hx] at this
    apply ByteArray.ext
    exact Array.toList_inj.1 this
  exact ⟨hne, isEmpty_false (by rw [putB_list]; exact hne), by rw [Lib.size_eq, putB_list]⟩

set_option maxHeartbeats 2000000 in
theorem back_110 (s : ByteArray) (q p : Int) (w : World) (hs : (s.size : Int) ≤ 3000) (hT : Tabs w) (u : Int) (hA : unitA s.data.toList q = (u, 0)) (i : Int) (hB : byteA s.data.toList q = (i, 0)) (hC : putB p = ⟨#[]⟩) :
    Calls Tryd.prog 7 #[.string s, .int .i64 q, .int .i64 p] w fun e w' => e = .returned (.bool true) ∧ Below w.heap.size w w' := by
  have c24 := grows_of hT fun W hW => works_any W hW
  have cu1 := grows_unit hT s q (by omega) u 0 hA
  have cb1 := grows_byte hT s u (by omega) q 0 (back_unit hA)
  have cb2 := grows_byte hT s q (by omega) i 0 hB
  have cu2 := grows_unit hT s i (by omega) q 0 (back_byte hB)
  have c14 := grows_put (w := w) p
  rw [hC] at c14
  have h0 := Below.refl w.heap.size w
  clear hT hA hB hC
  go_enter Tryd.func7, Tryd.ntmps7
  go_wp2_with (first | (go_at_call 24; refine (Grows.go c24 _ (by assumption)).mono ?_; rintro e w' ⟨rfl, hb0⟩; clear c24) | (go_at_call 16; (with_reducible refine (Grows.go cu1 _ (by assumption)).mono ?_); rintro e w' ⟨rfl, hb1⟩; clear cu1) | (go_at_call 18; (with_reducible refine (Grows.go cb1 _ (by assumption)).mono ?_); rintro e w' ⟨rfl, hb2⟩; clear cb1) | (go_at_call 18; (with_reducible refine (Grows.go cb2 _ (by assumption)).mono ?_); rintro e w' ⟨rfl, hb3⟩; clear cb2) | (go_at_call 16; (with_reducible refine (Grows.go cu2 _ (by assumption)).mono ?_); rintro e w' ⟨rfl, hb4⟩; clear cu2) | (go_at_call 14; refine (Grows.go c14 _ (by assumption)).mono ?_; rintro e w' ⟨rfl, hb5⟩; clear c14) | (go_at_call 8; refine (Grows.go c8 _ (by assumption)).mono ?_; rintro e w' ⟨rfl, hb6⟩; clear c8) | (go_at_call 12; refine (Grows.go c12 _ (by assumption)).mono ?_; rintro e w' ⟨rfl, hb7⟩; clear c12) | (go_at_call 10; refine (Grows.go c10 _ (by assumption)).mono ?_; rintro e w' ⟨rfl, hb8⟩; clear c10) | (go_at_call 20; refine (Grows.go c20 _ (by assumption)).mono ?_; rintro e w' ⟨rfl, hb9⟩; clear c20) | (go_at_call 22; refine (Grows.go c22 _ (by assumption)).mono ?_; rintro e w' ⟨rfl, hb10⟩; clear c22))
  go_ret
  exact ⟨rfl, by assumption⟩

set_option maxHeartbeats 2000000 in
theorem back_111 (s : ByteArray) (q p : Int) (w : World) (hs : (s.size : Int) ≤ 3000) (hT : Tabs w) (u : Int) (hA : unitA s.data.toList q = (u, 0)) (i : Int) (hB : byteA s.data.toList q = (i, 0)) (hC : putB p ≠ ⟨#[]⟩) (hp : p < 65536) :
    Calls Tryd.prog 7 #[.string s, .int .i64 q, .int .i64 p] w fun e w' => e = .returned (.bool true) ∧ Below w.heap.size w w' := by
  have c24 := grows_of hT fun W hW => works_any W hW
  have cu1 := grows_unit hT s q (by omega) u 0 hA
  have cb1 := grows_byte hT s u (by omega) q 0 (back_unit hA)
  have cb2 := grows_byte hT s q (by omega) i 0 hB
  have cu2 := grows_unit hT s i (by omega) q 0 (back_byte hB)
  obtain ⟨hne, hemp, hsz⟩ := put_facts hC
  have hok := putL_ne hne
  have c14 := grows_put (w := w) p
  have c8 := grows_rune hT (putB p ++ s) p (putB p).size (by rw [append_list, putB_list, hsz]; exact rn_put p hok _)
  have c20 := grows_valid hT (putB p) (by rw [hsz, putL_length]; repeat' split
                                          all_goals omega) true (by rw [putB_list]; exact put_valid hne)
  have c22 := grows_len16 hT (putB p) (by rw [hsz, putL_length]; repeat' split
                                          all_goals omega) 1 (by rw [putB_list, put_len16 hne]; unfold uB two; rw [decide_eq_false (by omega)]; rfl)
  have c12 := grows_halves (w := w) p 0 0 (halvesI_no (by omega))
  have c10 := grows_pair (w := w) 0 0 0 false (pairI_no (by omega))
  have hsm : (putB p).size ≤ 4 := by
    rw [hsz, putL_length]
    repeat' split
    all_goals omega
  generalize putB p = t at c14 c8 c20 c22 hemp hsm
  clear hne hok hsz hp
  have hroom : ¬ 9223372036854775807 < t.size + s.size := by omega
  have h0 := Below.refl w.heap.size w
  clear hT hA hB hC
  go_enter Tryd.func7, Tryd.ntmps7
  go_wp2_with (first | (go_at_call 24; refine (Grows.go c24 _ (by assumption)).mono ?_; rintro e w' ⟨rfl, hb0⟩; clear c24) | (go_at_call 16; (with_reducible refine (Grows.go cu1 _ (by assumption)).mono ?_); rintro e w' ⟨rfl, hb1⟩; clear cu1) | (go_at_call 18; (with_reducible refine (Grows.go cb1 _ (by assumption)).mono ?_); rintro e w' ⟨rfl, hb2⟩; clear cb1) | (go_at_call 18; (with_reducible refine (Grows.go cb2 _ (by assumption)).mono ?_); rintro e w' ⟨rfl, hb3⟩; clear cb2) | (go_at_call 16; (with_reducible refine (Grows.go cu2 _ (by assumption)).mono ?_); rintro e w' ⟨rfl, hb4⟩; clear cu2) | (go_at_call 14; refine (Grows.go c14 _ (by assumption)).mono ?_; rintro e w' ⟨rfl, hb5⟩; clear c14) | (go_at_call 8; refine (Grows.go c8 _ (by assumption)).mono ?_; rintro e w' ⟨rfl, hb6⟩; clear c8) | (go_at_call 12; refine (Grows.go c12 _ (by assumption)).mono ?_; rintro e w' ⟨rfl, hb7⟩; clear c12) | (go_at_call 10; refine (Grows.go c10 _ (by assumption)).mono ?_; rintro e w' ⟨rfl, hb8⟩; clear c10) | (go_at_call 20; refine (Grows.go c20 _ (by assumption)).mono ?_; rintro e w' ⟨rfl, hb9⟩; clear c20) | (go_at_call 22; refine (Grows.go c22 _ (by assumption)).mono ?_; rintro e w' ⟨rfl, hb10⟩; clear c22))
  go_ret
  exact ⟨rfl, by assumption⟩

set_option maxHeartbeats 2000000 in
theorem back_112 (s : ByteArray) (q p : Int) (w : World) (hs : (s.size : Int) ≤ 3000) (hT : Tabs w) (u : Int) (hA : unitA s.data.toList q = (u, 0)) (i : Int) (hB : byteA s.data.toList q = (i, 0)) (hC : putB p ≠ ⟨#[]⟩) (hp : 65536 ≤ p) :
    Calls Tryd.prog 7 #[.string s, .int .i64 q, .int .i64 p] w fun e w' => e = .returned (.bool true) ∧ Below w.heap.size w w' := by
  have c24 := grows_of hT fun W hW => works_any W hW
  have cu1 := grows_unit hT s q (by omega) u 0 hA
  have cb1 := grows_byte hT s u (by omega) q 0 (back_unit hA)
  have cb2 := grows_byte hT s q (by omega) i 0 hB
  have cu2 := grows_unit hT s i (by omega) q 0 (back_byte hB)
  obtain ⟨hne, hemp, hsz⟩ := put_facts hC
  have hok := putL_ne hne
  have c14 := grows_put (w := w) p
  have c8 := grows_rune hT (putB p ++ s) p (putB p).size (by rw [append_list, putB_list, hsz]; exact rn_put p hok _)
  have c20 := grows_valid hT (putB p) (by rw [hsz, putL_length]; repeat' split
                                          all_goals omega) true (by rw [putB_list]; exact put_valid hne)
  have c22 := grows_len16 hT (putB p) (by rw [hsz, putL_length]; repeat' split
                                          all_goals omega) 2 (by rw [putB_list, put_len16 hne]; unfold uB two; rw [decide_eq_true (by omega)]; rfl)
  have c12 := grows_halves (w := w) p _ _ (halvesI_yes (by omega))
  have c10 := grows_pair (w := w) (55296 + (p - 65536) / 1024) (56320 + (p - 65536) % 1024) p true (by rw [pairI_yes (by omega)]; exact Prod.ext (by dsimp only; omega) rfl)
  have g1 : (p - 65536) / 1024 ≤ 1023 := by omega
  generalize 55296 + (p - 65536) / 1024 = x at c12 c10
  generalize 56320 + (p - 65536) % 1024 = y at c12 c10
  clear g1
  have hsm : (putB p).size ≤ 4 := by
    rw [hsz, putL_length]
    repeat' split
    all_goals omega
  generalize putB p = t at c14 c8 c20 c22 hemp hsm
  clear hne hok hsz hp
  have hroom : ¬ 9223372036854775807 < t.size + s.size := by omega
  have h0 := Below.refl w.heap.size w
  clear hT hA hB hC
  go_enter Tryd.func7, Tryd.ntmps7
  go_wp2_with (first | (go_at_call 24; refine (Grows.go c24 _ (by assumption)).mono ?_; rintro e w' ⟨rfl, hb0⟩; clear c24) | (go_at_call 16; (with_reducible refine (Grows.go cu1 _ (by assumption)).mono ?_); rintro e w' ⟨rfl, hb1⟩; clear cu1) | (go_at_call 18; (with_reducible refine (Grows.go cb1 _ (by assumption)).mono ?_); rintro e w' ⟨rfl, hb2⟩; clear cb1) | (go_at_call 18; (with_reducible refine (Grows.go cb2 _ (by assumption)).mono ?_); rintro e w' ⟨rfl, hb3⟩; clear cb2) | (go_at_call 16; (with_reducible refine (Grows.go cu2 _ (by assumption)).mono ?_); rintro e w' ⟨rfl, hb4⟩; clear cu2) | (go_at_call 14; refine (Grows.go c14 _ (by assumption)).mono ?_; rintro e w' ⟨rfl, hb5⟩; clear c14) | (go_at_call 8; refine (Grows.go c8 _ (by assumption)).mono ?_; rintro e w' ⟨rfl, hb6⟩; clear c8) | (go_at_call 12; refine (Grows.go c12 _ (by assumption)).mono ?_; rintro e w' ⟨rfl, hb7⟩; clear c12) | (go_at_call 10; refine (Grows.go c10 _ (by assumption)).mono ?_; rintro e w' ⟨rfl, hb8⟩; clear c10) | (go_at_call 20; refine (Grows.go c20 _ (by assumption)).mono ?_; rintro e w' ⟨rfl, hb9⟩; clear c20) | (go_at_call 22; refine (Grows.go c22 _ (by assumption)).mono ?_; rintro e w' ⟨rfl, hb10⟩; clear c22))
  go_ret
  exact ⟨rfl, by assumption⟩

set_option maxHeartbeats 2000000 in
theorem back_100 (s : ByteArray) (q p : Int) (w : World) (hs : (s.size : Int) ≤ 3000) (hT : Tabs w) (u : Int) (hA : unitA s.data.toList q = (u, 0)) (i j : Int) (hB : byteA s.data.toList q = (i, j)) (hj : (j == 0) = false) (hC : putB p = ⟨#[]⟩) :
    Calls Tryd.prog 7 #[.string s, .int .i64 q, .int .i64 p] w fun e w' => e = .returned (.bool true) ∧ Below w.heap.size w w' := by
  have c24 := grows_of hT fun W hW => works_any W hW
  have cu1 := grows_unit hT s q (by omega) u 0 hA
  have cb1 := grows_byte hT s u (by omega) q 0 (back_unit hA)
  have cb2 := grows_byte hT s q (by omega) i j hB
  have c14 := grows_put (w := w) p
  rw [hC] at c14
  have h0 := Below.refl w.heap.size w
  clear hT hA hB hC
  go_enter Tryd.func7, Tryd.ntmps7
  go_wp2_with (first | (go_at_call 24; refine (Grows.go c24 _ (by assumption)).mono ?_; rintro e w' ⟨rfl, hb0⟩; clear c24) | (go_at_call 16; (with_reducible refine (Grows.go cu1 _ (by assumption)).mono ?_); rintro e w' ⟨rfl, hb1⟩; clear cu1) | (go_at_call 18; (with_reducible refine (Grows.go cb1 _ (by assumption)).mono ?_); rintro e w' ⟨rfl, hb2⟩; clear cb1) | (go_at_call 18; (with_reducible refine (Grows.go cb2 _ (by assumption)).mono ?_); rintro e w' ⟨rfl, hb3⟩; clear cb2) | (go_at_call 16; (with_reducible refine (Grows.go cu2 _ (by assumption)).mono ?_); rintro e w' ⟨rfl, hb4⟩; clear cu2) | (go_at_call 14; refine (Grows.go c14 _ (by assumption)).mono ?_; rintro e w' ⟨rfl, hb5⟩; clear c14) | (go_at_call 8; refine (Grows.go c8 _ (by assumption)).mono ?_; rintro e w' ⟨rfl, hb6⟩; clear c8) | (go_at_call 12; refine (Grows.go c12 _ (by assumption)).mono ?_; rintro e w' ⟨rfl, hb7⟩; clear c12) | (go_at_call 10; refine (Grows.go c10 _ (by assumption)).mono ?_; rintro e w' ⟨rfl, hb8⟩; clear c10) | (go_at_call 20; refine (Grows.go c20 _ (by assumption)).mono ?_; rintro e w' ⟨rfl, hb9⟩; clear c20) | (go_at_call 22; refine (Grows.go c22 _ (by assumption)).mono ?_; rintro e w' ⟨rfl, hb10⟩; clear c22))
  go_ret
  exact ⟨rfl, by assumption⟩

set_option maxHeartbeats 2000000 in
theorem back_101 (s : ByteArray) (q p : Int) (w : World) (hs : (s.size : Int) ≤ 3000) (hT : Tabs w) (u : Int) (hA : unitA s.data.toList q = (u, 0)) (i j : Int) (hB : byteA s.data.toList q = (i, j)) (hj : (j == 0) = false) (hC : putB p ≠ ⟨#[]⟩) (hp : p < 65536) :
    Calls Tryd.prog 7 #[.string s, .int .i64 q, .int .i64 p] w fun e w' => e = .returned (.bool true) ∧ Below w.heap.size w w' := by
  have c24 := grows_of hT fun W hW => works_any W hW
  have cu1 := grows_unit hT s q (by omega) u 0 hA
  have cb1 := grows_byte hT s u (by omega) q 0 (back_unit hA)
  have cb2 := grows_byte hT s q (by omega) i j hB
  obtain ⟨hne, hemp, hsz⟩ := put_facts hC
  have hok := putL_ne hne
  have c14 := grows_put (w := w) p
  have c8 := grows_rune hT (putB p ++ s) p (putB p).size (by rw [append_list, putB_list, hsz]; exact rn_put p hok _)
  have c20 := grows_valid hT (putB p) (by rw [hsz, putL_length]; repeat' split
                                          all_goals omega) true (by rw [putB_list]; exact put_valid hne)
  have c22 := grows_len16 hT (putB p) (by rw [hsz, putL_length]; repeat' split
                                          all_goals omega) 1 (by rw [putB_list, put_len16 hne]; unfold uB two; rw [decide_eq_false (by omega)]; rfl)
  have c12 := grows_halves (w := w) p 0 0 (halvesI_no (by omega))
  have c10 := grows_pair (w := w) 0 0 0 false (pairI_no (by omega))
  have hsm : (putB p).size ≤ 4 := by
    rw [hsz, putL_length]
    repeat' split
    all_goals omega
  generalize putB p = t at c14 c8 c20 c22 hemp hsm
  clear hne hok hsz hp
  have hroom : ¬ 9223372036854775807 < t.size + s.size := by omega
  have h0 := Below.refl w.heap.size w
  clear hT hA hB hC
  go_enter Tryd.func7, Tryd.ntmps7
  go_wp2_with (first | (go_at_call 24; refine (Grows.go c24 _ (by assumption)).mono ?_; rintro e w' ⟨rfl, hb0⟩; clear c24) | (go_at_call 16; (with_reducible refine (Grows.go cu1 _ (by assumption)).mono ?_); rintro e w' ⟨rfl, hb1⟩; clear cu1) | (go_at_call 18; (with_reducible refine (Grows.go cb1 _ (by assumption)).mono ?_); rintro e w' ⟨rfl, hb2⟩; clear cb1) | (go_at_call 18; (with_reducible refine (Grows.go cb2 _ (by assumption)).mono ?_); rintro e w' ⟨rfl, hb3⟩; clear cb2) | (go_at_call 16; (with_reducible refine (Grows.go cu2 _ (by assumption)).mono ?_); rintro e w' ⟨rfl, hb4⟩; clear cu2) | (go_at_call 14; refine (Grows.go c14 _ (by assumption)).mono ?_; rintro e w' ⟨rfl, hb5⟩; clear c14) | (go_at_call 8; refine (Grows.go c8 _ (by assumption)).mono ?_; rintro e w' ⟨rfl, hb6⟩; clear c8) | (go_at_call 12; refine (Grows.go c12 _ (by assumption)).mono ?_; rintro e w' ⟨rfl, hb7⟩; clear c12) | (go_at_call 10; refine (Grows.go c10 _ (by assumption)).mono ?_; rintro e w' ⟨rfl, hb8⟩; clear c10) | (go_at_call 20; refine (Grows.go c20 _ (by assumption)).mono ?_; rintro e w' ⟨rfl, hb9⟩; clear c20) | (go_at_call 22; refine (Grows.go c22 _ (by assumption)).mono ?_; rintro e w' ⟨rfl, hb10⟩; clear c22))
  go_ret
  exact ⟨rfl, by assumption⟩

set_option maxHeartbeats 2000000 in
theorem back_102 (s : ByteArray) (q p : Int) (w : World) (hs : (s.size : Int) ≤ 3000) (hT : Tabs w) (u : Int) (hA : unitA s.data.toList q = (u, 0)) (i j : Int) (hB : byteA s.data.toList q = (i, j)) (hj : (j == 0) = false) (hC : putB p ≠ ⟨#[]⟩) (hp : 65536 ≤ p) :
    Calls Tryd.prog 7 #[.string s, .int .i64 q, .int .i64 p] w fun e w' => e = .returned (.bool true) ∧ Below w.heap.size w w' := by
  have c24 := grows_of hT fun W hW => works_any W hW
  have cu1 := grows_unit hT s q (by omega) u 0 hA
  have cb1 := grows_byte hT s u (by omega) q 0 (back_unit hA)
  have cb2 := grows_byte hT s q (by omega) i j hB
  obtain ⟨hne, hemp, hsz⟩ := put_facts hC
  have hok := putL_ne hne
  have c14 := grows_put (w := w) p
  have c8 := grows_rune hT (putB p ++ s) p (putB p).size (by rw [append_list, putB_list, hsz]; exact rn_put p hok _)
  have c20 := grows_valid hT (putB p) (by rw [hsz, putL_length]; repeat' split
                                          all_goals omega) true (by rw [putB_list]; exact put_valid hne)
  have c22 := grows_len16 hT (putB p) (by rw [hsz, putL_length]; repeat' split
                                          all_goals omega) 2 (by rw [putB_list, put_len16 hne]; unfold uB two; rw [decide_eq_true (by omega)]; rfl)
  have c12 := grows_halves (w := w) p _ _ (halvesI_yes (by omega))
  have c10 := grows_pair (w := w) (55296 + (p - 65536) / 1024) (56320 + (p - 65536) % 1024) p true (by rw [pairI_yes (by omega)]; exact Prod.ext (by dsimp only; omega) rfl)
  have g1 : (p - 65536) / 1024 ≤ 1023 := by omega
  generalize 55296 + (p - 65536) / 1024 = x at c12 c10
  generalize 56320 + (p - 65536) % 1024 = y at c12 c10
  clear g1
  have hsm : (putB p).size ≤ 4 := by
    rw [hsz, putL_length]
    repeat' split
    all_goals omega
  generalize putB p = t at c14 c8 c20 c22 hemp hsm
  clear hne hok hsz hp
  have hroom : ¬ 9223372036854775807 < t.size + s.size := by omega
  have h0 := Below.refl w.heap.size w
  clear hT hA hB hC
  go_enter Tryd.func7, Tryd.ntmps7
  go_wp2_with (first | (go_at_call 24; refine (Grows.go c24 _ (by assumption)).mono ?_; rintro e w' ⟨rfl, hb0⟩; clear c24) | (go_at_call 16; (with_reducible refine (Grows.go cu1 _ (by assumption)).mono ?_); rintro e w' ⟨rfl, hb1⟩; clear cu1) | (go_at_call 18; (with_reducible refine (Grows.go cb1 _ (by assumption)).mono ?_); rintro e w' ⟨rfl, hb2⟩; clear cb1) | (go_at_call 18; (with_reducible refine (Grows.go cb2 _ (by assumption)).mono ?_); rintro e w' ⟨rfl, hb3⟩; clear cb2) | (go_at_call 16; (with_reducible refine (Grows.go cu2 _ (by assumption)).mono ?_); rintro e w' ⟨rfl, hb4⟩; clear cu2) | (go_at_call 14; refine (Grows.go c14 _ (by assumption)).mono ?_; rintro e w' ⟨rfl, hb5⟩; clear c14) | (go_at_call 8; refine (Grows.go c8 _ (by assumption)).mono ?_; rintro e w' ⟨rfl, hb6⟩; clear c8) | (go_at_call 12; refine (Grows.go c12 _ (by assumption)).mono ?_; rintro e w' ⟨rfl, hb7⟩; clear c12) | (go_at_call 10; refine (Grows.go c10 _ (by assumption)).mono ?_; rintro e w' ⟨rfl, hb8⟩; clear c10) | (go_at_call 20; refine (Grows.go c20 _ (by assumption)).mono ?_; rintro e w' ⟨rfl, hb9⟩; clear c20) | (go_at_call 22; refine (Grows.go c22 _ (by assumption)).mono ?_; rintro e w' ⟨rfl, hb10⟩; clear c22))
  go_ret
  exact ⟨rfl, by assumption⟩

set_option maxHeartbeats 2000000 in
theorem back_010 (s : ByteArray) (q p : Int) (w : World) (hs : (s.size : Int) ≤ 3000) (hT : Tabs w) (u v : Int) (hA : unitA s.data.toList q = (u, v)) (hv : (v == 0) = false) (i : Int) (hB : byteA s.data.toList q = (i, 0)) (hC : putB p = ⟨#[]⟩) :
    Calls Tryd.prog 7 #[.string s, .int .i64 q, .int .i64 p] w fun e w' => e = .returned (.bool true) ∧ Below w.heap.size w w' := by
  have c24 := grows_of hT fun W hW => works_any W hW
  have cu1 := grows_unit hT s q (by omega) u v hA
  have cb2 := grows_byte hT s q (by omega) i 0 hB
  have cu2 := grows_unit hT s i (by omega) q 0 (back_byte hB)
  have c14 := grows_put (w := w) p
  rw [hC] at c14
  have h0 := Below.refl w.heap.size w
  clear hT hA hB hC
  go_enter Tryd.func7, Tryd.ntmps7
  go_wp2_with (first | (go_at_call 24; refine (Grows.go c24 _ (by assumption)).mono ?_; rintro e w' ⟨rfl, hb0⟩; clear c24) | (go_at_call 16; (with_reducible refine (Grows.go cu1 _ (by assumption)).mono ?_); rintro e w' ⟨rfl, hb1⟩; clear cu1) | (go_at_call 18; (with_reducible refine (Grows.go cb1 _ (by assumption)).mono ?_); rintro e w' ⟨rfl, hb2⟩; clear cb1) | (go_at_call 18; (with_reducible refine (Grows.go cb2 _ (by assumption)).mono ?_); rintro e w' ⟨rfl, hb3⟩; clear cb2) | (go_at_call 16; (with_reducible refine (Grows.go cu2 _ (by assumption)).mono ?_); rintro e w' ⟨rfl, hb4⟩; clear cu2) | (go_at_call 14; refine (Grows.go c14 _ (by assumption)).mono ?_; rintro e w' ⟨rfl, hb5⟩; clear c14) | (go_at_call 8; refine (Grows.go c8 _ (by assumption)).mono ?_; rintro e w' ⟨rfl, hb6⟩; clear c8) | (go_at_call 12; refine (Grows.go c12 _ (by assumption)).mono ?_; rintro e w' ⟨rfl, hb7⟩; clear c12) | (go_at_call 10; refine (Grows.go c10 _ (by assumption)).mono ?_; rintro e w' ⟨rfl, hb8⟩; clear c10) | (go_at_call 20; refine (Grows.go c20 _ (by assumption)).mono ?_; rintro e w' ⟨rfl, hb9⟩; clear c20) | (go_at_call 22; refine (Grows.go c22 _ (by assumption)).mono ?_; rintro e w' ⟨rfl, hb10⟩; clear c22))
  go_ret
  exact ⟨rfl, by assumption⟩

set_option maxHeartbeats 2000000 in
theorem back_011 (s : ByteArray) (q p : Int) (w : World) (hs : (s.size : Int) ≤ 3000) (hT : Tabs w) (u v : Int) (hA : unitA s.data.toList q = (u, v)) (hv : (v == 0) = false) (i : Int) (hB : byteA s.data.toList q = (i, 0)) (hC : putB p ≠ ⟨#[]⟩) (hp : p < 65536) :
    Calls Tryd.prog 7 #[.string s, .int .i64 q, .int .i64 p] w fun e w' => e = .returned (.bool true) ∧ Below w.heap.size w w' := by
  have c24 := grows_of hT fun W hW => works_any W hW
  have cu1 := grows_unit hT s q (by omega) u v hA
  have cb2 := grows_byte hT s q (by omega) i 0 hB
  have cu2 := grows_unit hT s i (by omega) q 0 (back_byte hB)
  obtain ⟨hne, hemp, hsz⟩ := put_facts hC
  have hok := putL_ne hne
  have c14 := grows_put (w := w) p
  have c8 := grows_rune hT (putB p ++ s) p (putB p).size (by rw [append_list, putB_list, hsz]; exact rn_put p hok _)
  have c20 := grows_valid hT (putB p) (by rw [hsz, putL_length]; repeat' split
                                          all_goals omega) true (by rw [putB_list]; exact put_valid hne)
  have c22 := grows_len16 hT (putB p) (by rw [hsz, putL_length]; repeat' split
                                          all_goals omega) 1 (by rw [putB_list, put_len16 hne]; unfold uB two; rw [decide_eq_false (by omega)]; rfl)
  have c12 := grows_halves (w := w) p 0 0 (halvesI_no (by omega))
  have c10 := grows_pair (w := w) 0 0 0 false (pairI_no (by omega))
  have hsm : (putB p).size ≤ 4 := by
    rw [hsz, putL_length]
    repeat' split
    all_goals omega
  generalize putB p = t at c14 c8 c20 c22 hemp hsm
  clear hne hok hsz hp
  have hroom : ¬ 9223372036854775807 < t.size + s.size := by omega
  have h0 := Below.refl w.heap.size w
  clear hT hA hB hC
  go_enter Tryd.func7, Tryd.ntmps7
  go_wp2_with (first | (go_at_call 24; refine (Grows.go c24 _ (by assumption)).mono ?_; rintro e w' ⟨rfl, hb0⟩; clear c24) | (go_at_call 16; (with_reducible refine (Grows.go cu1 _ (by assumption)).mono ?_); rintro e w' ⟨rfl, hb1⟩; clear cu1) | (go_at_call 18; (with_reducible refine (Grows.go cb1 _ (by assumption)).mono ?_); rintro e w' ⟨rfl, hb2⟩; clear cb1) | (go_at_call 18; (with_reducible refine (Grows.go cb2 _ (by assumption)).mono ?_); rintro e w' ⟨rfl, hb3⟩; clear cb2) | (go_at_call 16; (with_reducible refine (Grows.go cu2 _ (by assumption)).mono ?_); rintro e w' ⟨rfl, hb4⟩; clear cu2) | (go_at_call 14; refine (Grows.go c14 _ (by assumption)).mono ?_; rintro e w' ⟨rfl, hb5⟩; clear c14) | (go_at_call 8; refine (Grows.go c8 _ (by assumption)).mono ?_; rintro e w' ⟨rfl, hb6⟩; clear c8) | (go_at_call 12; refine (Grows.go c12 _ (by assumption)).mono ?_; rintro e w' ⟨rfl, hb7⟩; clear c12) | (go_at_call 10; refine (Grows.go c10 _ (by assumption)).mono ?_; rintro e w' ⟨rfl, hb8⟩; clear c10) | (go_at_call 20; refine (Grows.go c20 _ (by assumption)).mono ?_; rintro e w' ⟨rfl, hb9⟩; clear c20) | (go_at_call 22; refine (Grows.go c22 _ (by assumption)).mono ?_; rintro e w' ⟨rfl, hb10⟩; clear c22))
  go_ret
  exact ⟨rfl, by assumption⟩

set_option maxHeartbeats 2000000 in
theorem back_012 (s : ByteArray) (q p : Int) (w : World) (hs : (s.size : Int) ≤ 3000) (hT : Tabs w) (u v : Int) (hA : unitA s.data.toList q = (u, v)) (hv : (v == 0) = false) (i : Int) (hB : byteA s.data.toList q = (i, 0)) (hC : putB p ≠ ⟨#[]⟩) (hp : 65536 ≤ p) :
    Calls Tryd.prog 7 #[.string s, .int .i64 q, .int .i64 p] w fun e w' => e = .returned (.bool true) ∧ Below w.heap.size w w' := by
  have c24 := grows_of hT fun W hW => works_any W hW
  have cu1 := grows_unit hT s q (by omega) u v hA
  have cb2 := grows_byte hT s q (by omega) i 0 hB
  have cu2 := grows_unit hT s i (by omega) q 0 (back_byte hB)
  obtain ⟨hne, hemp, hsz⟩ := put_facts hC
  have hok := putL_ne hne
  have c14 := grows_put (w := w) p
  have c8 := grows_rune hT (putB p ++ s) p (putB p).size (by rw [append_list, putB_list, hsz]; exact rn_put p hok _)
  have c20 := grows_valid hT (putB p) (by rw [hsz, putL_length]; repeat' split
                                          all_goals omega) true (by rw [putB_list]; exact put_valid hne)
  have c22 := grows_len16 hT (putB p) (by rw [hsz, putL_length]; repeat' split
                                          all_goals omega) 2 (by rw [putB_list, put_len16 hne]; unfold uB two; rw [decide_eq_true (by omega)]; rfl)
  have c12 := grows_halves (w := w) p _ _ (halvesI_yes (by omega))
  have c10 := grows_pair (w := w) (55296 + (p - 65536) / 1024) (56320 + (p - 65536) % 1024) p true (by rw [pairI_yes (by omega)]; exact Prod.ext (by dsimp only; omega) rfl)
  have g1 : (p - 65536) / 1024 ≤ 1023 := by omega
  generalize 55296 + (p - 65536) / 1024 = x at c12 c10
  generalize 56320 + (p - 65536) % 1024 = y at c12 c10
  clear g1
  have hsm : (putB p).size ≤ 4 := by
    rw [hsz, putL_length]
    repeat' split
    all_goals omega
  generalize putB p = t at c14 c8 c20 c22 hemp hsm
  clear hne hok hsz hp
  have hroom : ¬ 9223372036854775807 < t.size + s.size := by omega
  have h0 := Below.refl w.heap.size w
  clear hT hA hB hC
  go_enter Tryd.func7, Tryd.ntmps7
  go_wp2_with (first | (go_at_call 24; refine (Grows.go c24 _ (by assumption)).mono ?_; rintro e w' ⟨rfl, hb0⟩; clear c24) | (go_at_call 16; (with_reducible refine (Grows.go cu1 _ (by assumption)).mono ?_); rintro e w' ⟨rfl, hb1⟩; clear cu1) | (go_at_call 18; (with_reducible refine (Grows.go cb1 _ (by assumption)).mono ?_); rintro e w' ⟨rfl, hb2⟩; clear cb1) | (go_at_call 18; (with_reducible refine (Grows.go cb2 _ (by assumption)).mono ?_); rintro e w' ⟨rfl, hb3⟩; clear cb2) | (go_at_call 16; (with_reducible refine (Grows.go cu2 _ (by assumption)).mono ?_); rintro e w' ⟨rfl, hb4⟩; clear cu2) | (go_at_call 14; refine (Grows.go c14 _ (by assumption)).mono ?_; rintro e w' ⟨rfl, hb5⟩; clear c14) | (go_at_call 8; refine (Grows.go c8 _ (by assumption)).mono ?_; rintro e w' ⟨rfl, hb6⟩; clear c8) | (go_at_call 12; refine (Grows.go c12 _ (by assumption)).mono ?_; rintro e w' ⟨rfl, hb7⟩; clear c12) | (go_at_call 10; refine (Grows.go c10 _ (by assumption)).mono ?_; rintro e w' ⟨rfl, hb8⟩; clear c10) | (go_at_call 20; refine (Grows.go c20 _ (by assumption)).mono ?_; rintro e w' ⟨rfl, hb9⟩; clear c20) | (go_at_call 22; refine (Grows.go c22 _ (by assumption)).mono ?_; rintro e w' ⟨rfl, hb10⟩; clear c22))
  go_ret
  exact ⟨rfl, by assumption⟩

set_option maxHeartbeats 2000000 in
theorem back_000 (s : ByteArray) (q p : Int) (w : World) (hs : (s.size : Int) ≤ 3000) (hT : Tabs w) (u v : Int) (hA : unitA s.data.toList q = (u, v)) (hv : (v == 0) = false) (i j : Int) (hB : byteA s.data.toList q = (i, j)) (hj : (j == 0) = false) (hC : putB p = ⟨#[]⟩) :
    Calls Tryd.prog 7 #[.string s, .int .i64 q, .int .i64 p] w fun e w' => e = .returned (.bool true) ∧ Below w.heap.size w w' := by
  have c24 := grows_of hT fun W hW => works_any W hW
  have cu1 := grows_unit hT s q (by omega) u v hA
  have cb2 := grows_byte hT s q (by omega) i j hB
  have c14 := grows_put (w := w) p
  rw [hC] at c14
  have h0 := Below.refl w.heap.size w
  clear hT hA hB hC
  go_enter Tryd.func7, Tryd.ntmps7
  go_wp2_with (first | (go_at_call 24; refine (Grows.go c24 _ (by assumption)).mono ?_; rintro e w' ⟨rfl, hb0⟩; clear c24) | (go_at_call 16; (with_reducible refine (Grows.go cu1 _ (by assumption)).mono ?_); rintro e w' ⟨rfl, hb1⟩; clear cu1) | (go_at_call 18; (with_reducible refine (Grows.go cb1 _ (by assumption)).mono ?_); rintro e w' ⟨rfl, hb2⟩; clear cb1) | (go_at_call 18; (with_reducible refine (Grows.go cb2 _ (by assumption)).mono ?_); rintro e w' ⟨rfl, hb3⟩; clear cb2) | (go_at_call 16; (with_reducible refine (Grows.go cu2 _ (by assumption)).mono ?_); rintro e w' ⟨rfl, hb4⟩; clear cu2) | (go_at_call 14; refine (Grows.go c14 _ (by assumption)).mono ?_; rintro e w' ⟨rfl, hb5⟩; clear c14) | (go_at_call 8; refine (Grows.go c8 _ (by assumption)).mono ?_; rintro e w' ⟨rfl, hb6⟩; clear c8) | (go_at_call 12; refine (Grows.go c12 _ (by assumption)).mono ?_; rintro e w' ⟨rfl, hb7⟩; clear c12) | (go_at_call 10; refine (Grows.go c10 _ (by assumption)).mono ?_; rintro e w' ⟨rfl, hb8⟩; clear c10) | (go_at_call 20; refine (Grows.go c20 _ (by assumption)).mono ?_; rintro e w' ⟨rfl, hb9⟩; clear c20) | (go_at_call 22; refine (Grows.go c22 _ (by assumption)).mono ?_; rintro e w' ⟨rfl, hb10⟩; clear c22))
  go_ret
  exact ⟨rfl, by assumption⟩

set_option maxHeartbeats 2000000 in
theorem back_001 (s : ByteArray) (q p : Int) (w : World) (hs : (s.size : Int) ≤ 3000) (hT : Tabs w) (u v : Int) (hA : unitA s.data.toList q = (u, v)) (hv : (v == 0) = false) (i j : Int) (hB : byteA s.data.toList q = (i, j)) (hj : (j == 0) = false) (hC : putB p ≠ ⟨#[]⟩) (hp : p < 65536) :
    Calls Tryd.prog 7 #[.string s, .int .i64 q, .int .i64 p] w fun e w' => e = .returned (.bool true) ∧ Below w.heap.size w w' := by
  have c24 := grows_of hT fun W hW => works_any W hW
  have cu1 := grows_unit hT s q (by omega) u v hA
  have cb2 := grows_byte hT s q (by omega) i j hB
  obtain ⟨hne, hemp, hsz⟩ := put_facts hC
  have hok := putL_ne hne
  have c14 := grows_put (w := w) p
  have c8 := grows_rune hT (putB p ++ s) p (putB p).size (by rw [append_list, putB_list, hsz]; exact rn_put p hok _)
  have c20 := grows_valid hT (putB p) (by rw [hsz, putL_length]; repeat' split
                                          all_goals omega) true (by rw [putB_list]; exact put_valid hne)
  have c22 := grows_len16 hT (putB p) (by rw [hsz, putL_length]; repeat' split
                                          all_goals omega) 1 (by rw [putB_list, put_len16 hne]; unfold uB two; rw [decide_eq_false (by omega)]; rfl)
  have c12 := grows_halves (w := w) p 0 0 (halvesI_no (by omega))
  have c10 := grows_pair (w := w) 0 0 0 false (pairI_no (by omega))
  have hsm : (putB p).size ≤ 4 := by
    rw [hsz, putL_length]
    repeat' split
    all_goals omega
  generalize putB p = t at c14 c8 c20 c22 hemp hsm
  clear hne hok hsz hp
  have hroom : ¬ 9223372036854775807 < t.size + s.size := by omega
  have h0 := Below.refl w.heap.size w
  clear hT hA hB hC
  go_enter Tryd.func7, Tryd.ntmps7
  go_wp2_with (first | (go_at_call 24; refine (Grows.go c24 _ (by assumption)).mono ?_; rintro e w' ⟨rfl, hb0⟩; clear c24) | (go_at_call 16; (with_reducible refine (Grows.go cu1 _ (by assumption)).mono ?_); rintro e w' ⟨rfl, hb1⟩; clear cu1) | (go_at_call 18; (with_reducible refine (Grows.go cb1 _ (by assumption)).mono ?_); rintro e w' ⟨rfl, hb2⟩; clear cb1) | (go_at_call 18; (with_reducible refine (Grows.go cb2 _ (by assumption)).mono ?_); rintro e w' ⟨rfl, hb3⟩; clear cb2) | (go_at_call 16; (with_reducible refine (Grows.go cu2 _ (by assumption)).mono ?_); rintro e w' ⟨rfl, hb4⟩; clear cu2) | (go_at_call 14; refine (Grows.go c14 _ (by assumption)).mono ?_; rintro e w' ⟨rfl, hb5⟩; clear c14) | (go_at_call 8; refine (Grows.go c8 _ (by assumption)).mono ?_; rintro e w' ⟨rfl, hb6⟩; clear c8) | (go_at_call 12; refine (Grows.go c12 _ (by assumption)).mono ?_; rintro e w' ⟨rfl, hb7⟩; clear c12) | (go_at_call 10; refine (Grows.go c10 _ (by assumption)).mono ?_; rintro e w' ⟨rfl, hb8⟩; clear c10) | (go_at_call 20; refine (Grows.go c20 _ (by assumption)).mono ?_; rintro e w' ⟨rfl, hb9⟩; clear c20) | (go_at_call 22; refine (Grows.go c22 _ (by assumption)).mono ?_; rintro e w' ⟨rfl, hb10⟩; clear c22))
  go_ret
  exact ⟨rfl, by assumption⟩

set_option maxHeartbeats 2000000 in
theorem back_002 (s : ByteArray) (q p : Int) (w : World) (hs : (s.size : Int) ≤ 3000) (hT : Tabs w) (u v : Int) (hA : unitA s.data.toList q = (u, v)) (hv : (v == 0) = false) (i j : Int) (hB : byteA s.data.toList q = (i, j)) (hj : (j == 0) = false) (hC : putB p ≠ ⟨#[]⟩) (hp : 65536 ≤ p) :
    Calls Tryd.prog 7 #[.string s, .int .i64 q, .int .i64 p] w fun e w' => e = .returned (.bool true) ∧ Below w.heap.size w w' := by
  have c24 := grows_of hT fun W hW => works_any W hW
  have cu1 := grows_unit hT s q (by omega) u v hA
  have cb2 := grows_byte hT s q (by omega) i j hB
  obtain ⟨hne, hemp, hsz⟩ := put_facts hC
  have hok := putL_ne hne
  have c14 := grows_put (w := w) p
  have c8 := grows_rune hT (putB p ++ s) p (putB p).size (by rw [append_list, putB_list, hsz]; exact rn_put p hok _)
  have c20 := grows_valid hT (putB p) (by rw [hsz, putL_length]; repeat' split
                                          all_goals omega) true (by rw [putB_list]; exact put_valid hne)
  have c22 := grows_len16 hT (putB p) (by rw [hsz, putL_length]; repeat' split
                                          all_goals omega) 2 (by rw [putB_list, put_len16 hne]; unfold uB two; rw [decide_eq_true (by omega)]; rfl)
  have c12 := grows_halves (w := w) p _ _ (halvesI_yes (by omega))
  have c10 := grows_pair (w := w) (55296 + (p - 65536) / 1024) (56320 + (p - 65536) % 1024) p true (by rw [pairI_yes (by omega)]; exact Prod.ext (by dsimp only; omega) rfl)
  have g1 : (p - 65536) / 1024 ≤ 1023 := by omega
  generalize 55296 + (p - 65536) / 1024 = x at c12 c10
  generalize 56320 + (p - 65536) % 1024 = y at c12 c10
  clear g1
  have hsm : (putB p).size ≤ 4 := by
    rw [hsz, putL_length]
    repeat' split
    all_goals omega
  generalize putB p = t at c14 c8 c20 c22 hemp hsm
  clear hne hok hsz hp
  have hroom : ¬ 9223372036854775807 < t.size + s.size := by omega
  have h0 := Below.refl w.heap.size w
  clear hT hA hB hC
  go_enter Tryd.func7, Tryd.ntmps7
  go_wp2_with (first | (go_at_call 24; refine (Grows.go c24 _ (by assumption)).mono ?_; rintro e w' ⟨rfl, hb0⟩; clear c24) | (go_at_call 16; (with_reducible refine (Grows.go cu1 _ (by assumption)).mono ?_); rintro e w' ⟨rfl, hb1⟩; clear cu1) | (go_at_call 18; (with_reducible refine (Grows.go cb1 _ (by assumption)).mono ?_); rintro e w' ⟨rfl, hb2⟩; clear cb1) | (go_at_call 18; (with_reducible refine (Grows.go cb2 _ (by assumption)).mono ?_); rintro e w' ⟨rfl, hb3⟩; clear cb2) | (go_at_call 16; (with_reducible refine (Grows.go cu2 _ (by assumption)).mono ?_); rintro e w' ⟨rfl, hb4⟩; clear cu2) | (go_at_call 14; refine (Grows.go c14 _ (by assumption)).mono ?_; rintro e w' ⟨rfl, hb5⟩; clear c14) | (go_at_call 8; refine (Grows.go c8 _ (by assumption)).mono ?_; rintro e w' ⟨rfl, hb6⟩; clear c8) | (go_at_call 12; refine (Grows.go c12 _ (by assumption)).mono ?_; rintro e w' ⟨rfl, hb7⟩; clear c12) | (go_at_call 10; refine (Grows.go c10 _ (by assumption)).mono ?_; rintro e w' ⟨rfl, hb8⟩; clear c10) | (go_at_call 20; refine (Grows.go c20 _ (by assumption)).mono ?_; rintro e w' ⟨rfl, hb9⟩; clear c20) | (go_at_call 22; refine (Grows.go c22 _ (by assumption)).mono ?_; rintro e w' ⟨rfl, hb10⟩; clear c22))
  go_ret
  exact ⟨rfl, by assumption⟩

theorem back_law (s : ByteArray) (q p : Int) (w : World) (hs : (s.size : Int) ≤ 3000) (hT : Tabs w) :
    Calls Tryd.prog 7 #[.string s, .int .i64 q, .int .i64 p] w fun e w' => e = .returned (.bool true) ∧ Below w.heap.size w w' := by
  obtain ⟨⟨u, v⟩, hA⟩ : ∃ r, unitA s.data.toList q = r := ⟨_, rfl⟩
  obtain ⟨⟨i, j⟩, hB⟩ : ∃ r, byteA s.data.toList q = r := ⟨_, rfl⟩
  by_cases hv : v = 0
  · subst hv
    by_cases hj : j = 0
    · subst hj
      by_cases hC : putB p = ⟨#[]⟩
      · exact back_110 s q p w hs hT u hA i hB hC
      · by_cases hp : p < 65536
        · exact back_111 s q p w hs hT u hA i hB hC hp
        · exact back_112 s q p w hs hT u hA i hB hC (by omega)
    · have hj' : (j == 0) = false := beq_eq_false_iff_ne.2 hj
      by_cases hC : putB p = ⟨#[]⟩
      · exact back_100 s q p w hs hT u hA i j hB hj' hC
      · by_cases hp : p < 65536
        · exact back_101 s q p w hs hT u hA i j hB hj' hC hp
        · exact back_102 s q p w hs hT u hA i j hB hj' hC (by omega)
  · have hv' : (v == 0) = false := beq_eq_false_iff_ne.2 hv
    by_cases hj : j = 0
    · subst hj
      by_cases hC : putB p = ⟨#[]⟩
      · exact back_010 s q p w hs hT u v hA hv' i hB hC
      · by_cases hp : p < 65536
        · exact back_011 s q p w hs hT u v hA hv' i hB hC hp
        · exact back_012 s q p w hs hT u v hA hv' i hB hC (by omega)
    · have hj' : (j == 0) = false := beq_eq_false_iff_ne.2 hj
      by_cases hC : putB p = ⟨#[]⟩
      · exact back_000 s q p w hs hT u v hA hv' i j hB hj' hC
      · by_cases hp : p < 65536
        · exact back_001 s q p w hs hT u v hA hv' i j hB hj' hC hp
        · exact back_002 s q p w hs hT u v hA hv' i j hB hj' hC (by omega)
end Go.Proofs.YtakhglnffhgfiaaDoor
