/-
  The law UtfRunes, walked: it answers true.
-/
import Derived.Test.YtakhglnffhgfiaaDoorW3
namespace Go.Proofs.YtakhglnffhgfiaaDoor
open Go.RowKit Go.Lib

set_option maxHeartbeats 1000000 in
theorem runes_law (s : ByteArray) (a b : Int) (w : World) (hT : Tabs w) :
    Calls Tryd.prog 3 #[.string s, .int .i64 a, .int .i64 b] w fun e w' => e = .returned (.bool true) ∧ Below w.heap.size w w' := by
  have c8 := rune_any s w hT
  have c9 := fun W => refRune_any s W
  have c10 := fun W => pair_any a b W
  have c11 := fun W => refPair_any a b W
  have c12 := fun W => halves_any a W
  have c13 := fun W => refHalves_any a W
  have c14 := fun W => put_any a W
  have c15 := fun W => refPut_any a W
  generalize rn s.data.toList = r at c8 c9
  generalize pairI a b = p at c10 c11
  generalize halvesI a = h at c12 c13
  generalize putB a = u at c14 c15
  obtain ⟨r1, r2⟩ := r
  obtain ⟨p1, p2⟩ := p
  obtain ⟨h1, h2⟩ := h
  dsimp only at c8 c9 c10 c11 c12 c13
  have C8 := Lib.hid c8
  have C9 : Hid (∀ W : World, Calls Tryd.prog 9 #[.string s] W fun e w' => e = .returned (.tuple #[.int .i64 r1, .int .i64 r2]) ∧ Below W.heap.size W w') := c9
  have C10 : Hid (∀ W : World, Calls Tryd.prog 10 #[.int .i64 a, .int .i64 b] W fun e w' => e = .returned (.tuple #[.int .i64 p1, .bool p2]) ∧ W = w') := c10
  have C11 : Hid (∀ W : World, Calls Tryd.prog 11 #[.int .i64 a, .int .i64 b] W fun e w' => e = .returned (.tuple #[.int .i64 p1, .bool p2]) ∧ W = w') := c11
  have C12 : Hid (∀ W : World, Calls Tryd.prog 12 #[.int .i64 a] W fun e w' => e = .returned (.tuple #[.int .i64 h1, .int .i64 h2]) ∧ W = w') := c12
  have C13 : Hid (∀ W : World, Calls Tryd.prog 13 #[.int .i64 a] W fun e w' => e = .returned (.tuple #[.int .i64 h1, .int .i64 h2]) ∧ W = w') := c13
  have C14 : Hid (∀ W : World, Calls Tryd.prog 14 #[.int .i64 a] W fun e w' => e = .returned (.string u) ∧ W = w') := c14
  have C15 : Hid (∀ W : World, Calls Tryd.prog 15 #[.int .i64 a] W fun e w' => e = .returned (.string u) ∧ Below W.heap.size W w') := c15
  clear c8 c9 c10 c11 c12 c13 c14 c15
  go_enter Tryd.func3, Tryd.ntmps3
  go_wp2_with (first | (go_at_call 8; refine C8.out.mono ?_; rintro e w' ⟨rfl, hb1⟩) | (go_at_call 9; refine (C9.out _).mono ?_; rintro e w' ⟨rfl, hb2⟩) | (go_at_call 10; refine (C10.out _).mono ?_; rintro e w' ⟨rfl, rfl⟩) | (go_at_call 11; refine (C11.out _).mono ?_; rintro e w' ⟨rfl, rfl⟩) | (go_at_call 12; refine (C12.out _).mono ?_; rintro e w' ⟨rfl, rfl⟩) | (go_at_call 13; refine (C13.out _).mono ?_; rintro e w' ⟨rfl, rfl⟩) | (go_at_call 14; refine (C14.out _).mono ?_; rintro e w' ⟨rfl, rfl⟩) | (go_at_call 15; refine (C15.out _).mono ?_; rintro e w' ⟨rfl, hb3⟩))
  go_ret
  exact ⟨rfl, (hb1.trans (hb2.mono hb1.size)).trans (hb3.mono (Nat.le_trans hb1.size hb2.size))⟩
end Go.Proofs.YtakhglnffhgfiaaDoor
