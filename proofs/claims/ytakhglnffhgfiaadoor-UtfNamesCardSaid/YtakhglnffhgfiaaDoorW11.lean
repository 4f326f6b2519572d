/-
  The law UtfCounts, walked: it answers true.
-/
import Derived.Test.YtakhglnffhgfiaaDoorW8
import Derived.Test.YtakhglnffhgfiaaDoorW10
import Derived.Test.YtakhglnffhgfiaaDoorW6
namespace Go.Proofs.YtakhglnffhgfiaaDoor
open Go.RowKit Go.Lib

/-- A contract whose world grows, from any world that has grown out of the first. -/
def Grows (f : Nat) (args : Array Value) (w : World) (v : Value) : Prop :=
  ∀ W, Below w.heap.size w W → Calls Tryd.prog f args W fun e w' => e = .returned v ∧ Below w.heap.size w w'
theorem grows_of {f : Nat} {args : Array Value} {w : World} {v : Value} (hT : Tabs w) (h : ∀ W, Tabs W → Calls Tryd.prog f args W fun e w' => e = .returned v ∧ Below W.heap.size W w') : Grows f args w v :=
  fun W hW => (h W (Utf8Tabs_below hT hW)).mono fun _ _ ⟨he, hb⟩ => ⟨he, hW.trans (hb.mono hW.size)⟩

set_option maxHeartbeats 1000000 in
theorem counts_long (s : ByteArray) (q : Int) (w : World) (hs : 3000 < (s.size : Int)) :
    Calls Tryd.prog 4 #[.string s, .int .i64 q] w fun e w' => e = .returned (.bool true) ∧ Below w.heap.size w w' := by
  go_enter Tryd.func4, Tryd.ntmps4
  go_wp2
  go_ret
  exact ⟨rfl, Below.refl _ _⟩
set_option maxHeartbeats 1000000 in
theorem counts_law (s : ByteArray) (q : Int) (w : World) (hs : (s.size : Int) ≤ 3000) (hT : Tabs w) :
    Calls Tryd.prog 4 #[.string s, .int .i64 q] w fun e w' => e = .returned (.bool true) ∧ Below w.heap.size w w' := by
  have c16 := grows_of hT fun W hW => unit_any s q W (by omega) hW
  have c17 := grows_of hT fun W _ => refUnit_any s q W (by omega)
  have c18 := grows_of hT fun W hW => byte_any s q W (by omega) hW
  have c19 := grows_of hT fun W _ => refByte_any s q W (by omega)
  have c20 := grows_of hT fun W hW => valid_any s W (by omega) hW
  have c21 := grows_of hT fun W _ => refValid_any s W
  have c22 := grows_of hT fun W hW => len16_any s W (by omega) hW
  have c23 := grows_of hT fun W _ => refLen16_any s W (by omega)
  generalize unitA s.data.toList q = a at c16 c17
  generalize byteA s.data.toList q = b at c18 c19
  generalize validD s.data.toList = v at c20 c21
  generalize len16 s.data.toList = n at c22 c23
  obtain ⟨a1, a2⟩ := a
  obtain ⟨b1, b2⟩ := b
  dsimp only at c16 c17 c18 c19
  have h0 := Below.refl w.heap.size w
  clear hT
  go_enter Tryd.func4, Tryd.ntmps4
  go_wp2_with (first | (go_at_call 16; refine (c16 _ (by assumption)).mono ?_; rintro e w' ⟨rfl, hb1⟩) | (go_at_call 17; refine (c17 _ (by assumption)).mono ?_; rintro e w' ⟨rfl, hb2⟩) | (go_at_call 18; refine (c18 _ (by assumption)).mono ?_; rintro e w' ⟨rfl, hb3⟩) | (go_at_call 19; refine (c19 _ (by assumption)).mono ?_; rintro e w' ⟨rfl, hb4⟩) | (go_at_call 20; refine (c20 _ (by assumption)).mono ?_; rintro e w' ⟨rfl, hb5⟩) | (go_at_call 21; refine (c21 _ (by assumption)).mono ?_; rintro e w' ⟨rfl, hb6⟩) | (go_at_call 22; refine (c22 _ (by assumption)).mono ?_; rintro e w' ⟨rfl, hb7⟩) | (go_at_call 23; refine (c23 _ (by assumption)).mono ?_; rintro e w' ⟨rfl, hb8⟩))
  go_ret
  exact ⟨rfl, by assumption⟩
end Go.Proofs.YtakhglnffhgfiaaDoor
