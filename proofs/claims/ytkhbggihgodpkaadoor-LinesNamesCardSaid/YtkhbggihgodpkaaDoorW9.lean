/-
  Offset and Pos as plain values; contracts at whatever world has grown out of the index's.
-/
import Derived.Test.YtkhbggihgodpkaaDoorP8
import Derived.Test.YtkhbggihgodpkaaDoorW8
namespace Go.Proofs.YtkhbggihgodpkaaDoor
open Go.RowKit Go.Shelf Go.Lib

theorem offset_v {w : World} {b g cap : Nat} {s : ByteArray} (h : Idx w b g cap s) (hs : s.size ≤ 65536) (p1 p2 : Int) :
    Calls Tryd.prog 15 #[.pointer (some ⟨b, 0, none⟩), .agg #[.int .i64 p1, .int .i64 p2]] w fun e w' =>
      e = .returned (.tuple #[.int .i64 (offsetV s.data.toList p1 p2).1, .int .i64 (offsetV s.data.toList p1 p2).2]) ∧ Below w.heap.size w w' := by
  by_cases hn : p1 < 0 ∨ ((spans s.data.toList).length : Int) ≤ p1 ∨ p2 < 0
  · have hv : offsetV s.data.toList p1 p2 = (0, 60) := if_pos hn
    rw [hv]
    exact offset_bad h p1 p2 hn
  · obtain ⟨n, rfl⟩ : ∃ n : Nat, p1 = (n : Int) := ⟨p1.toNat, by omega⟩
    obtain ⟨x, hx⟩ : ∃ x, (spans s.data.toList)[n]? = some x := ⟨_, List.getElem?_eq_getElem (by omega)⟩
    have hsp := span_at hx
    have hv : offsetV s.data.toList (n : Int) p2 = (if (offA (slice s.data.toList x.1 x.2) p2).2 = 0 then (x.1 : Int) + (offA (slice s.data.toList x.1 x.2) p2).1 else 0, (offA (slice s.data.toList x.1 x.2) p2).2) := by
      unfold offsetV
      rw [if_neg hn, Int.toNat_natCast, startOf_eq hx, hx]
      rfl
    rw [hv, ← slice_extract]
    exact offset_ok h hs n x hx hsp.1 (by rw [Lib.size_eq]; exact hsp.2.1) p2 (by omega)

theorem pos_v {w : World} {b g cap : Nat} {s : ByteArray} (h : Idx w b g cap s) (hs : s.size ≤ 65536) (q : Int) :
    Calls Tryd.prog 16 #[.pointer (some ⟨b, 0, none⟩), .int .i64 q] w fun e w' =>
      e = .returned (.tuple #[.agg #[.int .i64 (posV s.data.toList q).1.1, .int .i64 (posV s.data.toList q).1.2], .int .i64 (posV s.data.toList q).2]) ∧ Below w.heap.size w w' := by
  have hsz : s.data.toList.length = s.size := (Lib.size_eq s).symm
  by_cases hn : q < 0 ∨ (s.size : Int) < q
  · have hv : posV s.data.toList q = ((0, 0), 1) := if_pos (by rw [hsz]; omega)
    rw [hv]
    exact pos_bad h q hn
  · obtain ⟨k, rfl⟩ : ∃ k : Nat, q = (k : Int) := ⟨q.toNat, by omega⟩
    cases hst : startsAt s.data.toList k with
    | false =>
      have hv : posV s.data.toList (k : Int) = ((0, 0), 1) := if_pos (by rw [Int.toNat_natCast]; exact .inr (.inr hst))
      rw [hv]
      unfold startsAt at hst
      split at hst
      · rename_i hlt
        exact pos_mid h k (by omega) hst
      · cases hst
    | true =>
      obtain ⟨x, hx, h1, h2, h3⟩ := lineNo_spec s.data.toList k
      have hsp := span_at hx
      have hv : posV s.data.toList (k : Int) = (((lineNo s.data.toList k : Int), (len16 (slice s.data.toList x.1 (min k x.2)) : Int)), 0) := by
        unfold posV
        rw [Int.toNat_natCast, if_neg (by rw [hsz, hst]; simp; omega), startOf_eq hx, hx]
        rfl
      rw [hv, ← slice_extract]
      have hm : ∀ a b, a ≤ b → b < (spans s.data.toList).length → decide ((k : Int) < (startOf s.data.toList a : Int)) = true → decide ((k : Int) < (startOf s.data.toList b : Int)) = true := fun a b hab hb hd => by
        have := start_mono k a b hab hb (by have := of_decide_eq_true hd; omega)
        exact decide_eq_true (by omega)
      by_cases hk : k < s.size
      · unfold startsAt at hst
        rw [if_pos (by omega)] at hst
        exact pos_tail h hs k (lineNo s.data.toList k) x hx (by omega) _ rfl (by omega) (by omega) h3 hm hk hst
      · exact pos_end h hs k (lineNo s.data.toList k) x hx (by omega) _ rfl (by omega) (by omega) h3 hm (by omega)

/-- A contract whose world grows, at any world that has grown out of the first. -/
def Grows (f : Nat) (args : Array Value) (w : World) (v : Value) : Prop :=
  ∀ W, Below w.heap.size w W → Calls Tryd.prog f args W fun e w' => e = .returned v ∧ Below W.heap.size W w'
theorem Grows.go {f : Nat} {args : Array Value} {w : World} {v : Value} (h : Grows f args w v) (W : World) (hW : Below w.heap.size w W) : Calls Tryd.prog f args W fun e w' => e = .returned v ∧ Below w.heap.size w w' :=
  (h W hW).mono fun _ _ ⟨he, hb⟩ => ⟨he, hW.trans (hb.mono hW.size)⟩
theorem grows_idx {f : Nat} {args : Array Value} {w : World} {v : Value} {b g cap : Nat} {s : ByteArray} (h : Idx w b g cap s) (hc : ∀ W, Idx W b g cap s → Calls Tryd.prog f args W fun e w' => e = .returned v ∧ Below W.heap.size W w') : Grows f args w v :=
  fun W hW => hc W (h.below hW (Nat.le_refl _))
theorem Grows.on {f : Nat} {args : Array Value} {w w2 : World} {v : Value} (h : Grows f args w v) (hb : Below w.heap.size w w2) : Grows f args w2 v :=
  fun W hW => h W (hb.trans (hW.mono hb.size))

theorem same_below {P : Program} {f : Nat} {args : Array Value} {w : World} {v : Value} (h : Calls P f args w fun e w' => e = .returned v ∧ w' = w) : Calls P f args w fun e w' => e = .returned v ∧ Below w.heap.size w w' :=
  h.mono fun _ _ ⟨he, hw⟩ => ⟨he, by rw [hw]; exact Below.refl _ _⟩

/-- What an index answers, at its own world and behind. -/
theorem Idx.line {w : World} {b g cap : Nat} {s : ByteArray} (h : Idx w b g cap s) (n : Nat) (x : Nat × Nat) (hx : (spans s.data.toList)[n]? = some x) :
    Grows 14 #[.pointer (some ⟨b, 0, none⟩), .int .i64 (n : Int)] w (.tuple #[.agg #[.int .i64 (x.1 : Int), .int .i64 (x.2 : Int)], .int .i64 0]) := grows_idx h fun _ hW => line_ok hW n x hx
theorem Idx.noline {w : World} {b g cap : Nat} {s : ByteArray} (h : Idx w b g cap s) (n : Int) (hn : ¬ (0 ≤ n ∧ n < ((spans s.data.toList).length : Int))) :
    Grows 14 #[.pointer (some ⟨b, 0, none⟩), .int .i64 n] w (.tuple #[.agg #[.int .i64 0, .int .i64 0], .int .i64 1]) := grows_idx h fun _ hW => line_bad hW n hn
theorem Idx.lines {w : World} {b g cap : Nat} {s : ByteArray} (h : Idx w b g cap s) : Grows 13 #[.pointer (some ⟨b, 0, none⟩)] w (.int .i64 ((spans s.data.toList).length : Int)) := grows_idx h fun _ hW => same_below (lines_ok hW)
theorem Idx.offset {w : World} {b g cap : Nat} {s : ByteArray} (h : Idx w b g cap s) (hs : s.size ≤ 65536) (p1 p2 : Int) :
    Grows 15 #[.pointer (some ⟨b, 0, none⟩), .agg #[.int .i64 p1, .int .i64 p2]] w (.tuple #[.int .i64 (offsetV s.data.toList p1 p2).1, .int .i64 (offsetV s.data.toList p1 p2).2]) := grows_idx h fun _ hW => offset_v hW hs p1 p2
theorem Idx.pos {w : World} {b g cap : Nat} {s : ByteArray} (h : Idx w b g cap s) (hs : s.size ≤ 65536) (q : Int) :
    Grows 16 #[.pointer (some ⟨b, 0, none⟩), .int .i64 q] w (.tuple #[.agg #[.int .i64 (posV s.data.toList q).1.1, .int .i64 (posV s.data.toList q).1.2], .int .i64 (posV s.data.toList q).2]) := grows_idx h fun _ hW => pos_v hW hs q
end Go.Proofs.YtkhbggihgodpkaaDoor
