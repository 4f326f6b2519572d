/-
  Plain: what Offset and Pos answer.
-/
import Derived.Lib.Bits
import Derived.Test.YtkhbggihgodpkaaDoorP6
namespace Go.Proofs.YtkhbggihgodpkaaDoor
open Go.Lib

/-- A line's bytes and a count of units: the byte within the line. -/
def offA (m : List UInt8) (c : Int) : Int × Int := match bScan c 0 (chs m) with | some r => r | none => if (len16 m : Int) = c then ((m.length : Int), 0) else (0, 60)

theorem offA_yes {m : List UInt8} {c : Int} {pre rest : List (Nat × Bool)} {y : Nat × Bool} (h : chs m = pre ++ y :: rest) (hb : bScan c 0 pre = none) (hy : (sumU pre : Int) = c) : offA m c = ((y.1 : Int), 0) := by
  unfold offA
  rw [h, show pre ++ y :: rest = (pre ++ [y]) ++ rest from by simp, bScan_append, bScan_yes hb hy]
theorem offA_past {m : List UInt8} {c : Int} {pre rest : List (Nat × Bool)} {y : Nat × Bool} (h : chs m = pre ++ y :: rest) (hb : bScan c 0 pre = none) (hy : c < (sumU pre : Int)) : offA m c = (0, 60) := by
  unfold offA
  rw [h, show pre ++ y :: rest = (pre ++ [y]) ++ rest from by simp, bScan_append, bScan_past hb hy]
theorem offA_end {m : List UInt8} {c : Int} {pre : List (Nat × Bool)} (h : chs m = pre) (hb : bScan c 0 pre = none) : offA m c = if (sumU pre : Int) = c then ((m.length : Int), 0) else (0, 60) := by
  unfold offA len16
  rw [h, hb]

def slice (l : List UInt8) (a b : Nat) : List UInt8 := (l.drop a).take (b - a)
theorem slice_extract (s : ByteArray) (a b : Nat) : (s.extract a b).data.toList = slice s.data.toList a b := by
  unfold slice
  simp [ByteArray.data_extract]
theorem slice_length (l : List UInt8) (a b : Nat) (h : b ≤ l.length) : (slice l a b).length = b - a := by
  unfold slice
  rw [List.length_take, List.length_drop]; omega

def offsetV (l : List UInt8) (p1 p2 : Int) : Int × Int :=
  if p1 < 0 ∨ ((spans l).length : Int) ≤ p1 ∨ p2 < 0 then (0, 60) else
    (if (offA (slice l (startOf l p1.toNat) ((spans l)[p1.toNat]?.getD (0, 0)).2) p2).2 = 0 then (startOf l p1.toNat : Int) + (offA (slice l (startOf l p1.toNat) ((spans l)[p1.toNat]?.getD (0, 0)).2) p2).1 else 0,
     (offA (slice l (startOf l p1.toNat) ((spans l)[p1.toNat]?.getD (0, 0)).2) p2).2)

def lineNo (l : List UInt8) (k : Nat) : Nat := (List.range (spans l).length).countP (fun i => !decide ((k : Int) < (startOf l i : Int))) - 1
theorem lineNo_spec (l : List UInt8) (k : Nat) : ∃ x, (spans l)[lineNo l k]? = some x ∧ x.1 ≤ k ∧ (∀ i, lineNo l k < i → i < (spans l).length → k < startOf l i) ∧
    (List.range (spans l).length).countP (fun i => !decide ((k : Int) < (startOf l i : Int))) = lineNo l k + 1 := by
  obtain ⟨n, x, hx, h1, h2⟩ := line_of l k
  have hn := (List.getElem?_eq_some_iff.1 hx).1
  have hc := line_count hn (by rw [startOf_eq hx]; exact h1) h2
  have hl : lineNo l k = n := by unfold lineNo; rw [hc]; omega
  rw [hl]
  exact ⟨x, hx, h1, h2, hc⟩
theorem lineNo_eq {l : List UInt8} {k n : Nat} {x : Nat × Nat} (hx : (spans l)[n]? = some x) (h1 : x.1 ≤ k) (h2 : ∀ i, n < i → i < (spans l).length → k < startOf l i) : lineNo l k = n := by
  have hn := (List.getElem?_eq_some_iff.1 hx).1
  have hc := line_count hn (by rw [startOf_eq hx]; exact h1) h2
  unfold lineNo; rw [hc]; omega

/-- May a position be asked at byte k? -/
def startsAt (l : List UInt8) (k : Nat) : Bool := if k < l.length then runeStart ((l.getD k 0).toNat : Int) else true
def posV (l : List UInt8) (at' : Int) : (Int × Int) × Int :=
  if at' < 0 ∨ (l.length : Int) < at' ∨ startsAt l at'.toNat = false then ((0, 0), 1) else
    (((lineNo l at'.toNat : Int), (len16 (slice l (startOf l (lineNo l at'.toNat)) (min at'.toNat ((spans l)[lineNo l at'.toNat]?.getD (0, 0)).2)) : Int)), 0)
end Go.Proofs.YtkhbggihgodpkaaDoor
