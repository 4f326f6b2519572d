/-
  Offset: a position's byte.
-/
import Derived.Deep.QuietTactic
import Derived.BigQuiet
import Derived.BigRegion
import Derived.Lib.OthersKept
import Derived.Test.YtkhbggihgodpkaaDoorW4
import Derived.Test.YtkhbggihgodpkaaDoorP7
namespace Go.Proofs.YtkhbggihgodpkaaDoor
open Go.RowKit Go.Shelf Go.Lib

theorem two_decode (s : ByteArray) (i : Nat) (h : i < s.size) : two ((Utf8.decode s i).1 : Int) = two (rn (s.data.toList.drop i)).1 ∧ (Utf8.decode s i).2 = (rn (s.data.toList.drop i)).2 := by
  have hne : s.data.toList.drop i ≠ [] := drop_ne (by rw [← Lib.size_eq]; exact h)
  unfold rn
  rw [if_neg hne, decodeL_drop]
  split
  · rename_i hd
    rw [hd.1, hd.2]
    exact ⟨rfl, rfl⟩
  · exact ⟨rfl, rfl⟩

theorem iterAt_below {B k : Nat} {a w : World} (h : Below B a w) (hk : B ≤ k) (s : ByteArray) (p : Nat) : Below B a (w.iterAt k s p) :=
  ⟨h.os, h.tape, h.output, by rw [iterAt_size]; exact h.size, fun j hj => (iterAt_other w k j s p (by omega)).trans (h.block j hj)⟩
theorem iterAt_cell {w : World} {k : Nat} {a : Addr} (hk : a.block ≠ k) (s : ByteArray) (p : Nat) : (w.iterAt k s p).cell? a = w.cell? a :=
  World.cell?_of_block (iterAt_other w k a.block s p hk)

theorem below_drewN {B : Nat} {a w : World} (h : Below B a w) (n : Nat) : Below B a (w.drewN n) := ⟨h.os, h.tape, h.output, h.size, h.block⟩

set_option maxRecDepth 100000 in
set_option maxHeartbeats 2000000 in
theorem offset_bad {w : World} {b g cap : Nat} {s : ByteArray} (h : Idx w b g cap s) (p1 p2 : Int) (hn : p1 < 0 ∨ ((spans s.data.toList).length : Int) ≤ p1 ∨ p2 < 0) :
    Calls Tryd.prog 15 #[.pointer (some ⟨b, 0, none⟩), .agg #[.int .i64 p1, .int .i64 p2]] w fun e w' => e = .returned (.tuple #[.int .i64 0, .int .i64 60]) ∧ Below w.heap.size w w' := by
  have h1 := h.lns
  clear h
  have h1a : (w.alloc (.cells #[.int .i64 p1, .int .i64 p2] 37)).cell? ⟨b, 1, none⟩ = _ := cell_alloc_l _ h1
  go_enter Tryd.func15, Tryd.ntmps15
  by_cases h0 : p1 < 0
  · have d0 : decide (p1 < 0) = true := by simpa using h0
    clear hn
    go_wp2
    go_quiet (fail)
    go_wp2
    go_ret2
    exact ⟨rfl, below_drewN ((Below.refl _ w).alloc (Nat.le_refl _) _) _⟩
  · have d0 : decide (p1 < 0) = false := by simpa using h0
    have h0' : 0 ≤ p1 := by omega
    by_cases h2 : ((spans s.data.toList).length : Int) ≤ p1
    · have d2 : decide (((spans s.data.toList).length : Int) ≤ p1) = true := by simpa using h2
      clear hn
      go_wp2
      go_quiet (fail)
      go_wp2
      go_ret2
      exact ⟨rfl, below_drewN ((Below.refl _ w).alloc (Nat.le_refl _) _) _⟩
    · have d2 : decide (((spans s.data.toList).length : Int) ≤ p1) = false := by simpa using h2
      have h2' : p1 < ((spans s.data.toList).length : Int) := by omega
      have h3 : p2 < 0 := by omega
      have d3 : decide (p2 < 0) = true := by simpa using h3
      clear hn
      go_wp2
      go_quiet (fail)
      go_wp2
      go_ret2
      exact ⟨rfl, below_drewN ((Below.refl _ w).alloc (Nat.le_refl _) _) _⟩

set_option maxRecDepth 100000 in
set_option maxHeartbeats 4000000 in
theorem offset_ok {w : World} {b g cap : Nat} {s : ByteArray} (h : Idx w b g cap s) (hs : s.size ≤ 65536) (n : Nat) (x : Nat × Nat) (hx : (spans s.data.toList)[n]? = some x) (hx1 : x.1 ≤ x.2) (hx2 : x.2 ≤ s.size) (c : Int) (hc : 0 ≤ c) :
    Calls Tryd.prog 15 #[.pointer (some ⟨b, 0, none⟩), .agg #[.int .i64 (n : Int), .int .i64 c]] w fun e w' =>
      e = .returned (.tuple #[.int .i64 (if (offA (s.extract x.1 x.2).data.toList c).2 = 0 then (x.1 : Int) + (offA (s.extract x.1 x.2).data.toList c).1 else 0), .int .i64 (offA (s.extract x.1 x.2).data.toList c).2]) ∧ Below w.heap.size w w' := by
  have hlt : n < (spans s.data.toList).length := (List.getElem?_eq_some_iff.1 hx).1
  obtain ⟨N, hN⟩ : ∃ N, (spans s.data.toList).length = N := ⟨_, rfl⟩
  have h0 := h.txt
  have h1 := h.lns
  obtain ⟨c1, c2⟩ := h.at_ hx
  rw [hN] at h1 hlt
  clear h hx hN
  have h1a : (w.alloc (.cells #[.int .i64 (n : Int), .int .i64 c] 37)).cell? ⟨b, 1, none⟩ = _ := cell_alloc_l _ h1
  have d0 : decide ((n : Int) < 0) = false := by simp
  have d2 : decide ((N : Int) ≤ (n : Int)) = false := by simp; omega
  have d2n : decide (N ≤ n) = false := by simp; omega
  have d3 : decide (c < 0) = false := by simpa using hc
  have hnz : (n : Int) < (N : Int) := by omega
  go_enter Tryd.func15, Tryd.ntmps15
  go_wp2
  go_quiet (fail)
  obtain ⟨W1, hW1⟩ : ∃ W1, (w.alloc (.cells #[.int .i64 (n : Int), .int .i64 c] 37)).drewN nq = W1 := ⟨_, rfl⟩
  obtain ⟨B, hB⟩ : ∃ B, w.heap.size = B := ⟨_, rfl⟩
  have s1 : W1.heap.size = B + 1 := by rw [← hW1, ← hB]; simp
  have b1 : Below B w W1 := by rw [← hW1, ← hB]; exact below_drewN ((Below.refl _ w).alloc (Nat.le_refl _) _) _
  have lb : b < B := hB ▸ World.block_lt_of_cell? w ⟨b, 0, none⟩ h0
  have lg : g < B := hB ▸ World.block_lt_of_cell? w ⟨g, n * 2, none⟩ c1
  have h0b : W1.cell? ⟨b, 0, none⟩ = some (.string s) := (b1.cell lb).trans h0
  have h1b : W1.cell? ⟨b, 1, none⟩ = some (.slice (some ⟨g, 0, none⟩) N cap) := (b1.cell lb).trans h1
  have c1b : W1.cell? ⟨g, n * 2, none⟩ = some (.int .i64 (x.1 : Int)) := (b1.cell lg).trans c1
  have c2b : W1.cell? ⟨g, n * 2 + 1, none⟩ = some (.int .i64 (x.2 : Int)) := (b1.cell lg).trans c2
  have p0b : W1.cell? ⟨B, 0, none⟩ = some (.int .i64 (n : Int)) := by rw [← hW1, ← hB]; simp
  have p1b : W1.cell? ⟨B, 1, none⟩ = some (.int .i64 c) := by rw [← hW1, ← hB]; simp
  rw [hW1, hB]
  clear hW1 h1a h0 h1 c1 c2
  go_wp2
  go_region
  obtain ⟨W2, hW2⟩ : ∃ W2, (W1.alloc (.cells #[.int .i64 (x.1 : Int), .int .i64 (x.2 : Int)] 32)).drew = W2 := ⟨_, rfl⟩
  have s2 : W2.heap.size = B + 1 + 1 := by rw [← hW2]; simp [s1]
  have b2 : Below B w W2 := by rw [← hW2]; exact (b1.alloc (by omega) _).drew
  have h0c : W2.cell? ⟨b, 0, none⟩ = some (.string s) := by rw [← hW2]; exact cell_alloc_l _ h0b
  have p1c : W2.cell? ⟨B, 1, none⟩ = some (.int .i64 c) := by rw [← hW2]; exact cell_alloc_l _ p1b
  have x0c : W2.cell? ⟨B + 1, 0, none⟩ = some (.int .i64 (x.1 : Int)) := by rw [← hW2, ← s1]; simp
  have x1c : W2.cell? ⟨B + 1, 1, none⟩ = some (.int .i64 (x.2 : Int)) := by rw [← hW2, ← s1]; simp
  rw [hW2]
  clear hW2 h0b h1b c1b c2b p0b p1b s1 b1 W1
  have hxz : (x.1 : Int) ≤ (x.2 : Int) := by omega
  have hxs : (x.2 : Int) ≤ (s.size : Int) := by omega
  go_wp2
  go_region
  obtain ⟨m, hm⟩ : ∃ m, s.extract x.1 x.2 = m := ⟨_, rfl⟩
  have hml : m.size = x.2 - x.1 := by rw [← hm, ByteArray.size_extract]; omega
  have HM : Hid (m.data.toList.length = m.size) := (Lib.size_eq m).symm
  obtain ⟨W3, hW3⟩ : ∃ W3, W2.drew.iter m 0 = W3 := ⟨_, rfl⟩
  have b3 : Below B w W3 := by rw [← hW3]; exact b2.drew.alloc (by show B ≤ W2.heap.size; omega) _
  have k3 : W3.heap[B + 1 + 1]? = some (.stringIter m 0) := by rw [← hW3, ← s2]; exact World.iter_heap W2.drew m 0
  have p1d : W3.cell? ⟨B, 1, none⟩ = some (.int .i64 c) := by rw [← hW3]; exact cell_alloc_l (W := W2.drew) _ p1c
  have x0d : W3.cell? ⟨B + 1, 0, none⟩ = some (.int .i64 (x.1 : Int)) := by rw [← hW3]; exact cell_alloc_l (W := W2.drew) _ x0c
  have x1d : W3.cell? ⟨B + 1, 1, none⟩ = some (.int .i64 (x.2 : Int)) := by rw [← hW3]; exact cell_alloc_l (W := W2.drew) _ x1c
  rw [hm, hW3]
  clear hW3 h0c p1c x0c x1c b2 s2 W2
  go_wp2
  go_loopw [7] (fun fr wr => ∃ (k : Nat) (pre : List (Nat × Bool)), fr = .int .i64 (sumU pre : Int) ∧ k ≤ m.size ∧ Hid (chs m.data.toList = pre ++ chsAt m.data.toList k) ∧ Hid (bScan c 0 pre = none) ∧ Below B w wr ∧
      wr.heap[B + 1 + 1]? = some (.stringIter m k) ∧ wr.cell? ⟨B, 1, none⟩ = some (.int .i64 c) ∧ wr.cell? ⟨B + 1, 0, none⟩ = some (.int .i64 (x.1 : Int)) ∧ wr.cell? ⟨B + 1, 1, none⟩ = some (.int .i64 (x.2 : Int)))
    (fun _ wr => m.size - wr.iterPos (B + 1 + 1))
  case atStart => exact ⟨0, [], rfl, Nat.zero_le _, (chsAt_zero _).symm, rfl, b3, k3, p1d, x0d, x1d⟩
  case round =>
    obtain ⟨k, pre, rfl, hk, hch, hbs, b4, k4, p1e, x0e, x1e⟩ := hrel
    by_cases hp : k < m.size
    · obtain ⟨ht, hwd⟩ := two_decode m k hp
      obtain ⟨hst, hw1, hw2⟩ := chsAt_step m.data.toList k (by rw [HM.out]; exact hp)
      rw [← hwd, ← ht] at hst
      rw [← hwd] at hw1 hw2
      rw [HM.out] at hw2
      have hnx : ∀ ty, (Instr.next (.pointer (some ⟨B + 1 + 1, 0, none⟩)) true ty).run Tryd.prog wr = _ := fun ty => run_next_any_at wr (B + 1 + 1) m k ty k4 hp
      obtain ⟨d, hd⟩ : ∃ d, (Utf8.decode m k).2 = d := ⟨_, rfl⟩
      obtain ⟨r, hr⟩ : ∃ r, (Utf8.decode m k).1 = r := ⟨_, rfl⟩
      obtain ⟨W4, hW4⟩ : ∃ W4, wr.iterAt (B + 1 + 1) m (k + d) = W4 := ⟨_, rfl⟩
      rw [hd, hr, hW4] at hnx
      rw [hd, hr] at hst
      rw [hd] at hw1 hw2
      have hch2 : Hid (chs m.data.toList = pre ++ (k, two (r : Int)) :: chsAt m.data.toList (k + d)) := by show _ = _; rw [hch.out, hst]
      have b5 : Below B w W4 := by rw [← hW4]; exact iterAt_below b4 (by omega) _ _
      have k5 : W4.heap[B + 1 + 1]? = some (.stringIter m (k + d)) := by rw [← hW4]; exact iterAt_heap _ _ _ _ _ k4
      have p1f : W4.cell? ⟨B, 1, none⟩ = some (.int .i64 c) := by rw [← hW4]; exact (iterAt_cell (by show B ≠ B + 1 + 1; omega) _ _).trans p1e
      have x0f : W4.cell? ⟨B + 1, 0, none⟩ = some (.int .i64 (x.1 : Int)) := by rw [← hW4]; exact (iterAt_cell (by show B + 1 ≠ B + 1 + 1; omega) _ _).trans x0e
      have x1f : W4.cell? ⟨B + 1, 1, none⟩ = some (.int .i64 (x.2 : Int)) := by rw [← hW4]; exact (iterAt_cell (by show B + 1 ≠ B + 1 + 1; omega) _ _).trans x1e
      have hpos : wr.iterPos (B + 1 + 1) = k := iterPos_of k4
      have hpos' : W4.iterPos (B + 1 + 1) = k + d := iterPos_of k5
      have hu : sumU pre ≤ 2 * m.size := by
        have h1 := sumU_prefix (a := pre) (b := chs m.data.toList) ⟨_, hch.out.symm⟩
        have h2 := sumU_chs m.data.toList
        rw [HM.out] at h2; omega
      have hub := uB_le (two (r : Int))
      have hsn := sumU_snoc pre (k, two (r : Int))
      have cu := units_any (r : Int) W4
      clear hst hd hr hW4 hch ht hwd p1e x0e x1e b4 k4
      by_cases hlt2 : (sumU pre : Int) < c
      · have hb2 : Hid (bScan c 0 (pre ++ [(k, two (r : Int))]) = none) := bScan_on hbs.out hlt2
        have e1 : decide (c ≤ (sumU pre : Int)) = false := by simpa using hlt2
        go_wp2_with (go_at_call 27; refine cu.mono ?_; rintro e w5 ⟨rfl, rfl⟩; clear cu)
        go_roundw
        case rel =>
          exact ⟨k + d, pre ++ [(k, two (r : Int))], by rw [hsn, Int.natCast_add], by omega, by show _ = _; rw [hch2.out]; simp, hb2, b5, k5, p1f, x0f, x1f⟩
        case measure => rw [hpos, hpos']; omega
      · have e1 : decide (c ≤ (sumU pre : Int)) = true := by simp; omega
        by_cases hgt : c < (sumU pre : Int)
        · have e2 : decide (c < (sumU pre : Int)) = true := by simpa using hgt
          have e3 : ((sumU pre : Int) != c) = true := by simp; omega
          have hoff := offA_past hch2.out hbs.out hgt
          go_wp2
          go_ret2
          exact ⟨rfl, b5⟩
        · have e2 : decide (c < (sumU pre : Int)) = false := by simp; omega
          have hoff := offA_yes hch2.out hbs.out (by omega)
          go_wp2
          go_ret2
          exact ⟨rfl, b5⟩
    · have hnx : ∀ ty, (Instr.next (.pointer (some ⟨B + 1 + 1, 0, none⟩)) true ty).run Tryd.prog wr = _ := fun ty => run_next_end_at wr (B + 1 + 1) m k ty k4 hp
      have hke : k = m.data.toList.length := by rw [HM.out]; omega
      have hch2 : chs m.data.toList = pre := by rw [hch.out, hke, chsAt_end, List.append_nil]
      have hoff := offA_end hch2 hbs.out
      by_cases he : (sumU pre : Int) = c
      · rw [if_pos he] at hoff
        have e3 : ((sumU pre : Int) != c) = false := by simpa using he
        go_wp2
        all_goals
          go_ret2
          exact ⟨congrArg (fun z : Int => Ending.returned (Value.tuple #[.int .i64 z, .int .i64 0])) (show (x.2 : Int) = (x.1 : Int) + ((x.2 - x.1 : Nat) : Int) by omega), b4⟩
      · rw [if_neg he] at hoff
        have e3 : ((sumU pre : Int) != c) = true := by simpa using he
        go_wp2
        all_goals
          go_ret2
          exact ⟨rfl, b4⟩
end Go.Proofs.YtkhbggihgodpkaaDoor
