/-
  Pos: a byte's position, at the text's end.
-/
import Derived.StillTailTactics
import Derived.Test.YtkhbggihgodpkaaDoorW7
namespace Go.Proofs.YtkhbggihgodpkaaDoor
open Go.RowKit Go.Shelf Go.Lib

set_option maxRecDepth 100000 in
set_option maxHeartbeats 4000000 in
theorem pos_end {w : World} {b g cap : Nat} {s : ByteArray} (h : Idx w b g cap s) (hs : s.size ≤ 65536) (k n : Nat) (x : Nat × Nat) (hx : (spans s.data.toList)[n]? = some x) (hk : k ≤ s.size) (e : Nat) (he : min k x.2 = e) (hx1 : x.1 ≤ e) (hx2 : x.2 ≤ s.size)
    (hcnt : (List.range (spans s.data.toList).length).countP (fun i => !decide ((k : Int) < ((((spans s.data.toList)[i]?.getD (0, 0)).1 : Nat) : Int))) = n + 1)
    (hmono : ∀ a b, a ≤ b → b < (spans s.data.toList).length → decide ((k : Int) < ((((spans s.data.toList)[a]?.getD (0, 0)).1 : Nat) : Int)) = true → decide ((k : Int) < ((((spans s.data.toList)[b]?.getD (0, 0)).1 : Nat) : Int)) = true) (hk' : k = s.size) :
    Calls Tryd.prog 16 #[.pointer (some ⟨b, 0, none⟩), .int .i64 (k : Int)] w fun r w' =>
      r = .returned (.tuple #[.agg #[.int .i64 (n : Int), .int .i64 (len16 (s.extract x.1 e).data.toList : Int)], .int .i64 0]) ∧ Below w.heap.size w w' := by
  have hlt : n < (spans s.data.toList).length := (List.getElem?_eq_some_iff.1 hx).1
  obtain ⟨N, hN⟩ : ∃ N, (spans s.data.toList).length = N := ⟨_, rfl⟩
  have hNs : N ≤ s.size + 1 := by rw [← hN]; have := spans_length s.data.toList; rw [← Lib.size_eq] at this; exact this
  have HI : Hid (Idx w b g cap s) := h
  have h0 := h.txt
  have h1 := h.lns
  obtain ⟨c1, c2⟩ := h.at_ hx
  rw [hN] at h1 hlt hcnt hmono
  have HC := Lib.hid hcnt
  have HM : Hid _ := hmono
  have HN := Lib.hid hN
  clear h hx hN hcnt hmono
  have h0a : (((w.alloc (.cells #[.pointer (some ⟨b, 0, none⟩)] 23)).alloc (.cells #[.int .i64 (k : Int)] 3)).alloc (.cells #[.int .i64 0, .int .i64 0] 37)).cell? ⟨b, 0, none⟩ = _ := cell_alloc_l _ (cell_alloc_l _ (cell_alloc_l _ h0))
  have h1a : (((w.alloc (.cells #[.pointer (some ⟨b, 0, none⟩)] 23)).alloc (.cells #[.int .i64 (k : Int)] 3)).alloc (.cells #[.int .i64 0, .int .i64 0] 37)).cell? ⟨w.heap.size, 0, none⟩ = _ := cell_alloc_l _ (cell_alloc_l _ (cell_new_l w (.pointer (some ⟨b, 0, none⟩)) 23).1)
  have d0 : decide ((k : Int) < 0) = false := by simp
  have d1 : decide ((s.size : Int) < (k : Int)) = false := by simp; omega
  have d1n : decide (s.size < k) = false := by simp; omega
  have d2 : decide ((k : Int) < (s.size : Int)) = false := by simp; omega
  have d2n : decide (k < s.size) = false := by simp; omega
  clear hk'
  go_enter Tryd.func16, Tryd.ntmps16
  go_wp2
  go_quiet (fail)
  obtain ⟨B, hB⟩ : ∃ B, w.heap.size = B := ⟨_, rfl⟩
  obtain ⟨W1, hW1⟩ : ∃ W1, (((w.alloc (.cells #[.pointer (some ⟨b, 0, none⟩)] 23)).alloc (.cells #[.int .i64 (k : Int)] 3)).alloc (.cells #[.int .i64 0, .int .i64 0] 37)).drewN nq = W1 := ⟨_, rfl⟩
  have s1 : W1.heap.size = B + 3 := by rw [← hW1, ← hB]; simp
  have b1 : Below B w W1 := by rw [← hW1, ← hB]; exact below_drewN ((((Below.refl _ w).alloc (Nat.le_refl _) _).alloc (by simp) _).alloc (by simp; omega) _) _
  have lb : b < B := hB ▸ World.block_lt_of_cell? w ⟨b, 0, none⟩ h0
  have lg : g < B := hB ▸ World.block_lt_of_cell? w ⟨g, n * 2, none⟩ c1
  have px : W1.cell? ⟨B, 0, none⟩ = some (.pointer (some ⟨b, 0, none⟩)) := by rw [← hW1, ← hB]; exact h1a
  have po : W1.cell? ⟨B + 1, 0, none⟩ = some (.int .i64 (k : Int)) := by
    rw [← hW1, ← hB]
    have := (cell_new_l (w.alloc (.cells #[.pointer (some ⟨b, 0, none⟩)] 23)) (.int .i64 (k : Int)) 3).1
    rw [World.size_alloc] at this
    exact cell_alloc_l _ this
  have pr : Hid (RC W1 (B + 1 + 1)) := by
    show RC _ _
    rw [← hW1, ← hB]
    have := rc_new ((w.alloc (.cells #[.pointer (some ⟨b, 0, none⟩)] 23)).alloc (.cells #[.int .i64 (k : Int)] 3)) 37
    simp only [World.size_alloc] at this
    exact this.below (below_drewN (Below.refl (w.heap.size + 1 + 1 + 1) _) _) (by omega)
  have hI1 : Hid (Idx W1 b g cap s) := HI.out.below b1 (by omega)
  have h1b : W1.cell? ⟨b, 1, none⟩ = some (.slice (some ⟨g, 0, none⟩) N cap) := (b1.cell lb).trans h1
  have eg : ∀ args w, (callFunc 30 args).run Tryd.prog w = .ok (.enter 30 args) w := enters_of Tryd.func30 (by kernel_rfl) rfl
  have hS := Any.sort_Search Tryd.search 30 #[.pointer (some ⟨B, 0, none⟩), .pointer (some ⟨B + 1, 0, none⟩)] N (fun i => decide ((k : Int) < ((((spans s.data.toList)[i]?.getD (0, 0)).1 : Nat) : Int))) W1 eg (by omega)
    (fun m os i hi => by
      obtain ⟨y, hy⟩ : ∃ y, (spans s.data.toList)[i]? = some y := ⟨_, List.getElem?_eq_getElem (by rw [HN.out]; exact hi)⟩
      have hcy := (hI1.out.at_ hy).1
      refine (pos1_any (b := b) (g := g) (cap := cap) (N := N) (bx := B) (bo := B + 1) i hi (k : Int) y.1 (cell_grown (by show b < W1.heap.size; omega) h1b m os) (cell_grown (by show B < W1.heap.size; omega) px m os) (cell_grown (by show B + 1 < W1.heap.size; omega) po m os) (cell_grown (by show g < W1.heap.size; omega) hcy m os)).mono ?_
      rintro e w' ⟨rfl, q, rfl⟩
      exact ⟨by rw [hy]; rfl, q, #[], by rw [Sort.grow_empty]⟩) HM.out
  rw [HC.out] at hS
  rw [hW1, hB]
  clear hW1 h0a h1a
  go_wp2_with (go_at_call 29; refine hS.mono ?_; rintro e w2 ⟨rfl, q, os, rfl⟩)
  obtain ⟨W2, hW2⟩ : ∃ W2, Sort.grow (W1.drewN q) os = W2 := ⟨_, rfl⟩
  have b2 : Below B w W2 := by rw [← hW2]; exact b1.trans (below_grown_sl B W1 q os (by omega))
  have s2 : B + 3 ≤ W2.heap.size := by rw [← hW2, ← s1]; exact (below_grown_sl B W1 q os (by omega)).size
  have h0c : W2.cell? ⟨b, 0, none⟩ = some (.string s) := (b2.cell lb).trans h0
  have h1c : W2.cell? ⟨b, 1, none⟩ = some (.slice (some ⟨g, 0, none⟩) N cap) := (b2.cell lb).trans h1
  have c1c : W2.cell? ⟨g, n * 2, none⟩ = some (.int .i64 (x.1 : Int)) := (b2.cell lg).trans c1
  have c2c : W2.cell? ⟨g, n * 2 + 1, none⟩ = some (.int .i64 (x.2 : Int)) := (b2.cell lg).trans c2
  have pxc : W2.cell? ⟨B, 0, none⟩ = some (.pointer (some ⟨b, 0, none⟩)) := by rw [← hW2]; exact cell_grown (by show B < W1.heap.size; omega) px q os
  have poc : W2.cell? ⟨B + 1, 0, none⟩ = some (.int .i64 (k : Int)) := by rw [← hW2]; exact cell_grown (by show B + 1 < W1.heap.size; omega) po q os
  have prc : Hid (RC W2 (B + 1 + 1)) := by rw [← hW2]; exact pr.out.below (below_grown_sl W1.heap.size W1 q os (Nat.le_refl _)) (by omega)
  rw [hW2]
  clear hW2 hS hI1 HC HM HI HN h0 h1 c1 c2 px po pr h1b b1 s1 W1
  have hnz : (n : Int) < (N : Int) := by omega
  have hez : min (k : Int) (x.2 : Int) = (e : Int) := by omega
  have hes : (e : Int) ≤ (s.size : Int) := by omega
  have hxe : (x.1 : Int) ≤ (e : Int) := by omega
  have hd : ∀ a, ({ W2 with drawn := W2.drawn + 1 } : World).cell? a = W2.cell? a := fun _ => rfl
  go_still_tail 23, (by kernel_rfl)
  go_wp2
  obtain ⟨m, hm⟩ : ∃ m, s.extract x.1 e = m := ⟨_, rfl⟩
  have hml : m.size = e - x.1 := by rw [← hm, ByteArray.size_extract]; omega
  have hme : m.size ≤ 65536 := by omega
  have HM : Hid (m.data.toList.length = m.size) := (Lib.size_eq m).symm
  obtain ⟨J, hJ⟩ : ∃ J, W2.heap.size = J := ⟨_, rfl⟩
  obtain ⟨W3, hW3⟩ : ∃ W3, W2.drew.iter m 0 = W3 := ⟨_, rfl⟩
  have b3 : Below B w W3 := by rw [← hW3]; exact b2.drew.alloc (by show B ≤ W2.heap.size; omega) _
  have k3 : W3.heap[J]? = some (.stringIter m 0) := by rw [← hW3, ← hJ]; exact World.iter_heap W2.drew m 0
  have r3 : Hid (RC W3 (B + 1 + 1)) := by rw [← hW3]; exact prc.out.below ((Below.refl J W2).drew.alloc (by show J ≤ W2.heap.size; omega) _) (by omega)
  have hJB : B + 1 + 1 < J := by omega
  rw [hm, hW3]
  clear hW3 h0c h1c c1c c2c pxc poc prc b2 s2 eg
  rw [hJ]
  clear hJ hd W2
  clear he hez hes hxe d0 d1 d1n d2 d2n hnz hNs hlt
  go_loopw [7] (fun fr wr => ∃ (i : Nat) (pre : List (Nat × Bool)), fr = .int .i64 (sumU pre : Int) ∧ i ≤ m.size ∧ Hid (chs m.data.toList = pre ++ chsAt m.data.toList i) ∧ Below B w wr ∧
      wr.heap[J]? = some (.stringIter m i) ∧ Hid (RC wr (B + 1 + 1)))
    (fun _ wr => m.size - wr.iterPos J)
  case atStart => exact ⟨0, [], rfl, Nat.zero_le _, (chsAt_zero _).symm, b3, k3, r3⟩
  case round =>
    obtain ⟨i, pre, rfl, hi, hch, b4, k4, r4⟩ := hrel
    by_cases hp : i < m.size
    · obtain ⟨ht, hwd⟩ := two_decode m i hp
      obtain ⟨hst, hw1, hw2⟩ := chsAt_step m.data.toList i (by rw [HM.out]; exact hp)
      rw [← hwd, ← ht] at hst
      rw [← hwd] at hw1 hw2
      rw [HM.out] at hw2
      have hnx : ∀ ty, (Instr.next (.pointer (some ⟨J, 0, none⟩)) true ty).run Tryd.prog wr = _ := fun ty => run_next_any_at wr J m i ty k4 hp
      obtain ⟨d, hd⟩ : ∃ d, (Utf8.decode m i).2 = d := ⟨_, rfl⟩
      obtain ⟨r, hr⟩ : ∃ r, (Utf8.decode m i).1 = r := ⟨_, rfl⟩
      obtain ⟨W4, hW4⟩ : ∃ W4, wr.iterAt J m (i + d) = W4 := ⟨_, rfl⟩
      rw [hd, hr, hW4] at hnx
      rw [hd, hr] at hst
      rw [hd] at hw1 hw2
      have hch2 : Hid (chs m.data.toList = pre ++ (i, two (r : Int)) :: chsAt m.data.toList (i + d)) := by show _ = _; rw [hch.out, hst]
      have b5 : Below B w W4 := by rw [← hW4]; exact iterAt_below b4 (by omega) _ _
      have k5 : W4.heap[J]? = some (.stringIter m (i + d)) := by rw [← hW4]; exact iterAt_heap _ _ _ _ _ k4
      have r5 : Hid (RC W4 (B + 1 + 1)) := by rw [← hW4]; exact r4.out.below (iterAt_below (Below.refl J wr) (Nat.le_refl _) _ _) (by omega)
      have hpos : wr.iterPos J = i := iterPos_of k4
      have hpos' : W4.iterPos J = i + d := iterPos_of k5
      have hu : sumU pre ≤ 2 * m.size := by
        have h1 := sumU_prefix (a := pre) (b := chs m.data.toList) ⟨_, hch.out.symm⟩
        have h2 := sumU_chs m.data.toList
        rw [HM.out] at h2; omega
      have hub := uB_le (two (r : Int))
      have hsn := sumU_snoc pre (i, two (r : Int))
      have cu := units_any (r : Int) W4
      clear hst hd hr hW4 hch ht hwd r4 b4 k4
      go_wp2_with (go_at_call 27; refine cu.mono ?_; rintro e w5 ⟨rfl, rfl⟩; clear cu)
      go_roundw
      case rel =>
        exact ⟨i + d, pre ++ [(i, two (r : Int))], by rw [hsn, Int.natCast_add], by omega, by show _ = _; rw [hch2.out]; simp, b5, k5, r5⟩
      case measure => rw [hpos, hpos']; omega
    · have hnx : ∀ ty, (Instr.next (.pointer (some ⟨J, 0, none⟩)) true ty).run Tryd.prog wr = _ := fun ty => run_next_end_at wr J m i ty k4 hp
      have hke : i = m.data.toList.length := by rw [HM.out]; omega
      have hch2 : chs m.data.toList = pre := by rw [hch.out, hke, chsAt_end, List.append_nil]
      have hlen : len16 m.data.toList = sumU pre := by unfold len16; rw [hch2]
      have HL := Lib.hid hlen
      obtain ⟨z0, z1, z2, z3⟩ := r4.out
      clear hke hch2 hlen
      go_wp2
      refine bodyPost_ret (v := .tuple #[.agg #[.int .i64 (n : Int), .int .i64 (sumU pre : Int)], .int .i64 0]) (by simp [results, Tryd.f16, go_sem, z0, z1]) rfl ⟨by rw [hm, HL.out], ?_⟩
      rw [hB]
      exact (b4.setCell (p := ⟨B + 1 + 1, 0, none⟩) (by show B ≤ B + 1 + 1; omega) _).setCell (p := ⟨B + 1 + 1, 1, none⟩) (by show B ≤ B + 1 + 1; omega) _
end Go.Proofs.YtkhbggihgodpkaaDoor
