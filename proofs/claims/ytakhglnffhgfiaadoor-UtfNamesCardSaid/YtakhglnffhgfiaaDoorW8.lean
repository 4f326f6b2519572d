/-
  Walk of the program's Byte: a loop over the iterator that is left early.
-/
import Derived.Test.YtakhglnffhgfiaaDoorW7
namespace Go.Proofs.YtakhglnffhgfiaaDoor
open Go.RowKit Go.Shelf Go.Lib
attribute [local go_sem] Oper.semAt_some

set_option maxHeartbeats 1000000 in
theorem byte_out (s : ByteArray) (q : Int) (w : World) (h : q < 0) :
    Calls Tryd.prog 18 #[.string s, .int .i64 q] w fun e w' => e = .returned (.tuple #[.int .i64 0, .int .i64 1]) ∧ Below w.heap.size w w' := by
  go_enter Tryd.func18, Tryd.ntmps18
  go_wp2
  refine bodyPost_ret (v := .tuple #[.int .i64 0, .int .i64 1]) (by simp [results, Tryd.f18, go_sem]) rfl ⟨rfl, ?_⟩
  exact (((Below.refl _ _).alloc (Nat.le_refl _) _).alloc (by simp) _).alloc (by simp; omega) _

set_option maxRecDepth 100000 in
set_option maxHeartbeats 2000000 in
theorem byte_in (s : ByteArray) (q : Int) (w : World) (hs : s.size ≤ 2305843009213693952) (h0 : 0 ≤ q) (hT : Tabs w) :
    Calls Tryd.prog 18 #[.string s, .int .i64 q] w fun e w' => e = .returned (.tuple #[.int .i64 (byteA s.data.toList q).1, .int .i64 (byteA s.data.toList q).2]) ∧ Below w.heap.size w w' := by
  refine (callsIn_wide (n := 3)).1 ?_
  have HT : Hid (Tabs w) := hT
  clear hT
  refine callsIn_of_wp_marks Tryd.func18 rfl trivial ?_ rfl
  simp only [Tryd.ntmps18, List.size_toArray, List.length_cons, List.length_nil, Nat.reduceAdd, Nat.reduceSub, Array.replicate_succ, Array.replicate_zero, List.push_toArray, List.append_toArray, List.nil_append, List.cons_append]
  gi_wp2_with (refine ⟨trivial, ?_⟩; gi_at_call 27; refine (callsIn_wide.2 (characters_any s _)).mono ?_; rintro e w' ⟨rfl, rfl⟩)
  have b0 := Boxed.new w 3 (.int .i64 q)
  have b1 := Boxed.new (w.alloc (.cells #[.int .i64 q] 3)) 3 (.int .i64 0)
  have b2 := Boxed.new ((w.alloc (.cells #[.int .i64 q] 3)).alloc (.cells #[.int .i64 0] 3)) 29 (.int .i64 0)
  have b3 := Boxed.new (((w.alloc (.cells #[.int .i64 q] 3)).alloc (.cells #[.int .i64 0] 3)).alloc (.cells #[.int .i64 0] 29)) 3 (.int .i64 0)
  have b4 := Boxed.new ((((w.alloc (.cells #[.int .i64 q] 3)).alloc (.cells #[.int .i64 0] 3)).alloc (.cells #[.int .i64 0] 29)).alloc (.cells #[.int .i64 0] 3)) 9 (.string s)
  simp only [World.size_alloc] at b1 b2 b3 b4
  have hB0 : Below w.heap.size w (((((w.alloc (.cells #[.int .i64 q] 3)).alloc (.cells #[.int .i64 0] 3)).alloc (.cells #[.int .i64 0] 29)).alloc (.cells #[.int .i64 0] 3)).alloc (.cells #[.string s] 9)) :=
    (((((Below.refl _ w).alloc (Nat.le_refl _) _).alloc (by simp) _).alloc (by simp; omega) _).alloc (by simp; omega) _).alloc (by simp; omega) _
  refine wpIn_rangeFunc_ownF rfl (by omega) (gf := 31) (lb := #[.pointer (some ⟨w.heap.size + 1 + 1 + 1 + 1, 0, none⟩)]) rfl trivial (enters_of Tryd.func31 (by kernel_rfl) rfl)
    (chars_stops 2 (by omega) (w.heap.size + 1 + 1 + 1 + 1) w s (by omega) HT.out _ (by simp) hB0 b4.cell) kpC_t (kpC_b (by simp; omega) (by simp)) (Below.refl _ _) (fun _ => rfl)
    (fun pre W => (Hid (bScan q 0 pre = none) ∧ W.cell? ⟨w.heap.size, 0, none⟩ = some (.int .i64 q) ∧ (W.cell? ⟨w.heap.size + 1, 0, none⟩ = some (.int .i64 0) ∧ W.frozen? ⟨w.heap.size + 1, 0, none⟩ = false) ∧ (W.cell? ⟨w.heap.size + 1 + 1, 0, none⟩ = some (.int .i64 0) ∧ W.frozen? ⟨w.heap.size + 1 + 1, 0, none⟩ = false) ∧ (W.cell? ⟨w.heap.size + 1 + 1 + 1, 0, none⟩ = some (.int .i64 (sumU pre : Nat)) ∧ W.frozen? ⟨w.heap.size + 1 + 1 + 1, 0, none⟩ = false)) ∧ Below w.heap.size w W)
    (fun c pre W => (c = .ret ∧ ∃ r1 r2 : Int, Hid (bScan q 0 pre = some (r1, r2)) ∧ W.cell? ⟨w.heap.size + 1, 0, none⟩ = some (.int .i64 r1) ∧ W.cell? ⟨w.heap.size + 1 + 1, 0, none⟩ = some (.int .i64 r2)) ∧ Below w.heap.size w W)
    (OwnFrom.and (Own.from (fun s A B row hs hg hr => ⟨hs.1, cell_kept hs.2.1 hg hr, ⟨cell_kept hs.2.2.1.1 hg hr, (frozen_kept hs.2.2.1.1 hg hr).trans hs.2.2.1.2⟩, ⟨cell_kept hs.2.2.2.1.1 hg hr, (frozen_kept hs.2.2.2.1.1 hg hr).trans hs.2.2.2.1.2⟩, ⟨cell_kept hs.2.2.2.2.1 hg hr, (frozen_kept hs.2.2.2.2.1 hg hr).trans hs.2.2.2.2.2⟩⟩) _) (ownFrom_below (Nat.le_refl _) (by simp; omega)))
    (fun c => OwnFrom.and (Own.from (fun s A B row hs hg hr => by obtain ⟨hc, r1, r2, e1, e2, e3⟩ := hs; exact ⟨hc, r1, r2, e1, cell_kept e2 hg hr, cell_kept e3 hg hr⟩) _) (ownFrom_below (Nat.le_refl _) (by simp; omega)))
    ⟨⟨rfl, ((((b0.alloc _).alloc _).alloc _).alloc _).cell, ⟨(((b1.alloc _).alloc _).alloc _).cell, (((b1.alloc _).alloc _).alloc _).frozen⟩, ⟨((b2.alloc _).alloc _).cell, ((b2.alloc _).alloc _).frozen⟩, ⟨(b3.alloc _).cell, (b3.alloc _).frozen⟩⟩, hB0⟩
    (fun x => { tmps := #[.string s, .int .i64 q, undef, .pointer (some ⟨w.heap.size, 0, none⟩), .pointer (some ⟨w.heap.size + 1, 0, none⟩), .pointer (some ⟨w.heap.size + 1 + 1, 0, none⟩), .pointer (some ⟨w.heap.size + 1 + 1 + 1, 0, none⟩), .int .i64 (x.1 : Int), .int .i64 (uB x.2 : Nat), .int .i64 q,
      .bool (decide (q < 0)), .string s, .func (.func 31) #[] #[.pointer (some ⟨w.heap.size + 1 + 1 + 1 + 1, 0, none⟩)], .int .i64 (x.1 : Int), .int .i64 (uB x.2 : Nat), undef, undef, undef, undef, undef, undef, undef, undef, undef, undef, undef, undef, undef, undef, undef, undef, undef, undef, undef, undef, undef, undef], defers := [] }) ?assign ?body ?done ?stop
  case assign =>
    intro l x W K hK
    gi_wp2
    exact hK
  case body =>
    rintro l pre x W ⟨⟨hu, hq, ⟨hc1, hf1⟩, ⟨hc2, hf2⟩, ⟨hc3, hf3⟩⟩, hB⟩ hlen
    have h1' := (uB_le x.2).2
    have h2 := sumU_len pre
    have h3 := chs_length s.data.toList
    rw [← Lib.size_eq] at h3
    have h4 : (sumU pre : Int) ≤ 4611686018427387904 := by omega
    have h5 : ((uB x.2 : Nat) : Int) ≤ 2 := by omega
    clear h1' h2 h3 hlen
    by_cases e1 : ((sumU pre : Nat) : Int) = q
    · have hr : Hid (bScan q 0 (pre ++ [x]) = some ((x.1 : Int), 0)) := bScan_yes hu.out e1
      have t1 : (((sumU pre : Nat) : Int) == q) = true := beq_iff_eq.2 e1
      clear e1 hu
      gi_wp2
      exact ⟨(KeepsOthers.setCell _ _ _).trans (KeepsOthers.setCell _ _ _), ⟨rfl, _, _, hr, two_stores_a hc1 hc2 (by simp), two_stores_b hc1 hc2 (by simp)⟩, (hB.setCell (p := ⟨w.heap.size + 1, 0, none⟩) (by simp) _).setCell (p := ⟨w.heap.size + 1 + 1, 0, none⟩) (by simp; omega) _⟩
    · have t1 : (((sumU pre : Nat) : Int) == q) = false := beq_eq_false_iff_ne.2 e1
      by_cases e2 : q < ((sumU pre : Nat) : Int)
      · have hr : Hid (bScan q 0 (pre ++ [x]) = some (0, 60)) := bScan_past hu.out e2
        clear e1 hu
        gi_wp2
        exact ⟨(KeepsOthers.setCell _ _ _).trans (KeepsOthers.setCell _ _ _), ⟨rfl, _, _, hr, two_stores_a hc1 hc2 (by simp), two_stores_b hc1 hc2 (by simp)⟩, (hB.setCell (p := ⟨w.heap.size + 1, 0, none⟩) (by simp) _).setCell (p := ⟨w.heap.size + 1 + 1, 0, none⟩) (by simp; omega) _⟩
      · have hr : Hid (bScan q 0 (pre ++ [x]) = none) := bScan_on hu.out (by omega)
        clear e1 hu
        gi_wp2
        exact ⟨KeepsOthers.setCell _ _ _, ⟨(Below.refl w.heap.size W).setCell (p := ⟨w.heap.size + 1 + 1 + 1, 0, none⟩) (by simp; omega) _, World.cell?_setCell_other _ _ _ _ (by simp)⟩, ⟨hr, (World.cell?_setCell_other _ _ _ _ (by simp)).trans hq, ⟨(World.cell?_setCell_other _ _ _ _ (by simp)).trans hc1, by rw [World.frozen?_setCell]; exact hf1⟩, ⟨(World.cell?_setCell_other _ _ _ _ (by simp)).trans hc2, by rw [World.frozen?_setCell]; exact hf2⟩, ⟨by rw [sumU_snoc]; exact World.cell?_setCell_same' _ _ _ (by rw [hc3]; rfl), by rw [World.frozen?_setCell]; exact hf3⟩⟩, hB.setCell (p := ⟨w.heap.size + 1 + 1 + 1, 0, none⟩) (by simp; omega) _⟩
  case done =>
    rintro D ys W hD rfl ⟨⟨hu, hq, ⟨hc1, hf1⟩, ⟨hc2, hf2⟩, ⟨hc3, hf3⟩⟩, hB⟩ hK
    have hr := byteA_none h0 hu.out
    rw [← Lib.size_eq] at hr
    unfold len16 at hr
    by_cases e : ((sumU (chs s.data.toList) : Nat) : Int) = q
    · rw [if_pos e] at hr
      have t1 : (((sumU (chs s.data.toList) : Nat) : Int) == q) = true := beq_iff_eq.2 e
      clear e
      have Hr := Lib.hid hr
      clear hr hu
      gi_wp2
      have hK' := (((KeepsOthers.setCell W ⟨w.heap.size + 1, 0, none⟩ (.int .i64 (s.size : Int))).trans (KeepsOthers.setCell (W.setCell ⟨w.heap.size + 1, 0, none⟩ (.int .i64 (s.size : Int))) ⟨w.heap.size + 1 + 1, 0, none⟩ (.int .i64 0))).same D _ hK rfl)
      refine ⟨by simp, .inl ⟨_, _, rfl, run_takeDeferred hK', ?_⟩⟩
      have g1 := cell_kept (two_stores_a (va := .int .i64 (s.size : Int)) (vb := .int .i64 0) hc1 hc2 (by simp)) (grownBy_putObj' _ D (.deferred none)) (fun r e => by cases e; exact ⟨_, hK', rfl⟩)
      have g2 := cell_kept (two_stores_b (va := .int .i64 (s.size : Int)) (vb := .int .i64 0) hc1 hc2 (by simp)) (grownBy_putObj' _ D (.deferred none)) (fun r e => by cases e; exact ⟨_, hK', rfl⟩)
      refine ⟨.tuple #[.int .i64 (s.size : Int), .int .i64 0], ?_, by rw [Hr.out], ((hB.setCell (p := ⟨w.heap.size + 1, 0, none⟩) (by simp) _).setCell (p := ⟨w.heap.size + 1 + 1, 0, none⟩) (by simp; omega) _).trans (belowK_b (w := w) (Nat.le_refl _) _ D _ _ (by simp at hD; omega) hK' rfl rfl)⟩
      simp [results, Tryd.f18, go_sem, g1, g2]
    · rw [if_neg e] at hr
      have t1 : (((sumU (chs s.data.toList) : Nat) : Int) == q) = false := beq_eq_false_iff_ne.2 e
      clear e
      by_cases e : q < ((sumU (chs s.data.toList) : Nat) : Int)
      · rw [if_pos e] at hr
        have Hr := Lib.hid hr
        clear hr hu
        gi_wp2
        have hK' := (((KeepsOthers.setCell W ⟨w.heap.size + 1, 0, none⟩ (.int .i64 0)).trans (KeepsOthers.setCell (W.setCell ⟨w.heap.size + 1, 0, none⟩ (.int .i64 0)) ⟨w.heap.size + 1 + 1, 0, none⟩ (.int .i64 60))).same D _ hK rfl)
        refine ⟨by simp, .inl ⟨_, _, rfl, run_takeDeferred hK', ?_⟩⟩
        have g1 := cell_kept (two_stores_a (va := .int .i64 0) (vb := .int .i64 60) hc1 hc2 (by simp)) (grownBy_putObj' _ D (.deferred none)) (fun r e => by cases e; exact ⟨_, hK', rfl⟩)
        have g2 := cell_kept (two_stores_b (va := .int .i64 0) (vb := .int .i64 60) hc1 hc2 (by simp)) (grownBy_putObj' _ D (.deferred none)) (fun r e => by cases e; exact ⟨_, hK', rfl⟩)
        refine ⟨.tuple #[.int .i64 0, .int .i64 60], ?_, by rw [Hr.out], ((hB.setCell (p := ⟨w.heap.size + 1, 0, none⟩) (by simp) _).setCell (p := ⟨w.heap.size + 1 + 1, 0, none⟩) (by simp; omega) _).trans (belowK_b (w := w) (Nat.le_refl _) _ D _ _ (by simp at hD; omega) hK' rfl rfl)⟩
        simp [results, Tryd.f18, go_sem, g1, g2]
      · rw [if_neg e] at hr
        have Hr := Lib.hid hr
        clear hr hu
        gi_wp2
        have hK' := (((KeepsOthers.setCell W ⟨w.heap.size + 1, 0, none⟩ (.int .i64 0)).trans (KeepsOthers.setCell (W.setCell ⟨w.heap.size + 1, 0, none⟩ (.int .i64 0)) ⟨w.heap.size + 1 + 1, 0, none⟩ (.int .i64 1))).same D _ hK rfl)
        refine ⟨by simp, .inl ⟨_, _, rfl, run_takeDeferred hK', ?_⟩⟩
        have g1 := cell_kept (two_stores_a (va := .int .i64 0) (vb := .int .i64 1) hc1 hc2 (by simp)) (grownBy_putObj' _ D (.deferred none)) (fun r e => by cases e; exact ⟨_, hK', rfl⟩)
        have g2 := cell_kept (two_stores_b (va := .int .i64 0) (vb := .int .i64 1) hc1 hc2 (by simp)) (grownBy_putObj' _ D (.deferred none)) (fun r e => by cases e; exact ⟨_, hK', rfl⟩)
        refine ⟨.tuple #[.int .i64 0, .int .i64 1], ?_, by rw [Hr.out], ((hB.setCell (p := ⟨w.heap.size + 1, 0, none⟩) (by simp) _).setCell (p := ⟨w.heap.size + 1 + 1, 0, none⟩) (by simp; omega) _).trans (belowK_b (w := w) (Nat.le_refl _) _ D _ _ (by simp at hD; omega) hK' rfl rfl)⟩
        simp [results, Tryd.f18, go_sem, g1, g2]
  case stop =>
    rintro D c pre W hD hpre ⟨⟨rfl, r1, r2, hr, hc1, hc2⟩, hB⟩ hK
    have hr' := byteA_some h0 hpre hr.out
    have Hr := Lib.hid hr'
    clear hr' hr hpre
    gi_wp2
    refine ⟨by simp, .inl ⟨_, _, rfl, run_takeDeferred hK, ?_⟩⟩
    have g1 := cell_kept hc1 (grownBy_putObj' _ D (.deferred none)) (fun r e => by cases e; exact ⟨_, hK, rfl⟩)
    have g2 := cell_kept hc2 (grownBy_putObj' _ D (.deferred none)) (fun r e => by cases e; exact ⟨_, hK, rfl⟩)
    refine ⟨.tuple #[.int .i64 r1, .int .i64 r2], ?_, by rw [Hr.out], hB.trans (belowK_b (w := w) (Nat.le_refl _) W D _ _ (by simp at hD; omega) hK rfl rfl)⟩
    simp [results, Tryd.f18, go_sem, g1, g2]

theorem unit_any (s : ByteArray) (q : Int) (w : World) (hs : s.size ≤ 2305843009213693952) (hT : Tabs w) :
    Calls Tryd.prog 16 #[.string s, .int .i64 q] w fun e w' => e = .returned (.tuple #[.int .i64 (unitA s.data.toList q).1, .int .i64 (unitA s.data.toList q).2]) ∧ Below w.heap.size w w' := by
  by_cases h : q < 0 ∨ (s.size : Int) < q
  · rw [show unitA s.data.toList q = (0, 1) by unfold unitA; rw [← Lib.size_eq, if_pos h]]
    exact unit_out s q w h
  · exact unit_in s q w hs (by omega) (by omega) hT
theorem byte_any (s : ByteArray) (q : Int) (w : World) (hs : s.size ≤ 2305843009213693952) (hT : Tabs w) :
    Calls Tryd.prog 18 #[.string s, .int .i64 q] w fun e w' => e = .returned (.tuple #[.int .i64 (byteA s.data.toList q).1, .int .i64 (byteA s.data.toList q).2]) ∧ Below w.heap.size w w' := by
  by_cases h : q < 0
  · rw [show byteA s.data.toList q = (0, 1) by unfold byteA; rw [if_pos h]]
    exact byte_out s q w h
  · exact byte_in s q w hs (by omega) hT
end Go.Proofs.YtakhglnffhgfiaaDoor
