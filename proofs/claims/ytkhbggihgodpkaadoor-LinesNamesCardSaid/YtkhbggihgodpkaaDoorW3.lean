/-
  New: the index under way, its lines' row appended round by round.
-/
import Derived.Deep.RegionHeld
import Derived.BigRegionIn
import Derived.Deep.AppendLies
import Derived.OwnWalk
import Derived.Test.YtkhbggihgodpkaaDoorW2
namespace Go.Proofs.YtkhbggihgodpkaaDoor
open Go.RowKit Go.Shelf Go.Lib
attribute [local go_sem] Oper.semAt_some

theorem own_row {W : World} {b e size n : Nat} {v : Value} {xs : List Value} (h : W.ownsRow b e size v n xs) : ∀ k, v.ownBlock = some k → b ≤ k ∧ ∃ o, W.heap[k]? = some o ∧ o.isCells = true := by
  intro k hk
  rcases h.2 with ⟨rfl, _⟩ | ⟨g, cap, cur, rfl, hb, hg, _⟩
  · cases hk
  · obtain rfl : g = k := by simpa [Value.ownBlock] using hk
    exact ⟨hb, _, hg, rfl⟩

theorem ownsRow_zero {W : World} {b e size n : Nat} {v : Value} {xs : List Value} (h : W.ownsRow b e size v n xs) : W.ownsRow 0 e size v n xs := by
  refine ⟨h.1, ?_⟩
  rcases h.2 with h | ⟨g, cap, cur, h1, _, h2⟩
  · exact .inl h
  · exact .inr ⟨g, cap, cur, h1, Nat.zero_le _, h2⟩
theorem grown_setCell_l (w : World) (a : Addr) (u : Value) : w.grownBy (w.setCell a u) (some a.block) :=
  ⟨rfl, rfl, rfl, by simp, fun k _ hk => heap_setCell_other w a k u (fun e => hk (by rw [e]))⟩
theorem keepsFrom_row {W W' : World} {row : Option Nat} (h : W.grownBy W' row) (hr : ∀ k, row = some k → ∃ o, W.heap[k]? = some o ∧ o.isCells = true) (B : Nat) : KeepsFrom B W W' :=
  ⟨h.size, fun k o _ hk hc => (h.block k (Array.getElem?_eq_some_iff.1 hk).1 (fun e => by
    obtain ⟨o', ho', hc'⟩ := hr k e.symm
    rw [hk] at ho'; cases ho'; rw [hc] at hc'; cases hc')).trans hk⟩

/-- A text's index, at block b; its lines' row is block g. -/
structure Idx (W : World) (b g cap : Nat) (s : ByteArray) : Prop where
  txt : W.cell? ⟨b, 0, none⟩ = some (.string s)
  lns : W.cell? ⟨b, 1, none⟩ = some (.slice (some ⟨g, 0, none⟩) (spans s.data.toList).length cap)
  row : W.ownsRow 0 32 2 (.slice (some ⟨g, 0, none⟩) (spans s.data.toList).length cap) (spans s.data.toList).length (cellsS (spans s.data.toList))

theorem Idx.lt {W : World} {b g cap : Nat} {s : ByteArray} (h : Idx W b g cap s) : b < W.heap.size ∧ g < W.heap.size := ⟨World.block_lt_of_cell? W ⟨b, 0, none⟩ h.txt, (h.row.lt g rfl).2⟩
theorem Idx.below {W W' : World} {b g cap n : Nat} {s : ByteArray} (h : Idx W b g cap s) (hb : Below n W W') (hn : W.heap.size ≤ n) : Idx W' b g cap s := by
  have hl := h.lt
  refine ⟨(hb.cell (by show b < n; omega)).trans h.txt, (hb.cell (by show b < n; omega)).trans h.lns, h.row.1, ?_⟩
  rcases h.row.2 with ⟨he, _⟩ | ⟨g', cap', cur, he, h1, h2, h3⟩
  · cases he
  · cases he
    exact .inr ⟨g, cap, cur, rfl, h1, (hb.block g (by omega)).trans h2, h3⟩

set_option maxRecDepth 100000 in
set_option maxHeartbeats 2000000 in
theorem new_ok (s : ByteArray) (w : World) (hs : (s.size : Int) ≤ 65536) (hv : validD s.data.toList = true) (hT : Tabs w) :
    Calls Tryd.prog 10 #[.string s] w fun e w' => ∃ b g cap, e = .returned (.tuple #[.pointer (some ⟨b, 0, none⟩), .int .i64 0]) ∧ Below w.heap.size w w' ∧ Idx w' b g cap s ∧ w.heap.size ≤ b ∧ w.heap.size ≤ g := by
  refine (callsIn_wide (n := 3)).1 ?_
  have cv := Tryd.utf8_ValidString s w (by omega) hT
  rw [hv] at cv
  clear hT hv
  obtain ⟨i0, hi, hz0, hz1, hz2⟩ := info_parts info32
  refine callsIn_of_wp_marks Tryd.func10 rfl trivial ?_ rfl
  simp only [Tryd.ntmps10, List.size_toArray, List.length_cons, List.length_nil, Nat.reduceAdd, Nat.reduceSub, Array.replicate_succ, Array.replicate_zero, List.push_toArray, List.append_toArray, List.nil_append, List.cons_append]
  gi_wp2_with (first | (refine ⟨trivial, ?_⟩; gi_at_call 24; refine (callsIn_wide.2 cv).mono ?_; rintro e w1 ⟨rfl, hb1⟩; clear cv) | (refine ⟨trivial, ?_⟩; gi_at_call 25; refine (callsIn_wide.2 (each_any s _)).mono ?_; rintro e w' ⟨rfl, rfl⟩))
  obtain ⟨B, hB⟩ : ∃ B, w1.heap.size = B := ⟨_, rfl⟩
  have hwB : w.heap.size ≤ B := by rw [← hB]; exact hb1.size
  obtain ⟨W0, hW0⟩ : ∃ W0, (((w1.alloc (.cells #[.string s, .slice none 0 0] 58)).alloc (.cells #[.pointer (some ⟨w1.heap.size, 0, none⟩)] 23)).alloc (.cells #[.string s] 9)) = W0 := ⟨_, rfl⟩
  have hs0 : W0.heap.size = B + 3 := by rw [← hW0, ← hB]; simp
  have hB0 : Below w.heap.size w W0 := by rw [← hW0]; exact ((hb1.alloc hb1.size _).alloc (by simp; have := hb1.size; omega) _).alloc (by simp; have := hb1.size; omega) _
  have hN0 : NI B s [] W0 := by
    rw [← hW0, ← hB]
    have a0 : (w1.alloc (.cells #[.string s, .slice none 0 0] 58)).cell? ⟨w1.heap.size, 0, none⟩ = some (.string s) := by simp
    have a1 : (w1.alloc (.cells #[.string s, .slice none 0 0] 58)).cell? ⟨w1.heap.size, 1, none⟩ = some (.slice none 0 0) := by simp
    have a2 : (w1.alloc (.cells #[.string s, .slice none 0 0] 58)).frozen? ⟨w1.heap.size, 1, none⟩ = false := by simp
    have b0 := cell_new_l (w1.alloc (.cells #[.string s, .slice none 0 0] 58)) (.pointer (some ⟨w1.heap.size, 0, none⟩)) 23
    rw [World.size_alloc] at b0
    exact ⟨cell_alloc_l _ (cell_alloc_l _ a0), cell_alloc_l _ b0.1, by simp, .slice none 0 0, ⟨cell_alloc_l _ (cell_alloc_l _ a1), frozen_alloc_l _ (cell_alloc_l _ a1) (frozen_alloc_l _ a1 a2)⟩, World.ownsRow_nil _ _ _ _⟩
  have hc0 : W0.cell? ⟨B + 1 + 1, 0, none⟩ = some (.string s) := by
    rw [← hW0, ← hB]
    have b1 := cell_new_l ((w1.alloc (.cells #[.string s, .slice none 0 0] 58)).alloc (.cells #[.pointer (some ⟨w1.heap.size, 0, none⟩)] 23)) (.string s) 9
    simp only [World.size_alloc] at b1
    exact b1.1
  rw [hW0, hB]
  clear hW0 hB
  refine wpIn_rangeFunc_ownH rfl (by omega) (gf := 34) (lb := #[.pointer (some ⟨B + 1 + 1, 0, none⟩)]) rfl trivial (enters_of Tryd.func34 (by kernel_rfl) rfl)
    (each_stops 2 (by omega) (B + 1 + 1) w.heap.size s (by omega) W0 (by omega) hc0) kpC_t (kpC_b (by omega) (by omega)) (Below.refl _ _) (fun _ => rfl)
    (fun pre W => NI B s pre W ∧ Below w.heap.size w W)
    (fun _ _ _ => False)
    (OwnFrom.and (Own.from (NI_own B s) _) (ownFrom_below (Nat.le_refl _) (by omega)))
    (fun _ _ _ _ _ hs _ _ => hs)
    ⟨hN0, hB0⟩
    (fun x a' W => ∃ Bx, B + 1 + 1 < Bx ∧ (∃ u, W.cell? ⟨B, 1, none⟩ = some u ∧ u.ownBlock ≠ some Bx) ∧ (W.cell? ⟨Bx, 0, none⟩ = some (.int .i64 (x.1 : Int)) ∧ W.cell? ⟨Bx, 1, none⟩ = some (.int .i64 (x.2 : Int))) ∧ a' = { tmps := #[.string s, undef, .pointer none, .int .i64 0, .pointer (some ⟨B + 1, 0, none⟩), .pointer (some ⟨Bx, 0, none⟩), .bool (decide (65536 < (s.size : Int))), .string s, .int .i64 s.size, .bool (decide (65536 < (s.size : Int))), .bool false, .string s, .bool true, .bool false, .string s, .agg #[.string s, .slice none 0 0], .pointer (some ⟨B, 0, none⟩), .string s, .func (.func 34) #[] #[.pointer (some ⟨B + 1 + 1, 0, none⟩)], .agg #[.int .i64 (x.1 : Int), .int .i64 (x.2 : Int)], undef, undef, undef, undef, undef, undef, undef, undef, undef, undef, undef], defers := [] })
    (fun x a' _ X Y row hs hg hr => by obtain ⟨Bx, h1, ⟨u, hu, hv⟩, ⟨h2, h3⟩, h4⟩ := hs; exact ⟨Bx, h1, ⟨u, cell_kept hu hg (fun r e => (hr r e).2), hv⟩, ⟨cell_kept h2 hg (fun r e => (hr r e).2), cell_kept h3 hg (fun r e => (hr r e).2)⟩, h4⟩)
    ?assign ?body ?done ?stop
  case assign =>
    rintro l pre x W K ⟨hN, hBw⟩ hK
    obtain ⟨n0, n1, n2, v, ⟨n3, n4⟩, n5⟩ := hN
    gi_wp2
    refine hK _ _ ((KeepsOthers.alloc _ _).from _) ⟨(Below.refl _ _).alloc (by omega) _, World.cell?_alloc_lt _ _ _ (by simp; omega)⟩ ⟨NI_own B s pre W _ none ⟨n0, n1, n2, v, ⟨n3, n4⟩, n5⟩ (World.grownBy_alloc _ _ _) (fun _ h => by cases h), hBw.alloc (by omega) _⟩ ⟨W.heap.size, by omega, ⟨v, cell_alloc_l _ n3, fun e => by have := (n5.lt _ e).2; omega⟩, ⟨by simp, by simp⟩, rfl⟩
  case body =>
    rintro l pre x a' W hl ⟨r, hr⟩ ⟨⟨n0, n1, n2, v, ⟨n3, n4⟩, n5⟩, hBw⟩ ⟨Bx, hBx, ⟨u, hu, huv⟩, ⟨c0, c1⟩, rfl⟩ hlt
    obtain rfl : v = u := by rw [n3] at hu; exact Option.some.inj hu
    gi_wp2
    have hlen := spans_length s.data.toList
    have hsz : s.data.toList.length = s.size := by simp
    refine region_round (fun W' => W'.cell? ⟨B + 1, 0, none⟩ = some (.pointer (some ⟨B, 0, none⟩)) ∧ W'.cell? ⟨Bx, 0, none⟩ = some (.int .i64 (x.1 : Int)) ∧ W'.cell? ⟨Bx, 1, none⟩ = some (.int .i64 (x.2 : Int))) (by kernel_rfl) (by kernel_rfl) (fun _ _ h => h) ?_
    refine wpAnyH_take (i := 0) (oi := ⟨some 20, .load 23 (.tmp 4), 23, _, _, none⟩) (v := .pointer (some ⟨B, 0, none⟩)) rfl (by kernel_rfl) (by kernel_rfl) (by kernel_rfl) (fun _ _ _ h => h) (Or.inl ⟨by rfl, ?_⟩) ⟨n1, c0, c1⟩ ?_
    · rintro w ⟨h1, h2, h3⟩; go_simp
    simp only [Act.put, List.setIfInBounds_toArray, List.set_cons_zero, List.set_cons_succ]
    refine wpAnyH_take (i := 1) (oi := ⟨some 21, .load 23 (.tmp 4), 23, _, _, none⟩) (v := .pointer (some ⟨B, 0, none⟩)) rfl (by kernel_rfl) (by kernel_rfl) (by kernel_rfl) (fun _ _ _ h => h) (Or.inl ⟨by rfl, ?_⟩) ⟨n1, c0, c1⟩ ?_
    · rintro w ⟨h1, h2, h3⟩; go_simp
    simp only [Act.put, List.setIfInBounds_toArray, List.set_cons_zero, List.set_cons_succ]
    refine wpAnyH_take (i := 2) (oi := ⟨some 22, .nilCheck (.tmp 21), 0, _, _, none⟩) (v := .pointer (some ⟨B, 0, none⟩)) rfl (by kernel_rfl) (by kernel_rfl) (by kernel_rfl) (fun _ _ _ h => h) (Or.inl ⟨by rfl, ?_⟩) ⟨n1, c0, c1⟩ ?_
    · rintro w ⟨h1, h2, h3⟩; go_simp
    simp only [Act.put, List.setIfInBounds_toArray, List.set_cons_zero, List.set_cons_succ]
    refine wpAnyH_take (i := 3) (oi := ⟨some 23, .fieldAddr 58 (.tmp 22) 1, 0, _, _, none⟩) (v := .pointer (some ⟨B, 1, none⟩)) rfl (by kernel_rfl) (by kernel_rfl) (by kernel_rfl) (fun _ _ _ h => h) (Or.inl ⟨by rfl, ?_⟩) ⟨n1, c0, c1⟩ ?_
    · rintro w ⟨h1, h2, h3⟩; go_simp
    simp only [Act.put, List.setIfInBounds_toArray, List.set_cons_zero, List.set_cons_succ]
    refine wpAnyH_take (i := 5) (oi := ⟨some 25, .load 32 (.tmp 5), 32, _, _, none⟩) (v := .agg #[.int .i64 (x.1 : Int), .int .i64 (x.2 : Int)]) rfl (by kernel_rfl) (by kernel_rfl) (by kernel_rfl) (fun _ _ _ h => h) (Or.inl ⟨by rfl, ?_⟩) ⟨n1, c0, c1⟩ ?_
    · rintro w ⟨h1, h2, h3⟩; go_simp
    simp only [Act.put, List.setIfInBounds_toArray, List.set_cons_zero, List.set_cons_succ]
    have n3d : W.drew.cell? ⟨B, 1, none⟩ = some v := n3
    obtain ⟨W1, hW1⟩ : ∃ W1, W.drew.alloc (.cells #[.int .i64 (x.1 : Int), .int .i64 (x.2 : Int)] 32) = W1 := ⟨_, rfl⟩
    have g1 : W.grownBy W1 none := by rw [← hW1]; exact World.grownBy.trans (b := W.drew) ⟨rfl, rfl, rfl, Nat.le_refl _, fun _ _ _ => rfl⟩ (World.grownBy_alloc W.drew _ none)
    have s1 : W1.heap.size = W.heap.size + 1 := by rw [← hW1]; simp
    have n3a : W1.cell? ⟨B, 1, none⟩ = some v := cell_kept n3 g1 (fun _ h => by cases h)
    have n4a : W1.frozen? ⟨B, 1, none⟩ = false := (frozen_kept n3 g1 (fun _ h => by cases h)).trans n4
    have n1a : W1.cell? ⟨B + 1, 0, none⟩ = some (.pointer (some ⟨B, 0, none⟩)) := cell_kept n1 g1 (fun _ h => by cases h)
    have c0a : W1.cell? ⟨Bx, 0, none⟩ = some (.int .i64 (x.1 : Int)) := cell_kept c0 g1 (fun _ h => by cases h)
    have c1a : W1.cell? ⟨Bx, 1, none⟩ = some (.int .i64 (x.2 : Int)) := cell_kept c1 g1 (fun _ h => by cases h)
    have hnew : W1.heap[W.heap.size]? = some (.cells #[.int .i64 (x.1 : Int), .int .i64 (x.2 : Int)] 32 (0, 0)) := by rw [← hW1]; exact World.alloc_heap_new W.drew _
    have n5a : W1.ownsRow (B + 3) 32 2 v pre.length (cellsS pre) := by rw [← hW1]; exact World.ownsRow.alloc (w := W.drew) n5 _
    refine wpAnyH_ready (rs := [4, 6]) (by kernel_rfl) (by simp) ?_
    refine AllReadyH.cons (o := ⟨some 24, .load 28 (.tmp 23), 28, _, _, none⟩) rfl (fun K hK => ?_) (AllReadyH.cons (o := ⟨some 26, .buildSlice 28 1 #[(0, .tmp 25)], 28, _, _, none⟩) rfl (fun K hK => ?_) AllReadyH.nil)
    · go_simp
      refine hK.out _ _ ⟨n1, c0, c1⟩ (fun _ => ?_)
      clear hK K
      refine wpAnyH_ready (rs := [6]) (by kernel_rfl) (by simp) ?_
      refine AllReadyH.cons (o := ⟨some 26, .buildSlice 28 1 #[(0, .tmp 25)], 28, _, _, none⟩) rfl (fun K hK => ?_) AllReadyH.nil
      go_simp
      refine hK.out _ _ ⟨n1a, c0a, c1a⟩ (fun _ => ?_)
      clear hK K
      refine wpAnyH_ready (rs := [7]) (by kernel_rfl) (by simp) ?_
      refine AllReadyH.cons (o := ⟨some 27, .call { callee := .builtin .append, args := #[.tmp 24, .tmp 26], argTypes := #[28, 28] }, 28, _, _, none⟩) rfl (fun K hK => ?_) AllReadyH.nil
      refine step_append_lies W1 rfl (.tmp 24) (.tmp 26) 28 rfl (B + 3) 32 i0 _ 2 16 (by kernel_rfl) hi hz0 hz1 hz2 rfl (by omega) v pre.length (cellsS pre) rfl n5a ⟨W.heap.size, 0, none⟩ 1 1 [.int .i64 (x.1 : Int), .int .i64 (x.2 : Int)] rfl rfl (World.news_of_block hnew) (by intro u hu; simp at hu; rcases hu with rfl | rfl <;> rfl) (by omega) (by simp only [maxLen]; omega) (by omega) (by omega) _ rfl ?_
      intro g cap W2 o2 g2 at2 lt2
      have hrow : ∀ k, v.ownBlock = some k → B + 3 ≤ k ∧ ∃ o, W1.heap[k]? = some o ∧ o.isCells = true := own_row n5a
      have n0b : W2.cell? ⟨B, 0, none⟩ = some (.string s) := g2.cell (cell_kept n0 g1 (fun _ h => by cases h)) (fun e => by have := (hrow B e.symm).1; omega)
      have n1b : W2.cell? ⟨B + 1, 0, none⟩ = some (.pointer (some ⟨B, 0, none⟩)) := g2.cell n1a (fun e => by have := (hrow (B + 1) e.symm).1; omega)
      have n3b : W2.cell? ⟨B, 1, none⟩ = some v := g2.cell n3a (fun e => by have := (hrow B e.symm).1; omega)
      have n4b : W2.frozen? ⟨B, 1, none⟩ = false := (g2.frozen_far ⟨B, 1, none⟩ (by show B < W1.heap.size; omega) (fun e => by have := (hrow B e.symm).1; omega)).trans n4a
      have lBx : Bx < W.heap.size := World.block_lt_of_cell? W ⟨Bx, 0, none⟩ c0
      have c0b : W2.cell? ⟨Bx, 0, none⟩ = some (.int .i64 (x.1 : Int)) ∧ W2.cell? ⟨Bx, 1, none⟩ = some (.int .i64 (x.2 : Int)) := by
        exact ⟨g2.cell c0a (fun e => huv e.symm), g2.cell c1a (fun e => huv e.symm)⟩
      refine hK.out _ _ ⟨n1b, c0b⟩ (fun _ => ?_)
      clear hK K
      simp only [Act.put, List.setIfInBounds_toArray, List.set_cons_zero, List.set_cons_succ]
      refine wpAnyH_take (i := 8) (oi := ⟨some 28, .nilCheck (.tmp 20), 0, _, _, none⟩) (v := .pointer (some ⟨B, 0, none⟩)) rfl (by kernel_rfl) (by kernel_rfl) (by kernel_rfl) (fun _ _ _ h => h) (Or.inl ⟨by rfl, ?_⟩) ⟨n1b, c0b⟩ ?_
      · rintro w ⟨h1, h2, h3⟩; go_simp
      simp only [Act.put, List.setIfInBounds_toArray, List.set_cons_zero, List.set_cons_succ]
      refine wpAnyH_take (i := 9) (oi := ⟨some 29, .fieldAddr 58 (.tmp 28) 1, 0, _, _, none⟩) (v := .pointer (some ⟨B, 1, none⟩)) rfl (by kernel_rfl) (by kernel_rfl) (by kernel_rfl) (fun _ _ _ h => h) (Or.inl ⟨by rfl, ?_⟩) ⟨n1b, c0b⟩ ?_
      · rintro w ⟨h1, h2, h3⟩; go_simp
      simp only [Act.put, List.setIfInBounds_toArray, List.set_cons_zero, List.set_cons_succ]
      refine wpAnyH_ready (rs := [10]) (by kernel_rfl) (by simp) ?_
      refine AllReadyH.cons (o := ⟨none, .store 28 (.tmp 29) (.tmp 27), 0, _, _, none⟩) rfl (fun K hK => ?_) AllReadyH.nil
      go_simp
      have lg : B + 3 ≤ g ∧ g < W2.heap.size := o2.lt g rfl
      have gs := grown_setCell_l W2 ⟨B, 1, none⟩ (.slice (some ⟨g, 0, none⟩) (pre.length + 1) cap)
      refine hK.out _ _ ⟨(World.cell?_setCell_far _ _ _ _ (by simp)).trans n1b, (World.cell?_setCell_far _ _ _ _ (by simp; omega)).trans c0b.1, (World.cell?_setCell_far _ _ _ _ (by simp; omega)).trans c0b.2⟩ (fun _ => ?_)
      refine wpAnyH_done (by kernel_rfl) ?_ _
      have kf : KeepsFrom W0.heap.size W (W2.setCell ⟨B, 1, none⟩ (.slice (some ⟨g, 0, none⟩) (pre.length + 1) cap)) :=
        ((keepsFrom_row g1 (fun _ h => by cases h) _).trans (keepsFrom_row g2 (fun k hk => (hrow k hk).2) _)).trans (KeepsFrom.of_grownBy gs (fun j hj => by cases hj; show B < _; omega))
      have bw : Below w.heap.size W (W2.setCell ⟨B, 1, none⟩ (.slice (some ⟨g, 0, none⟩) (pre.length + 1) cap)) :=
        (((Below.refl _ W).grown g1 (by omega) (fun _ h => by cases h)).grown g2 (by omega) (fun k hk => by have := (hrow k hk).1; omega)).setCell (by show w.heap.size ≤ B; omega) _
      have lB2 : B + 2 < W.heap.size := by omega
      refine ⟨kf, ⟨bw, ?_⟩, ⟨(World.cell?_setCell_other _ _ _ _ (by simp)).trans n0b, (World.cell?_setCell_far _ _ _ _ (by simp)).trans n1b, by have := gs.size; have := g2.size; omega, _, ⟨World.cell?_setCell_same _ _ _ n3b, by rw [World.frozen?_setCell]; exact n4b⟩, ?_⟩, hBw.trans bw⟩
      · rw [World.cell?_setCell_far _ _ _ _ (by show B ≠ B + 1 + 1; omega), g2.cell_far _ (by show B + 1 + 1 < W1.heap.size; omega) (fun e => by have : B + 3 ≤ B + 1 + 1 := (hrow _ e.symm).1; omega), g1.cell_far _ (by show B + 1 + 1 < W.heap.size; omega) (fun e => by cases e)]
      · rw [cellsS_snoc, List.length_append]
        exact o2.kept gs (.inr (fun e => by simp [Value.ownBlock] at e; omega))
    · go_simp
      refine hK.out _ _ ⟨n1a, c0a, c1a⟩ (fun _ => ?_)
      clear hK K
      refine wpAnyH_ready (rs := [4]) (by kernel_rfl) (by simp) ?_
      refine AllReadyH.cons (o := ⟨some 24, .load 28 (.tmp 23), 28, _, _, none⟩) rfl (fun K hK => ?_) AllReadyH.nil
      go_simp
      refine hK.out _ _ ⟨n1a, c0a, c1a⟩ (fun _ => ?_)
      clear hK K
      refine wpAnyH_ready (rs := [7]) (by kernel_rfl) (by simp) ?_
      refine AllReadyH.cons (o := ⟨some 27, .call { callee := .builtin .append, args := #[.tmp 24, .tmp 26], argTypes := #[28, 28] }, 28, _, _, none⟩) rfl (fun K hK => ?_) AllReadyH.nil
      refine step_append_lies W1 rfl (.tmp 24) (.tmp 26) 28 rfl (B + 3) 32 i0 _ 2 16 (by kernel_rfl) hi hz0 hz1 hz2 rfl (by omega) v pre.length (cellsS pre) rfl n5a ⟨W.heap.size, 0, none⟩ 1 1 [.int .i64 (x.1 : Int), .int .i64 (x.2 : Int)] rfl rfl (World.news_of_block hnew) (by intro u hu; simp at hu; rcases hu with rfl | rfl <;> rfl) (by omega) (by simp only [maxLen]; omega) (by omega) (by omega) _ rfl ?_
      intro g cap W2 o2 g2 at2 lt2
      have hrow : ∀ k, v.ownBlock = some k → B + 3 ≤ k ∧ ∃ o, W1.heap[k]? = some o ∧ o.isCells = true := own_row n5a
      have n0b : W2.cell? ⟨B, 0, none⟩ = some (.string s) := g2.cell (cell_kept n0 g1 (fun _ h => by cases h)) (fun e => by have := (hrow B e.symm).1; omega)
      have n1b : W2.cell? ⟨B + 1, 0, none⟩ = some (.pointer (some ⟨B, 0, none⟩)) := g2.cell n1a (fun e => by have := (hrow (B + 1) e.symm).1; omega)
      have n3b : W2.cell? ⟨B, 1, none⟩ = some v := g2.cell n3a (fun e => by have := (hrow B e.symm).1; omega)
      have n4b : W2.frozen? ⟨B, 1, none⟩ = false := (g2.frozen_far ⟨B, 1, none⟩ (by show B < W1.heap.size; omega) (fun e => by have := (hrow B e.symm).1; omega)).trans n4a
      have lBx : Bx < W.heap.size := World.block_lt_of_cell? W ⟨Bx, 0, none⟩ c0
      have c0b : W2.cell? ⟨Bx, 0, none⟩ = some (.int .i64 (x.1 : Int)) ∧ W2.cell? ⟨Bx, 1, none⟩ = some (.int .i64 (x.2 : Int)) := by
        exact ⟨g2.cell c0a (fun e => huv e.symm), g2.cell c1a (fun e => huv e.symm)⟩
      refine hK.out _ _ ⟨n1b, c0b⟩ (fun _ => ?_)
      clear hK K
      simp only [Act.put, List.setIfInBounds_toArray, List.set_cons_zero, List.set_cons_succ]
      refine wpAnyH_take (i := 8) (oi := ⟨some 28, .nilCheck (.tmp 20), 0, _, _, none⟩) (v := .pointer (some ⟨B, 0, none⟩)) rfl (by kernel_rfl) (by kernel_rfl) (by kernel_rfl) (fun _ _ _ h => h) (Or.inl ⟨by rfl, ?_⟩) ⟨n1b, c0b⟩ ?_
      · rintro w ⟨h1, h2, h3⟩; go_simp
      simp only [Act.put, List.setIfInBounds_toArray, List.set_cons_zero, List.set_cons_succ]
      refine wpAnyH_take (i := 9) (oi := ⟨some 29, .fieldAddr 58 (.tmp 28) 1, 0, _, _, none⟩) (v := .pointer (some ⟨B, 1, none⟩)) rfl (by kernel_rfl) (by kernel_rfl) (by kernel_rfl) (fun _ _ _ h => h) (Or.inl ⟨by rfl, ?_⟩) ⟨n1b, c0b⟩ ?_
      · rintro w ⟨h1, h2, h3⟩; go_simp
      simp only [Act.put, List.setIfInBounds_toArray, List.set_cons_zero, List.set_cons_succ]
      refine wpAnyH_ready (rs := [10]) (by kernel_rfl) (by simp) ?_
      refine AllReadyH.cons (o := ⟨none, .store 28 (.tmp 29) (.tmp 27), 0, _, _, none⟩) rfl (fun K hK => ?_) AllReadyH.nil
      go_simp
      have lg : B + 3 ≤ g ∧ g < W2.heap.size := o2.lt g rfl
      have gs := grown_setCell_l W2 ⟨B, 1, none⟩ (.slice (some ⟨g, 0, none⟩) (pre.length + 1) cap)
      refine hK.out _ _ ⟨(World.cell?_setCell_far _ _ _ _ (by simp)).trans n1b, (World.cell?_setCell_far _ _ _ _ (by simp; omega)).trans c0b.1, (World.cell?_setCell_far _ _ _ _ (by simp; omega)).trans c0b.2⟩ (fun _ => ?_)
      refine wpAnyH_done (by kernel_rfl) ?_ _
      have kf : KeepsFrom W0.heap.size W (W2.setCell ⟨B, 1, none⟩ (.slice (some ⟨g, 0, none⟩) (pre.length + 1) cap)) :=
        ((keepsFrom_row g1 (fun _ h => by cases h) _).trans (keepsFrom_row g2 (fun k hk => (hrow k hk).2) _)).trans (KeepsFrom.of_grownBy gs (fun j hj => by cases hj; show B < _; omega))
      have bw : Below w.heap.size W (W2.setCell ⟨B, 1, none⟩ (.slice (some ⟨g, 0, none⟩) (pre.length + 1) cap)) :=
        (((Below.refl _ W).grown g1 (by omega) (fun _ h => by cases h)).grown g2 (by omega) (fun k hk => by have := (hrow k hk).1; omega)).setCell (by show w.heap.size ≤ B; omega) _
      have lB2 : B + 2 < W.heap.size := by omega
      refine ⟨kf, ⟨bw, ?_⟩, ⟨(World.cell?_setCell_other _ _ _ _ (by simp)).trans n0b, (World.cell?_setCell_far _ _ _ _ (by simp)).trans n1b, by have := gs.size; have := g2.size; omega, _, ⟨World.cell?_setCell_same _ _ _ n3b, by rw [World.frozen?_setCell]; exact n4b⟩, ?_⟩, hBw.trans bw⟩
      · rw [World.cell?_setCell_far _ _ _ _ (by show B ≠ B + 1 + 1; omega), g2.cell_far _ (by show B + 1 + 1 < W1.heap.size; omega) (fun e => by have : B + 3 ≤ B + 1 + 1 := (hrow _ e.symm).1; omega), g1.cell_far _ (by show B + 1 + 1 < W.heap.size; omega) (fun e => by cases e)]
      · rw [cellsS_snoc, List.length_append]
        exact o2.kept gs (.inr (fun e => by simp [Value.ownBlock] at e; omega))
  case done =>
    rintro D ys W hD rfl ⟨⟨n0, n1, n2, v, ⟨n3, n4⟩, n5⟩, hBw⟩ hK
    gi_wp2
    have hpos : 0 < (spans s.data.toList).length := spF_pos _ _ _ _
    obtain ⟨g, cap, rfl, hg1, hg2⟩ := n5.form hpos
    have gD := grownBy_putObj' W D (.deferred none)
    have rD : ∀ r, some D = some r → ∃ o, W.heap[r]? = some o ∧ o.isCells = false := fun r hr => by cases hr; exact ⟨_, hK, rfl⟩
    have hgD : g ≠ D := fun e => by
      obtain ⟨o, ho, hc⟩ := (own_row n5 g rfl).2
      rw [e, hK] at ho; cases ho; cases hc
    refine ⟨by simp, .inl ⟨_, _, rfl, run_takeDeferred hK, ?_⟩⟩
    refine ⟨.tuple #[.pointer (some ⟨B, 0, none⟩), .int .i64 0], by simp [results, Tryd.f10, go_sem], B, g, cap, rfl, ?_, ⟨cell_kept n0 gD rD, cell_kept n3 gD rD, (ownsRow_zero n5).kept gD (.inr fun e => hgD (by simpa [Value.ownBlock] using e))⟩, hwB, by omega⟩
    exact hBw.trans (belowK_b (w := w) (Nat.le_refl _) W D _ _ (by omega) hK rfl rfl)
  case stop =>
    rintro D c pre W _ _ h _
    exact h.elim
end Go.Proofs.YtkhbggihgodpkaaDoor
