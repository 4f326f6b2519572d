/-
  edits.Back, refused; edits.Move: a walk.
-/
import Derived.Test.YtinanagjoaaacaaW7
namespace Go.Proofs.Ytinanagjoaaacaa
open Go.RowKit Go.Shelf Go.Lib Go.Sort
attribute [local go_sem] Oper.semAt_some

set_option maxRecDepth 100000 in
set_option maxHeartbeats 4000000 in
theorem back_e (t : ByteArray) (w : World) (v : Value) (l : List Ed) (h : Rd w v l) (hn : l.length ≤ 100) (hbig : (l.length + 1) * t.size + txS l ≤ 1099511627776) :
    Calls Try.prog 17 #[.string t, v] w fun e w' => RowKit.Below w.heap.size w w' ∧ ∃ v', e = .returned (.tuple #[v', .int .i64 (rowE t.size l)]) ∧ Rw w' w.heap.size v' (backS t l) := by
  by_cases h0 : rowE t.size l = 0
  · have hb : backS t l = bkL t (srt l) := if_pos h0
    rw [hb, h0]
    exact back_ok t w v l h hn hbig h0
  · have hbw : RowKit.Below w.heap.size w (w.alloc (.cells #[.string t] 9)) := (RowKit.Below.refl _ w).alloc (Nat.le_refl _) _
    have c := row_e t (w.alloc (.cells #[.string t] 9)) v l (h.below hbw (Nat.le_refl _)) hn
    unfold RowPost at c
    have hb : backS t l = [] := if_neg h0
    have hs : rowS t.size l = [] := if_neg h0
    rw [hb]
    rw [hs] at c
    obtain ⟨E, hE⟩ : ∃ E, rowE t.size l = E := ⟨_, rfl⟩
    rw [hE] at c h0 ⊢
    have hne : (E == 0) = false := eqF h0
    have HBW := Lib.hid hbw
    clear h hb hs h0 hE hbig hbw
    refine (callsIn_wide (n := 3)).1 ?_
    refine callsIn_of_wp_marks Try.func17 rfl trivial ?_ rfl
    simp only [Try.ntmps17, List.size_toArray, List.length_cons, List.length_nil, Nat.reduceAdd, Nat.reduceSub, Array.replicate_succ, Array.replicate_zero, List.push_toArray, List.append_toArray, List.nil_append, List.cons_append]
    gi_wp2_with (first | (refine ⟨trivial, ?_⟩; gi_at_call 23; refine (callsIn_wide.2 c).mono ?_; rintro e w1 ⟨hb1, v', rfl, hw⟩; clear c))
    refine ⟨.tuple #[.slice none 0 0, .int .i64 E], by simp [results, Try.f17, go_sem], ?_, _, rfl, .inl ⟨rfl, rfl⟩⟩
    exact HBW.out.trans (hb1.mono (by simp))

/-! ### Move -/
/-- Where a byte stands behind rounds. -/
def mvV (at' : Int) : Int → List (Int × Ed) → Int
  | to0, [] => to0
  | _, (n, x) :: r => if at' < x.fr then at' + n else if at' < x.to then x.fr + n else mvV at' (at' + n + x.tx.size - (x.to - x.fr)) r
def moveE (at' : Int) (l : List Ed) : Int := if sortE l ≠ 0 then sortE l else if at' < 0 then 1 else 0
def moveV (at' : Int) (l : List Ed) : Int := if moveE at' l = 0 then mvV at' at' (mvL (srt l)) else 0
def PM (y : Int × Ed) : Prop := 0 ≤ y.2.fr ∧ y.2.fr ≤ y.2.to ∧ y.2.to ≤ 9223372036854775807 ∧ -y.2.fr ≤ y.1 ∧ y.1 ≤ 1099511627776 ∧ y.2.tx.size ≤ 1099511627776
theorem fit_PM {s : List Ed} (h : Fit s) (hi : ∀ x, x ∈ s → x.to ≤ 9223372036854775807) (ht : txS s ≤ 1099511627776) : ∀ y, y ∈ mvL s → PM y := by
  intro y hy
  obtain ⟨k, hk, he⟩ := mv_mem hy
  have hm := List.mem_of_getElem? hk
  have h1 := h.1 _ hm
  have h2 := hi _ hm
  have h3 := txS_mem hm
  have h4 := (fit_dN h k _ hk).1
  have h5 := dN_le h k
  have h6 := txS_take s k
  rw [← he] at h4 h5
  exact ⟨h1.1, h1.2, h2, h4, by omega, by omega⟩
/-- Move under way: the byte in block b0, the results in b0 + 1 and b0 + 2, 'to' in b. -/
def MvI (at' : Int) (b b0 : Nat) (pre : List (Rnd PM)) (W : World) : Prop :=
  W.cell? ⟨b0, 0, none⟩ = some (.int .i64 at') ∧ (W.cell? ⟨b0 + 1, 0, none⟩ = some (.int .i64 0) ∧ W.frozen? ⟨b0 + 1, 0, none⟩ = false) ∧ (W.cell? ⟨b0 + 1 + 1, 0, none⟩ = some (.int .i64 0) ∧ W.frozen? ⟨b0 + 1 + 1, 0, none⟩ = false) ∧ b + 2 ≤ W.heap.size ∧
  ∃ to0, (W.cell? ⟨b, 0, none⟩ = some (.int .i64 to0) ∧ W.frozen? ⟨b, 0, none⟩ = false) ∧ Hid (∀ r, mvV at' at' (pre.map Subtype.val ++ r) = mvV at' to0 r)
theorem MvI_own (at' : Int) (b b0 : Nat) : Own (MvI at' b b0) := by
  rintro pre X Y row ⟨h0, ⟨h1, h2⟩, ⟨h3, h4⟩, h5, to0, ⟨h6, h7⟩, h8⟩ hg hr
  exact ⟨cell_kept h0 hg hr, ⟨cell_kept h1 hg hr, (frozen_kept h1 hg hr).trans h2⟩, ⟨cell_kept h3 hg hr, (frozen_kept h3 hg hr).trans h4⟩, Nat.le_trans h5 hg.size, to0, ⟨cell_kept h6 hg hr, (frozen_kept h6 hg hr).trans h7⟩, h8⟩
def MvX (at' : Int) (b0 : Nat) (c : Code) (pre : List (Rnd PM)) (W : World) : Prop :=
  c = .ret ∧ ∃ u, W.cell? ⟨b0 + 1, 0, none⟩ = some (.int .i64 u) ∧ W.cell? ⟨b0 + 1 + 1, 0, none⟩ = some (.int .i64 0) ∧ Hid (∀ r, mvV at' at' (pre.map Subtype.val ++ r) = u)
theorem MvX_own (at' : Int) (b0 : Nat) (c : Code) : Own (MvX at' b0 c) := by
  rintro pre X Y row ⟨h0, u, h1, h2, h3⟩ hg hr
  exact ⟨h0, u, cell_kept h1 hg hr, cell_kept h2 hg hr, h3⟩
/-- What Move answers. -/
def MovePost (at' : Int) (l : List Ed) (w : World) (e : Ending) (w' : World) : Prop := e = .returned (.tuple #[.int .i64 (moveV at' l), .int .i64 (moveE at' l)]) ∧ RowKit.Below w.heap.size w w'
theorem cell_new1 (W : World) (a : Value) (t : TypeId) : (W.alloc (.cells #[a] t)).cell? ⟨W.heap.size, 0, none⟩ = some a ∧ (W.alloc (.cells #[a] t)).frozen? ⟨W.heap.size, 0, none⟩ = false := ⟨by simp, by simp⟩

theorem kpE_store {b : Nat} {A : World} {v : Value} (hv : A.cell? ⟨b, 0, none⟩ = some v) (u : Int) : KpE b A (A.setCell ⟨b, 0, none⟩ (.int .i64 u)) := fun _ => by
  have e2 : rowOf b (A.setCell ⟨b, 0, none⟩ (.int .i64 u)) = none := by
    unfold rowOf
    rw [World.cell?_setCell_same _ _ _ hv]; rfl
  refine ⟨fun r h => (by rw [e2] at h; cases h), (by simp), fun k o hk ho _ _ => ⟨?_, (by rw [e2]; simp)⟩⟩
  rw [heap_setCell_other _ _ _ _ hk]
  exact ho
theorem mv_early (W : World) (at' : Int) (B0 : Nat) (u : Int) {w : World} {bW : Nat} {pre : List (Rnd PM)} (hBw : RowKit.Below B0 w W) (hb : B0 + 1 + 1 < bW)
    {a0 b0 : Value} (m1 : W.cell? ⟨B0 + 1, 0, none⟩ = some a0) (m2 : W.cell? ⟨B0 + 1 + 1, 0, none⟩ = some b0) (hv : ∀ r, mvV at' at' (pre.map Subtype.val ++ r) = u) :
    KeepsFrom bW W ((W.setCell ⟨B0 + 1, 0, none⟩ (.int .i64 u)).setCell ⟨B0 + 1 + 1, 0, none⟩ (.int .i64 0)) ∧ MvX at' B0 .ret pre ((W.setCell ⟨B0 + 1, 0, none⟩ (.int .i64 u)).setCell ⟨B0 + 1 + 1, 0, none⟩ (.int .i64 0)) ∧
      RowKit.Below B0 w ((W.setCell ⟨B0 + 1, 0, none⟩ (.int .i64 u)).setCell ⟨B0 + 1 + 1, 0, none⟩ (.int .i64 0)) := by
  have g1 := grown_setCell_l W ⟨B0 + 1, 0, none⟩ (.int .i64 u)
  have g2 := grown_setCell_l (W.setCell ⟨B0 + 1, 0, none⟩ (.int .i64 u)) ⟨B0 + 1 + 1, 0, none⟩ (.int .i64 0)
  refine ⟨(KeepsFrom.of_grownBy g1 (fun j hj => by cases hj; show B0 + 1 < _; omega)).trans (KeepsFrom.of_grownBy g2 (fun j hj => by cases hj; show B0 + 1 + 1 < _; omega)), ⟨rfl, u, ?_, ?_, hv⟩, (hBw.setCell (by show B0 ≤ B0 + 1; omega) _).setCell (by show B0 ≤ B0 + 1 + 1; omega) _⟩
  · rw [World.cell?_setCell_far _ _ _ _ (by show B0 + 1 + 1 ≠ B0 + 1; omega)]
    exact World.cell?_setCell_same _ _ _ m1
  · refine World.cell?_setCell_same _ _ _ ((World.cell?_setCell_far _ _ _ _ (by show B0 + 1 ≠ B0 + 1 + 1; omega)).trans m2)

set_option maxRecDepth 100000 in
set_option maxHeartbeats 4000000 in
theorem move_ok (at' : Int) (w : World) (v : Value) (l : List Ed) (h : Rd w v l) (hn : l.length ≤ 100) (hint : ∀ x, x ∈ l → x.to ≤ 9223372036854775807) (htx : txS l ≤ 1099511627776) (hat0 : 0 ≤ at') (hat : at' ≤ 1099511627776) (hE : sortE l = 0) :
    Calls Try.prog 19 #[v, .int .i64 at'] w (MovePost at' l w) := by
  obtain ⟨B0, hB0⟩ : ∃ b, w.heap.size = b := ⟨_, rfl⟩
  obtain ⟨WA, hWA⟩ : ∃ W, ((w.alloc (.cells #[.int .i64 at'] 3)).alloc (.cells #[.int .i64 0] 3)).alloc (.cells #[.int .i64 0] 25) = W := ⟨_, rfl⟩
  have hbA : RowKit.Below B0 w WA := by
    rw [← hWA, ← hB0]
    exact (((RowKit.Below.refl _ w).alloc (Nat.le_refl _) _).alloc (by simp) _).alloc (by simp; omega) _
  have hsA : WA.heap.size = B0 + 3 := by rw [← hWA, ← hB0]; simp
  have c := sort_e WA v l (h.below (by rw [← hB0] at hbA; exact hbA) (Nat.le_refl _)) hn
  have hfit := srt_fit hE
  have htx2 := txS_srt l
  have hln := srt_length l
  have hint2 : ∀ x, x ∈ srt l → x.to ≤ 9223372036854775807 := fun x hx => by
    have h1 := (srt_perm l).mem_iff.1 hx
    have h2 := tagL_mem h1
    rw [tagL_at, Option.map_eq_some_iff] at h2
    obtain ⟨y, hy, he⟩ := h2
    have := hint y (List.mem_of_getElem? hy)
    rw [← he]; exact this
  have hS : sortS l = srt l := if_pos hE
  have hME : moveE at' l = 0 := by unfold moveE; rw [if_neg (by simpa using hE), if_neg (by omega)]
  have hMV : moveV at' l = mvV at' at' (mvL (srt l)) := by unfold moveV; rw [if_pos hME]
  rw [hS, hE] at c
  unfold MovePost
  rw [hME, hMV]
  obtain ⟨s, hs⟩ : ∃ s, srt l = s := ⟨_, rfl⟩
  rw [hs] at c hfit hint2 htx2 hln ⊢
  have hA0 : WA.cell? ⟨B0, 0, none⟩ = some (.int .i64 at') := by
    rw [← hWA, ← hB0]
    exact cell_alloc_l _ (cell_alloc_l _ (cell_new1 w _ 3).1)
  have hA1 : WA.cell? ⟨B0 + 1, 0, none⟩ = some (.int .i64 0) ∧ WA.frozen? ⟨B0 + 1, 0, none⟩ = false := by
    have := cell_new1 (w.alloc (.cells #[.int .i64 at'] 3)) (.int .i64 0) 3
    rw [World.size_alloc] at this
    rw [← hWA, ← hB0]
    exact ⟨cell_alloc_l _ this.1, frozen_alloc_l _ this.1 this.2⟩
  have hA2 : WA.cell? ⟨B0 + 1 + 1, 0, none⟩ = some (.int .i64 0) ∧ WA.frozen? ⟨B0 + 1 + 1, 0, none⟩ = false := by
    have := cell_new1 ((w.alloc (.cells #[.int .i64 at'] 3)).alloc (.cells #[.int .i64 0] 3)) (.int .i64 0) 25
    rw [World.size_alloc, World.size_alloc] at this
    rw [← hWA, ← hB0]
    exact this
  clear hE hS hME hMV hs h hint
  have HWA := Lib.hid hWA
  have HB0 := Lib.hid hB0
  have HA0 := Lib.hid hA0
  have HA1 := Lib.hid hA1
  have HA2 := Lib.hid hA2
  have HBA := Lib.hid hbA
  have HSA := Lib.hid hsA
  clear hWA hB0 hA0 hA1 hA2 hbA hsA
  refine (callsIn_wide (n := 3)).1 ?_
  refine callsIn_of_wp_marks Try.func19 rfl trivial ?_ rfl
  simp only [Try.ntmps19, List.size_toArray, List.length_cons, List.length_nil, Nat.reduceAdd, Nat.reduceSub, Array.replicate_succ, Array.replicate_zero, List.push_toArray, List.append_toArray, List.nil_append, List.cons_append]
  gi_wp2
  rw [HWA.out, HB0.out]
  refine ⟨trivial, ?_⟩
  refine (callsIn_wide.2 c).mono ?_
  rintro e w1 ⟨hb1, v', rfl, hw⟩
  clear c
  obtain ⟨p, cap, rfl⟩ : ∃ p cap, v' = .slice p s.length cap := by
    rcases hw with ⟨rfl, rfl⟩ | ⟨g, cap, rfl, _⟩
    · exact ⟨_, _, rfl⟩
    · exact ⟨_, _, rfl⟩
  have a0 := (hb1.cell (p := ⟨B0, 0, none⟩) (by show B0 < _; rw [HSA.out]; omega)).trans HA0.out
  have a1 := (hb1.cell (p := ⟨B0 + 1, 0, none⟩) (by show B0 + 1 < _; rw [HSA.out]; omega)).trans HA1.out.1
  have f1 := (hb1.frozen (p := ⟨B0 + 1, 0, none⟩) (by show B0 + 1 < _; rw [HSA.out]; omega)).trans HA1.out.2
  have a2 := (hb1.cell (p := ⟨B0 + 1 + 1, 0, none⟩) (by show B0 + 1 + 1 < _; rw [HSA.out]; omega)).trans HA2.out.1
  have f2 := (hb1.frozen (p := ⟨B0 + 1 + 1, 0, none⟩) (by show B0 + 1 + 1 < _; rw [HSA.out]; omega)).trans HA2.out.2
  have HW := Lib.hid hw
  have HB1 := Lib.hid hb1
  have HF1 := Lib.hid f1
  have HF2 := Lib.hid f2
  have hlt0 : decide (at' < 0) = false := decide_eq_false (by omega)
  obtain ⟨N, hN⟩ : ∃ N, s.length = N := ⟨_, rfl⟩
  rw [hN]
  have HN := Lib.hid hN
  clear hw hb1 f1 f2 hN
  gi_wp2_with (first | (refine ⟨trivial, ?_⟩; gi_at_call 35; refine (callsIn_wide.2 (moved_any _ _ _ _)).mono ?_; rintro e w' ⟨rfl, rfl⟩))
  obtain ⟨B1, hB1⟩ : ∃ B, w1.heap.size = B := ⟨_, rfl⟩
  have htxs : txS s ≤ 1099511627776 := by omega
  have hb1 := HB1.out
  have hw := HW.out
  rw [HSA.out] at hb1 hw
  have hb10 : B0 + 3 ≤ B1 := by
    have := hb1.size
    rw [HSA.out] at this
    rw [← hB1]; exact this
  obtain ⟨W0, hW0⟩ : ∃ W0, ((w1.alloc (.cells #[.int .i64 at'] 3)).alloc (.cells #[.slice p N cap] 22)) = W0 := ⟨_, rfl⟩
  have hs0 : W0.heap.size = B1 + 2 := by rw [← hW0, ← hB1]; simp
  have hbl : RowKit.Below B0 w W0 := by
    have h1 : RowKit.Below B0 w w1 := HBA.out.trans (hb1.mono (by omega))
    rw [← hW0]
    exact (h1.alloc (by omega) _).alloc (by simp; omega) _
  have ho1 : W0.cell? ⟨B1, 0, none⟩ = some (.int .i64 at') ∧ W0.frozen? ⟨B1, 0, none⟩ = false := by
    have := cell_new1 w1 (.int .i64 at') 3
    rw [← hW0, ← hB1]
    exact ⟨cell_alloc_l _ this.1, frozen_alloc_l _ this.1 this.2⟩
  have hbs : W0.cell? ⟨B1 + 1, 0, none⟩ = some (.slice p s.length cap) := by
    rw [← hW0, ← hB1, HN.out]
    simp
  have hbw0 : RowKit.Below w1.heap.size w1 W0 := by rw [← hW0]; exact ((RowKit.Below.refl _ w1).alloc (Nat.le_refl _) _).alloc (by simp) _
  have hro : rowOf B1 W0 = none := by unfold rowOf; rw [ho1.1]; rfl
  have hI0 : MvI at' B1 B0 [] W0 := by
    rw [← hB1]
    exact ⟨(hbw0.cell (p := ⟨B0, 0, none⟩) (by show B0 < _; omega)).trans a0, ⟨(hbw0.cell (p := ⟨B0 + 1, 0, none⟩) (by show B0 + 1 < _; omega)).trans a1, (hbw0.frozen (p := ⟨B0 + 1, 0, none⟩) (by show B0 + 1 < _; omega)).trans HF1.out⟩,
      ⟨(hbw0.cell (p := ⟨B0 + 1 + 1, 0, none⟩) (by show B0 + 1 + 1 < _; omega)).trans a2, (hbw0.frozen (p := ⟨B0 + 1 + 1, 0, none⟩) (by show B0 + 1 + 1 < _; omega)).trans HF2.out⟩, by omega, at', by rw [hB1]; exact ho1, fun r => rfl⟩
  have hseq : SeqStopsK Fence.wide 2 Try.prog 40 #[.pointer (some ⟨B1 + 1, 0, none⟩)] (fun y : Rnd PM => encM y.val) (KpE B1) (fun ys => ys.map Subtype.val = mvL s) (fun pre => pre.map Subtype.val <+: mvL s) s.length W0 := by
    have hsm := fit_small hfit hint2 htxs
    rcases hw with ⟨_, hx⟩ | ⟨g, cap', he, hg1, hg2, hg3⟩
    · exact mov_stops PM 2 (by omega) (B1 + 1) B1 (B1 + 5) 0 cap p s (fit_PM hfit hint2 htxs) hsm (by omega) W0 hbs (by omega) (by omega) (fun r h => by rw [hro] at h; cases h) (fun h => absurd hx h) (by rw [hro]; simp) (fun h => absurd hx h) (fun k x h => by rw [hx] at h; simp at h)
    · simp only [Value.slice.injEq] at he
      have hc := holds_rd hg3
      have hgl : g < B1 := by omega
      refine mov_stops PM 2 (by omega) (B1 + 1) B1 g 0 cap p s (fit_PM hfit hint2 htxs) hsm (by omega) W0 hbs (by omega) (by omega) (fun r h => by rw [hro] at h; cases h) (fun _ => he.1) (by rw [hro]; simp) (fun h => ?_) (fun k x h => ?_)
      · obtain ⟨x, hx⟩ : ∃ x, s[0]? = some x := ⟨_, List.getElem?_eq_getElem (List.length_pos_iff.2 h)⟩
        have h1 := (hc 0 x hx).1
        obtain ⟨o, ho⟩ : ∃ o, W0.heap[g]? = some o := ⟨_, Array.getElem?_eq_getElem (by omega)⟩
        refine ⟨o, ho, ?_⟩
        have h2 : W0.cell? ⟨g, 0 + 0 * 3, none⟩ = some (.int .i64 x.fr) := (hbw0.cell (p := ⟨g, 0 + 0 * 3, none⟩) hg2).trans h1
        simp only [World.cell?, ho] at h2
        cases o <;> first | rfl | simp at h2
      · obtain ⟨c0, c1, c2⟩ := hc k x h
        exact ⟨(hbw0.cell (p := ⟨g, _, none⟩) hg2).trans c0, (hbw0.cell (p := ⟨g, _, none⟩) hg2).trans c1, (hbw0.cell (p := ⟨g, _, none⟩) hg2).trans c2⟩
  rw [hW0, hB1]
  clear hb1 hw hB1 hW0 hbw0 hbs hro hfit hint2 htx htx2 ho1 a0 a1 a2 HW HB1 HF1 HF2
  refine wpIn_rangeFunc_ownH rfl (by omega) (gf := 40) (lb := #[.pointer (some ⟨B1 + 1, 0, none⟩)]) rfl trivial (enters_of Try.func40 (by kernel_rfl) rfl)
    hseq kpE_t (kpE_b (by omega)) (Below.refl _ _) (fun _ => rfl)
    (fun pre W => MvI at' B1 B0 pre W ∧ RowKit.Below B0 w W)
    (fun c pre W => MvX at' B0 c pre W ∧ RowKit.Below B0 w W)
    (OwnFrom.and (Own.from (MvI_own at' B1 B0) _) (ownFrom_below (by rw [HB0.out]; exact Nat.le_refl _) (by omega)))
    (fun c => OwnFrom.and (Own.from (MvX_own at' B0 c) _) (ownFrom_below (by rw [HB0.out]; exact Nat.le_refl _) (by omega)))
    ⟨hI0, hbl⟩
    (fun x a' W => ∃ Bx, B1 + 1 < Bx ∧ (W.cell? ⟨Bx, 0, none⟩ = some (.int .i64 x.val.2.fr) ∧ W.cell? ⟨Bx, 1, none⟩ = some (.int .i64 x.val.2.to) ∧ W.cell? ⟨Bx, 2, none⟩ = some (.string x.val.2.tx)) ∧ a' = { tmps := #[v, .int .i64 at', undef, .pointer (some ⟨B0, 0, none⟩), .pointer (some ⟨B0 + 1, 0, none⟩), .pointer (some ⟨B0 + 1 + 1, 0, none⟩), .slice p N cap, .int .i64 0, .pointer (some ⟨B1, 0, none⟩), .int .i64 x.val.1, .pointer (some ⟨Bx, 0, none⟩), .tuple #[.slice p N cap, .int .i64 0], v, .tuple #[.slice p N cap, .int .i64 0], .slice p N cap, .int .i64 0, .bool false, .int .i64 0, .bool false, undef, .bool false, .int .i64 at', .bool false, .int .i64 at', .slice p N cap, .func (.func 40) #[] #[.pointer (some ⟨B1 + 1, 0, none⟩)], .int .i64 x.val.1, .agg #[.int .i64 x.val.2.fr, .int .i64 x.val.2.to, .string x.val.2.tx], undef, undef, undef, undef, undef, undef, undef, undef, undef, undef, undef, undef, undef, undef, undef, undef, undef, undef, undef, undef, undef, undef, undef, undef, undef, undef, undef, undef, undef, undef, undef, undef, undef, undef, undef, undef], defers := [] })
    (fun x a' _ X Y row hs hg hr => by obtain ⟨Bx, h1, ⟨h2, h3, h4⟩, h5⟩ := hs; exact ⟨Bx, h1, ⟨cell_kept h2 hg (fun r e => (hr r e).2), cell_kept h3 hg (fun r e => (hr r e).2), cell_kept h4 hg (fun r e => (hr r e).2)⟩, h5⟩)
    ?assign ?body ?done ?stop
  case assign =>
    rintro l pre x W K ⟨hN, hBw⟩ hK
    have HNI := Lib.hid hN
    obtain ⟨m0, m1, m2, m3, u, m4, m5⟩ := hN
    have lb1 := World.block_lt_of_cell? W ⟨B1, 0, none⟩ m4.1
    dsimp only at lb1
    clear m0 m1 m2 m4 m5
    simp only [encM]
    gi_wp2
    refine hK _ _ ((KeepsOthers.alloc _ _).from _) (kpE_alloc lb1 _) ⟨MvI_own at' B1 B0 pre W _ none HNI.out (World.grownBy_alloc _ _ _) (fun _ h => by cases h), hBw.alloc (by have := hBw.size; rw [HB0.out] at this; exact this) _⟩ ⟨W.heap.size, by omega, cell_new3 W _ _ _ 37, rfl⟩
  case body =>
    rintro l pre ⟨⟨m, xf, xt, xx, xg⟩, hx⟩ a' W hl ⟨r, hr⟩ ⟨⟨m0, ⟨m1, f1⟩, ⟨m2, f2⟩, m3, u, ⟨m4, f4⟩, m5⟩, hBw⟩ ⟨Bx, hBx, ⟨c0, c1, c2⟩, rfl⟩ hlt
    obtain ⟨p1, p2, p3, p4, p5, p6⟩ := hx
    dsimp only at p1 p2 p3 p4 p5 p6 c0 c1 c2
    have HL := Lib.hid hl
    have HRr := Lib.hid hr
    have HBw := Lib.hid hBw
    have hxs : ∀ r, mvV at' at' ((pre ++ [(⟨(m, ⟨xf, xt, xx, xg⟩), ⟨p1, p2, p3, p4, p5, p6⟩⟩ : Rnd PM)]).map Subtype.val ++ r) = mvV at' u ((m, ⟨xf, xt, xx, xg⟩) :: r) := fun r => by
      rw [List.map_append, List.append_assoc]
      exact m5.out _
    have HXS := Lib.hid hxs
    clear hl hr hBw hxs
    by_cases h1 : at' < xf
    · have d1 : decide (at' < xf) = true := decide_eq_true h1
      have hv : ∀ r, mvV at' u ((m, ⟨xf, xt, xx, xg⟩) :: r) = at' + m := fun r => by unfold mvV; rw [if_pos h1]
      have HV := Lib.hid hv
      clear h1 hv
      gi_wp2
      exact mv_early W at' B0 (at' + m) HBw.out (by omega) m1 m2 (fun r => (HXS.out r).trans (HV.out r))
    · have d1 : decide (at' < xf) = false := decide_eq_false h1
      by_cases h2 : at' < xt
      · have d2 : decide (at' < xt) = true := decide_eq_true h2
        have hv : ∀ r, mvV at' u ((m, ⟨xf, xt, xx, xg⟩) :: r) = xf + m := fun r => by unfold mvV; rw [if_neg h1, if_pos h2]
        have HV := Lib.hid hv
        have h1' : xf ≤ at' := by omega
        clear h1 h2 hv
        gi_wp2
        exact mv_early W at' B0 (xf + m) HBw.out (by omega) m1 m2 (fun r => (HXS.out r).trans (HV.out r))
      · have d2 : decide (at' < xt) = false := decide_eq_false h2
        have hv : ∀ r, mvV at' u ((m, ⟨xf, xt, xx, xg⟩) :: r) = mvV at' (at' + m + xx.size - (xt - xf)) r := fun r => by
          rw [mvV]; rw [if_neg h1, if_neg h2]
        have HV := Lib.hid hv
        have h1' : xf ≤ at' := by omega
        have h2' : xt ≤ at' := by omega
        clear h1 h2 hv
        gi_wp2
        have g1 := grown_setCell_l W ⟨B1, 0, none⟩ (.int .i64 (at' + m + xx.size - (xt - xf)))
        refine ⟨KeepsFrom.of_grownBy g1 (fun j hj => by cases hj; show B1 < _; omega), kpE_store m4 _, ⟨(World.cell?_setCell_far _ _ _ _ (by show B1 ≠ B0; omega)).trans m0, ⟨(World.cell?_setCell_far _ _ _ _ (by show B1 ≠ B0 + 1; omega)).trans m1, by rw [World.frozen?_setCell]; exact f1⟩, ⟨(World.cell?_setCell_far _ _ _ _ (by show B1 ≠ B0 + 1 + 1; omega)).trans m2, by rw [World.frozen?_setCell]; exact f2⟩, by simpa using m3, _, ⟨World.cell?_setCell_same _ _ _ m4, by rw [World.frozen?_setCell]; exact f4⟩, fun r => (HXS.out r).trans (HV.out r)⟩, HBw.out.setCell (by show B0 ≤ B1; omega) _⟩
  case done =>
    rintro D ys W hD hys ⟨⟨m0, ⟨m1, f1⟩, ⟨m2, f2⟩, m3, u, ⟨m4, f4⟩, m5⟩, hBw⟩ hK
    have hys' : ys.map Subtype.val = mvL s := hys
    have hu : Hid (mvV at' at' (mvL s) = u) := by
      have := m5.out []
      rw [List.append_nil, hys'] at this
      exact this
    have HBw := Lib.hid hBw
    have HK := Lib.hid hK
    have HD := Lib.hid hD
    clear hys hys' m5 hBw hK hD m0
    gi_wp2
    have g1 := grown_setCell_l W ⟨B0 + 1, 0, none⟩ (.int .i64 u)
    have g2 := grown_setCell_l (W.setCell ⟨B0 + 1, 0, none⟩ (.int .i64 u)) ⟨B0 + 1 + 1, 0, none⟩ (.int .i64 0)
    have hD := HD.out
    obtain ⟨W2, hW2⟩ : ∃ W2, (W.setCell ⟨B0 + 1, 0, none⟩ (.int .i64 u)).setCell ⟨B0 + 1 + 1, 0, none⟩ (.int .i64 0) = W2 := ⟨_, rfl⟩
    have hK2 : W2.heap[D]? = some (.deferred (some [])) := by
      rw [← hW2, heap_setCell_other _ _ _ _ (by show D ≠ B0 + 1 + 1; omega), heap_setCell_other _ _ _ _ (by show D ≠ B0 + 1; omega)]
      exact HK.out
    have r1 : W2.cell? ⟨B0 + 1, 0, none⟩ = some (.int .i64 u) := by
      rw [← hW2, World.cell?_setCell_far _ _ _ _ (by show B0 + 1 + 1 ≠ B0 + 1; omega)]
      exact World.cell?_setCell_same _ _ _ m1
    have r2 : W2.cell? ⟨B0 + 1 + 1, 0, none⟩ = some (.int .i64 0) := by
      rw [← hW2]
      exact World.cell?_setCell_same _ _ _ ((World.cell?_setCell_far _ _ _ _ (by show B0 + 1 ≠ B0 + 1 + 1; omega)).trans m2)
    have bw2 : RowKit.Below B0 w W2 := by
      rw [← hW2]
      exact (HBw.out.setCell (by show B0 ≤ B0 + 1; omega) _).setCell (by show B0 ≤ B0 + 1 + 1; omega) _
    rw [hW2]
    have gD := grownBy_putObj' W2 D (.deferred none)
    have rD : ∀ r, some D = some r → ∃ o, W2.heap[r]? = some o ∧ o.isCells = false := fun r hr => by cases hr; exact ⟨_, hK2, rfl⟩
    have q1 := cell_kept r1 gD rD
    have q2 := cell_kept r2 gD rD
    refine ⟨by simp, .inl ⟨_, _, rfl, run_takeDeferred hK2, ?_⟩⟩
    refine ⟨.tuple #[.int .i64 u, .int .i64 0], by simp [results, Try.f19, go_sem, q1, q2], by rw [hu.out], ?_⟩
    rw [HB0.out]
    exact bw2.trans (belowK_b (w := w) (by rw [HB0.out]; exact Nat.le_refl _) W2 D _ _ (by rw [HB0.out]; omega) hK2 rfl rfl)
  case stop =>
    rintro D c pre W hD hsp ⟨⟨rfl, u, r1, r2, hu⟩, hBw⟩ hK
    have hu2 : Hid (mvV at' at' (mvL s) = u) := by
      obtain ⟨r, hr⟩ := (show pre.map Subtype.val <+: mvL s from hsp)
      have := hu.out r
      rw [hr] at this
      exact this
    have HBw := Lib.hid hBw
    clear hu hsp hBw
    gi_wp2
    have gD := grownBy_putObj' W D (.deferred none)
    have rD : ∀ r, some D = some r → ∃ o, W.heap[r]? = some o ∧ o.isCells = false := fun r hr => by cases hr; exact ⟨_, hK, rfl⟩
    have q1 := cell_kept r1 gD rD
    have q2 := cell_kept r2 gD rD
    refine ⟨by simp, .inl ⟨_, _, rfl, run_takeDeferred hK, ?_⟩⟩
    refine ⟨.tuple #[.int .i64 u, .int .i64 0], by simp [results, Try.f19, go_sem, q1, q2], by rw [hu2.out], ?_⟩
    rw [HB0.out]
    exact HBw.out.trans (belowK_b (w := w) (by rw [HB0.out]; exact Nat.le_refl _) W D _ _ (by rw [HB0.out]; omega) hK rfl rfl)

set_option maxRecDepth 100000 in
set_option maxHeartbeats 4000000 in
theorem move_bad (at' : Int) (w : World) (v : Value) (l : List Ed) (h : Rd w v l) (hn : l.length ≤ 100) (hE : sortE l ≠ 0) :
    Calls Try.prog 19 #[v, .int .i64 at'] w (MovePost at' l w) := by
  obtain ⟨WA, hWA⟩ : ∃ W, ((w.alloc (.cells #[.int .i64 at'] 3)).alloc (.cells #[.int .i64 0] 3)).alloc (.cells #[.int .i64 0] 25) = W := ⟨_, rfl⟩
  obtain ⟨B0, hB0⟩ : ∃ b, w.heap.size = b := ⟨_, rfl⟩
  have hbA : RowKit.Below B0 w WA := by
    rw [← hWA, ← hB0]
    exact (((RowKit.Below.refl _ w).alloc (Nat.le_refl _) _).alloc (by simp) _).alloc (by simp; omega) _
  have hsA : WA.heap.size = B0 + 3 := by rw [← hWA, ← hB0]; simp
  have c := sort_e WA v l (h.below (by rw [← hB0] at hbA; exact hbA) (Nat.le_refl _)) hn
  have hME : moveE at' l = sortE l := by unfold moveE; rw [if_pos hE]
  have hMV : moveV at' l = 0 := by unfold moveV; rw [hME, if_neg hE]
  unfold MovePost
  rw [hME, hMV]
  have hA1 : WA.cell? ⟨B0 + 1, 0, none⟩ = some (.int .i64 0) ∧ WA.frozen? ⟨B0 + 1, 0, none⟩ = false := by
    have := cell_new1 (w.alloc (.cells #[.int .i64 at'] 3)) (.int .i64 0) 3
    rw [World.size_alloc] at this
    rw [← hWA, ← hB0]
    exact ⟨cell_alloc_l _ this.1, frozen_alloc_l _ this.1 this.2⟩
  have hA2 : WA.cell? ⟨B0 + 1 + 1, 0, none⟩ = some (.int .i64 0) ∧ WA.frozen? ⟨B0 + 1 + 1, 0, none⟩ = false := by
    have := cell_new1 ((w.alloc (.cells #[.int .i64 at'] 3)).alloc (.cells #[.int .i64 0] 3)) (.int .i64 0) 25
    rw [World.size_alloc, World.size_alloc] at this
    rw [← hWA, ← hB0]
    exact this
  obtain ⟨E, hEE⟩ : ∃ E, sortE l = E := ⟨_, rfl⟩
  rw [hEE] at c hE ⊢
  have hne : (E == 0) = false := eqF hE
  have hnE : (E != 0) = true := by simp [bne, hne]
  clear hEE hE hME hMV h
  have HWA := Lib.hid hWA
  have HB0 := Lib.hid hB0
  have HA1 := Lib.hid hA1
  have HA2 := Lib.hid hA2
  have HBA := Lib.hid hbA
  have HSA := Lib.hid hsA
  clear hWA hB0 hA1 hA2 hbA hsA
  refine (callsIn_wide (n := 3)).1 ?_
  refine callsIn_of_wp_marks Try.func19 rfl trivial ?_ rfl
  simp only [Try.ntmps19, List.size_toArray, List.length_cons, List.length_nil, Nat.reduceAdd, Nat.reduceSub, Array.replicate_succ, Array.replicate_zero, List.push_toArray, List.append_toArray, List.nil_append, List.cons_append]
  gi_wp2
  rw [HWA.out, HB0.out]
  refine ⟨trivial, ?_⟩
  refine (callsIn_wide.2 c).mono ?_
  rintro e w1 ⟨hb1, v', rfl, hw⟩
  clear c
  have a1 := (hb1.cell (p := ⟨B0 + 1, 0, none⟩) (by show B0 + 1 < _; rw [HSA.out]; omega)).trans HA1.out.1
  have f1 := (hb1.frozen (p := ⟨B0 + 1, 0, none⟩) (by show B0 + 1 < _; rw [HSA.out]; omega)).trans HA1.out.2
  have a2 := (hb1.cell (p := ⟨B0 + 1 + 1, 0, none⟩) (by show B0 + 1 + 1 < _; rw [HSA.out]; omega)).trans HA2.out.1
  have f2 := (hb1.frozen (p := ⟨B0 + 1 + 1, 0, none⟩) (by show B0 + 1 + 1 < _; rw [HSA.out]; omega)).trans HA2.out.2
  have HB1 := Lib.hid hb1
  clear hw hb1
  gi_wp2
  have r1 : ((w1.setCell ⟨B0 + 1, 0, none⟩ (.int .i64 0)).setCell ⟨B0 + 1 + 1, 0, none⟩ (.int .i64 E)).cell? ⟨B0 + 1, 0, none⟩ = some (.int .i64 0) := by
    rw [World.cell?_setCell_far _ _ _ _ (by show B0 + 1 + 1 ≠ B0 + 1; omega)]
    exact World.cell?_setCell_same _ _ _ a1
  have r2 : ((w1.setCell ⟨B0 + 1, 0, none⟩ (.int .i64 0)).setCell ⟨B0 + 1 + 1, 0, none⟩ (.int .i64 E)).cell? ⟨B0 + 1 + 1, 0, none⟩ = some (.int .i64 E) :=
    World.cell?_setCell_same _ _ _ ((World.cell?_setCell_far _ _ _ _ (by show B0 + 1 ≠ B0 + 1 + 1; omega)).trans a2)
  refine ⟨.tuple #[.int .i64 0, .int .i64 E], by simp [results, Try.f19, go_sem, r1, r2], rfl, ?_⟩
  rw [HB0.out]
  exact ((HBA.out.trans (HB1.out.mono (by rw [HSA.out]; omega))).setCell (by show B0 ≤ B0 + 1; omega) _).setCell (by show B0 ≤ B0 + 1 + 1; omega) _

set_option maxRecDepth 100000 in
set_option maxHeartbeats 4000000 in
theorem move_neg (at' : Int) (w : World) (v : Value) (l : List Ed) (h : Rd w v l) (hn : l.length ≤ 100) (hE : sortE l = 0) (hat : at' < 0) :
    Calls Try.prog 19 #[v, .int .i64 at'] w (MovePost at' l w) := by
  obtain ⟨WA, hWA⟩ : ∃ W, ((w.alloc (.cells #[.int .i64 at'] 3)).alloc (.cells #[.int .i64 0] 3)).alloc (.cells #[.int .i64 0] 25) = W := ⟨_, rfl⟩
  obtain ⟨B0, hB0⟩ : ∃ b, w.heap.size = b := ⟨_, rfl⟩
  have hbA : RowKit.Below B0 w WA := by
    rw [← hWA, ← hB0]
    exact (((RowKit.Below.refl _ w).alloc (Nat.le_refl _) _).alloc (by simp) _).alloc (by simp; omega) _
  have hsA : WA.heap.size = B0 + 3 := by rw [← hWA, ← hB0]; simp
  have c := sort_e WA v l (h.below (by rw [← hB0] at hbA; exact hbA) (Nat.le_refl _)) hn
  have hME : moveE at' l = 1 := by unfold moveE; rw [if_neg (by simpa using hE), if_pos hat]
  have hMV : moveV at' l = 0 := by unfold moveV; rw [hME, if_neg (by omega)]
  unfold MovePost
  rw [hME, hMV]
  have hA0 : WA.cell? ⟨B0, 0, none⟩ = some (.int .i64 at') := by
    rw [← hWA, ← hB0]
    exact cell_alloc_l _ (cell_alloc_l _ (cell_new1 w _ 3).1)
  have hA1 : WA.cell? ⟨B0 + 1, 0, none⟩ = some (.int .i64 0) ∧ WA.frozen? ⟨B0 + 1, 0, none⟩ = false := by
    have := cell_new1 (w.alloc (.cells #[.int .i64 at'] 3)) (.int .i64 0) 3
    rw [World.size_alloc] at this
    rw [← hWA, ← hB0]
    exact ⟨cell_alloc_l _ this.1, frozen_alloc_l _ this.1 this.2⟩
  have hA2 : WA.cell? ⟨B0 + 1 + 1, 0, none⟩ = some (.int .i64 0) ∧ WA.frozen? ⟨B0 + 1 + 1, 0, none⟩ = false := by
    have := cell_new1 ((w.alloc (.cells #[.int .i64 at'] 3)).alloc (.cells #[.int .i64 0] 3)) (.int .i64 0) 25
    rw [World.size_alloc, World.size_alloc] at this
    rw [← hWA, ← hB0]
    exact this
  rw [hE] at c
  have hd : decide (at' < 0) = true := decide_eq_true hat
  clear hE hME hMV h hat
  have HWA := Lib.hid hWA
  have HB0 := Lib.hid hB0
  have HA0 := Lib.hid hA0
  have HA1 := Lib.hid hA1
  have HA2 := Lib.hid hA2
  have HBA := Lib.hid hbA
  have HSA := Lib.hid hsA
  clear hWA hB0 hA0 hA1 hA2 hbA hsA
  refine (callsIn_wide (n := 3)).1 ?_
  refine callsIn_of_wp_marks Try.func19 rfl trivial ?_ rfl
  simp only [Try.ntmps19, List.size_toArray, List.length_cons, List.length_nil, Nat.reduceAdd, Nat.reduceSub, Array.replicate_succ, Array.replicate_zero, List.push_toArray, List.append_toArray, List.nil_append, List.cons_append]
  gi_wp2
  rw [HWA.out, HB0.out]
  refine ⟨trivial, ?_⟩
  refine (callsIn_wide.2 c).mono ?_
  rintro e w1 ⟨hb1, v', rfl, hw⟩
  clear c
  have a0 := (hb1.cell (p := ⟨B0, 0, none⟩) (by show B0 < _; rw [HSA.out]; omega)).trans HA0.out
  have a1 := (hb1.cell (p := ⟨B0 + 1, 0, none⟩) (by show B0 + 1 < _; rw [HSA.out]; omega)).trans HA1.out.1
  have f1 := (hb1.frozen (p := ⟨B0 + 1, 0, none⟩) (by show B0 + 1 < _; rw [HSA.out]; omega)).trans HA1.out.2
  have a2 := (hb1.cell (p := ⟨B0 + 1 + 1, 0, none⟩) (by show B0 + 1 + 1 < _; rw [HSA.out]; omega)).trans HA2.out.1
  have f2 := (hb1.frozen (p := ⟨B0 + 1 + 1, 0, none⟩) (by show B0 + 1 + 1 < _; rw [HSA.out]; omega)).trans HA2.out.2
  have HB1 := Lib.hid hb1
  clear hw hb1
  gi_wp2
  have r1 : ((w1.setCell ⟨B0 + 1, 0, none⟩ (.int .i64 0)).setCell ⟨B0 + 1 + 1, 0, none⟩ (.int .i64 1)).cell? ⟨B0 + 1, 0, none⟩ = some (.int .i64 0) := by
    rw [World.cell?_setCell_far _ _ _ _ (by show B0 + 1 + 1 ≠ B0 + 1; omega)]
    exact World.cell?_setCell_same _ _ _ a1
  have r2 : ((w1.setCell ⟨B0 + 1, 0, none⟩ (.int .i64 0)).setCell ⟨B0 + 1 + 1, 0, none⟩ (.int .i64 1)).cell? ⟨B0 + 1 + 1, 0, none⟩ = some (.int .i64 1) :=
    World.cell?_setCell_same _ _ _ ((World.cell?_setCell_far _ _ _ _ (by show B0 + 1 ≠ B0 + 1 + 1; omega)).trans a2)
  refine ⟨.tuple #[.int .i64 0, .int .i64 1], by simp [results, Try.f19, go_sem, r1, r2], rfl, ?_⟩
  rw [HB0.out]
  exact ((HBA.out.trans (HB1.out.mono (by rw [HSA.out]; omega))).setCell (by show B0 ≤ B0 + 1; omega) _).setCell (by show B0 ≤ B0 + 1 + 1; omega) _
theorem move_e (at' : Int) (w : World) (v : Value) (l : List Ed) (h : Rd w v l) (hn : l.length ≤ 100) (hint : ∀ x, x ∈ l → x.to ≤ 9223372036854775807) (htx : txS l ≤ 1099511627776) (hat : at' ≤ 1099511627776) :
    Calls Try.prog 19 #[v, .int .i64 at'] w (MovePost at' l w) := by
  by_cases h0 : sortE l = 0
  · by_cases h1 : at' < 0
    · exact move_neg at' w v l h hn h0 h1
    · exact move_ok at' w v l h hn hint htx (by omega) hat h0
  · exact move_bad at' w v l h hn h0

end Go.Proofs.Ytinanagjoaaacaa
