/-
  Span and Range, the program's and the reference's: walks.
-/
import Derived.Test.YtkhbggihgodpkaaDoorW14
import Derived.Test.YtkhbggihgodpkaaDoorR4
namespace Go.Proofs.YtkhbggihgodpkaaDoor
open Go.RowKit Go.Shelf Go.Lib

/-- A box of four cells. -/
structure B4 (W : World) (b : Nat) (u v x y : Value) : Prop where
  c0 : W.cell? ⟨b, 0, none⟩ = some u
  c1 : W.cell? ⟨b, 1, none⟩ = some v
  c2 : W.cell? ⟨b, 2, none⟩ = some x
  c3 : W.cell? ⟨b, 3, none⟩ = some y
  f0 : W.frozen? ⟨b, 0, none⟩ = false
  f1 : W.frozen? ⟨b, 1, none⟩ = false
  f2 : W.frozen? ⟨b, 2, none⟩ = false
  f3 : W.frozen? ⟨b, 3, none⟩ = false
theorem B4.lt {W : World} {b : Nat} {u v x y : Value} (h : B4 W b u v x y) : b < W.heap.size := World.block_lt_of_cell? W ⟨b, 0, none⟩ h.c0
theorem b4_new (W : World) (u v x y : Value) (t : TypeId) : B4 (W.alloc (.cells #[u, v, x, y] t)) W.heap.size u v x y := ⟨by simp, by simp, by simp, by simp, by simp, by simp, by simp, by simp⟩
theorem B4.below {W W' : World} {b n : Nat} {u v x y : Value} (h : B4 W b u v x y) (hb : Below n W W') (hn : W.heap.size ≤ n) : B4 W' b u v x y := by
  have hl : b < n := by have := h.lt; omega
  exact ⟨(hb.cell hl).trans h.c0, (hb.cell hl).trans h.c1, (hb.cell hl).trans h.c2, (hb.cell hl).trans h.c3, (hb.frozen hl).trans h.f0, (hb.frozen hl).trans h.f1, (hb.frozen hl).trans h.f2, (hb.frozen hl).trans h.f3⟩
theorem B4.alloc {W : World} {b : Nat} {u v x y : Value} (h : B4 W b u v x y) (o : Obj) : B4 (W.alloc o) b u v x y := h.below ((Below.refl W.heap.size W).alloc (Nat.le_refl _) o) (Nat.le_refl _)
theorem ret_span {a b e V1 V2 V3 : Int} (h : ((a, b), e) = ((V1, V2), V3)) : Ending.returned (.tuple #[.agg #[.int .i64 a, .int .i64 b], .int .i64 e]) = .returned (.tuple #[.agg #[.int .i64 V1, .int .i64 V2], .int .i64 V3]) := by
  cases h; rfl

set_option maxRecDepth 100000 in
set_option maxHeartbeats 4000000 in
theorem span_v {w : World} {bi : Nat} (l : List UInt8) (p1 p2 q1 q2 : Int) (offc : ∀ a b, Grows 15 #[.pointer (some ⟨bi, 0, none⟩), .agg #[.int .i64 a, .int .i64 b]] w (.tuple #[.int .i64 (offsetV l a b).1, .int .i64 (offsetV l a b).2])) :
    Calls Tryd.prog 20 #[.pointer (some ⟨bi, 0, none⟩), .agg #[.int .i64 p1, .int .i64 p2, .int .i64 q1, .int .i64 q2]] w fun e w' => e = .returned (.tuple #[.agg #[.int .i64 (spanV l p1 p2 q1 q2).1.1, .int .i64 (spanV l p1 p2 q1 q2).1.2], .int .i64 (spanV l p1 p2 q1 q2).2]) ∧ Below w.heap.size w w' := by
  have c1 := offc p1 p2
  have c2 := offc q1 q2
  unfold spanV
  obtain ⟨⟨a, ea⟩, ha⟩ : ∃ o, offsetV l p1 p2 = o := ⟨_, rfl⟩
  obtain ⟨⟨b, eb⟩, hb⟩ : ∃ o, offsetV l q1 q2 = o := ⟨_, rfl⟩
  rw [ha] at c1
  rw [hb] at c2
  rw [ha, hb]
  dsimp only at c1 c2 ⊢
  obtain ⟨⟨⟨V1, V2⟩, V3⟩, hV⟩ : ∃ V : (Int × Int) × Int, (if ea ≠ 0 then ((0, 0), ea) else if eb ≠ 0 then ((0, 0), eb) else if b < a then ((0, 0), 60) else ((a, b), 0)) = V := ⟨_, rfl⟩
  rw [hV]
  dsimp only
  have HV := Lib.hid hV
  clear hV
  obtain ⟨B, hB⟩ : ∃ B, w.heap.size = B := ⟨_, rfl⟩
  have p0 := b4_new w (.int .i64 p1) (.int .i64 p2) (.int .i64 q1) (.int .i64 q2) 47
  have pa := p0.alloc (.cells #[.int .i64 0, .int .i64 0] 32)
  have ra := bx_new (w.alloc (.cells #[.int .i64 p1, .int .i64 p2, .int .i64 q1, .int .i64 q2] 47)) (.int .i64 0) (.int .i64 0) 32
  have k0 := ((Below.refl w.heap.size w).alloc (Nat.le_refl _) (.cells #[.int .i64 p1, .int .i64 p2, .int .i64 q1, .int .i64 q2] 47)).alloc (by simp) (.cells #[.int .i64 0, .int .i64 0] 32)
  obtain ⟨W0, hW0⟩ : ∃ W0, (w.alloc (.cells #[.int .i64 p1, .int .i64 p2, .int .i64 q1, .int .i64 q2] 47)).alloc (.cells #[.int .i64 0, .int .i64 0] 32) = W0 := ⟨_, rfl⟩
  rw [World.size_alloc] at ra
  rw [hW0] at pa ra k0
  rw [hB] at pa ra
  have HP := Lib.hid pa
  have HR := Lib.hid ra
  have HW := Lib.hid hW0
  have HBs := Lib.hid hB
  clear ha hb hW0 hB p0 pa ra offc
  go_enter Tryd.func20, Tryd.ntmps20
  go_wp2_with (fail)
  rw [HW.out]
  refine (c1 _ k0).mono ?_
  rintro e w1 ⟨rfl, hb1⟩
  have k1 := k0.trans (hb1.mono k0.size)
  have HP1 := Lib.hid (HP.out.below hb1 (Nat.le_refl _))
  have HR1 := Lib.hid (HR.out.below hb1 (Nat.le_refl _))
  obtain ⟨p1a, p1b, p1c, p1d, _, _, _, _⟩ := HP1.out
  obtain ⟨r0, r1, rf0, rf1⟩ := HR1.out
  clear HP HR hb1 k0 c1
  rw [HBs.out]
  by_cases h1 : ea = 0
  · subst h1
    go_wp2_with (fail)
    refine (c2 _ k1).mono ?_
    rintro e w2 ⟨rfl, hb2⟩
    have k2 := k1.trans (hb2.mono k1.size)
    have KW := k2
    have HP2 := Lib.hid (HP1.out.below hb2 (Nat.le_refl _))
    have HR2 := Lib.hid (HR1.out.below hb2 (Nat.le_refl _))
    clear p1a p1b p1c p1d r0 r1 rf0 rf1
    obtain ⟨p2a, p2b, p2c, p2d, _, _, _, _⟩ := HP2.out
    obtain ⟨r0, r1, rf0, rf1⟩ := HR2.out
    clear HP1 HR1 hb2 k1 c2
    by_cases h2 : eb = 0
    · subst h2
      by_cases h3 : b < a
      · have h3z : decide (b < a) = true := by simpa using h3
        go_wp2
        refine bodyPost_ret (v := .tuple #[.agg #[.int .i64 0, .int .i64 0], .int .i64 60]) (by simp [results, Tryd.f20, go_sem, r0, r1]) rfl ⟨ret_span (Eq.trans (by rw [if_neg (by simp), if_neg (by simp), if_pos h3]) HV.out), ?_⟩
        exact (KW.setCell (p := ⟨B + 1, 0, none⟩) (by show w.heap.size ≤ B + 1; have := HBs.out; omega) _).setCell (p := ⟨B + 1, 1, none⟩) (by show w.heap.size ≤ B + 1; have := HBs.out; omega) _
      · have h3z : decide (b < a) = false := by simpa using h3
        have h3y : a ≤ b := by omega
        go_wp2
        refine bodyPost_ret (v := .tuple #[.agg #[.int .i64 a, .int .i64 b], .int .i64 0]) (by simp [results, Tryd.f20, go_sem, r0, r1]) rfl ⟨ret_span (Eq.trans (by rw [if_neg (by simp), if_neg (by simp), if_neg (by omega)]) HV.out), ?_⟩
        exact (KW.setCell (p := ⟨B + 1, 0, none⟩) (by show w.heap.size ≤ B + 1; have := HBs.out; omega) _).setCell (p := ⟨B + 1, 1, none⟩) (by show w.heap.size ≤ B + 1; have := HBs.out; omega) _
    · have h2z : (eb != 0) = true := by simpa using h2
      go_wp2
      refine bodyPost_ret (v := .tuple #[.agg #[.int .i64 0, .int .i64 0], .int .i64 eb]) (by simp [results, Tryd.f20, go_sem, r0, r1]) rfl ⟨ret_span (Eq.trans (by rw [if_neg (by simp), if_pos h2]) HV.out), ?_⟩
      exact (KW.setCell (p := ⟨B + 1, 0, none⟩) (by show w.heap.size ≤ B + 1; have := HBs.out; omega) _).setCell (p := ⟨B + 1, 1, none⟩) (by show w.heap.size ≤ B + 1; have := HBs.out; omega) _
  · have h1z : (ea != 0) = true := by simpa using h1
    have KW := k1
    go_wp2
    refine bodyPost_ret (v := .tuple #[.agg #[.int .i64 0, .int .i64 0], .int .i64 ea]) (by simp [results, Tryd.f20, go_sem, r0, r1]) rfl ⟨ret_span (Eq.trans (by rw [if_pos h1]) HV.out), ?_⟩
    exact (KW.setCell (p := ⟨B + 1, 0, none⟩) (by show w.heap.size ≤ B + 1; have := HBs.out; omega) _).setCell (p := ⟨B + 1, 1, none⟩) (by show w.heap.size ≤ B + 1; have := HBs.out; omega) _

set_option maxRecDepth 100000 in
set_option maxHeartbeats 4000000 in
theorem refSpan_v {w : World} {s : ByteArray} (l : List UInt8) (p1 p2 q1 q2 : Int) (offc : ∀ a b, Grows 18 #[.string s, .agg #[.int .i64 a, .int .i64 b]] w (.tuple #[.int .i64 (offsetV l a b).1, .int .i64 (offsetV l a b).2])) (hord : ∀ a b, offsetV l p1 p2 = (a, 0) → offsetV l q1 q2 = (b, 0) → lessP q1 q2 p1 p2 = decide (b < a)) :
    Calls Tryd.prog 21 #[.string s, .agg #[.int .i64 p1, .int .i64 p2, .int .i64 q1, .int .i64 q2]] w fun e w' => e = .returned (.tuple #[.agg #[.int .i64 (spanV l p1 p2 q1 q2).1.1, .int .i64 (spanV l p1 p2 q1 q2).1.2], .int .i64 (spanV l p1 p2 q1 q2).2]) ∧ Below w.heap.size w w' := by
  have c1 := offc p1 p2
  have c2 := offc q1 q2
  unfold spanV
  obtain ⟨⟨a, ea⟩, ha⟩ : ∃ o, offsetV l p1 p2 = o := ⟨_, rfl⟩
  obtain ⟨⟨b, eb⟩, hb⟩ : ∃ o, offsetV l q1 q2 = o := ⟨_, rfl⟩
  rw [ha] at c1
  rw [hb] at c2
  rw [ha, hb]
  have hord2 := hord a b
  rw [ha, hb] at hord2
  have HORD := Lib.hid hord2
  dsimp only at c1 c2 ⊢
  obtain ⟨⟨⟨V1, V2⟩, V3⟩, hV⟩ : ∃ V : (Int × Int) × Int, (if ea ≠ 0 then ((0, 0), ea) else if eb ≠ 0 then ((0, 0), eb) else if b < a then ((0, 0), 60) else ((a, b), 0)) = V := ⟨_, rfl⟩
  rw [hV]
  dsimp only
  have HV := Lib.hid hV
  clear hV
  obtain ⟨B, hB⟩ : ∃ B, w.heap.size = B := ⟨_, rfl⟩
  have p0 := b4_new w (.int .i64 p1) (.int .i64 p2) (.int .i64 q1) (.int .i64 q2) 47
  have pa := p0.alloc (.cells #[.int .i64 0, .int .i64 0] 32)
  have ra := bx_new (w.alloc (.cells #[.int .i64 p1, .int .i64 p2, .int .i64 q1, .int .i64 q2] 47)) (.int .i64 0) (.int .i64 0) 32
  have k0 := ((Below.refl w.heap.size w).alloc (Nat.le_refl _) (.cells #[.int .i64 p1, .int .i64 p2, .int .i64 q1, .int .i64 q2] 47)).alloc (by simp) (.cells #[.int .i64 0, .int .i64 0] 32)
  obtain ⟨W0, hW0⟩ : ∃ W0, (w.alloc (.cells #[.int .i64 p1, .int .i64 p2, .int .i64 q1, .int .i64 q2] 47)).alloc (.cells #[.int .i64 0, .int .i64 0] 32) = W0 := ⟨_, rfl⟩
  rw [World.size_alloc] at ra
  rw [hW0] at pa ra k0
  rw [hB] at pa ra
  have HP := Lib.hid pa
  have HR := Lib.hid ra
  have HW := Lib.hid hW0
  have HBs := Lib.hid hB
  clear ha hb hW0 hB p0 pa ra offc hord hord2
  go_enter Tryd.func21, Tryd.ntmps21
  go_wp2_with (fail)
  rw [HW.out]
  refine (c1 _ k0).mono ?_
  rintro e w1 ⟨rfl, hb1⟩
  have k1 := k0.trans (hb1.mono k0.size)
  have HP1 := Lib.hid (HP.out.below hb1 (Nat.le_refl _))
  have HR1 := Lib.hid (HR.out.below hb1 (Nat.le_refl _))
  obtain ⟨p1a, p1b, p1c, p1d, _, _, _, _⟩ := HP1.out
  obtain ⟨r0, r1, rf0, rf1⟩ := HR1.out
  clear HP HR hb1 k0 c1
  rw [HBs.out]
  by_cases h1 : ea = 0
  · subst h1
    go_wp2_with (fail)
    refine (c2 _ k1).mono ?_
    rintro e w2 ⟨rfl, hb2⟩
    have k2 := k1.trans (hb2.mono k1.size)
    have KW := k2
    have HP2 := Lib.hid (HP1.out.below hb2 (Nat.le_refl _))
    have HR2 := Lib.hid (HR1.out.below hb2 (Nat.le_refl _))
    clear p1a p1b p1c p1d r0 r1 rf0 rf1
    obtain ⟨p2a, p2b, p2c, p2d, _, _, _, _⟩ := HP2.out
    obtain ⟨r0, r1, rf0, rf1⟩ := HR2.out
    clear HP1 HR1 hb2 k1 c2
    by_cases h2 : eb = 0
    · subst h2
      have hor : lessP q1 q2 p1 p2 = decide (b < a) := HORD.out (by first | rfl | trivial) (by first | rfl | trivial)
      have cl := fun W => less_grow q1 q2 p1 p2 W
      rw [hor] at cl
      clear hor
      by_cases h3 : b < a
      · have h3z : decide (b < a) = true := by simpa using h3
        rw [h3z] at cl
        go_wp2_with (go_at_call 17; refine (cl _).mono ?_; rintro e w3 ⟨rfl, hb3⟩; clear cl; have KX := KW.trans (hb3.mono KW.size); have HR3 := Lib.hid (HR2.out.below hb3 (Nat.le_refl _)); clear r0 r1 rf0 rf1; obtain ⟨r0, r1, rf0, rf1⟩ := HR3.out)
        refine bodyPost_ret (v := .tuple #[.agg #[.int .i64 0, .int .i64 0], .int .i64 60]) (by simp [results, Tryd.f21, go_sem, r0, r1]) rfl ⟨ret_span (Eq.trans (by rw [if_neg (by simp), if_neg (by simp), if_pos h3]) HV.out), ?_⟩
        exact (KX.setCell (p := ⟨B + 1, 0, none⟩) (by show w.heap.size ≤ B + 1; have := HBs.out; omega) _).setCell (p := ⟨B + 1, 1, none⟩) (by show w.heap.size ≤ B + 1; have := HBs.out; omega) _
      · have h3z : decide (b < a) = false := by simpa using h3
        have h3y : a ≤ b := by omega
        rw [h3z] at cl
        go_wp2_with (go_at_call 17; refine (cl _).mono ?_; rintro e w3 ⟨rfl, hb3⟩; clear cl; have KX := KW.trans (hb3.mono KW.size); have HR3 := Lib.hid (HR2.out.below hb3 (Nat.le_refl _)); clear r0 r1 rf0 rf1; obtain ⟨r0, r1, rf0, rf1⟩ := HR3.out)
        refine bodyPost_ret (v := .tuple #[.agg #[.int .i64 a, .int .i64 b], .int .i64 0]) (by simp [results, Tryd.f21, go_sem, r0, r1]) rfl ⟨ret_span (Eq.trans (by rw [if_neg (by simp), if_neg (by simp), if_neg (by omega)]) HV.out), ?_⟩
        exact (KX.setCell (p := ⟨B + 1, 0, none⟩) (by show w.heap.size ≤ B + 1; have := HBs.out; omega) _).setCell (p := ⟨B + 1, 1, none⟩) (by show w.heap.size ≤ B + 1; have := HBs.out; omega) _
    · have h2z : (eb != 0) = true := by simpa using h2
      go_wp2
      refine bodyPost_ret (v := .tuple #[.agg #[.int .i64 0, .int .i64 0], .int .i64 eb]) (by simp [results, Tryd.f21, go_sem, r0, r1]) rfl ⟨ret_span (Eq.trans (by rw [if_neg (by simp), if_pos h2]) HV.out), ?_⟩
      exact (KW.setCell (p := ⟨B + 1, 0, none⟩) (by show w.heap.size ≤ B + 1; have := HBs.out; omega) _).setCell (p := ⟨B + 1, 1, none⟩) (by show w.heap.size ≤ B + 1; have := HBs.out; omega) _
  · have h1z : (ea != 0) = true := by simpa using h1
    have KW := k1
    go_wp2
    refine bodyPost_ret (v := .tuple #[.agg #[.int .i64 0, .int .i64 0], .int .i64 ea]) (by simp [results, Tryd.f21, go_sem, r0, r1]) rfl ⟨ret_span (Eq.trans (by rw [if_pos h1]) HV.out), ?_⟩
    exact (KW.setCell (p := ⟨B + 1, 0, none⟩) (by show w.heap.size ≤ B + 1; have := HBs.out; omega) _).setCell (p := ⟨B + 1, 1, none⟩) (by show w.heap.size ≤ B + 1; have := HBs.out; omega) _

theorem ret_range {a b c d e V1 V2 V3 V4 V5 : Int} (h : (((a, b), (c, d)), e) = (((V1, V2), (V3, V4)), V5)) : Ending.returned (.tuple #[.agg #[.int .i64 a, .int .i64 b, .int .i64 c, .int .i64 d], .int .i64 e]) = .returned (.tuple #[.agg #[.int .i64 V1, .int .i64 V2, .int .i64 V3, .int .i64 V4], .int .i64 V5]) := by
  cases h; rfl

set_option maxRecDepth 100000 in
set_option maxHeartbeats 4000000 in
theorem range_v {w : World} {bi : Nat} (l : List UInt8) (a b : Int) (posc : ∀ a, Grows 16 #[.pointer (some ⟨bi, 0, none⟩), .int .i64 a] w (.tuple #[.agg #[.int .i64 (posV l a).1.1, .int .i64 (posV l a).1.2], .int .i64 (posV l a).2])) :
    Calls Tryd.prog 22 #[.pointer (some ⟨bi, 0, none⟩), .agg #[.int .i64 a, .int .i64 b]] w fun e w' => e = .returned (.tuple #[.agg #[.int .i64 (rangeV l a b).1.1.1, .int .i64 (rangeV l a b).1.1.2, .int .i64 (rangeV l a b).1.2.1, .int .i64 (rangeV l a b).1.2.2], .int .i64 (rangeV l a b).2]) ∧ Below w.heap.size w w' := by
  have c1 := posc a
  have c2 := posc b
  unfold rangeV
  obtain ⟨⟨⟨x1, x2⟩, ea⟩, ha⟩ : ∃ o, posV l a = o := ⟨_, rfl⟩
  obtain ⟨⟨⟨y1, y2⟩, eb⟩, hb⟩ : ∃ o, posV l b = o := ⟨_, rfl⟩
  rw [ha] at c1
  rw [hb] at c2
  rw [ha, hb]
  dsimp only at c1 c2 ⊢
  obtain ⟨⟨⟨⟨V1, V2⟩, ⟨V3, V4⟩⟩, V5⟩, hV⟩ : ∃ V : ((Int × Int) × (Int × Int)) × Int, (if b < a then (((0, 0), (0, 0)), 1) else if ea ≠ 0 then (((0, 0), (0, 0)), ea) else if eb ≠ 0 then (((0, 0), (0, 0)), eb) else (((x1, x2), (y1, y2)), 0)) = V := ⟨_, rfl⟩
  rw [hV]
  dsimp only
  have HV := Lib.hid hV
  obtain ⟨B, hB⟩ : ∃ B, w.heap.size = B := ⟨_, rfl⟩
  have p0 := bx_new w (.int .i64 a) (.int .i64 b) 32
  have pa := p0.alloc (.cells #[.int .i64 0, .int .i64 0, .int .i64 0, .int .i64 0] 47)
  have ra := b4_new (w.alloc (.cells #[.int .i64 a, .int .i64 b] 32)) (.int .i64 0) (.int .i64 0) (.int .i64 0) (.int .i64 0) 47
  have k0 := ((Below.refl w.heap.size w).alloc (Nat.le_refl _) (.cells #[.int .i64 a, .int .i64 b] 32)).alloc (by simp) (.cells #[.int .i64 0, .int .i64 0, .int .i64 0, .int .i64 0] 47)
  obtain ⟨W0, hW0⟩ : ∃ W0, (w.alloc (.cells #[.int .i64 a, .int .i64 b] 32)).alloc (.cells #[.int .i64 0, .int .i64 0, .int .i64 0, .int .i64 0] 47) = W0 := ⟨_, rfl⟩
  rw [World.size_alloc] at ra
  rw [hW0] at pa ra k0
  rw [hB] at pa ra
  have HP := Lib.hid pa
  have HR := Lib.hid ra
  have HW := Lib.hid hW0
  have HBs := Lib.hid hB
  clear ha hb hV hW0 hB p0 pa ra posc
  by_cases h0 : b < a
  · have KW := ((Below.refl w.heap.size w).alloc (Nat.le_refl _) (.cells #[.int .i64 a, .int .i64 b] 32)).alloc (by simp) (.cells #[.int .i64 0, .int .i64 0, .int .i64 0, .int .i64 0] 47)
    go_enter Tryd.func22, Tryd.ntmps22
    go_wp2
    refine bodyPost_ret (v := .tuple #[.agg #[.int .i64 0, .int .i64 0, .int .i64 0, .int .i64 0], .int .i64 1]) (by simp [results, Tryd.f22, go_sem]) rfl ⟨ret_range (Eq.trans (by rw [if_pos h0]) HV.out), ?_⟩
    exact KW
  · have h0z : a ≤ b := by omega
    clear h0
    go_enter Tryd.func22, Tryd.ntmps22
    go_wp2_with (fail)
    rw [HW.out, HBs.out]
    refine (c1 _ k0).mono ?_
    rintro e w1 ⟨rfl, hb1⟩
    have k1 := k0.trans (hb1.mono k0.size)
    have HP1 := Lib.hid ((HP.out.below hb1 (Nat.le_refl _)).alloc (.cells #[.int .i64 x1, .int .i64 x2] 37))
    have HR1 := Lib.hid ((HR.out.below hb1 (Nat.le_refl _)).alloc (.cells #[.int .i64 x1, .int .i64 x2] 37))
    have HX1 := Lib.hid (bx_new w1 (.int .i64 x1) (.int .i64 x2) 37)
    have kx := k1.alloc k1.size (.cells #[.int .i64 x1, .int .i64 x2] 37)
    obtain ⟨p1a, p1b, _, _⟩ := HP1.out
    obtain ⟨r0, r1, r2, r3, rf0, rf1, rf2, rf3⟩ := HR1.out
    clear HP HR hb1 k0 c1 k1
    by_cases h1 : ea = 0
    · subst h1
      go_wp2_with (fail)
      obtain ⟨W1, hW1⟩ : ∃ W1, w1.alloc (.cells #[.int .i64 x1, .int .i64 x2] 37) = W1 := ⟨_, rfl⟩
      obtain ⟨B1, hB1⟩ : ∃ B1, w1.heap.size = B1 := ⟨_, rfl⟩
      rw [hW1] at HP1 HR1 HX1 kx ⊢
      rw [hB1] at HX1 ⊢
      clear p1a p1b r0 r1 r2 r3 rf0 rf1 rf2 rf3 hW1 hB1
      refine (c2 _ kx).mono ?_
      rintro e w2 ⟨rfl, hb2⟩
      have k2 := kx.trans (hb2.mono kx.size)
      have HR2 := Lib.hid ((HR1.out.below hb2 (Nat.le_refl _)).alloc (.cells #[.int .i64 y1, .int .i64 y2] 37))
      have HX2 := Lib.hid ((HX1.out.below hb2 (Nat.le_refl _)).alloc (.cells #[.int .i64 y1, .int .i64 y2] 37))
      have KW := k2.alloc k2.size (.cells #[.int .i64 y1, .int .i64 y2] 37)
      obtain ⟨r0, r1, r2, r3, rf0, rf1, rf2, rf3⟩ := HR2.out
      obtain ⟨x0, x1', _, _⟩ := HX2.out
      clear HP1 HR1 HX1 hb2 kx k2 c2
      by_cases h2 : eb = 0
      · subst h2
        go_wp2
        refine bodyPost_ret (v := .tuple #[.agg #[.int .i64 x1, .int .i64 x2, .int .i64 y1, .int .i64 y2], .int .i64 0]) (by simp [results, Tryd.f22, go_sem, r0, r1, r2, r3]) rfl ⟨ret_range (Eq.trans (by rw [if_neg (by omega), if_neg (by simp), if_neg (by simp)]) HV.out), ?_⟩
        exact ((((KW.setCell (p := ⟨B + 1, 0, none⟩) (by show w.heap.size ≤ B + 1; have := HBs.out; omega) _).setCell (p := ⟨B + 1, 1, none⟩) (by show w.heap.size ≤ B + 1; have := HBs.out; omega) _).setCell (p := ⟨B + 1, 2, none⟩) (by show w.heap.size ≤ B + 1; have := HBs.out; omega) _).setCell (p := ⟨B + 1, 3, none⟩) (by show w.heap.size ≤ B + 1; have := HBs.out; omega) _)
      · have h2z : (eb != 0) = true := by simpa using h2
        go_wp2
        refine bodyPost_ret (v := .tuple #[.agg #[.int .i64 0, .int .i64 0, .int .i64 0, .int .i64 0], .int .i64 eb]) (by simp [results, Tryd.f22, go_sem, r0, r1, r2, r3]) rfl ⟨ret_range (Eq.trans (by rw [if_neg (by omega), if_neg (by simp), if_pos h2]) HV.out), ?_⟩
        exact ((((KW.setCell (p := ⟨B + 1, 0, none⟩) (by show w.heap.size ≤ B + 1; have := HBs.out; omega) _).setCell (p := ⟨B + 1, 1, none⟩) (by show w.heap.size ≤ B + 1; have := HBs.out; omega) _).setCell (p := ⟨B + 1, 2, none⟩) (by show w.heap.size ≤ B + 1; have := HBs.out; omega) _).setCell (p := ⟨B + 1, 3, none⟩) (by show w.heap.size ≤ B + 1; have := HBs.out; omega) _)
    · have h1z : (ea != 0) = true := by simpa using h1
      go_wp2
      refine bodyPost_ret (v := .tuple #[.agg #[.int .i64 0, .int .i64 0, .int .i64 0, .int .i64 0], .int .i64 ea]) (by simp [results, Tryd.f22, go_sem, r0, r1, r2, r3]) rfl ⟨ret_range (Eq.trans (by rw [if_neg (by omega), if_pos h1]) HV.out), ?_⟩
      exact ((((kx.setCell (p := ⟨B + 1, 0, none⟩) (by show w.heap.size ≤ B + 1; have := HBs.out; omega) _).setCell (p := ⟨B + 1, 1, none⟩) (by show w.heap.size ≤ B + 1; have := HBs.out; omega) _).setCell (p := ⟨B + 1, 2, none⟩) (by show w.heap.size ≤ B + 1; have := HBs.out; omega) _).setCell (p := ⟨B + 1, 3, none⟩) (by show w.heap.size ≤ B + 1; have := HBs.out; omega) _)

set_option maxRecDepth 100000 in
set_option maxHeartbeats 4000000 in
theorem refRange_v {w : World} {s : ByteArray} (l : List UInt8) (a b : Int) (posc : ∀ a, Grows 19 #[.string s, .int .i64 a] w (.tuple #[.agg #[.int .i64 (posV l a).1.1, .int .i64 (posV l a).1.2], .int .i64 (posV l a).2])) :
    Calls Tryd.prog 23 #[.string s, .agg #[.int .i64 a, .int .i64 b]] w fun e w' => e = .returned (.tuple #[.agg #[.int .i64 (rangeV l a b).1.1.1, .int .i64 (rangeV l a b).1.1.2, .int .i64 (rangeV l a b).1.2.1, .int .i64 (rangeV l a b).1.2.2], .int .i64 (rangeV l a b).2]) ∧ Below w.heap.size w w' := by
  have c1 := posc a
  have c2 := posc b
  unfold rangeV
  obtain ⟨⟨⟨x1, x2⟩, ea⟩, ha⟩ : ∃ o, posV l a = o := ⟨_, rfl⟩
  obtain ⟨⟨⟨y1, y2⟩, eb⟩, hb⟩ : ∃ o, posV l b = o := ⟨_, rfl⟩
  rw [ha] at c1
  rw [hb] at c2
  rw [ha, hb]
  dsimp only at c1 c2 ⊢
  obtain ⟨⟨⟨⟨V1, V2⟩, ⟨V3, V4⟩⟩, V5⟩, hV⟩ : ∃ V : ((Int × Int) × (Int × Int)) × Int, (if b < a then (((0, 0), (0, 0)), 1) else if ea ≠ 0 then (((0, 0), (0, 0)), ea) else if eb ≠ 0 then (((0, 0), (0, 0)), eb) else (((x1, x2), (y1, y2)), 0)) = V := ⟨_, rfl⟩
  rw [hV]
  dsimp only
  have HV := Lib.hid hV
  obtain ⟨B, hB⟩ : ∃ B, w.heap.size = B := ⟨_, rfl⟩
  have p0 := bx_new w (.int .i64 a) (.int .i64 b) 32
  have pa := p0.alloc (.cells #[.int .i64 0, .int .i64 0, .int .i64 0, .int .i64 0] 47)
  have ra := b4_new (w.alloc (.cells #[.int .i64 a, .int .i64 b] 32)) (.int .i64 0) (.int .i64 0) (.int .i64 0) (.int .i64 0) 47
  have k0 := ((Below.refl w.heap.size w).alloc (Nat.le_refl _) (.cells #[.int .i64 a, .int .i64 b] 32)).alloc (by simp) (.cells #[.int .i64 0, .int .i64 0, .int .i64 0, .int .i64 0] 47)
  obtain ⟨W0, hW0⟩ : ∃ W0, (w.alloc (.cells #[.int .i64 a, .int .i64 b] 32)).alloc (.cells #[.int .i64 0, .int .i64 0, .int .i64 0, .int .i64 0] 47) = W0 := ⟨_, rfl⟩
  rw [World.size_alloc] at ra
  rw [hW0] at pa ra k0
  rw [hB] at pa ra
  have HP := Lib.hid pa
  have HR := Lib.hid ra
  have HW := Lib.hid hW0
  have HBs := Lib.hid hB
  clear ha hb hV hW0 hB p0 pa ra posc
  by_cases h0 : b < a
  · have KW := ((Below.refl w.heap.size w).alloc (Nat.le_refl _) (.cells #[.int .i64 a, .int .i64 b] 32)).alloc (by simp) (.cells #[.int .i64 0, .int .i64 0, .int .i64 0, .int .i64 0] 47)
    go_enter Tryd.func23, Tryd.ntmps23
    go_wp2
    refine bodyPost_ret (v := .tuple #[.agg #[.int .i64 0, .int .i64 0, .int .i64 0, .int .i64 0], .int .i64 1]) (by simp [results, Tryd.f23, go_sem]) rfl ⟨ret_range (Eq.trans (by rw [if_pos h0]) HV.out), ?_⟩
    exact KW
  · have h0z : a ≤ b := by omega
    clear h0
    go_enter Tryd.func23, Tryd.ntmps23
    go_wp2_with (fail)
    rw [HW.out, HBs.out]
    refine (c1 _ k0).mono ?_
    rintro e w1 ⟨rfl, hb1⟩
    have k1 := k0.trans (hb1.mono k0.size)
    have HP1 := Lib.hid ((HP.out.below hb1 (Nat.le_refl _)).alloc (.cells #[.int .i64 x1, .int .i64 x2] 37))
    have HR1 := Lib.hid ((HR.out.below hb1 (Nat.le_refl _)).alloc (.cells #[.int .i64 x1, .int .i64 x2] 37))
    have HX1 := Lib.hid (bx_new w1 (.int .i64 x1) (.int .i64 x2) 37)
    have kx := k1.alloc k1.size (.cells #[.int .i64 x1, .int .i64 x2] 37)
    obtain ⟨p1a, p1b, _, _⟩ := HP1.out
    obtain ⟨r0, r1, r2, r3, rf0, rf1, rf2, rf3⟩ := HR1.out
    clear HP HR hb1 k0 c1 k1
    by_cases h1 : ea = 0
    · subst h1
      go_wp2_with (fail)
      obtain ⟨W1, hW1⟩ : ∃ W1, w1.alloc (.cells #[.int .i64 x1, .int .i64 x2] 37) = W1 := ⟨_, rfl⟩
      obtain ⟨B1, hB1⟩ : ∃ B1, w1.heap.size = B1 := ⟨_, rfl⟩
      rw [hW1] at HP1 HR1 HX1 kx ⊢
      rw [hB1] at HX1 ⊢
      clear p1a p1b r0 r1 r2 r3 rf0 rf1 rf2 rf3 hW1 hB1
      refine (c2 _ kx).mono ?_
      rintro e w2 ⟨rfl, hb2⟩
      have k2 := kx.trans (hb2.mono kx.size)
      have HR2 := Lib.hid ((HR1.out.below hb2 (Nat.le_refl _)).alloc (.cells #[.int .i64 y1, .int .i64 y2] 37))
      have HX2 := Lib.hid ((HX1.out.below hb2 (Nat.le_refl _)).alloc (.cells #[.int .i64 y1, .int .i64 y2] 37))
      have KW := k2.alloc k2.size (.cells #[.int .i64 y1, .int .i64 y2] 37)
      obtain ⟨r0, r1, r2, r3, rf0, rf1, rf2, rf3⟩ := HR2.out
      obtain ⟨x0, x1', _, _⟩ := HX2.out
      clear HP1 HR1 HX1 hb2 kx k2 c2
      by_cases h2 : eb = 0
      · subst h2
        go_wp2
        refine bodyPost_ret (v := .tuple #[.agg #[.int .i64 x1, .int .i64 x2, .int .i64 y1, .int .i64 y2], .int .i64 0]) (by simp [results, Tryd.f23, go_sem, r0, r1, r2, r3]) rfl ⟨ret_range (Eq.trans (by rw [if_neg (by omega), if_neg (by simp), if_neg (by simp)]) HV.out), ?_⟩
        exact ((((KW.setCell (p := ⟨B + 1, 0, none⟩) (by show w.heap.size ≤ B + 1; have := HBs.out; omega) _).setCell (p := ⟨B + 1, 1, none⟩) (by show w.heap.size ≤ B + 1; have := HBs.out; omega) _).setCell (p := ⟨B + 1, 2, none⟩) (by show w.heap.size ≤ B + 1; have := HBs.out; omega) _).setCell (p := ⟨B + 1, 3, none⟩) (by show w.heap.size ≤ B + 1; have := HBs.out; omega) _)
      · have h2z : (eb != 0) = true := by simpa using h2
        go_wp2
        refine bodyPost_ret (v := .tuple #[.agg #[.int .i64 0, .int .i64 0, .int .i64 0, .int .i64 0], .int .i64 eb]) (by simp [results, Tryd.f23, go_sem, r0, r1, r2, r3]) rfl ⟨ret_range (Eq.trans (by rw [if_neg (by omega), if_neg (by simp), if_pos h2]) HV.out), ?_⟩
        exact ((((KW.setCell (p := ⟨B + 1, 0, none⟩) (by show w.heap.size ≤ B + 1; have := HBs.out; omega) _).setCell (p := ⟨B + 1, 1, none⟩) (by show w.heap.size ≤ B + 1; have := HBs.out; omega) _).setCell (p := ⟨B + 1, 2, none⟩) (by show w.heap.size ≤ B + 1; have := HBs.out; omega) _).setCell (p := ⟨B + 1, 3, none⟩) (by show w.heap.size ≤ B + 1; have := HBs.out; omega) _)
    · have h1z : (ea != 0) = true := by simpa using h1
      go_wp2
      refine bodyPost_ret (v := .tuple #[.agg #[.int .i64 0, .int .i64 0, .int .i64 0, .int .i64 0], .int .i64 ea]) (by simp [results, Tryd.f23, go_sem, r0, r1, r2, r3]) rfl ⟨ret_range (Eq.trans (by rw [if_neg (by omega), if_pos h1]) HV.out), ?_⟩
      exact ((((kx.setCell (p := ⟨B + 1, 0, none⟩) (by show w.heap.size ≤ B + 1; have := HBs.out; omega) _).setCell (p := ⟨B + 1, 1, none⟩) (by show w.heap.size ≤ B + 1; have := HBs.out; omega) _).setCell (p := ⟨B + 1, 2, none⟩) (by show w.heap.size ≤ B + 1; have := HBs.out; omega) _).setCell (p := ⟨B + 1, 3, none⟩) (by show w.heap.size ≤ B + 1; have := HBs.out; omega) _)
end Go.Proofs.YtkhbggihgodpkaaDoor
