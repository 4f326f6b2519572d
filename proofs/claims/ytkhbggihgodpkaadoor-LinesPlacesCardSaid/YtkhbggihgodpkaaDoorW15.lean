/-
  The law LinesPlaces: it answers true.
-/
import Derived.Test.YtkhbggihgodpkaaDoorR5
namespace Go.Proofs.YtkhbggihgodpkaaDoor
open Go.RowKit Go.Shelf Go.Lib

set_option maxRecDepth 100000 in
set_option maxHeartbeats 1000000 in
theorem places_long (s : ByteArray) (p1 p2 q1 q2 ya yb : Int) (w : World) (hs : 2000 < (s.size : Int)) (hT : Tabs w) :
    Calls Tryd.prog 7 #[.string s, .agg #[.int .i64 p1, .int .i64 p2, .int .i64 q1, .int .i64 q2], .agg #[.int .i64 ya, .int .i64 yb]] w fun e w' => e = .returned (.bool true) ∧ Below w.heap.size w w' := by
  have ca := grows_awake hT
  have hb0 := ((Below.refl w.heap.size w).alloc (Nat.le_refl _) (.cells #[.int .i64 p1, .int .i64 p2, .int .i64 q1, .int .i64 q2] 47)).alloc (by simp) (.cells #[.int .i64 ya, .int .i64 yb] 32)
  have cW := ca _ hb0
  clear hT ca
  go_enter Tryd.func7, Tryd.ntmps7
  go_wp2_with (go_at_call 9; refine cW.mono ?_; rintro e w' ⟨rfl, hb⟩; clear cW)
  go_ret
  exact ⟨rfl, hb0.trans (hb.mono hb0.size)⟩
set_option maxRecDepth 100000 in
set_option maxHeartbeats 1000000 in
theorem places_form (s : ByteArray) (p1 p2 q1 q2 ya yb : Int) (w : World) (hs : (s.size : Int) ≤ 2000) (hv : validD s.data.toList = false) (hT : Tabs w) :
    Calls Tryd.prog 7 #[.string s, .agg #[.int .i64 p1, .int .i64 p2, .int .i64 q1, .int .i64 q2], .agg #[.int .i64 ya, .int .i64 yb]] w fun e w' => e = .returned (.bool true) ∧ Below w.heap.size w w' := by
  have ca := grows_awake hT
  have cv := fun W => refValid_any s W (by omega)
  rw [hv] at cv
  have hb0 := ((Below.refl w.heap.size w).alloc (Nat.le_refl _) (.cells #[.int .i64 p1, .int .i64 p2, .int .i64 q1, .int .i64 q2] 47)).alloc (by simp) (.cells #[.int .i64 ya, .int .i64 yb] 32)
  have cW := ca _ hb0
  clear hT hv ca
  go_enter Tryd.func7, Tryd.ntmps7
  go_wp2_with (first | (go_at_call 9; refine cW.mono ?_; rintro e w1 ⟨rfl, hb1⟩; clear cW) | (go_at_call 11; refine (cv _).mono ?_; rintro e w2' ⟨rfl, rfl⟩; clear cv))
  go_ret
  exact ⟨rfl, hb0.trans (hb1.mono hb0.size)⟩

set_option maxRecDepth 100000 in
set_option maxHeartbeats 8000000 in
theorem places_ok (s : ByteArray) (p1 p2 q1 q2 ya yb : Int) (w : World) (hs : (s.size : Int) ≤ 2000) (hv : validD s.data.toList = true) (hT : Tabs w) :
    Calls Tryd.prog 7 #[.string s, .agg #[.int .i64 p1, .int .i64 p2, .int .i64 q1, .int .i64 q2], .agg #[.int .i64 ya, .int .i64 yb]] w fun e w' => e = .returned (.bool true) ∧ Below w.heap.size w w' := by
  have ca := grows_awake hT
  have cn := fun W hW => new_ok s W (by omega) hv (tabs_below hT hW)
  have cv := fun W => refValid_any s W (by omega)
  rw [hv] at cv
  have hs' : s.size ≤ 65536 := by omega
  have ro : ∀ a b w', Grows 18 #[.string s, .agg #[.int .i64 a, .int .i64 b]] w' _ := fun a b _ W _ => refOffset_any s a b W hs' hv
  have rp : ∀ a w', Grows 19 #[.string s, .int .i64 a] w' _ := fun a _ W _ => refPos_any s a W hs' hv
  have hord : ∀ a b, offsetV s.data.toList p1 p2 = (a, 0) → offsetV s.data.toList q1 q2 = (b, 0) → lessP q1 q2 p1 p2 = decide (b < a) := fun a b ha hb => by
    have := (order hv hb ha).2
    unfold lessP
    by_cases h : b < a
    · rw [decide_eq_true h]
      have := this.2 h
      simp; omega
    · rw [decide_eq_false h]
      have hx : ¬ (q1 < p1 ∨ q1 = p1 ∧ q2 < p2) := fun hx => h (this.1 hx)
      simp; omega
  have c18 := ro p1 p2 w
  have c19 := rp ya w
  have c21 : Grows 21 #[.string s, .agg #[.int .i64 p1, .int .i64 p2, .int .i64 q1, .int .i64 q2]] w _ := fun W _ => refSpan_v (w := W) s.data.toList p1 p2 q1 q2 (fun a b => ro a b W) hord
  have c23 : Grows 23 #[.string s, .agg #[.int .i64 ya, .int .i64 yb]] w _ := fun W _ => refRange_v (w := W) s.data.toList ya yb (fun a => rp a W)
  obtain ⟨B, hB⟩ : ∃ B, w.heap.size = B := ⟨_, rfl⟩
  have pa := (b4_new w (.int .i64 p1) (.int .i64 p2) (.int .i64 q1) (.int .i64 q2) 47).alloc (.cells #[.int .i64 ya, .int .i64 yb] 32)
  have ra := bx_new (w.alloc (.cells #[.int .i64 p1, .int .i64 p2, .int .i64 q1, .int .i64 q2] 47)) (.int .i64 ya) (.int .i64 yb) 32
  have k0 := ((Below.refl w.heap.size w).alloc (Nat.le_refl _) (.cells #[.int .i64 p1, .int .i64 p2, .int .i64 q1, .int .i64 q2] 47)).alloc (by simp) (.cells #[.int .i64 ya, .int .i64 yb] 32)
  obtain ⟨W0, hW0⟩ : ∃ W0, (w.alloc (.cells #[.int .i64 p1, .int .i64 p2, .int .i64 q1, .int .i64 q2] 47)).alloc (.cells #[.int .i64 ya, .int .i64 yb] 32) = W0 := ⟨_, rfl⟩
  rw [World.size_alloc] at ra
  rw [hW0] at pa ra k0
  rw [hB] at pa ra
  have HP := Lib.hid pa
  have HR := Lib.hid ra
  have HW := Lib.hid hW0
  have HBs := Lib.hid hB
  clear hT hv hB hW0 pa ra ro rp hord
  go_enter Tryd.func7, Tryd.ntmps7
  go_wp2_with (fail)
  rw [HW.out, HBs.out]
  refine (cv _).mono ?_
  rintro e w0' ⟨rfl, rfl⟩
  clear cv
  go_wp2_with (fail)
  refine (cn _ k0).mono ?_
  rintro e w1 ⟨b, g, cap, rfl, hb1, hI, hlb, hlg⟩
  have k1 := k0.trans (hb1.mono k0.size)
  have HP1 := Lib.hid (HP.out.below hb1 (Nat.le_refl _))
  have HR1 := Lib.hid (HR.out.below hb1 (Nat.le_refl _))
  have c15 := hI.offset hs' p1 p2
  have c16 := hI.pos hs' ya
  have c20 : Grows 20 #[.pointer (some ⟨b, 0, none⟩), .agg #[.int .i64 p1, .int .i64 p2, .int .i64 q1, .int .i64 q2]] w1 _ := grows_idx hI fun W hW => span_v (w := W) s.data.toList p1 p2 q1 q2 (fun a b => hW.offset hs' a b)
  have c22 : Grows 22 #[.pointer (some ⟨b, 0, none⟩), .agg #[.int .i64 ya, .int .i64 yb]] w1 _ := grows_idx hI fun W hW => range_v (w := W) s.data.toList ya yb (fun a => hW.pos hs' a)
  have d18 := c18.on k1
  have d19 := c19.on k1
  have d21 := c21.on k1
  have d23 := c23.on k1
  have d9 := ca.on k1
  obtain ⟨⟨o1, o2⟩, ho⟩ : ∃ o, offsetV s.data.toList p1 p2 = o := ⟨_, rfl⟩
  obtain ⟨⟨⟨a1, a2⟩, a3⟩, ha⟩ : ∃ o, posV s.data.toList ya = o := ⟨_, rfl⟩
  obtain ⟨⟨⟨s1, s2⟩, s3⟩, hsv⟩ : ∃ o, spanV s.data.toList p1 p2 q1 q2 = o := ⟨_, rfl⟩
  obtain ⟨⟨⟨⟨r1, r2⟩, ⟨r3, r4⟩⟩, r5⟩, hrv⟩ : ∃ o, rangeV s.data.toList ya yb = o := ⟨_, rfl⟩
  rw [ho] at c15 d18
  rw [ha] at c16 d19
  rw [hsv] at c20 d21
  rw [hrv] at c22 d23
  dsimp only at c15 d18 c16 d19 c20 d21 c22 d23
  have h0 := Below.refl w1.heap.size w1
  clear hI hlb hlg ho ha hsv hrv c18 c19 c21 c23 ca cn HP HR hb1 k0
  obtain ⟨pa, pb, pc, pd, _, _, _, _⟩ := HP1.out
  obtain ⟨ra, rb, _, _⟩ := HR1.out
  go_wp2_with (fail)
  refine (c15 _ h0).mono ?_
  rintro e w2 ⟨rfl, hbN⟩
  clear c15 pa pb pc pd ra rb
  have h1 := h0.trans (hbN.mono h0.size)
  have HP1_2 := Lib.hid (HP1.out.below hbN (Nat.le_refl _))
  have HR1_2 := Lib.hid (HR1.out.below hbN (Nat.le_refl _))
  clear hbN h0 HP1 HR1
  obtain ⟨pa, pb, pc, pd, _, _, _, _⟩ := HP1_2.out
  obtain ⟨ra, rb, _, _⟩ := HR1_2.out
  go_wp2_with (fail)
  refine (d18 _ h1).mono ?_
  rintro e w3 ⟨rfl, hbN⟩
  clear d18 pa pb pc pd ra rb
  have h2 := h1.trans (hbN.mono h1.size)
  have HP1_3 := Lib.hid (HP1_2.out.below hbN (Nat.le_refl _))
  have HR1_3 := Lib.hid (HR1_2.out.below hbN (Nat.le_refl _))
  clear hbN h1 HP1_2 HR1_2
  obtain ⟨pa, pb, pc, pd, _, _, _, _⟩ := HP1_3.out
  obtain ⟨ra, rb, _, _⟩ := HR1_3.out
  go_wp2_with (fail)
  refine (c16 _ h2).mono ?_
  rintro e w4 ⟨rfl, hbN⟩
  clear c16 pa pb pc pd ra rb
  have h3 := h2.trans (hbN.mono h2.size)
  have HP1_4 := Lib.hid (HP1_3.out.below hbN (Nat.le_refl _))
  have HR1_4 := Lib.hid (HR1_3.out.below hbN (Nat.le_refl _))
  clear hbN h2 HP1_3 HR1_3
  have HP1_4a := HP1_4.out.alloc (.cells #[.int .i64 a1, .int .i64 a2] 37)
  have HR1_4a := HR1_4.out.alloc (.cells #[.int .i64 a1, .int .i64 a2] 37)
  have HX_4a := bx_new w4 (.int .i64 a1) (.int .i64 a2) 37
  have h3a := h3.alloc h3.size (.cells #[.int .i64 a1, .int .i64 a2] 37)
  obtain ⟨pa, pb, pc, pd, _, _, _, _⟩ := HP1_4a
  obtain ⟨ra, rb, _, _⟩ := HR1_4a
  go_wp2_with (fail)
  obtain ⟨WX, hWX⟩ : ∃ W, w4.alloc (.cells #[.int .i64 a1, .int .i64 a2] 37) = W := ⟨_, rfl⟩
  obtain ⟨BX, hBX⟩ : ∃ b, w4.heap.size = b := ⟨_, rfl⟩
  clear pa pb pc pd ra rb
  have HP1_4b := HP1_4.out.alloc (.cells #[.int .i64 a1, .int .i64 a2] 37)
  have HR1_4b := HR1_4.out.alloc (.cells #[.int .i64 a1, .int .i64 a2] 37)
  rw [hWX] at HP1_4b HR1_4b HX_4a h3a ⊢
  rw [hBX] at HX_4a ⊢
  have HP1_4c := Lib.hid HP1_4b
  have HR1_4c := Lib.hid HR1_4b
  have HX_4c := Lib.hid HX_4a
  clear hWX hBX HP1_4b HR1_4b HX_4a HP1_4 HR1_4 h3
  refine (d19 _ h3a).mono ?_
  rintro e w5 ⟨rfl, hbN⟩
  clear d19
  have h4 := h3a.trans (hbN.mono h3a.size)
  have HP1_5 := Lib.hid ((HP1_4c.out.below hbN (Nat.le_refl _)).alloc (.cells #[.int .i64 a1, .int .i64 a2] 37))
  have HR1_5 := Lib.hid ((HR1_4c.out.below hbN (Nat.le_refl _)).alloc (.cells #[.int .i64 a1, .int .i64 a2] 37))
  have HX_5 := Lib.hid ((HX_4c.out.below hbN (Nat.le_refl _)).alloc (.cells #[.int .i64 a1, .int .i64 a2] 37))
  have HX2_5 := Lib.hid (bx_new w5 (.int .i64 a1) (.int .i64 a2) 37)
  have h4a := h4.alloc h4.size (.cells #[.int .i64 a1, .int .i64 a2] 37)
  clear hbN h3a h4 HP1_4c HR1_4c HX_4c
  obtain ⟨pa, pb, pc, pd, _, _, _, _⟩ := HP1_5.out
  obtain ⟨ra, rb, _, _⟩ := HR1_5.out
  obtain ⟨xa, xb, _, _⟩ := HX_5.out
  go_wp2_with (fail)
  obtain ⟨WZ5, hWZ⟩ : ∃ W, w5.alloc (.cells #[.int .i64 a1, .int .i64 a2] 37) = W := ⟨_, rfl⟩
  obtain ⟨BZ5, hBZ⟩ : ∃ b, w5.heap.size = b := ⟨_, rfl⟩
  clear pa pb pc pd ra rb xa xb HX2_5 HX_5
  have HP1_5d := HP1_5.out
  have HR1_5d := HR1_5.out
  rw [hWZ] at HP1_5d HR1_5d h4a ⊢
  rw [hBZ]
  have HP1_5e := Lib.hid HP1_5d
  have HR1_5e := Lib.hid HR1_5d
  clear hWZ hBZ HP1_5d HR1_5d HP1_5 HR1_5
  refine (c20 _ h4a).mono ?_
  rintro e w6 ⟨rfl, hbN⟩
  clear c20
  have h5 := h4a.trans (hbN.mono h4a.size)
  have HP1_6 := Lib.hid (HP1_5e.out.below hbN (Nat.le_refl _))
  have HR1_6 := Lib.hid (HR1_5e.out.below hbN (Nat.le_refl _))
  clear hbN h4a HP1_5e HR1_5e
  have HP1_6a := HP1_6.out.alloc (.cells #[.int .i64 s1, .int .i64 s2] 32)
  have HR1_6a := HR1_6.out.alloc (.cells #[.int .i64 s1, .int .i64 s2] 32)
  have HX_6a := bx_new w6 (.int .i64 s1) (.int .i64 s2) 32
  have h5a := h5.alloc h5.size (.cells #[.int .i64 s1, .int .i64 s2] 32)
  obtain ⟨pa, pb, pc, pd, _, _, _, _⟩ := HP1_6a
  obtain ⟨ra, rb, _, _⟩ := HR1_6a
  go_wp2_with (fail)
  obtain ⟨WX, hWX⟩ : ∃ W, w6.alloc (.cells #[.int .i64 s1, .int .i64 s2] 32) = W := ⟨_, rfl⟩
  obtain ⟨BX, hBX⟩ : ∃ b, w6.heap.size = b := ⟨_, rfl⟩
  clear pa pb pc pd ra rb
  have HP1_6b := HP1_6.out.alloc (.cells #[.int .i64 s1, .int .i64 s2] 32)
  have HR1_6b := HR1_6.out.alloc (.cells #[.int .i64 s1, .int .i64 s2] 32)
  rw [hWX] at HP1_6b HR1_6b HX_6a h5a ⊢
  rw [hBX] at HX_6a ⊢
  have HP1_6c := Lib.hid HP1_6b
  have HR1_6c := Lib.hid HR1_6b
  have HX_6c := Lib.hid HX_6a
  clear hWX hBX HP1_6b HR1_6b HX_6a HP1_6 HR1_6 h5
  refine (d21 _ h5a).mono ?_
  rintro e w7 ⟨rfl, hbN⟩
  clear d21
  have h6 := h5a.trans (hbN.mono h5a.size)
  have HP1_7 := Lib.hid ((HP1_6c.out.below hbN (Nat.le_refl _)).alloc (.cells #[.int .i64 s1, .int .i64 s2] 32))
  have HR1_7 := Lib.hid ((HR1_6c.out.below hbN (Nat.le_refl _)).alloc (.cells #[.int .i64 s1, .int .i64 s2] 32))
  have HX_7 := Lib.hid ((HX_6c.out.below hbN (Nat.le_refl _)).alloc (.cells #[.int .i64 s1, .int .i64 s2] 32))
  have HX2_7 := Lib.hid (bx_new w7 (.int .i64 s1) (.int .i64 s2) 32)
  have h6a := h6.alloc h6.size (.cells #[.int .i64 s1, .int .i64 s2] 32)
  clear hbN h5a h6 HP1_6c HR1_6c HX_6c
  obtain ⟨pa, pb, pc, pd, _, _, _, _⟩ := HP1_7.out
  obtain ⟨ra, rb, _, _⟩ := HR1_7.out
  obtain ⟨xa, xb, _, _⟩ := HX_7.out
  go_wp2_with (fail)
  obtain ⟨WZ7, hWZ⟩ : ∃ W, w7.alloc (.cells #[.int .i64 s1, .int .i64 s2] 32) = W := ⟨_, rfl⟩
  obtain ⟨BZ7, hBZ⟩ : ∃ b, w7.heap.size = b := ⟨_, rfl⟩
  clear pa pb pc pd ra rb xa xb HX2_7 HX_7
  have HP1_7d := HP1_7.out
  have HR1_7d := HR1_7.out
  rw [hWZ] at HP1_7d HR1_7d h6a ⊢
  rw [hBZ]
  have HP1_7e := Lib.hid HP1_7d
  have HR1_7e := Lib.hid HR1_7d
  clear hWZ hBZ HP1_7d HR1_7d HP1_7 HR1_7
  refine (c22 _ h6a).mono ?_
  rintro e w8 ⟨rfl, hbN⟩
  clear c22
  have h7 := h6a.trans (hbN.mono h6a.size)
  have HP1_8 := Lib.hid (HP1_7e.out.below hbN (Nat.le_refl _))
  have HR1_8 := Lib.hid (HR1_7e.out.below hbN (Nat.le_refl _))
  clear hbN h6a HP1_7e HR1_7e
  have HP1_8a := HP1_8.out.alloc (.cells #[.int .i64 r1, .int .i64 r2, .int .i64 r3, .int .i64 r4] 47)
  have HR1_8a := HR1_8.out.alloc (.cells #[.int .i64 r1, .int .i64 r2, .int .i64 r3, .int .i64 r4] 47)
  have HY_8a := b4_new w8 (.int .i64 r1) (.int .i64 r2) (.int .i64 r3) (.int .i64 r4) 47
  have h7a := h7.alloc h7.size (.cells #[.int .i64 r1, .int .i64 r2, .int .i64 r3, .int .i64 r4] 47)
  obtain ⟨pa, pb, pc, pd, _, _, _, _⟩ := HP1_8a
  obtain ⟨ra, rb, _, _⟩ := HR1_8a
  go_wp2_with (fail)
  obtain ⟨WX, hWX⟩ : ∃ W, w8.alloc (.cells #[.int .i64 r1, .int .i64 r2, .int .i64 r3, .int .i64 r4] 47) = W := ⟨_, rfl⟩
  obtain ⟨BX, hBX⟩ : ∃ b, w8.heap.size = b := ⟨_, rfl⟩
  clear pa pb pc pd ra rb
  have HP1_8b := HP1_8.out.alloc (.cells #[.int .i64 r1, .int .i64 r2, .int .i64 r3, .int .i64 r4] 47)
  have HR1_8b := HR1_8.out.alloc (.cells #[.int .i64 r1, .int .i64 r2, .int .i64 r3, .int .i64 r4] 47)
  rw [hWX] at HP1_8b HR1_8b HY_8a h7a ⊢
  rw [hBX] at HY_8a ⊢
  have HP1_8c := Lib.hid HP1_8b
  have HR1_8c := Lib.hid HR1_8b
  have HY_8c := Lib.hid HY_8a
  clear hWX hBX HP1_8b HR1_8b HY_8a HP1_8 HR1_8 h7
  refine (d23 _ h7a).mono ?_
  rintro e w9 ⟨rfl, hbN⟩
  clear d23
  have h8 := h7a.trans (hbN.mono h7a.size)
  have HP1_9 := Lib.hid ((HP1_8c.out.below hbN (Nat.le_refl _)).alloc (.cells #[.int .i64 r1, .int .i64 r2, .int .i64 r3, .int .i64 r4] 47))
  have HR1_9 := Lib.hid ((HR1_8c.out.below hbN (Nat.le_refl _)).alloc (.cells #[.int .i64 r1, .int .i64 r2, .int .i64 r3, .int .i64 r4] 47))
  have HY_9 := Lib.hid ((HY_8c.out.below hbN (Nat.le_refl _)).alloc (.cells #[.int .i64 r1, .int .i64 r2, .int .i64 r3, .int .i64 r4] 47))
  have HY2_9 := Lib.hid (b4_new w9 (.int .i64 r1) (.int .i64 r2) (.int .i64 r3) (.int .i64 r4) 47)
  have h8a := h8.alloc h8.size (.cells #[.int .i64 r1, .int .i64 r2, .int .i64 r3, .int .i64 r4] 47)
  clear hbN h7a h8 HP1_8c HR1_8c HY_8c
  obtain ⟨pa, pb, pc, pd, _, _, _, _⟩ := HP1_9.out
  obtain ⟨ra, rb, _, _⟩ := HR1_9.out
  obtain ⟨xa, xb, xc, xd, _, _, _, _⟩ := HY_9.out
  go_wp2_with (fail)
  obtain ⟨WZ9, hWZ⟩ : ∃ W, w9.alloc (.cells #[.int .i64 r1, .int .i64 r2, .int .i64 r3, .int .i64 r4] 47) = W := ⟨_, rfl⟩
  obtain ⟨BZ9, hBZ⟩ : ∃ b, w9.heap.size = b := ⟨_, rfl⟩
  clear pa pb pc pd ra rb xa xb xc xd HY2_9 HY_9
  have HP1_9d := HP1_9.out
  have HR1_9d := HR1_9.out
  rw [hWZ] at HP1_9d HR1_9d h8a ⊢
  rw [hBZ]
  have HP1_9e := Lib.hid HP1_9d
  have HR1_9e := Lib.hid HR1_9d
  clear hWZ hBZ HP1_9d HR1_9d HP1_9 HR1_9
  refine (d9 _ h8a).mono ?_
  rintro e wl ⟨rfl, hbl⟩
  go_wp2
  go_ret
  exact ⟨rfl, k1.trans ((h8a.trans (hbl.mono h8a.size)).mono k1.size)⟩

theorem places_law (s : ByteArray) (p1 p2 q1 q2 ya yb : Int) (w : World) (hT : Tabs w) :
    Calls Tryd.prog 7 #[.string s, .agg #[.int .i64 p1, .int .i64 p2, .int .i64 q1, .int .i64 q2], .agg #[.int .i64 ya, .int .i64 yb]] w fun e w' => e = .returned (.bool true) ∧ Below w.heap.size w w' := by
  by_cases h1 : 2000 < (s.size : Int)
  · exact places_long s p1 p2 q1 q2 ya yb w h1 hT
  cases hv : validD s.data.toList with
  | false => exact places_form s p1 p2 q1 q2 ya yb w (by omega) hv hT
  | true => exact places_ok s p1 p2 q1 q2 ya yb w (by omega) hv hT
end Go.Proofs.YtkhbggihgodpkaaDoor
