/-
  The reference's Less; the law LinesOrder: it answers true.
-/
import Derived.Test.YtkhbggihgodpkaaDoorW12
namespace Go.Proofs.YtkhbggihgodpkaaDoor
open Go.RowKit Go.Shelf Go.Lib

set_option maxRecDepth 100000 in
set_option maxHeartbeats 1000000 in
theorem less_any (p1 p2 q1 q2 : Int) (w : World) :
    Calls Tryd.prog 17 #[.agg #[.int .i64 p1, .int .i64 p2], .agg #[.int .i64 q1, .int .i64 q2]] w fun e w' => e = .returned (.bool (lessP p1 p2 q1 q2)) ∧ w' = (w.alloc (.cells #[.int .i64 p1, .int .i64 p2] 37)).alloc (.cells #[.int .i64 q1, .int .i64 q2] 37) := by
  unfold lessP
  rcases Int.lt_trichotomy p1 q1 with h | h | h
  · have d1 : decide (p1 < q1) = true := by simpa using h
    rw [d1, Bool.true_or]
    go_enter Tryd.func17, Tryd.ntmps17
    go_wp2
    go_ret
    exact ⟨rfl, rfl⟩
  · subst h
    rw [decide_eq_false (Int.lt_irrefl p1), Bool.false_or, decide_eq_true rfl, Bool.true_and]
    go_enter Tryd.func17, Tryd.ntmps17
    go_wp2
    go_ret
    exact ⟨rfl, rfl⟩
  · have d1 : decide (p1 < q1) = false := by simp; omega
    have d2 : (p1 == q1) = false := eqF (by omega)
    rw [d1, decide_eq_false (show ¬ p1 = q1 by omega), Bool.false_or, Bool.false_and]
    go_enter Tryd.func17, Tryd.ntmps17
    go_wp2
    go_ret
    exact ⟨rfl, rfl⟩

theorem less_grow (p1 p2 q1 q2 : Int) (W : World) : Calls Tryd.prog 17 #[.agg #[.int .i64 p1, .int .i64 p2], .agg #[.int .i64 q1, .int .i64 q2]] W fun e w' => e = .returned (.bool (lessP p1 p2 q1 q2)) ∧ Below W.heap.size W w' :=
  (less_any p1 p2 q1 q2 W).mono fun _ _ ⟨he, hw⟩ => ⟨he, by rw [hw]; exact ((Below.refl _ _).alloc (Nat.le_refl _) _).alloc (by simp) _⟩
set_option maxRecDepth 100000 in
set_option maxHeartbeats 1000000 in
theorem order_long (s : ByteArray) (p1 p2 q1 q2 : Int) (w : World) (hs : 3000 < (s.size : Int)) (hT : Tabs w) :
    Calls Tryd.prog 5 #[.string s, .agg #[.int .i64 p1, .int .i64 p2], .agg #[.int .i64 q1, .int .i64 q2]] w fun e w' => e = .returned (.bool true) ∧ Below w.heap.size w w' := by
  have ca := grows_awake hT
  have hb0 := ((Below.refl w.heap.size w).alloc (Nat.le_refl _) (.cells #[.int .i64 p1, .int .i64 p2] 37)).alloc (by simp) (.cells #[.int .i64 q1, .int .i64 q2] 37)
  have cW := ca _ hb0
  clear hT ca
  go_enter Tryd.func5, Tryd.ntmps5
  go_wp2_with (go_at_call 9; refine cW.mono ?_; rintro e w' ⟨rfl, hb⟩; clear cW)
  go_ret
  exact ⟨rfl, hb0.trans (hb.mono hb0.size)⟩

set_option maxRecDepth 100000 in
set_option maxHeartbeats 1000000 in
theorem order_form (s : ByteArray) (p1 p2 q1 q2 : Int) (w : World) (hs : (s.size : Int) ≤ 3000) (hv : validD s.data.toList = false) (hT : Tabs w) :
    Calls Tryd.prog 5 #[.string s, .agg #[.int .i64 p1, .int .i64 p2], .agg #[.int .i64 q1, .int .i64 q2]] w fun e w' => e = .returned (.bool true) ∧ Below w.heap.size w w' := by
  have ca := grows_awake hT
  have cn := grows_of hT fun W hW => new_form s W (by omega) hv hW
  have cv := fun W => refValid_any s W (by omega)
  rw [hv] at cv
  have hb0 := ((Below.refl w.heap.size w).alloc (Nat.le_refl _) (.cells #[.int .i64 p1, .int .i64 p2] 37)).alloc (by simp) (.cells #[.int .i64 q1, .int .i64 q2] 37)
  clear hT hv
  go_enter Tryd.func5, Tryd.ntmps5
  go_wp2_with (first | (go_at_call 9; refine (ca _ hb0).mono ?_; rintro e w1 ⟨rfl, hb1⟩; clear ca; have k1 := hb0.trans (hb1.mono hb0.size)) | (go_at_call 10; refine (cn _ k1).mono ?_; rintro e w2 ⟨rfl, hb2⟩; clear cn) | (go_at_call 11; refine (cv _).mono ?_; rintro e w2' ⟨rfl, rfl⟩; clear cv))
  go_ret
  exact ⟨rfl, k1.trans (hb2.mono k1.size)⟩

set_option maxRecDepth 100000 in
set_option maxHeartbeats 4000000 in
theorem order_ok (s : ByteArray) (p1 p2 q1 q2 : Int) (w : World) (hs : (s.size : Int) ≤ 3000) (hv : validD s.data.toList = true) (hT : Tabs w) :
    Calls Tryd.prog 5 #[.string s, .agg #[.int .i64 p1, .int .i64 p2], .agg #[.int .i64 q1, .int .i64 q2]] w fun e w' => e = .returned (.bool true) ∧ Below w.heap.size w w' := by
  have ca := grows_awake hT
  have cn := fun W hW => new_ok s W (by omega) hv (tabs_below hT hW)
  have hs' : s.size ≤ 65536 := by omega
  have HV := Lib.hid hv
  obtain ⟨B, hB⟩ : ∃ B, w.heap.size = B := ⟨_, rfl⟩
  obtain ⟨W0, hW0⟩ : ∃ W0, (w.alloc (.cells #[.int .i64 p1, .int .i64 p2] 37)).alloc (.cells #[.int .i64 q1, .int .i64 q2] 37) = W0 := ⟨_, rfl⟩
  have l0 := cell_new2 w (.int .i64 p1) (.int .i64 p2) 37
  have r0 := cell_new2 (w.alloc (.cells #[.int .i64 p1, .int .i64 p2] 37)) (.int .i64 q1) (.int .i64 q2) 37
  have l0a := cell_alloc_l (.cells #[.int .i64 q1, .int .i64 q2] 37) l0.1
  have l0b := cell_alloc_l (.cells #[.int .i64 q1, .int .i64 q2] 37) l0.2
  have k0 := ((Below.refl w.heap.size w).alloc (Nat.le_refl _) (.cells #[.int .i64 p1, .int .i64 p2] 37)).alloc (by simp) (.cells #[.int .i64 q1, .int .i64 q2] 37)
  rw [World.size_alloc] at r0
  rw [hW0] at l0a l0b r0 k0
  rw [hB] at l0a l0b r0
  have l0' := And.intro l0a l0b
  have HW := Lib.hid hW0
  have HBs := Lib.hid hB
  clear hT hv hB hW0 l0 l0a l0b
  go_enter Tryd.func5, Tryd.ntmps5
  go_wp2_with (fail)
  rw [HW.out, HBs.out]
  refine (ca _ k0).mono ?_
  rintro e w1 ⟨rfl, hb1⟩
  have k1 := k0.trans (hb1.mono k0.size)
  have l1 := keep2 hb1 l0'
  have r1 := keep2 hb1 r0
  clear l0' r0 k0 hb1 HW
  go_wp2_with (fail)
  refine (cn _ k1).mono ?_
  rintro e w2 ⟨b, g, cap, rfl, hb2, hI, hlb, hlg⟩
  have k2 := k1.trans (hb2.mono k1.size)
  have l2 := keep2 hb2 l1
  have r2 := keep2 hb2 r1
  have hb0 := Below.refl w2.heap.size w2
  have c1 := hI.offset hs' p1 p2
  have c2 := hI.offset hs' q1 q2
  obtain ⟨⟨a, ea⟩, ho⟩ : ∃ o, offsetV s.data.toList p1 p2 = o := ⟨_, rfl⟩
  obtain ⟨⟨z, ez⟩, hz⟩ : ∃ o, offsetV s.data.toList q1 q2 = o := ⟨_, rfl⟩
  rw [ho] at c1
  rw [hz] at c2
  dsimp only at c1 c2
  have HO := Lib.hid ho
  have HZ := Lib.hid hz
  clear hI cn ca l1 r1 k1 hb2 hlb hlg ho hz
  obtain ⟨l2a, l2b⟩ := l2
  obtain ⟨r2a, r2b⟩ := r2
  go_wp2_with (fail)
  refine (c1 _ hb0).mono ?_
  rintro e w3 ⟨rfl, hb3⟩
  have l3 := keep2 hb3 ⟨l2a, l2b⟩
  have r3 := keep2 hb3 ⟨r2a, r2b⟩
  clear l2a l2b r2a r2b c1
  obtain ⟨l3a, l3b⟩ := l3
  obtain ⟨r3a, r3b⟩ := r3
  go_wp2_with (fail)
  refine (c2 _ hb3).mono ?_
  rintro e w4 ⟨rfl, hb4⟩
  have m4 := hb3.trans (hb4.mono hb3.size)
  have l4 := keep2 hb4 ⟨l3a, l3b⟩
  have r4 := keep2 hb4 ⟨r3a, r3b⟩
  clear l3a l3b r3a r3b c2 hb3 hb4
  obtain ⟨l4a, l4b⟩ := l4
  obtain ⟨r4a, r4b⟩ := r4
  have kw := k2.trans (m4.mono k2.size)
  by_cases he : ea = 0
  · subst he
    by_cases hf : ez = 0
    · subst hf
      obtain ⟨heq, hlt⟩ := order HV.out HO.out HZ.out
      have cl := fun W => less_grow p1 p2 q1 q2 W
      have l4 : w4.cell? ⟨B, 0, none⟩ = some (.int .i64 p1) ∧ w4.cell? ⟨B, 1, none⟩ = some (.int .i64 p2) := ⟨l4a, l4b⟩
      have r4 : w4.cell? ⟨B + 1, 0, none⟩ = some (.int .i64 q1) ∧ w4.cell? ⟨B + 1, 1, none⟩ = some (.int .i64 q2) := ⟨r4a, r4b⟩
      have HL4 := Lib.hid l4
      have HR4 := Lib.hid r4
      clear l4 r4
      rcases Int.lt_trichotomy a z with h | h | h
      · have hl := hlt.2 h
        have hp : lessP p1 p2 q1 q2 = true := by unfold lessP; simp; omega
        rw [hp] at cl
        have hd : decide (a < z) = true := by simpa using h
        have hab : (a == z) = false := eqF (by omega)
        have hne : ¬ (p1 = q1 ∧ p2 = q2) := fun hx => by have := heq.1 hx; omega
        clear heq hlt hl hp
        by_cases h1 : p1 = q1
        · have t1 : (p1 == q1) = true := eqT h1
          have t2 : (p2 == q2) = false := eqF (fun hx => hne ⟨h1, hx⟩)
          clear hne h1
          go_wp2_with (go_at_call 17; refine (cl _).mono ?_; rintro e w5 ⟨rfl, hb5⟩; clear cl; obtain ⟨l5a, l5b⟩ := keep2 hb5 HL4.out; obtain ⟨r5a, r5b⟩ := keep2 hb5 HR4.out)
          go_ret
          exact ⟨rfl, kw.trans (hb5.mono kw.size)⟩
        · have t1 : (p1 == q1) = false := eqF h1
          clear hne h1
          go_wp2_with (go_at_call 17; refine (cl _).mono ?_; rintro e w5 ⟨rfl, hb5⟩; clear cl; obtain ⟨l5a, l5b⟩ := keep2 hb5 HL4.out; obtain ⟨r5a, r5b⟩ := keep2 hb5 HR4.out)
          go_ret
          exact ⟨rfl, kw.trans (hb5.mono kw.size)⟩
      · obtain ⟨rfl, rfl⟩ := heq.2 h
        subst h
        have hp : lessP p1 p2 p1 p2 = false := by unfold lessP; simp
        rw [hp] at cl
        clear heq hlt hp
        go_wp2_with (go_at_call 17; refine (cl _).mono ?_; rintro e w5 ⟨rfl, hb5⟩; clear cl; obtain ⟨l5a, l5b⟩ := keep2 hb5 HL4.out; obtain ⟨r5a, r5b⟩ := keep2 hb5 HR4.out)
        go_ret
        exact ⟨rfl, kw.trans (hb5.mono kw.size)⟩
      · have hl : ¬ (p1 < q1 ∨ p1 = q1 ∧ p2 < q2) := fun hx => by have := hlt.1 hx; omega
        have hp : lessP p1 p2 q1 q2 = false := by unfold lessP; simp; omega
        rw [hp] at cl
        have hd : decide (a < z) = false := by simp; omega
        have hab : (a == z) = false := eqF (by omega)
        have hne : ¬ (p1 = q1 ∧ p2 = q2) := fun hx => by have := heq.1 hx; omega
        clear heq hlt hl hp
        by_cases h1 : p1 = q1
        · have t1 : (p1 == q1) = true := eqT h1
          have t2 : (p2 == q2) = false := eqF (fun hx => hne ⟨h1, hx⟩)
          clear hne h1
          go_wp2_with (go_at_call 17; refine (cl _).mono ?_; rintro e w5 ⟨rfl, hb5⟩; clear cl; obtain ⟨l5a, l5b⟩ := keep2 hb5 HL4.out; obtain ⟨r5a, r5b⟩ := keep2 hb5 HR4.out)
          go_ret
          exact ⟨rfl, kw.trans (hb5.mono kw.size)⟩
        · have t1 : (p1 == q1) = false := eqF h1
          clear hne h1
          go_wp2_with (go_at_call 17; refine (cl _).mono ?_; rintro e w5 ⟨rfl, hb5⟩; clear cl; obtain ⟨l5a, l5b⟩ := keep2 hb5 HL4.out; obtain ⟨r5a, r5b⟩ := keep2 hb5 HR4.out)
          go_ret
          exact ⟨rfl, kw.trans (hb5.mono kw.size)⟩
    · have hf' : (ez != 0) = true := by simpa using hf
      clear hf
      go_wp2
      go_ret
      exact ⟨rfl, kw⟩
  · have he' : (ea != 0) = true := by simpa using he
    clear he
    go_wp2
    go_ret
    exact ⟨rfl, kw⟩

theorem order_law (s : ByteArray) (p1 p2 q1 q2 : Int) (w : World) (hT : Tabs w) :
    Calls Tryd.prog 5 #[.string s, .agg #[.int .i64 p1, .int .i64 p2], .agg #[.int .i64 q1, .int .i64 q2]] w fun e w' => e = .returned (.bool true) ∧ Below w.heap.size w w' := by
  by_cases h1 : 3000 < (s.size : Int)
  · exact order_long s p1 p2 q1 q2 w h1 hT
  cases hv : validD s.data.toList with
  | false => exact order_form s p1 p2 q1 q2 w (by omega) hv hT
  | true => exact order_ok s p1 p2 q1 q2 w (by omega) hv hT
end Go.Proofs.YtkhbggihgodpkaaDoor
