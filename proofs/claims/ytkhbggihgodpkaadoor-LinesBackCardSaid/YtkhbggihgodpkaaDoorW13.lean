/-
  The law LinesBack: it answers true.
-/
import Derived.Test.YtkhbggihgodpkaaDoorW12
namespace Go.Proofs.YtkhbggihgodpkaaDoor
open Go.RowKit Go.Shelf Go.Lib

set_option maxRecDepth 100000 in
set_option maxHeartbeats 1000000 in
theorem back_long (s : ByteArray) (p1 p2 q : Int) (w : World) (hs : 3000 < (s.size : Int)) (hT : Tabs w) :
    Calls Tryd.prog 4 #[.string s, .agg #[.int .i64 p1, .int .i64 p2], .int .i64 q] w fun e w' => e = .returned (.bool true) ∧ Below w.heap.size w w' := by
  have ca := grows_awake hT
  have hb0 := (Below.refl w.heap.size w).alloc (Nat.le_refl _) (.cells #[.int .i64 p1, .int .i64 p2] 37)
  have cW := ca _ hb0
  clear hT ca
  go_enter Tryd.func4, Tryd.ntmps4
  go_wp2_with (go_at_call 9; refine cW.mono ?_; rintro e w' ⟨rfl, hb⟩; clear cW)
  go_ret
  exact ⟨rfl, hb0.trans (hb.mono hb0.size)⟩

set_option maxRecDepth 100000 in
set_option maxHeartbeats 1000000 in
theorem back_form (s : ByteArray) (p1 p2 q : Int) (w : World) (hs : (s.size : Int) ≤ 3000) (hv : validD s.data.toList = false) (hT : Tabs w) :
    Calls Tryd.prog 4 #[.string s, .agg #[.int .i64 p1, .int .i64 p2], .int .i64 q] w fun e w' => e = .returned (.bool true) ∧ Below w.heap.size w w' := by
  have ca := grows_awake hT
  have cn := grows_of hT fun W hW => new_form s W (by omega) hv hW
  have cv := fun W => refValid_any s W (by omega)
  rw [hv] at cv
  have hb0 := (Below.refl w.heap.size w).alloc (Nat.le_refl _) (.cells #[.int .i64 p1, .int .i64 p2] 37)
  clear hT hv
  go_enter Tryd.func4, Tryd.ntmps4
  go_wp2_with (first | (go_at_call 9; refine (ca _ hb0).mono ?_; rintro e w1 ⟨rfl, hb1⟩; clear ca; have k1 := hb0.trans (hb1.mono hb0.size)) | (go_at_call 10; refine (cn _ k1).mono ?_; rintro e w2 ⟨rfl, hb2⟩; clear cn) | (go_at_call 11; refine (cv _).mono ?_; rintro e w2' ⟨rfl, rfl⟩; clear cv))
  go_ret
  exact ⟨rfl, k1.trans (hb2.mono k1.size)⟩

set_option maxRecDepth 100000 in
set_option maxHeartbeats 4000000 in
theorem back_ok (s : ByteArray) (p1 p2 q : Int) (w : World) (hs : (s.size : Int) ≤ 3000) (hv : validD s.data.toList = true) (hT : Tabs w) :
    Calls Tryd.prog 4 #[.string s, .agg #[.int .i64 p1, .int .i64 p2], .int .i64 q] w fun e w' => e = .returned (.bool true) ∧ Below w.heap.size w w' := by
  have ca := grows_awake hT
  have cn := fun W hW => new_ok s W (by omega) hv (tabs_below hT hW)
  have hs' : s.size ≤ 65536 := by omega
  have HS : Hid (s.data.toList.length = s.size) := (Lib.size_eq s).symm
  have HV := Lib.hid hv
  have HB : Hid (∀ i (h : i < s.size), s[i] = s.data.toList.getD i 0) := byte_at s
  obtain ⟨B, hB⟩ : ∃ B, w.heap.size = B := ⟨_, rfl⟩
  obtain ⟨W0, hW0⟩ : ∃ W0, w.alloc (.cells #[.int .i64 p1, .int .i64 p2] 37) = W0 := ⟨_, rfl⟩
  have l0 := cell_new2 w (.int .i64 p1) (.int .i64 p2) 37
  have k0 := (Below.refl w.heap.size w).alloc (Nat.le_refl _) (.cells #[.int .i64 p1, .int .i64 p2] 37)
  rw [hW0] at l0 k0
  rw [hB] at l0
  have HW := Lib.hid hW0
  have HBs := Lib.hid hB
  clear hT hv hB hW0
  go_enter Tryd.func4, Tryd.ntmps4
  go_wp2_with (fail)
  rw [HW.out, HBs.out]
  refine (ca _ k0).mono ?_
  rintro e w1 ⟨rfl, hb1⟩
  have k1 := k0.trans (hb1.mono k0.size)
  have l1 := keep2 hb1 l0
  clear l0 k0 hb1 HW
  go_wp2_with (fail)
  refine (cn _ k1).mono ?_
  rintro e w2 ⟨b, g, cap, rfl, hb2, hI, hlb, hlg⟩
  have k2 := k1.trans (hb2.mono k1.size)
  have l2 := keep2 hb2 l1
  have cO : ∀ a b o, offsetV s.data.toList a b = o → Grows 15 _ w2 _ := fun a b o (ho : offsetV s.data.toList a b = o) => ho ▸ hI.offset hs' a b
  have cP : ∀ a o, posV s.data.toList a = o → Grows 16 _ w2 _ := fun a o (ho : posV s.data.toList a = o) => ho ▸ hI.pos hs' a
  have hb0 := Below.refl w2.heap.size w2
  clear hI cn ca l1 k1 hb2 hlb hlg
  obtain ⟨l2a, l2b⟩ := l2
  obtain ⟨⟨o1, o2⟩, ho⟩ : ∃ o, offsetV s.data.toList p1 p2 = o := ⟨_, rfl⟩
  have c1 := cO _ _ _ ho
  obtain ⟨⟨⟨q1, q2⟩, q3⟩, hq⟩ : ∃ o, posV s.data.toList q = o := ⟨_, rfl⟩
  have c3 := cP _ _ hq
  dsimp only at c1 c3
  have HO := Lib.hid ho
  have HQ := Lib.hid hq
  have HcO := Lib.hid cO
  have HcP := Lib.hid cP
  clear ho hq cO cP
  go_wp2_with (fail)
  refine (c1 _ hb0).mono ?_
  rintro e w3 ⟨rfl, hb3⟩
  have l3 := keep2 hb3 ⟨l2a, l2b⟩
  clear l2a l2b
  obtain ⟨l3a, l3b⟩ := l3
  by_cases ho2 : o2 = 0
  · subst ho2
    have c2 := HcP.out _ _ (offset_pos HV.out HO.out)
    dsimp only at c2
    go_wp2_with (fail)
    refine (c2 _ hb3).mono ?_
    rintro e w4 ⟨rfl, hb4⟩
    have m4 := hb3.trans (hb4.mono hb3.size)
    have l4 := keep2 hb4 ⟨l3a, l3b⟩
    clear l3a l3b c2
    obtain ⟨l4a, l4b⟩ := l4
    have l4a' := cell_alloc_l (.cells #[.int .i64 p1, .int .i64 p2] 37) l4a
    have l4b' := cell_alloc_l (.cells #[.int .i64 p1, .int .i64 p2] 37) l4b
    have n4 := m4.alloc m4.size (.cells #[.int .i64 p1, .int .i64 p2] 37)
    clear l4a l4b
    go_wp2_with (fail)
    refine (c3 _ n4).mono ?_
    rintro e w5 ⟨rfl, hb5⟩
    have m5 := n4.trans (hb5.mono n4.size)
    by_cases hq3 : q3 = 0
    · subst hq3
      obtain ⟨j, hj, hjl, hcase⟩ := pos_offset HV.out HQ.out
      obtain ⟨W5, hW5⟩ : ∃ W5, w5.alloc (.cells #[.int .i64 q1, .int .i64 q2] 37) = W5 := ⟨_, rfl⟩
      obtain ⟨B5, hB5⟩ : ∃ B5, w5.heap.size = B5 := ⟨_, rfl⟩
      have y5 := cell_new2 w5 (.int .i64 q1) (.int .i64 q2) 37
      have m6 := m5.alloc m5.size (.cells #[.int .i64 q1, .int .i64 q2] 37)
      rw [hW5] at y5 m6
      rw [hB5] at y5
      have HW5 := Lib.hid hW5
      have HB5 := Lib.hid hB5
      clear hW5 hB5
      obtain ⟨y5a, y5b⟩ := y5
      go_wp2_with (fail)
      rw [HW5.out, HB5.out]
      have hex : ∃ z : Int, offsetV s.data.toList q1 q2 = (z, 0) ∧ ((crlf s.data.toList j ∧ z = (j : Int) - 1) ∨ (¬ crlf s.data.toList j ∧ z = (j : Int))) := by
        rcases hcase with ⟨h1, h2⟩ | ⟨h1, h2⟩
        · exact ⟨_, h2, .inl ⟨h1, rfl⟩⟩
        · exact ⟨_, h2, .inr ⟨h1, rfl⟩⟩
      obtain ⟨z, hz, hzc⟩ := hex
      have c5 := HcO.out _ _ _ hz
      dsimp only at c5
      clear hz hcase
      refine (c5 _ m6).mono ?_
      rintro e w6 ⟨rfl, hb6⟩
      have kw := k2.trans ((m6.trans (hb6.mono m6.size)).mono k2.size)
      have HZ := Lib.hid hzc
      have hjs : j ≤ s.size := by rw [← HS.out]; exact hjl
      subst hj
      clear hzc hjl c5 c3 c1 hb6 hb5 m5 m6 y5a y5b
      rcases Nat.eq_zero_or_pos j with hj0 | hj0
      · subst hj0
        have hz0 : z = 0 := by
          rcases HZ.out with ⟨h1, _⟩ | ⟨_, h2⟩
          · exact absurd h1.1 (by omega)
          · exact h2
        subst hz0
        go_wp2
        go_ret
        exact ⟨rfl, kw⟩
      · obtain ⟨i, rfl⟩ : ∃ i, j = i + 1 := ⟨j - 1, by omega⟩
        have hzz : (0 : Int) < (i : Int) + 1 := by omega
        rw [show ((i + 1 : Nat) : Int) = (i : Int) + 1 from by omega] at HZ ⊢
        by_cases hlt : i + 1 < s.size
        · have hltz : (i : Int) + 1 < (s.size : Int) := by omega
          have hlt0 : (i : Int) < (s.size : Int) := by omega
          obtain ⟨c, hc⟩ : ∃ c, s[i] = c := ⟨_, rfl⟩
          obtain ⟨d, hd⟩ : ∃ d, s[i + 1] = d := ⟨_, rfl⟩
          have hcl : Hid (s.data.toList.getD i 0 = c) := by show _ = _; rw [← HB.out i (by omega), hc]
          have hdl : Hid (s.data.toList.getD (i + 1) 0 = d) := by show _ = _; rw [← HB.out (i + 1) (by omega), hd]
          by_cases h13 : c = 13
          · by_cases h10 : d = 10
            · have hz0 : z = (i : Int) := by
                rcases HZ.out with ⟨_, h2⟩ | ⟨h1, _⟩
                · omega
                · exact absurd ⟨by omega, by rw [HS.out]; exact hlt, by rw [Nat.add_sub_cancel, hcl.out]; exact h13, by rw [hdl.out]; exact h10⟩ h1
              subst hz0 h13 h10
              go_wp2
              go_ret
              exact ⟨rfl, kw⟩
            · have hz0 : z = (i : Int) + 1 := by
                rcases HZ.out with ⟨h1, _⟩ | ⟨_, h2⟩
                · exact absurd (hdl.out.symm.trans h1.2.2.2) h10
                · exact h2
              subst hz0 h13
              have d1 : ((d.toNat : Int) == 10) = false := u8_ne h10
              clear h10
              go_wp2
              go_ret
              exact ⟨rfl, kw⟩
          · have hz0 : z = (i : Int) + 1 := by
              rcases HZ.out with ⟨h1, _⟩ | ⟨_, h2⟩
              · have h2 := h1.2.2.1
                rw [Nat.add_sub_cancel, hcl.out] at h2
                exact absurd h2 h13
              · exact h2
            subst hz0
            have d1 : ((c.toNat : Int) == 13) = false := u8_ne h13
            clear h13
            go_wp2
            go_ret
            exact ⟨rfl, kw⟩
        · have hltz : (s.size : Int) ≤ (i : Int) + 1 := by omega
          have hz0 : z = (i : Int) + 1 := by
            rcases HZ.out with ⟨h1, _⟩ | ⟨_, h2⟩
            · have := h1.2.1
              rw [HS.out] at this
              exact absurd this hlt
            · exact h2
          subst hz0
          clear hlt
          go_wp2
          go_ret
          exact ⟨rfl, kw⟩
    · have hq3' : (q3 != 0) = true := by simpa using hq3
      have kw := k2.trans ((m5.alloc m5.size (.cells #[.int .i64 q1, .int .i64 q2] 37)).mono k2.size)
      go_wp2
      go_ret
      exact ⟨rfl, kw⟩
  · have ho2' : (o2 == 0) = false := by simpa using ho2
    go_wp2_with (fail)
    refine (c3 _ hb3).mono ?_
    rintro e w5 ⟨rfl, hb5⟩
    have m5 := hb3.trans (hb5.mono hb3.size)
    by_cases hq3 : q3 = 0
    · subst hq3
      obtain ⟨j, hj, hjl, hcase⟩ := pos_offset HV.out HQ.out
      obtain ⟨W5, hW5⟩ : ∃ W5, w5.alloc (.cells #[.int .i64 q1, .int .i64 q2] 37) = W5 := ⟨_, rfl⟩
      obtain ⟨B5, hB5⟩ : ∃ B5, w5.heap.size = B5 := ⟨_, rfl⟩
      have y5 := cell_new2 w5 (.int .i64 q1) (.int .i64 q2) 37
      have m6 := m5.alloc m5.size (.cells #[.int .i64 q1, .int .i64 q2] 37)
      rw [hW5] at y5 m6
      rw [hB5] at y5
      have HW5 := Lib.hid hW5
      have HB5 := Lib.hid hB5
      clear hW5 hB5
      obtain ⟨y5a, y5b⟩ := y5
      go_wp2_with (fail)
      rw [HW5.out, HB5.out]
      have hex : ∃ z : Int, offsetV s.data.toList q1 q2 = (z, 0) ∧ ((crlf s.data.toList j ∧ z = (j : Int) - 1) ∨ (¬ crlf s.data.toList j ∧ z = (j : Int))) := by
        rcases hcase with ⟨h1, h2⟩ | ⟨h1, h2⟩
        · exact ⟨_, h2, .inl ⟨h1, rfl⟩⟩
        · exact ⟨_, h2, .inr ⟨h1, rfl⟩⟩
      obtain ⟨z, hz, hzc⟩ := hex
      have c5 := HcO.out _ _ _ hz
      dsimp only at c5
      clear hz hcase
      refine (c5 _ m6).mono ?_
      rintro e w6 ⟨rfl, hb6⟩
      have kw := k2.trans ((m6.trans (hb6.mono m6.size)).mono k2.size)
      have HZ := Lib.hid hzc
      have hjs : j ≤ s.size := by rw [← HS.out]; exact hjl
      subst hj
      clear hzc hjl c5 c3 c1 hb6 hb5 m5 m6 y5a y5b
      rcases Nat.eq_zero_or_pos j with hj0 | hj0
      · subst hj0
        have hz0 : z = 0 := by
          rcases HZ.out with ⟨h1, _⟩ | ⟨_, h2⟩
          · exact absurd h1.1 (by omega)
          · exact h2
        subst hz0
        go_wp2
        go_ret
        exact ⟨rfl, kw⟩
      · obtain ⟨i, rfl⟩ : ∃ i, j = i + 1 := ⟨j - 1, by omega⟩
        have hzz : (0 : Int) < (i : Int) + 1 := by omega
        rw [show ((i + 1 : Nat) : Int) = (i : Int) + 1 from by omega] at HZ ⊢
        by_cases hlt : i + 1 < s.size
        · have hltz : (i : Int) + 1 < (s.size : Int) := by omega
          have hlt0 : (i : Int) < (s.size : Int) := by omega
          obtain ⟨c, hc⟩ : ∃ c, s[i] = c := ⟨_, rfl⟩
          obtain ⟨d, hd⟩ : ∃ d, s[i + 1] = d := ⟨_, rfl⟩
          have hcl : Hid (s.data.toList.getD i 0 = c) := by show _ = _; rw [← HB.out i (by omega), hc]
          have hdl : Hid (s.data.toList.getD (i + 1) 0 = d) := by show _ = _; rw [← HB.out (i + 1) (by omega), hd]
          by_cases h13 : c = 13
          · by_cases h10 : d = 10
            · have hz0 : z = (i : Int) := by
                rcases HZ.out with ⟨_, h2⟩ | ⟨h1, _⟩
                · omega
                · exact absurd ⟨by omega, by rw [HS.out]; exact hlt, by rw [Nat.add_sub_cancel, hcl.out]; exact h13, by rw [hdl.out]; exact h10⟩ h1
              subst hz0 h13 h10
              go_wp2
              go_ret
              exact ⟨rfl, kw⟩
            · have hz0 : z = (i : Int) + 1 := by
                rcases HZ.out with ⟨h1, _⟩ | ⟨_, h2⟩
                · exact absurd (hdl.out.symm.trans h1.2.2.2) h10
                · exact h2
              subst hz0 h13
              have d1 : ((d.toNat : Int) == 10) = false := u8_ne h10
              clear h10
              go_wp2
              go_ret
              exact ⟨rfl, kw⟩
          · have hz0 : z = (i : Int) + 1 := by
              rcases HZ.out with ⟨h1, _⟩ | ⟨_, h2⟩
              · have h2 := h1.2.2.1
                rw [Nat.add_sub_cancel, hcl.out] at h2
                exact absurd h2 h13
              · exact h2
            subst hz0
            have d1 : ((c.toNat : Int) == 13) = false := u8_ne h13
            clear h13
            go_wp2
            go_ret
            exact ⟨rfl, kw⟩
        · have hltz : (s.size : Int) ≤ (i : Int) + 1 := by omega
          have hz0 : z = (i : Int) + 1 := by
            rcases HZ.out with ⟨h1, _⟩ | ⟨_, h2⟩
            · have := h1.2.1
              rw [HS.out] at this
              exact absurd this hlt
            · exact h2
          subst hz0
          clear hlt
          go_wp2
          go_ret
          exact ⟨rfl, kw⟩
    · have hq3' : (q3 != 0) = true := by simpa using hq3
      have kw := k2.trans ((m5.alloc m5.size (.cells #[.int .i64 q1, .int .i64 q2] 37)).mono k2.size)
      go_wp2
      go_ret
      exact ⟨rfl, kw⟩

theorem back_law (s : ByteArray) (p1 p2 q : Int) (w : World) (hT : Tabs w) :
    Calls Tryd.prog 4 #[.string s, .agg #[.int .i64 p1, .int .i64 p2], .int .i64 q] w fun e w' => e = .returned (.bool true) ∧ Below w.heap.size w w' := by
  by_cases h1 : 3000 < (s.size : Int)
  · exact back_long s p1 p2 q w h1 hT
  cases hv : validD s.data.toList with
  | false => exact back_form s p1 p2 q w (by omega) hv hT
  | true => exact back_ok s p1 p2 q w (by omega) hv hT
end Go.Proofs.YtkhbggihgodpkaaDoor
