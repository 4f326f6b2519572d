/-
  EditsOnes: a walk.
-/
import Derived.Test.YtinanagjoaaacaaW22
namespace Go.Proofs.Ytinanagjoaaacaa
open Go.RowKit Go.Shelf Go.Lib Go.Sort

set_option maxRecDepth 100000 in
set_option maxHeartbeats 4000000 in
theorem lones_any (t : ByteArray) (w : World) (v : Value) (l : List Ed) (h : Rd w v l) : Calls Try.prog 3 #[.string t, v] w fun e w' => e = .returned (.bool true) ∧ RowKit.Below w.heap.size w w' := by
  have HRd := Lib.hid h
  have cl := long_any w v l h
  clear h
  by_cases h1 : t.size > 3000
  · have hz : (3000 : Int) < (t.size : Int) := by omega
    clear h1 cl
    go_enter Try.func3, Try.ntmps3
    go_wp2_with (go_at_call 10; refine (awake_any _).mono ?_; rintro e w1 ⟨rfl, hb1⟩)
    go_ret
    exact ⟨rfl, hb1⟩
  have hz : ¬ ((3000 : Int) < (t.size : Int)) := by omega
  by_cases h2 : longB l = true
  · rw [h2] at cl
    clear h1 h2
    go_enter Try.func3, Try.ntmps3
    go_wp2_with (fail)
    refine cl.mono ?_
    rintro e w1 ⟨rfl, rfl⟩
    go_wp2_with (go_at_call 10; refine (awake_any _).mono ?_; rintro e w1 ⟨rfl, hb1⟩)
    go_ret
    exact ⟨rfl, hb1⟩
  have h3 : longB l = false := by simpa using h2
  rw [h3] at cl
  obtain ⟨hln, htx⟩ := long_no h3
  have ht : t.size ≤ 3000 := by omega
  have b1 : (l.length + 1) * t.size ≤ 101 * 3000 := mul_bd hln ht
  clear h1 h2 h3
  obtain ⟨p0, cap0, rfl, hsh0⟩ := HRd.out.shape
  clear hsh0
  go_enter Try.func3, Try.ntmps3
  go_wp2_with (fail)
  refine cl.mono ?_
  rintro e w0 ⟨rfl, rfl⟩
  go_wp2_with (fail)
  refine (awake_any _).mono ?_
  rintro e w1 ⟨rfl, hb1⟩
  have HB1 := Lib.hid hb1
  clear hb1 cl
  have cd := do_e t w1 _ l (HRd.out.below HB1.out (Nat.le_refl _)) hln (by omega)
  go_wp2_with (fail)
  refine cd.mono ?_
  rintro e w2 ⟨rfl, hb2⟩
  clear cd
  have HB2 := Lib.hid (HB1.out.trans (hb2.mono HB1.out.size))
  clear hb2
  by_cases h0 : rowE t.size l = 0
  · obtain ⟨hs0, hmax⟩ := rowE_ok h0
    have hfit := srt_fit hs0
    have cs := sort_ec w2 _ l (HRd.out.below HB2.out (Nat.le_refl _)) hln
    rw [hs0, show sortS l = srt l from if_pos hs0] at cs
    have hd : doS t l = onesU t (srt l) 0 := by unfold doS onesU; rw [if_pos h0, List.drop_zero]
    rw [h0, hd]
    have HF := Lib.hid hfit
    have HM := Lib.hid hmax
    have HLN : Hid ((srt l).length = l.length) := srt_length l
    have HTX : Hid (txS (srt l) ≤ 100000) := by show _ ≤ _; rw [txS_srt]; exact htx
    obtain ⟨s, hs⟩ : ∃ s, srt l = s := ⟨_, rfl⟩
    rw [hs] at cs HF HM HLN HTX ⊢
    obtain ⟨N, hN⟩ : ∃ N, l.length = N := ⟨_, rfl⟩
    rw [hN] at HLN hln cs ⊢
    clear hs0 hmax hfit h0 hd hs hN b1 htx
    go_wp2_with (fail)
    refine cs.mono ?_
    rintro e w3 ⟨hb3, v', rfl, hw3, hcap⟩
    clear cs
    have HB3 := Lib.hid (HB2.out.trans (hb3.mono HB2.out.size))
    have HR3 := Lib.hid hw3.rd
    clear hb3 hw3
    obtain ⟨p, cap, rfl, hsh⟩ := HR3.out.shape
    have hcap2 : s.length ≤ cap := hcap
    rw [HLN.out] at HR3 hcap2 ⊢
    have HSH := Lib.hid hsh
    have hNN : ((N : Int) != (N : Int)) = false := by simp
    clear hsh hcap
    go_wp2
    go_loopw [8, 9] (fun uv iv wr => ∃ k : Nat, uv = .string (onesU t s k) ∧ iv = .int .i64 ((k : Int) - 1) ∧ k ≤ N ∧ Hid (RowKit.Below w0.heap.size w0 wr) ∧ Hid (RowKit.Below w3.heap.size w3 wr)) (fun _ iv _ => (RowKit.intOf iv + 1).toNat)
    case atStart => exact ⟨N, congrArg Value.string (by rw [← HLN.out, ones_end]), rfl, Nat.le_refl _, HB3, RowKit.Below.refl _ _⟩
    case round =>
      obtain ⟨k, rfl, rfl, hk, hbl, hb3⟩ := hrel
      by_cases hk0 : k = 0
      · subst hk0
        obtain ⟨T, hT⟩ : ∃ T, onesU t s 0 = T := ⟨_, rfl⟩
        rw [hT]
        have htt : (T.toList == T.toList) = true := str_eq rfl
        clear hT
        go_wp2
        go_ret
        exact ⟨rfl, hbl.out⟩
      · obtain ⟨j, rfl⟩ : ∃ j, k = j + 1 := ⟨k - 1, by omega⟩
        rw [show ((j + 1 : Nat) : Int) - 1 = (j : Int) from by omega]
        obtain ⟨x, hx⟩ : ∃ x, s[j]? = some x := ⟨_, List.getElem?_eq_getElem (by rw [HLN.out]; omega)⟩
        obtain ⟨g, off, rfl, hg, c0, c1, c2⟩ := HSH.out j x hx
        have d0 := (hb3.out.cell (p := ⟨g, off + j * 3, none⟩) hg).trans c0
        have d1 := (hb3.out.cell (p := ⟨g, off + j * 3 + 1, none⟩) hg).trans c1
        have d2 := (hb3.out.cell (p := ⟨g, off + j * 3 + 2, none⟩) hg).trans c2
        have hRx : ∀ cp, Rd wr (.slice (some ⟨g, off + j * 3, none⟩) 1 cp) [x] := fun cp => .inr ⟨g, off + j * 3, cp, rfl, Nat.lt_of_lt_of_le hg hb3.out.size, fun i y hi => by
          match i, hi with
          | 0, hi =>
            obtain rfl := Option.some.inj hi
            rw [Nat.zero_mul, Nat.add_zero]
            exact ⟨d0, d1, d2⟩
          | i + 1, hi => simp at hi⟩
        have hst := ones_step HF.out HM.out hx
        have hsz := ones_size (t := t) (s := s) (j + 1)
        have hxt : txS [x] ≤ 100000 := by
          have h1 := txS_mem (List.mem_of_getElem? hx)
          have h2 := HTX.out
          rw [txS_cons]; simp only [txS, List.map_nil, List.sum_nil]; omega
        have hb1 : (s.length + 1) * t.size ≤ 101 * 3000 := mul_bd (by rw [HLN.out]; exact hln) ht
        have hz2 : (j : Int) + 1 ≤ (cap : Int) := by omega
        have cd : ∀ cp, Calls Try.prog 11 #[.string (onesU t s (j + 1)), .slice (some ⟨g, off + j * 3, none⟩) 1 cp] wr fun e w' => e = .returned (.tuple #[.string (onesU t s j), .int .i64 0]) ∧ RowKit.Below wr.heap.size wr w' := fun cp => by
          have := do_e (onesU t s (j + 1)) wr _ [x] (hRx cp) (by simp) (by
            have h1 := HTX.out
            have h2 : [x].length = 1 := rfl
            rw [h2]; omega)
          rw [hst.1, hst.2] at this
          exact this
        clear hst hsz hxt hb1 hRx d0 d1 d2 c0 c1 c2 hx
        obtain ⟨U, hU⟩ : ∃ U, onesU t s (j + 1) = U := ⟨_, rfl⟩
        rw [hU] at cd ⊢
        clear hU
        go_wp2_with (fail)
        refine (cd _).mono ?_
        rintro e w4 ⟨rfl, hb4⟩
        clear cd
        have HBL := Lib.hid (hbl.out.trans (hb4.mono hbl.out.size))
        have HB4 := Lib.hid (hb3.out.trans (hb4.mono hb3.out.size))
        clear hbl hb3 hb4
        go_wp2
        go_roundw
        case rel => exact ⟨j, rfl, rfl, by omega, HBL, HB4⟩
        case measure => simp [RowKit.intOf]
  · have hd : doS t l = ⟨#[]⟩ := if_neg h0
    rw [hd]
    obtain ⟨E, hE⟩ : ∃ E, rowE t.size l = E := ⟨_, rfl⟩
    rw [hE] at h0 ⊢
    have hne : (E == 0) = false := eqF h0
    clear hE hd h0
    go_wp2
    go_ret
    exact ⟨rfl, HB2.out⟩
end Go.Proofs.Ytinanagjoaaacaa
