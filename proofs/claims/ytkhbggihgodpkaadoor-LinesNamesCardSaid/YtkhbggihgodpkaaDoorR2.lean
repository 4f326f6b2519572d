/-
  The reference's Valid, Units, edge, Less: walks.
-/
import Derived.Deep.QuietTactic
import Derived.BigQuiet
import Derived.Test.YtkhbggihgodpkaaDoorP10
import Derived.Test.YtkhbggihgodpkaaDoorR1
namespace Go.Proofs.YtkhbggihgodpkaaDoor
open Go.RowKit Go.Lib

set_option maxRecDepth 100000 in
set_option maxHeartbeats 1000000 in
theorem refValid_any (s : ByteArray) (w : World) (hs : s.size ≤ 70000) :
    Calls Tryd.prog 11 #[.string s] w fun e w' => e = .returned (.bool (validD s.data.toList)) ∧ w = w' := by
  obtain ⟨R, hR⟩ : ∃ R, validD s.data.toList = R := ⟨_, rfl⟩
  rw [hR]
  have HR : Hid (validD (s.data.toList.drop 0) = R) := hR
  have HS : Hid (s.data.toList.length = s.size) := (Lib.size_eq s).symm
  clear hR
  go_enter Tryd.func11, Tryd.ntmps11
  go_wp2
  go_loop [3] (fun ii => ∃ i : Nat, ii = .int .i64 i ∧ i ≤ s.size ∧ Hid (validD (s.data.toList.drop i) = R)) (fun ii => s.size - (intOf ii).toNat)
  case atStart => exact ⟨0, rfl, Nat.zero_le _, HR⟩
  case round =>
    obtain ⟨i, rfl, hi, hv⟩ := hrel
    by_cases hlt : i < s.size
    · have hlz : (i : Int) < (s.size : Int) := by omega
      have hne : s.data.toList.drop i ≠ [] := drop_ne (by rw [HS.out]; exact hlt)
      have hst := validD_step hne
      obtain ⟨w1, w2⟩ := rn_width _ hne
      rw [List.length_drop, HS.out] at w2
      have hsz := szL_rn hne
      have c := size_any s i w hs hlt
      rw [hv.out, List.drop_drop] at hst
      obtain ⟨⟨r1, r2⟩, hr⟩ : ∃ r, rn (s.data.toList.drop i) = r := ⟨_, rfl⟩
      simp only [hr] at hst w1 w2 hsz
      by_cases hp : r1 < 0
      · rw [if_pos hp] at hst hsz
        rw [hsz] at c
        have HX := Lib.hid hst
        clear hst hsz hr hv hne
        go_wp2_with (go_at_call 26; refine c.mono ?_; rintro e w' ⟨rfl, rfl⟩)
        go_ret
        exact ⟨by rw [HX.out]; rfl, rfl⟩
      · rw [if_neg hp] at hst hsz
        rw [hsz] at c
        have HX : Hid (validD (s.data.toList.drop (i + r2)) = R) := hst.symm
        have hr2 : ((r2 : Int) == 0) = false := eqF (by omega)
        have hsum : (i : Int) + (r2 : Int) ≤ (s.size : Int) := by omega
        clear hst hsz hr hv hne
        go_wp2_with (go_at_call 26; refine c.mono ?_; rintro e w' ⟨rfl, rfl⟩)
        go_round
        case rel => exact ⟨i + r2, by go_num, by omega, HX⟩
        case measure => simp [intOf]; omega
    · have hlz : (s.size : Int) ≤ (i : Int) := by omega
      have HX : Hid (R = true) := by
        show _ = _
        rw [← hv.out, List.drop_eq_nil_of_le (by rw [HS.out]; omega)]; rfl
      clear hv
      go_wp2
      go_ret
      exact ⟨by rw [HX.out]; rfl, rfl⟩

set_option maxRecDepth 100000 in
set_option maxHeartbeats 1000000 in
theorem refUnits_any (s : ByteArray) (w : World) (hs : s.size ≤ 70000) :
    Calls Tryd.prog 32 #[.string s] w fun e w' => e = .returned (.int .i64 (len16 s.data.toList : Int)) ∧ w = w' := by
  obtain ⟨R, hR⟩ : ∃ R, len16 s.data.toList = R := ⟨_, rfl⟩
  have hRb : R ≤ 140000 := by have := len16_le s.data.toList; rw [← Lib.size_eq] at this; omega
  rw [hR]
  have HR : Hid (0 + len16 (s.data.toList.drop 0) = R) := by show _ = _; rw [Nat.zero_add]; exact hR
  have HS : Hid (s.data.toList.length = s.size) := (Lib.size_eq s).symm
  clear hR
  go_enter Tryd.func32, Tryd.ntmps32
  go_wp2
  go_loop [3, 4] (fun uu ii => ∃ i u : Nat, ii = .int .i64 i ∧ uu = .int .i64 u ∧ i ≤ s.size ∧ u ≤ 2 * i ∧ Hid (u + len16 (s.data.toList.drop i) = R)) (fun _ ii => s.size - (intOf ii).toNat)
  case atStart => exact ⟨0, 0, rfl, rfl, Nat.zero_le _, by omega, HR⟩
  case round =>
    obtain ⟨i, u, rfl, rfl, hi, hu, hv⟩ := hrel
    by_cases hlt : i < s.size
    · have hlz : (i : Int) < (s.size : Int) := by omega
      have hne : s.data.toList.drop i ≠ [] := drop_ne (by rw [HS.out]; exact hlt)
      have hst := len16_step hne
      obtain ⟨w1, w2⟩ := rn_width _ hne
      rw [List.length_drop, HS.out] at w2
      have hsz := szL_rn hne
      have h4 := szL_four hne
      have c := size_any s i w hs hlt
      have hv' := hv.out
      rw [hst, List.drop_drop] at hv'
      obtain ⟨⟨r1, r2⟩, hr⟩ : ∃ r, rn (s.data.toList.drop i) = r := ⟨_, rfl⟩
      obtain ⟨z, hz⟩ : ∃ z, szL (s.data.toList.drop i) = z := ⟨_, rfl⟩
      simp only [hr] at hv' w1 w2 hsz h4
      rw [hz] at c hsz h4
      have hm : (max (z : Int) 1) = (r2 : Int) := by
        split at hsz
        · rename_i hp
          subst hsz
          unfold rn at hr
          rw [if_neg hne] at hr
          split at hr
          · rw [← (Prod.mk.inj hr).2]; rfl
          · have := (Prod.mk.inj hr).1
            omega
        · omega
      have hsum : (i : Int) + (r2 : Int) ≤ (s.size : Int) := by omega
      by_cases hz4 : z = 4
      · rw [decide_eq_true hz4] at h4
        rw [← h4] at hv'
        have HX : Hid ((u + 1 + 1) + len16 (s.data.toList.drop (i + r2)) = R) := by show _ = _; rw [← hv']; simp only [uB, if_true]; omega
        have e4 : ((z : Int) == 4) = true := eqT (by omega)
        have u2 : u + 2 ≤ 2 * (i + r2) := by omega
        clear hst hsz hr hv hne hv' h4 hz hz4
        go_wp2_with (go_at_call 26; refine c.mono ?_; rintro e w' ⟨rfl, rfl⟩)
        go_round
        case rel => exact ⟨i + r2, u + 1 + 1, by go_num, by go_num, by omega, by omega, HX⟩
        case measure => simp [intOf]; omega
      · rw [decide_eq_false hz4] at h4
        rw [← h4] at hv'
        have HX : Hid ((u + 1) + len16 (s.data.toList.drop (i + r2)) = R) := by show _ = _; rw [← hv']; simp only [uB, Bool.false_eq_true, if_false]; omega
        have e4 : ((z : Int) == 4) = false := eqF (by omega)
        have u2 : u + 1 ≤ 2 * (i + r2) := by omega
        clear hst hsz hr hv hne hv' h4 hz hz4
        go_wp2_with (go_at_call 26; refine c.mono ?_; rintro e w' ⟨rfl, rfl⟩)
        go_round
        case rel => exact ⟨i + r2, u + 1, by go_num, by go_num, by omega, by omega, HX⟩
        case measure => simp [intOf]; omega
    · have hlz : (s.size : Int) ≤ (i : Int) := by omega
      have HX : Hid (R = u) := by
        show _ = _
        rw [← hv.out, List.drop_eq_nil_of_le (by rw [HS.out]; omega)]; rfl
      clear hv
      go_wp2
      go_ret
      exact ⟨by rw [HX.out]; rfl, rfl⟩

set_option maxRecDepth 100000 in
set_option maxHeartbeats 1000000 in
theorem refEdge_any (s : ByteArray) (k : Nat) (w : World) (hs : s.size ≤ 70000) (hk : k ≤ s.size) (hv : validD s.data.toList = true) :
    Calls Tryd.prog 31 #[.string s, .int .i64 (k : Int)] w fun e w' => e = .returned (.bool (startsAt s.data.toList k)) ∧ w = w' := by
  obtain ⟨R, hR⟩ : ∃ R, startsAt s.data.toList k = R := ⟨_, rfl⟩
  rw [hR]
  have HR := Lib.hid hR
  have HV := Lib.hid hv
  have HS : Hid (s.data.toList.length = s.size) := (Lib.size_eq s).symm
  have hkz : (k : Int) ≤ (s.size : Int) := by omega
  clear hR hv
  go_enter Tryd.func31, Tryd.ntmps31
  go_wp2
  go_loop [5] (fun ii => ∃ i : Nat, ii = .int .i64 i ∧ i ≤ s.size ∧ Hid ((i ≤ k ∧ validD (s.data.toList.take i) = true) ∨ (k < i ∧ R = false))) (fun ii => s.size - (intOf ii).toNat)
  case atStart => exact ⟨0, rfl, Nat.zero_le _, .inl ⟨Nat.zero_le _, by rw [List.take_zero]; rfl⟩⟩
  case round =>
    obtain ⟨i, rfl, hi, hb⟩ := hrel
    by_cases hlt : i < k
    · have hlz : (i : Int) < (k : Int) := by omega
      have hlz2 : (i : Int) < (s.size : Int) := by omega
      have hils : i < s.size := by omega
      have htk : validD (s.data.toList.take i) = true := by
        rcases hb.out with h | h
        · exact h.2
        · exact absurd h.1 (by omega)
      have hd := drop_valid HV.out htk
      have hne : s.data.toList.drop i ≠ [] := drop_ne (by rw [HS.out]; exact hils)
      have hst := validD_step hne
      obtain ⟨w1, w2⟩ := rn_width _ hne
      rw [List.length_drop, HS.out] at w2
      have hsz := szL_rn hne
      by_cases hp : (rn (s.data.toList.drop i)).1 < 0
      · rw [hd, if_pos hp] at hst
        exact absurd hst (by simp)
      rw [hd, if_neg hp] at hst
      rw [if_neg hp] at hsz
      have hbt := (rn_bytes hne (by omega)).1
      have hrt := rn_take hne (show 0 ≤ (rn (s.data.toList.drop i)).1 by omega)
      have c := size_any s i w hs hils
      rw [hsz] at c
      have hnew : Hid ((i + (rn (s.data.toList.drop i)).2 ≤ k ∧ validD (s.data.toList.take (i + (rn (s.data.toList.drop i)).2)) = true) ∨ (k < i + (rn (s.data.toList.drop i)).2 ∧ R = false)) := by
        by_cases hle : i + (rn (s.data.toList.drop i)).2 ≤ k
        · refine .inl ⟨hle, ?_⟩
          rw [take_split _ i _ (by omega), show i + (rn (s.data.toList.drop i)).2 - i = (rn (s.data.toList.drop i)).2 from by omega, validD_append _ _ _ (Nat.le_refl _) htk, ← hrt.1]
          exact put_valid (List.length_pos_iff.1 (by rw [hrt.1, List.length_take, List.length_drop, HS.out]; omega))
        · refine .inr ⟨by omega, ?_⟩
          have h1 := hbt (k - i) (by omega) (by omega)
          rw [getD_drop, show i + (k - i) = k from by omega] at h1
          cases hRc : R with
          | false => rfl
          | true =>
            have := (starts_iff _ _).1 (HR.out.trans hRc) (by rw [HS.out]; omega)
            exact absurd h1 this
      clear hbt hrt hst hd hb htk hne hp hsz
      obtain ⟨r2, hr2⟩ : ∃ r, (rn (s.data.toList.drop i)).2 = r := ⟨_, rfl⟩
      rw [hr2] at c hnew w1 w2
      clear hr2
      have hm : (max (r2 : Int) 1) = (r2 : Int) := by omega
      have hsum : (i : Int) + (r2 : Int) ≤ (s.size : Int) := by omega
      go_wp2_with (go_at_call 26; refine c.mono ?_; rintro e w' ⟨rfl, rfl⟩)
      go_round
      case rel => exact ⟨i + r2, by go_num, by omega, hnew⟩
      case measure => simp [intOf]; omega
    · have hlz : (k : Int) ≤ (i : Int) := by omega
      have hend : Hid (((i : Int) == (k : Int)) = R) := by
        show _ = _
        rcases hb.out with ⟨h1, h2⟩ | ⟨h1, h2⟩
        · obtain rfl : i = k := by omega
          rw [← HR.out, starts_of HV.out h2]
          exact eqT rfl
        · rw [h2]
          exact eqF (by omega)
      clear hb
      by_cases he : i = k
      · have hq : ((i : Int) == (k : Int)) = true := eqT (by omega)
        have HX : Hid (R = true) := by show _ = _; rw [← hend.out, hq]
        clear he
        go_wp2
        go_ret
        exact ⟨by rw [HX.out]; rfl, rfl⟩
      · have hq : ((i : Int) == (k : Int)) = false := eqF (by omega)
        have HX : Hid (R = false) := by show _ = _; rw [← hend.out, hq]
        go_wp2
        go_ret
        exact ⟨by rw [HX.out]; rfl, rfl⟩
end Go.Proofs.YtkhbggihgodpkaaDoor
