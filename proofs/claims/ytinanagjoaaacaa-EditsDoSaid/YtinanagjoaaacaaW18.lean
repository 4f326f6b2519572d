/-
  The stable sort's merging: walks of its two small cases.
-/
import Derived.Test.YtinanagjoaaacaaP8
namespace Go.Proofs.Ytinanagjoaaacaa
open Go.RowKit Go.Shelf Go.Lib Go.Sort

set_option maxRecDepth 100000 in
set_option maxHeartbeats 4000000 in
theorem sym_a (k : Nat) (z37 : ∀ w, (Go.sizeOf 37).run Try.prog w = .ok k w) (hk : ∀ x, (enc x).length = k) (w0 : World) (blk off cap c : Nat) (d0 : Array Ed) (R : RowK enc k w0 blk off d0)
    (hC : CmpLays Try.prog 31 #[.pointer (some ⟨c, 0, none⟩)] enc k cf blk off d0.size w0) (hsz : d0.size ≤ 1000000) (a m b : Nat) (d : Array Ed) (w : World) (hd : d.size = d0.size) (H : Halves a m b d) (S : SWK enc k w0 blk off d w) (hA : m = a + 1) :
    Calls Try.prog 43 #[.slice (some ⟨blk, off, none⟩) d0.size cap, .int .i64 a, .int .i64 m, .int .i64 b, .func (.func 31) #[] #[.pointer (some ⟨c, 0, none⟩)]] w fun e w' => e = .returned (.tuple #[]) ∧ ∃ d', PermIn a b d d' ∧ SortedIn ltE a b d' ∧ SWK enc k w0 blk off d' w' := by
  have g1 := H.h1
  have g2 := H.h2
  have g3 := H.h3
  have HS := Lib.hid S
  have HH := Lib.hid H
  obtain ⟨D, hD⟩ : ∃ D, d0.size = D := ⟨_, rfl⟩
  have HD := Lib.hid hD
  rw [hd, hD] at g3
  have HDD : Hid (d.size = D) := hd.trans hD
  rw [hD] at hsz
  rw [hD]
  have HCc : Hid (CmpLays Try.prog 31 #[.pointer (some ⟨c, 0, none⟩)] enc k cf blk off D w0) := by rw [← hD]; exact hC
  clear S H hd hD hC
  have u22 := run_underlying Try.underlying22
  have a37 := Try.isAgg37
  have mixed : Try.prog.follows .mixedOrders = true := by kernel_rfl
  have hmz : (m : Int) - (a : Int) = 1 := by omega
  have HA := Lib.hid hA
  clear hA
  go_enter Try.func43, Try.ntmps43
  go_wp2
  go_loopw [10, 11] (fun iv jv wr => ∃ (i j : Nat), iv = .int .i64 i ∧ jv = .int .i64 j ∧ m ≤ i ∧ i ≤ j ∧ j ≤ b ∧ Hid (SWK enc k w0 blk off d wr) ∧ Hid (∀ y, m ≤ y → y < i → ltE d[y]! d[a]! = true) ∧ Hid (∀ y, j ≤ y → y < b → ltE d[y]! d[a]! = false))
    (fun iv jv _ => (RowKit.intOf jv).toNat - (RowKit.intOf iv).toNat)
  case atStart => exact ⟨m, b, rfl, rfl, Nat.le_refl _, by omega, Nat.le_refl _, HS, fun y h1 h2 => by omega, fun y h1 h2 => by omega⟩
  case round =>
    obtain ⟨i, j, rfl, rfl, hi, hij, hj, hS, hlo, hhi⟩ := hrel
    by_cases hlt : i < j
    · have hz : (i : Int) < (j : Int) := by omega
      obtain ⟨h, hh⟩ : ∃ h : Nat, ((i : Int) + (j : Int)) / 2 = (h : Int) := ⟨(i + j) / 2, by omega⟩
      have hih : i ≤ h := by omega
      have hhj : h < j := by omega
      have hD2 := HDD.out
      have hhD : (h : Int) < (D : Int) := by omega
      have haD : (a : Int) < (D : Int) := by omega
      have l1 := fun n os => hS.out.ld R (hD2.trans HD.out.symm) Try.prog h (by omega) n os
      have l2 := fun n os => hS.out.ld R (hD2.trans HD.out.symm) Try.prog a (by omega) n os
      have hcg := fun n os => hS.out.cmp HCc.out hD2 d[h]! d[a]! n os
      have hcf : (cf d[h]! d[a]! < 0) ↔ ltE d[h]! d[a]! = true := HH.out.lt (by omega) (by omega) (by omega) (by omega)
      have HCF := Lib.hid hcf
      obtain ⟨v, hv⟩ : ∃ v, cf d[h]! d[a]! = v := ⟨_, rfl⟩
      rw [hv] at hcg
      have HV := Lib.hid hv
      have n1 : (enc d[h]!).length = k := hk _
      have n2 : (enc d[a]!).length = k := hk _
      have HG : Hid (∀ n os, SWK enc k w0 blk off d (grow (wr.drewN n) os)) := fun n os => hS.out.grown n os
      generalize enc d[h]! = ch at l1 hcg n1
      generalize enc d[a]! = ca at l2 hcg n2
      clear hcf hv hD2 hS hlt
      by_cases hneg : v < 0
      · have hdec : decide (v < 0) = true := decide_eq_true hneg
        have HN := Lib.hid hneg
        go_wp2_with fail
        go_quiet_grown (first | (go_at_call 31; refine Calls.grown_of (hcg _ _)))
        go_wp2
        go_roundw
        case rel =>
          exact ⟨h + 1, j, by go_num, rfl, by omega, by omega, hj, HG.out _ _, fun y h1 h2 => by
            by_cases hy : y = h
            · subst hy; exact HCF.out.1 (by rw [HV.out]; exact HN.out)
            · have h3 := HH.out.r y h (by omega) (by omega) (by omega)
              have h4 := HCF.out.1 (by rw [HV.out]; exact HN.out)
              rw [ltE_iff] at h4 ⊢
              rw [ltE_false, leE_iff] at h3
              omega, hhi⟩
        case measure => simp [RowKit.intOf]; omega
      · have hdec : decide (v < 0) = false := decide_eq_false hneg
        have HN := Lib.hid hneg
        go_wp2_with fail
        go_quiet_grown (first | (go_at_call 31; refine Calls.grown_of (hcg _ _)))
        go_wp2
        go_roundw
        case rel =>
          exact ⟨i, h, rfl, rfl, hi, hih, by omega, HG.out _ _, hlo, fun y h1 h2 => by
            have h4 : ltE d[h]! d[a]! = false := by
              cases hx : ltE d[h]! d[a]! with
              | false => rfl
              | true => exact absurd (HCF.out.2 hx) (by rw [HV.out]; have := HN.out; omega)
            by_cases hy : y = h
            · subst hy; exact h4
            · have h3 := HH.out.r h y (by omega) (by omega) (by omega)
              rw [ltE_false, leE_iff] at h3 h4 ⊢
              omega⟩
        case measure => simp [RowKit.intOf]; omega
    · have hz : ¬ ((i : Int) < (j : Int)) := by omega
      have hji : j = i := by omega
      subst hji
      obtain ⟨i1, hi1⟩ : ∃ i1 : Nat, (j : Int) - 1 = (i1 : Int) := ⟨j - 1, by omega⟩
      clear hlt
      go_wp2
      go_loopw [13] (fun kv wr => ∃ (kk : Nat) (dk : Array Ed), kv = .int .i64 kk ∧ a ≤ kk ∧ kk ≤ i1 ∧ dk.size = D ∧ Hid (SWK enc k w0 blk off dk wr) ∧ Hid (RotIs a (a + 1) (kk + 1) d dk) ∧ Hid (PermIn a b d dk)) (fun kv _ => i1 - (RowKit.intOf kv).toNat)
      case atStart => exact ⟨a, d, rfl, Nat.le_refl _, by omega, HDD.out, hS, rot_nil, permIn_refl _ _ _⟩
      case round =>
        clear hS
        obtain ⟨p, dk, rfl, hp1, hp2, hdk, hS, hro, hpe⟩ := hrel
        by_cases hlt : p < i1
        · have hz : (p : Int) < (i1 : Int) := by omega
          obtain ⟨q, hq⟩ : ∃ q : Nat, (p : Int) + 1 = (q : Int) := ⟨p + 1, by omega⟩
          have hpD : (p : Int) < (D : Int) := by omega
          have hqD : (q : Int) < (D : Int) := by omega
          have hpd : p < dk.size := by omega
          have hqd : q < dk.size := by omega
          have S1 := Lib.hid (hS.out.swapped R p q hpd hqd)
          have l1 := hS.out.ld1 R (hdk.trans HD.out.symm) Try.prog p hpd
          have l2 := hS.out.ld1 R (hdk.trans HD.out.symm) Try.prog q hqd
          have s1 := hS.out.st1 R (hdk.trans HD.out.symm) Try.prog p hpd dk[q]!
          have s2 := hS.out.st2 R (hdk.trans HD.out.symm) Try.prog p q hpd hqd dk[q]! dk[p]!
          have hro2 : Hid (RotIs a (a + 1) (p + 2) d (swp dk p q)) := by
            show RotIs _ _ _ _ _
            rw [show q = p + 1 from by omega]
            exact rot_up hro.out hp1 (by rw [HDD.out]; omega)
          have hpe2 : Hid (PermIn a b d (swp dk p q)) := permIn_trans _ _ _ a b hpe.out (swp_permIn dk a b p q (by omega) (by omega) (by omega) (by omega) (by omega))
          have n1 : (enc dk[p]!).length = k := hk _
          have n2 : (enc dk[q]!).length = k := hk _
          have ep : ((p : Int)).toNat = p := by omega
          have eq : ((q : Int)).toNat = q := by omega
          have zp : (0 : Int) ≤ (p : Int) := by omega
          have zq : (0 : Int) ≤ (q : Int) := by omega
          generalize enc dk[p]! = cI at S1 l1 s2 n1
          generalize enc dk[q]! = cJ at S1 l2 s1 s2 n2
          clear hS hro hpe
          go_wp2_with fail
          go_big_region_o
          clear l1 l2 s1 s2
          generalize (wr.drew.setCells blk (off + p * k) cJ).setCells blk (off + q * k) cI = w1 at S1 ⊢
          go_wp2
          go_roundw
          case rel => exact ⟨p + 1, swp dk p q, by go_num, by omega, by omega, by rw [swp_size]; exact hdk, S1, hro2, hpe2⟩
          case measure => simp [RowKit.intOf]; omega
        · have hz : ¬ ((p : Int) < (i1 : Int)) := by omega
          have hpi : p + 1 = j := by omega
          have hso : Hid (SortedIn ltE a b dk) := by
            have hr := hro.out
            rw [hpi] at hr
            have HH2 := HH.out
            rw [HA.out] at HH2
            exact ins_left HH2 (by omega) (by omega) (by rw [← HA.out]; exact hlo.out) hhi.out hr
          clear hlt hro
          go_wp2
          (try simp only [Exit.inBlock, Exit.then]); refine bodyPost_ret (results_none rfl _ _ _) rfl ?_
          exact ⟨rfl, dk, hpe.out, hso.out, hS.out⟩
set_option maxRecDepth 100000 in
set_option maxHeartbeats 4000000 in
theorem sym_b (k : Nat) (z37 : ∀ w, (Go.sizeOf 37).run Try.prog w = .ok k w) (hk : ∀ x, (enc x).length = k) (w0 : World) (blk off cap c : Nat) (d0 : Array Ed) (R : RowK enc k w0 blk off d0)
    (hC : CmpLays Try.prog 31 #[.pointer (some ⟨c, 0, none⟩)] enc k cf blk off d0.size w0) (hsz : d0.size ≤ 1000000) (a m b : Nat) (d : Array Ed) (w : World) (hd : d.size = d0.size) (H : Halves a m b d) (S : SWK enc k w0 blk off d w) (hA : ¬ m = a + 1) (hB : b = m + 1) :
    Calls Try.prog 43 #[.slice (some ⟨blk, off, none⟩) d0.size cap, .int .i64 a, .int .i64 m, .int .i64 b, .func (.func 31) #[] #[.pointer (some ⟨c, 0, none⟩)]] w fun e w' => e = .returned (.tuple #[]) ∧ ∃ d', PermIn a b d d' ∧ SortedIn ltE a b d' ∧ SWK enc k w0 blk off d' w' := by
  have g1 := H.h1
  have g2 := H.h2
  have g3 := H.h3
  have HS := Lib.hid S
  have HH := Lib.hid H
  obtain ⟨D, hD⟩ : ∃ D, d0.size = D := ⟨_, rfl⟩
  have HD := Lib.hid hD
  rw [hd, hD] at g3
  have HDD : Hid (d.size = D) := hd.trans hD
  rw [hD] at hsz
  rw [hD]
  have HCc : Hid (CmpLays Try.prog 31 #[.pointer (some ⟨c, 0, none⟩)] enc k cf blk off D w0) := by rw [← hD]; exact hC
  clear S H hd hD hC
  have u22 := run_underlying Try.underlying22
  have a37 := Try.isAgg37
  have mixed : Try.prog.follows .mixedOrders = true := by kernel_rfl
  have hmz : ((m : Int) - (a : Int) == 1) = false := eqF (by omega)
  have hbz : (b : Int) - (m : Int) = 1 := by omega
  have HB := Lib.hid hB
  clear hA hB
  go_enter Try.func43, Try.ntmps43
  go_wp2
  go_loopw [14, 15] (fun iv jv wr => ∃ (i j : Nat), iv = .int .i64 i ∧ jv = .int .i64 j ∧ a ≤ i ∧ i ≤ j ∧ j ≤ m ∧ Hid (SWK enc k w0 blk off d wr) ∧ Hid (∀ x, a ≤ x → x < i → ltE d[m]! d[x]! = false) ∧ Hid (∀ x, j ≤ x → x < m → ltE d[m]! d[x]! = true))
    (fun iv jv _ => (RowKit.intOf jv).toNat - (RowKit.intOf iv).toNat)
  case atStart => exact ⟨a, m, rfl, rfl, Nat.le_refl _, by omega, Nat.le_refl _, HS, fun y h1 h2 => by omega, fun y h1 h2 => by omega⟩
  case round =>
    obtain ⟨i, j, rfl, rfl, hi, hij, hj, hS, hlo, hhi⟩ := hrel
    by_cases hlt : i < j
    · have hz : (i : Int) < (j : Int) := by omega
      obtain ⟨h, hh⟩ : ∃ h : Nat, ((i : Int) + (j : Int)) / 2 = (h : Int) := ⟨(i + j) / 2, by omega⟩
      have hih : i ≤ h := by omega
      have hhj : h < j := by omega
      have hD2 := HDD.out
      have hhD : (h : Int) < (D : Int) := by omega
      have hmD : (m : Int) < (D : Int) := by omega
      have l1 := fun n os => hS.out.ld R (hD2.trans HD.out.symm) Try.prog m (by omega) n os
      have l2 := fun n os => hS.out.ld R (hD2.trans HD.out.symm) Try.prog h (by omega) n os
      have hcg := fun n os => hS.out.cmp HCc.out hD2 d[m]! d[h]! n os
      have hcf : (cf d[m]! d[h]! < 0) ↔ ltE d[m]! d[h]! = true := HH.out.lt (by omega) (by omega) (by omega) (by omega)
      have HCF := Lib.hid hcf
      obtain ⟨v, hv⟩ : ∃ v, cf d[m]! d[h]! = v := ⟨_, rfl⟩
      rw [hv] at hcg
      have HV := Lib.hid hv
      have n1 : (enc d[m]!).length = k := hk _
      have n2 : (enc d[h]!).length = k := hk _
      have HG : Hid (∀ n os, SWK enc k w0 blk off d (grow (wr.drewN n) os)) := fun n os => hS.out.grown n os
      generalize enc d[m]! = cm at l1 hcg n1
      generalize enc d[h]! = ch at l2 hcg n2
      clear hcf hv hD2 hS hlt
      by_cases hneg : v < 0
      · have hdec : decide (v < 0) = true := decide_eq_true hneg
        have HN := Lib.hid hneg
        go_wp2_with fail
        go_quiet_grown (first | (go_at_call 31; refine Calls.grown_of (hcg _ _)))
        go_wp2
        go_roundw
        case rel =>
          exact ⟨i, h, rfl, rfl, hi, hih, by omega, HG.out _ _, hlo, fun x h1 h2 => by
            have h4 := HCF.out.1 (by rw [HV.out]; exact HN.out)
            by_cases hx : x = h
            · subst hx; exact h4
            · have h3 := HH.out.l h x (by omega) (by omega) (by omega)
              rw [ltE_iff] at h4 ⊢
              rw [ltE_false, leE_iff] at h3
              omega⟩
        case measure => simp [RowKit.intOf]; omega
      · have hdec : decide (v < 0) = false := decide_eq_false hneg
        have HN := Lib.hid hneg
        go_wp2_with fail
        go_quiet_grown (first | (go_at_call 31; refine Calls.grown_of (hcg _ _)))
        go_wp2
        go_roundw
        case rel =>
          exact ⟨h + 1, j, by go_num, rfl, by omega, by omega, hj, HG.out _ _, fun x h1 h2 => by
            have h4 : ltE d[m]! d[h]! = false := by
              cases hx : ltE d[m]! d[h]! with
              | false => rfl
              | true => exact absurd (HCF.out.2 hx) (by rw [HV.out]; have := HN.out; omega)
            by_cases hx : x = h
            · subst hx; exact h4
            · have h3 := HH.out.l x h (by omega) (by omega) (by omega)
              rw [ltE_false, leE_iff] at h3 h4 ⊢
              omega, hhi⟩
        case measure => simp [RowKit.intOf]; omega
    · have hz : ¬ ((i : Int) < (j : Int)) := by omega
      have hji : j = i := by omega
      subst hji
      clear hlt
      go_wp2
      go_loopw [17] (fun kv wr => ∃ (kk : Nat) (dk : Array Ed), kv = .int .i64 kk ∧ j ≤ kk ∧ kk ≤ m ∧ dk.size = D ∧ Hid (SWK enc k w0 blk off dk wr) ∧ Hid (RotIs kk m (m + 1) d dk) ∧ Hid (PermIn a b d dk)) (fun kv _ => (RowKit.intOf kv).toNat)
      case atStart => exact ⟨m, d, rfl, by omega, Nat.le_refl _, HDD.out, hS, rot_nil', permIn_refl _ _ _⟩
      case round =>
        clear hS
        obtain ⟨p, dk, rfl, hp1, hp2, hdk, hS, hro, hpe⟩ := hrel
        by_cases hlt : j < p
        · have hz : (j : Int) < (p : Int) := by omega
          obtain ⟨q, hq⟩ : ∃ q : Nat, (p : Int) - 1 = (q : Int) := ⟨p - 1, by omega⟩
          have hpD : (p : Int) < (D : Int) := by omega
          have hqD : (q : Int) < (D : Int) := by omega
          have hpd : p < dk.size := by omega
          have hqd : q < dk.size := by omega
          have S1 := Lib.hid (hS.out.swapped R p q hpd hqd)
          have l1 := hS.out.ld1 R (hdk.trans HD.out.symm) Try.prog p hpd
          have l2 := hS.out.ld1 R (hdk.trans HD.out.symm) Try.prog q hqd
          have s1 := hS.out.st1 R (hdk.trans HD.out.symm) Try.prog p hpd dk[q]!
          have s2 := hS.out.st2 R (hdk.trans HD.out.symm) Try.prog p q hpd hqd dk[q]! dk[p]!
          have hro2 : Hid (RotIs q m (m + 1) d (swp dk p q)) := by
            show RotIs _ _ _ _ _
            have hr := hro.out
            rw [show p = q + 1 from by omega] at hr ⊢
            exact rot_down hr (by omega) (by rw [HDD.out]; omega)
          have hpe2 : Hid (PermIn a b d (swp dk p q)) := permIn_trans _ _ _ a b hpe.out (swp_permIn dk a b p q (by omega) (by omega) (by omega) (by omega) (by omega))
          have n1 : (enc dk[p]!).length = k := hk _
          have n2 : (enc dk[q]!).length = k := hk _
          have ep : ((p : Int)).toNat = p := by omega
          have eq : ((q : Int)).toNat = q := by omega
          have zp : (0 : Int) ≤ (p : Int) := by omega
          have zq : (0 : Int) ≤ (q : Int) := by omega
          generalize enc dk[p]! = cI at S1 l1 s2 n1
          generalize enc dk[q]! = cJ at S1 l2 s1 s2 n2
          clear hS hro hpe
          go_wp2_with fail
          go_big_region_o
          clear l1 l2 s1 s2
          generalize (wr.drew.setCells blk (off + p * k) cJ).setCells blk (off + q * k) cI = w1 at S1 ⊢
          go_wp2
          go_roundw
          case rel => exact ⟨q, swp dk p q, by go_num, by omega, by omega, by rw [swp_size]; exact hdk, S1, hro2, hpe2⟩
          case measure => simp [RowKit.intOf]; omega
        · have hz : ¬ ((j : Int) < (p : Int)) := by omega
          have hpi : p = j := by omega
          have hso : Hid (SortedIn ltE a b dk) := by
            have hr := hro.out
            rw [hpi] at hr
            have HH2 := HH.out
            show SortedIn _ _ _ _
            rw [HB.out] at HH2 ⊢
            exact ins_right HH2 (by omega) (by omega) hlo.out hhi.out hr
          clear hlt hro
          go_wp2
          (try simp only [Exit.inBlock, Exit.then]); refine bodyPost_ret (results_none rfl _ _ _) rfl ?_
          exact ⟨rfl, dk, hpe.out, hso.out, hS.out⟩
end Go.Proofs.Ytinanagjoaaacaa
