/-
  The stable sort's merging: the general case, and the whole.
-/
import Derived.Deep.DeepCutAuto
import Derived.Test.YtinanagjoaaacaaP9
import Derived.Test.YtinanagjoaaacaaW18
namespace Go.Proofs.Ytinanagjoaaacaa
open Go.RowKit Go.Shelf Go.Lib Go.Sort

/-- What a merging of (a, m, b) is said to do. -/
def SymIs (k : Nat) (w0 : World) (blk off cap c D : Nat) (a m b : Nat) (d : Array Ed) (w : World) : Prop :=
  Calls Try.prog 43 #[.slice (some ⟨blk, off, none⟩) D cap, .int .i64 a, .int .i64 m, .int .i64 b, .func (.func 31) #[] #[.pointer (some ⟨c, 0, none⟩)]] w fun e w' => e = .returned (.tuple #[]) ∧ ∃ d', PermIn a b d d' ∧ SortedIn ltE a b d' ∧ SWK enc k w0 blk off d' w'

set_option maxRecDepth 100000 in
set_option maxHeartbeats 8000000 in
theorem sym_g (k : Nat) (z37 : ∀ w, (Go.sizeOf 37).run Try.prog w = .ok k w) (hk : ∀ x, (enc x).length = k) (w0 : World) (blk off cap c : Nat) (d0 : Array Ed) (R : RowK enc k w0 blk off d0)
    (hC : CmpLays Try.prog 31 #[.pointer (some ⟨c, 0, none⟩)] enc k cf blk off d0.size w0) (hsz : d0.size ≤ 1000000) (N : Nat) (IH : ∀ (a m b : Nat) (d : Array Ed) (w : World), b - a ≤ N → d.size = d0.size → Halves a m b d → SWK enc k w0 blk off d w → SymIs k w0 blk off cap c d0.size a m b d w)
    (a m b : Nat) (d : Array Ed) (w : World) (hn : b - a ≤ N + 1) (hd : d.size = d0.size) (H : Halves a m b d) (S : SWK enc k w0 blk off d w) (hA : ¬ m = a + 1) (hB : ¬ b = m + 1) :
    SymIs k w0 blk off cap c d0.size a m b d w := by
  unfold SymIs
  have g1 := H.h1
  have g2 := H.h2
  have g3 := H.h3
  have HS := Lib.hid S
  have HH := Lib.hid H
  have HIH := Lib.hid IH
  obtain ⟨D, hD⟩ : ∃ D, d0.size = D := ⟨_, rfl⟩
  have HD := Lib.hid hD
  rw [hd, hD] at g3
  have HDD : Hid (d.size = D) := hd.trans hD
  rw [hD] at hsz
  rw [hD]
  have HCc : Hid (CmpLays Try.prog 31 #[.pointer (some ⟨c, 0, none⟩)] enc k cf blk off D w0) := by rw [← hD]; exact hC
  have HR : Hid (∀ (W : World) (dk : Array Ed) (x y z : Nat), dk.size = D → SWK enc k w0 blk off dk W → x < y → y < z → z ≤ D → Calls Try.prog 44 #[.slice (some ⟨blk, off, none⟩) D cap, .int .i64 x, .int .i64 y, .int .i64 z, .func (.func 31) #[] #[.pointer (some ⟨c, 0, none⟩)]] W fun e w' => e = .returned (.tuple #[]) ∧ SWK enc k w0 blk off (rot y (z - x) (y - x) (z - y) dk) w') := by
    intro W dk x y z hdk hs h4 h5 h6
    have := rot_k k z37 hk w0 W blk off cap x y z (.func (.func 31) #[] #[.pointer (some ⟨c, 0, none⟩)]) d0 dk (hdk.trans hD.symm) R hs h4 h5 (by omega) (by omega)
    rw [hdk] at this
    exact this
  clear S H hd hD hC IH
  have u22 := run_underlying Try.underlying22
  have a37 := Try.isAgg37
  have mixed : Try.prog.follows .mixedOrders = true := by kernel_rfl
  have hmz : ((m : Int) - (a : Int) == 1) = false := eqF (by omega)
  have hbz : ((b : Int) - (m : Int) == 1) = false := eqF (by omega)
  obtain ⟨mid, hmid⟩ : ∃ mid : Nat, ((a : Int) + (b : Int)) / 2 = (mid : Int) := ⟨(a + b) / 2, by omega⟩
  obtain ⟨n, hnn⟩ : ∃ n : Nat, (mid : Int) + (m : Int) = (n : Int) := ⟨mid + m, by omega⟩
  obtain ⟨p, hp⟩ : ∃ p : Nat, (n : Int) - 1 = (p : Int) := ⟨n - 1, by omega⟩
  have gA : a + 2 ≤ m := by omega
  have gB : m + 2 ≤ b := by omega
  clear hA hB
  go_enter Try.func43, Try.ntmps43
  go_upto_if 140 with fail
  go_cut [20, 21] from 129 to 146 (fun sv rv wx => ∃ lo hi : Nat, sv = .int .i64 lo ∧ rv = .int .i64 hi ∧ Hid (Mid a m b mid lo hi) ∧ wx = w)
  case first =>
    by_cases hgt : mid < m
    · have hz : (mid : Int) < (m : Int) := by omega
      obtain ⟨lo, hlo⟩ : ∃ lo : Nat, (n : Int) - (b : Int) = (lo : Int) := ⟨n - b, by omega⟩
      have M : Hid (Mid a m b mid lo mid) := ⟨gA, gB, by omega, .inl (by omega)⟩
      go_wp2
      go_meet
      exact ⟨lo, mid, by go_num, rfl, M, rfl⟩
    · have hz : ¬ ((mid : Int) < (m : Int)) := by omega
      have M : Hid (Mid a m b mid a m) := ⟨gA, gB, by omega, .inr (by omega)⟩
      go_wp2
      go_meet
      exact ⟨a, m, rfl, rfl, M, rfl⟩
  case rest =>
    obtain ⟨lo, hi, rfl, rfl, M, rfl⟩ := hcut
    go_wp2
    go_loopw [20, 21] (fun iv jv wr => ∃ (i j : Nat), iv = .int .i64 i ∧ jv = .int .i64 j ∧ lo ≤ i ∧ i ≤ j ∧ j ≤ hi ∧ Hid (SWK enc k w0 blk off d wr) ∧ Hid (i = lo ∨ ltE d[n - i]! d[i - 1]! = false) ∧ Hid (j = hi ∨ ltE d[p - j]! d[j]! = true))
      (fun iv jv _ => (RowKit.intOf jv).toNat - (RowKit.intOf iv).toNat)
    case atStart =>
      have hlh : lo ≤ hi := by
        have := M.out.md
        have := M.out.cs
        omega
      exact ⟨lo, hi, rfl, rfl, Nat.le_refl _, hlh, Nat.le_refl _, HS, .inl rfl, .inl rfl⟩
    case round =>
      obtain ⟨i, j, rfl, rfl, hi1, hij, hj, hS, hlo, hhi⟩ := hrel
      by_cases hlt : i < j
      · have hz : (i : Int) < (j : Int) := by omega
        obtain ⟨h, hh⟩ : ∃ h : Nat, ((i : Int) + (j : Int)) / 2 = (h : Int) := ⟨(i + j) / 2, by omega⟩
        have hih : i ≤ h := by omega
        have hhj : h < j := by omega
        obtain ⟨f1, f2, f3, f4⟩ := M.out.in (c := h) (by omega) (by omega)
        obtain ⟨q, hq⟩ : ∃ q : Nat, (p : Int) - (h : Int) = (q : Int) := ⟨p - h, by omega⟩
        have hD2 := HDD.out
        have wq : IntKind.i64.wrap (q : Int) = (q : Int) := by rw [IntKind.wrap_i64]; omega
        have zq : (0 : Int) ≤ (q : Int) := by omega
        have eq : ((q : Int)).toNat = q := by omega
        have hhD : (h : Int) < (D : Int) := by omega
        have hqD : (q : Int) < (D : Int) := by omega
        have l1 := fun n os => hS.out.ld R (hD2.trans HD.out.symm) Try.prog q (by omega) n os
        have l2 := fun n os => hS.out.ld R (hD2.trans HD.out.symm) Try.prog h (by omega) n os
        have hcg := fun n os => hS.out.cmp HCc.out hD2 d[q]! d[h]! n os
        have hcf : (cf d[q]! d[h]! < 0) ↔ ltE d[q]! d[h]! = true := HH.out.lt (by omega) (by omega) (by omega) (by omega)
        have HCF := Lib.hid hcf
        obtain ⟨v, hv⟩ : ∃ v, cf d[q]! d[h]! = v := ⟨_, rfl⟩
        rw [hv] at hcg
        have HV := Lib.hid hv
        have n1 : (enc d[q]!).length = k := hk _
        have n2 : (enc d[h]!).length = k := hk _
        have HG : Hid (∀ n os, SWK enc k w0 blk off d (grow (wr.drewN n) os)) := fun n os => hS.out.grown n os
        generalize enc d[q]! = cm at l1 hcg n1
        generalize enc d[h]! = ch at l2 hcg n2
        clear hcf hv hD2 hS hlt
        by_cases hneg : v < 0
        · have hdec : decide (v < 0) = true := decide_eq_true hneg
          have HN := Lib.hid hneg
          go_wp2_with fail
          go_quiet_grown (first | (go_at_call 31; refine Calls.grown_of (hcg _ _)))
          go_wp2
          go_roundw
          case rel =>
            exact ⟨i, h, rfl, rfl, hi1, hih, by omega, HG.out _ _, hlo, .inr (by
              have h4 := HCF.out.1 (by rw [HV.out]; exact HN.out)
              rw [show p - h = q from by omega]
              exact h4)⟩
          case measure => simp [RowKit.intOf]; omega
        · have hdec : decide (v < 0) = false := decide_eq_false hneg
          have HN := Lib.hid hneg
          go_wp2_with fail
          go_quiet_grown (first | (go_at_call 31; refine Calls.grown_of (hcg _ _)))
          go_wp2
          go_roundw
          case rel =>
            exact ⟨h + 1, j, by go_num, rfl, by omega, by omega, hj, HG.out _ _, .inr (by
              have h4 : ltE d[q]! d[h]! = false := by
                cases hx : ltE d[q]! d[h]! with
                | false => rfl
                | true => exact absurd (HCF.out.2 hx) (by rw [HV.out]; have := HN.out; omega)
              rw [show n - (h + 1) = q from by omega, show h + 1 - 1 = h from by omega]
              exact h4), hhi⟩
          case measure => simp [RowKit.intOf]; omega
      · have hz : ¬ ((i : Int) < (j : Int)) := by omega
        have hji : j = i := by omega
        subst hji
        have hM1 := M.out.md
        have hM2 := M.out.cs
        obtain ⟨e, he⟩ : ∃ e : Nat, (n : Int) - (j : Int) = (e : Int) := ⟨n - j, by omega⟩
        have HC : Hid (Cut a j m e b d) := gen_cut HH.out M.out hi1 hj (by omega) (by rw [show e = n - j from by omega]; exact hlo.out) (by rw [show e - 1 = p - j from by omega]; exact hhi.out)
        have c1 := HC.out.h1
        have c2 := HC.out.h2
        have c3 := HC.out.h3
        have c4 := HC.out.h4
        have hsum : j + (e - m) = mid := by omega
        have hma : a < mid := by omega
        have hmb : mid < b := by omega
        clear hlt hM1 hM2 hlo hhi hij M hi1 hj
        go_upto_region 39 with fail
        go_cut [185] from 178 to 185 (fun gv wx => ∃ g : Bool, gv = .bool g ∧ Hid (g = true ↔ j < m ∧ m < e) ∧ wx = wr)
        case first =>
          by_cases h1 : j < m
          · have z1 : (j : Int) < (m : Int) := by omega
            by_cases h2 : m < e
            · have z2 : (m : Int) < (e : Int) := by omega
              go_wp2
              go_meet
              exact ⟨true, rfl, ⟨fun _ => by omega, fun _ => rfl⟩, rfl⟩
            · have z2 : ¬ (m : Int) < (e : Int) := by omega
              go_wp2
              go_meet
              exact ⟨false, rfl, ⟨fun h => (Bool.false_ne_true h).elim, fun h => by omega⟩, rfl⟩
          · have z1 : ¬ (j : Int) < (m : Int) := by omega
            go_wp2
            go_meet
            exact ⟨false, rfl, ⟨fun h => (Bool.false_ne_true h).elim, fun h => by omega⟩, rfl⟩
        case rest =>
          obtain ⟨g, rfl, hg, rfl⟩ := hcut
          go_upto_if 185 with fail
          go_cut [] from 186 to 191 (fun wx => ∃ d1 : Array Ed, d1.size = D ∧ Hid (SWK enc k w0 blk off d1 wx) ∧ Hid (RotIs j m e d d1) ∧ Hid (PermIn a b d d1))
          case first =>
            cases g with
            | true =>
              have hb := hg.out.1 rfl
              have hS1 := HR.out wc d j m e HDD.out hS.out hb.1 hb.2 (by omega)
              have HB := Lib.hid hb
              clear hb
              go_wp2_with (go_at_call 44; refine hS1.mono ?_; rintro e1 w1 ⟨rfl, hs1⟩; clear hS1; have HS1 := Lib.hid hs1; clear hs1)
              go_meet
              exact ⟨_, by rw [rot_size]; exact HDD.out, HS1, rot_is HB.out.1 HB.out.2 (by rw [HDD.out]; omega) (Nat.le_refl _), rot_perm m a b (e - j) (m - j) (e - m) d (by omega) (by omega) (by omega) (by rw [HDD.out]; omega)⟩
            | false =>
              have hb : ¬ (j < m ∧ m < e) := fun h => Bool.false_ne_true (hg.out.2 h)
              have HB := Lib.hid hb
              clear hb
              go_wp2
              go_meet
              refine ⟨d, HDD.out, hS, ?_, permIn_refl _ _ _⟩
              show RotIs _ _ _ _ _
              by_cases hjm : j = m
              · rw [hjm]; exact rot_nil'
              · have := HB.out
                rw [show e = m from by omega]; exact rot_nil
          case rest =>
            obtain ⟨d1, hd1, S1, R1, P1⟩ := hcut
            have HDD1 := Lib.hid hd1
            clear hd1 hS
            go_upto_region 41 with fail
            go_cut [199] from 192 to 199 (fun gv wx => ∃ g : Bool, gv = .bool g ∧ Hid (g = true ↔ a < j ∧ j < mid) ∧ wx = wc)
            case first =>
              by_cases h1 : a < j
              · have z1 : (a : Int) < (j : Int) := by omega
                by_cases h2 : j < mid
                · have z2 : (j : Int) < (mid : Int) := by omega
                  go_wp2
                  go_meet
                  exact ⟨true, rfl, ⟨fun _ => by omega, fun _ => rfl⟩, rfl⟩
                · have z2 : ¬ (j : Int) < (mid : Int) := by omega
                  go_wp2
                  go_meet
                  exact ⟨false, rfl, ⟨fun h => (Bool.false_ne_true h).elim, fun h => by omega⟩, rfl⟩
              · have z1 : ¬ (a : Int) < (j : Int) := by omega
                go_wp2
                go_meet
                exact ⟨false, rfl, ⟨fun h => (Bool.false_ne_true h).elim, fun h => by omega⟩, rfl⟩
            case rest =>
              obtain ⟨g, rfl, hg, rfl⟩ := hcut
              go_upto_if 199 with fail
              go_cut [] from 200 to 205 (fun wx => ∃ d2 : Array Ed, d2.size = D ∧ Hid (SWK enc k w0 blk off d2 wx) ∧ Hid (PermIn a mid d1 d2) ∧ Hid (SortedIn ltE a mid d2))
              case first =>
                cases g with
                | true =>
                  have hb := hg.out.1 rfl
                  have hI := HIH.out a j mid d1 wc (by omega) (HDD1.out.trans HD.out.symm) (by rw [← hsum]; exact gen_left HH.out HC.out R1.out hb.1 (by omega)) S1.out
                  unfold SymIs at hI
                  rw [HD.out] at hI
                  clear hb
                  go_wp2_with (go_at_call 43; refine hI.mono ?_; rintro e1 w1 ⟨rfl, d2, hp2, ho2, hs2⟩; clear hI; have HS2 := Lib.hid hs2; have HP2 := Lib.hid hp2; have HO2 := Lib.hid ho2; clear hs2 hp2 ho2)
                  go_meet
                  exact ⟨d2, by rw [HP2.out.1]; exact HDD1.out, HS2, HP2, HO2⟩
                | false =>
                  have hb : ¬ (a < j ∧ j < mid) := fun h => Bool.false_ne_true (hg.out.2 h)
                  have HB := Lib.hid hb
                  clear hb
                  go_wp2
                  go_meet
                  refine ⟨d1, HDD1.out, S1, permIn_refl _ _ _, ?_⟩
                  show SortedIn _ _ _ _
                  obtain ⟨⟨o1, o2, o3, o4⟩, _⟩ := cut_done HC.out R1.out HH.out.l HH.out.r
                  rw [hsum] at o2
                  by_cases hja : a = j
                  · rw [hja]; exact o2
                  · have := HB.out
                    rw [show mid = j from by omega]; exact o1
              case rest =>
                obtain ⟨d2, hd2, S2, P2, O2⟩ := hcut
                have HDD2 := Lib.hid hd2
                clear hd2 S1
                go_upto_region 43 with fail
                go_cut [213] from 206 to 213 (fun gv wx => ∃ g : Bool, gv = .bool g ∧ Hid (g = true ↔ mid < e ∧ e < b) ∧ wx = wc)
                case first =>
                  by_cases h1 : mid < e
                  · have z1 : (mid : Int) < (e : Int) := by omega
                    by_cases h2 : e < b
                    · have z2 : (e : Int) < (b : Int) := by omega
                      go_wp2
                      go_meet
                      exact ⟨true, rfl, ⟨fun _ => by omega, fun _ => rfl⟩, rfl⟩
                    · have z2 : ¬ (e : Int) < (b : Int) := by omega
                      go_wp2
                      go_meet
                      exact ⟨false, rfl, ⟨fun h => (Bool.false_ne_true h).elim, fun h => by omega⟩, rfl⟩
                  · have z1 : ¬ (mid : Int) < (e : Int) := by omega
                    go_wp2
                    go_meet
                    exact ⟨false, rfl, ⟨fun h => (Bool.false_ne_true h).elim, fun h => by omega⟩, rfl⟩
                case rest =>
                  obtain ⟨g, rfl, hg, rfl⟩ := hcut
                  have fin : Hid (∀ d3, PermIn mid b d2 d3 → SortedIn ltE mid b d3 → PermIn a b d d3 ∧ SortedIn ltE a b d3) := by
                    intro d3 q1 q2
                    have hp := P2.out
                    have ho := O2.out
                    rw [← hsum] at q1 q2 hp ho
                    exact gen_done HH.out HC.out R1.out P1.out hp ho q1 q2
                  cases g with
                  | true =>
                    have hb := hg.out.1 rfl
                    have hI := HIH.out mid e b d2 wc (by omega) (HDD2.out.trans HD.out.symm) (by rw [← hsum]; exact gen_right HH.out HC.out R1.out (by rw [hsum]; exact P2.out) (by omega) hb.2) S2.out
                    unfold SymIs at hI
                    rw [HD.out] at hI
                    clear hb
                    go_wp2_with (go_at_call 43; refine hI.mono ?_; rintro e1 w1 ⟨rfl, d3, hp3, ho3, hs3⟩; clear hI; have HS3 := Lib.hid hs3; have HP3 := Lib.hid hp3; have HO3 := Lib.hid ho3; clear hs3 hp3 ho3)
                    go_end0
                    exact ⟨rfl, d3, (fin.out d3 HP3.out HO3.out).1, (fin.out d3 HP3.out HO3.out).2, HS3.out⟩
                  | false =>
                    have hb : ¬ (mid < e ∧ e < b) := fun h => Bool.false_ne_true (hg.out.2 h)
                    have HB := Lib.hid hb
                    clear hb
                    have o5 : Hid (SortedIn ltE mid b d2) := by
                      show SortedIn _ _ _ _
                      obtain ⟨⟨o1, o2, o3, o4⟩, _⟩ := cut_done HC.out R1.out HH.out.l HH.out.r
                      rw [hsum] at o3
                      have hk : ∀ k, mid ≤ k → d2[k]! = d1[k]! := fun k h => P2.out.2.1 k (.inr h)
                      by_cases hme : mid = e
                      · rw [hme]; exact sorted_eq (fun k p _ => hk k (by omega)) o4
                      · have := HB.out
                        rw [show b = e from by omega]; exact sorted_eq (fun k p _ => hk k p) o3
                    go_wp2
                    go_end0
                    exact ⟨rfl, d2, (fin.out d2 (permIn_refl _ _ _) o5.out).1, (fin.out d2 (permIn_refl _ _ _) o5.out).2, S2.out⟩
/-- symMerge, whole. -/
theorem sym_k (k : Nat) (z37 : ∀ w, (Go.sizeOf 37).run Try.prog w = .ok k w) (hk : ∀ x, (enc x).length = k) (w0 : World) (blk off cap c : Nat) (d0 : Array Ed) (R : RowK enc k w0 blk off d0)
    (hC : CmpLays Try.prog 31 #[.pointer (some ⟨c, 0, none⟩)] enc k cf blk off d0.size w0) (hsz : d0.size ≤ 1000000) :
    ∀ (N a m b : Nat) (d : Array Ed) (w : World), b - a ≤ N → d.size = d0.size → Halves a m b d → SWK enc k w0 blk off d w → SymIs k w0 blk off cap c d0.size a m b d w
  | 0, a, m, b, d, w, hn, _, H, _ => by have := H.h1; have := H.h2; omega
  | N + 1, a, m, b, d, w, hn, hd, H, S => by
    by_cases hA : m = a + 1
    · exact sym_a k z37 hk w0 blk off cap c d0 R hC hsz a m b d w hd H S hA
    · by_cases hB : b = m + 1
      · exact sym_b k z37 hk w0 blk off cap c d0 R hC hsz a m b d w hd H S hA hB
      · exact sym_g k z37 hk w0 blk off cap c d0 R hC hsz N (sym_k k z37 hk w0 blk off cap c d0 R hC hsz N) a m b d w hn hd H S hA hB
end Go.Proofs.Ytinanagjoaaacaa
