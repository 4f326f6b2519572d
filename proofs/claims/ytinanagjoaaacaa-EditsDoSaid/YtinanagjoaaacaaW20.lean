/-
  The stable sort: a walk.
-/
import Derived.Test.YtinanagjoaaacaaP10
import Derived.Test.YtinanagjoaaacaaW19
namespace Go.Proofs.Ytinanagjoaaacaa
open Go.RowKit Go.Shelf Go.Lib Go.Sort

theorem cmp_at {k c blk off size : Nat} {w0 W : World} {dk : Array Ed} (hblk : blk < w0.heap.size) (hs : dk.size = size) (h : SWK enc k w0 blk off dk W) (hC : CmpLays Try.prog 31 #[.pointer (some ⟨c, 0, none⟩)] enc k cf blk off size w0) :
    CmpLays Try.prog 31 #[.pointer (some ⟨c, 0, none⟩)] enc k cf blk off size W := by
  intro m os d hd x y
  have S : SWK enc k w0 blk off d (sortWorldK enc k W blk off m d os) := h.on hblk m d os (hd.trans hs.symm)
  obtain ⟨n, os2, e⟩ := S
  rw [e]
  exact hC n os2 d hd x y
theorem e31 : ∀ args w, (callFunc 31 args).run Try.prog w = .ok (.enter 31 args) w := enters_of Try.func31 (by kernel_rfl) rfl

set_option maxRecDepth 100000 in
set_option maxHeartbeats 4000000 in
theorem st_k (k : Nat) (z37 : ∀ w, (Go.sizeOf 37).run Try.prog w = .ok k w) (w0 : World) (blk off cap c : Nat) (d0 : Array Ed) (R : RowK enc k w0 blk off d0)
    (hC : CmpLays Try.prog 31 #[.pointer (some ⟨c, 0, none⟩)] enc k cf blk off d0.size w0) (hsz : d0.size ≤ 1000000) (htag : ∀ p q, 0 ≤ p → p < q → q < d0.size → d0[p]!.tag < d0[q]!.tag) :
    Calls Try.prog 39 #[.slice (some ⟨blk, off, none⟩) d0.size cap, .int .i64 d0.size, .func (.func 31) #[] #[.pointer (some ⟨c, 0, none⟩)]] w0 fun e w' =>
      e = .returned (.tuple #[]) ∧ ∃ d', PermIn 0 d0.size d0 d' ∧ SortedIn ltE 0 d0.size d' ∧ SWK enc k w0 blk off d' w' := by
  have HT := Lib.hid htag
  have HS : Hid (SWK enc k w0 blk off d0 w0) := SWK.start R.hH
  obtain ⟨D, hD⟩ : ∃ D, d0.size = D := ⟨_, rfl⟩
  have HD := Lib.hid hD
  have HI : Hid (∀ (W : World) (dk : Array Ed) (a b : Nat), dk.size = D → SWK enc k w0 blk off dk W → a ≤ b → b ≤ D → (∀ p q, a ≤ p → p < q → q < b → dk[p]!.tag < dk[q]!.tag) →
      Calls Try.prog 42 #[.slice (some ⟨blk, off, none⟩) D cap, .int .i64 a, .int .i64 b, .func (.func 31) #[] #[.pointer (some ⟨c, 0, none⟩)]] W fun e w' => e = .returned (.tuple #[]) ∧ ∃ d', PermIn a b dk d' ∧ SortedIn ltE a b d' ∧ SWK enc k w0 blk off d' w') := by
    intro W dk a b hdk hS hab hb hup
    have hs := ins_sorted dk a b hab (by omega) hup
    have hins := AnyQ.insertionSortCmpFunc Try.laysIns k Try.isAgg37 z37 enc R.hk R.h1 cf 31 #[.pointer (some ⟨c, 0, none⟩)] blk off cap a b dk W e31 (cmp_at R.hblk rfl hS (by rw [hdk, ← hD]; exact hC)) (hS.holds R.hblk R.hH (hdk.trans hD.symm)) (hS.lt R.hblk) hab (by omega) (by omega)
    rw [hdk] at hins
    change Calls Try.prog 42 _ _ _ at hins
    refine hins.mono ?_
    rintro e w' ⟨rfl, n, os, rfl⟩
    exact ⟨rfl, _, hs.1, hs.2, hS.on R.hblk n _ os hs.1.1⟩
  have HM : Hid (∀ (W : World) (dk : Array Ed) (a m b : Nat), dk.size = D → SWK enc k w0 blk off dk W → Halves a m b dk → SymIs k w0 blk off cap c D a m b dk W) := by
    intro W dk a m b hdk hS H
    rw [← hD]
    exact sym_k k z37 R.hk w0 blk off cap c d0 R hC hsz (b - a) a m b dk W (Nat.le_refl _) (hdk.trans hD.symm) H hS
  have HF : Hid (First 0 d0 d0) := first_start htag
  rw [hD] at hsz
  clear R hC htag
  rw [hD]
  clear hD
  go_enter Try.func39, Try.ntmps39
  go_wp2
  go_loopw [7, 8] (fun av bv wr => ∃ (a b : Nat) (dk : Array Ed), av = .int .i64 a ∧ bv = .int .i64 b ∧ Hid (b = a + 20) ∧ a ≤ D ∧ Hid (20 ∣ a) ∧ Hid (dk.size = D) ∧ Hid (SWK enc k w0 blk off dk wr) ∧ Hid (First a d0 dk))
    (fun av _ _ => D + 1 - (RowKit.intOf av).toNat)
  case atStart =>
    refine ⟨0, 20, d0, ?_, ?_, ?_, Nat.zero_le _, ?_, HD, HS, HF⟩
    · go_num
    · go_num
    · rfl
    · exact Nat.dvd_zero _
  case round =>
    clear HS HF
    obtain ⟨a, b, dk, rfl, rfl, HB, had, h20, hdk, hS, hF⟩ := hrel
    have hab : a + 20 ≤ b := by have := HB.out; omega
    have hba : b ≤ a + 20 := by have := HB.out; omega
    by_cases hlt : b ≤ D
    · have hz : (b : Int) ≤ (D : Int) := by omega
      have cc := HI.out wr dk a b hdk.out hS.out (by omega) hlt (by rw [HB.out]; exact first_up hF.out HT.out (by rw [HD.out]; omega))
      clear hS hlt
      go_wp2_with (go_at_call 42; refine cc.mono ?_; rintro e w1 ⟨rfl, d1, hp1, ho1, hs1⟩; clear cc; have HS1 := Lib.hid hs1; have HP1 := Lib.hid hp1; have HO1 := Lib.hid ho1; clear hs1 hp1 ho1)
      go_roundw
      case rel =>
        exact ⟨b, b + 20, d1, rfl, by go_num, rfl, by omega, by
          show 20 ∣ b
          have := h20.out
          omega, HP1.out.1.trans hdk.out, HS1, by
          show First b d0 d1
          have h1 := HP1.out
          have h2 := HO1.out
          rw [HB.out] at h1 h2 ⊢
          exact first_step hF.out h20.out (by rw [HD.out]; omega) h1 h2⟩
      case measure => simp [RowKit.intOf]; omega
    · have hz : ¬ (b : Int) ≤ (D : Int) := by omega
      have cc := HI.out wr dk a D hdk.out hS.out had (Nat.le_refl _) (first_up hF.out HT.out (by rw [HD.out]; omega))
      clear hS hlt
      go_wp2_with (go_at_call 42; refine cc.mono ?_; rintro e w1 ⟨rfl, d1, hp1, ho1, hs1⟩; clear cc; have HS1 := Lib.hid hs1; have HP1 := Lib.hid hp1; have HO1 := Lib.hid ho1; clear hs1 hp1 ho1)
      have HDn : Hid (Done 20 d0 d1) := by
        have h1 := HP1.out
        have h2 := HO1.out
        rw [← HD.out] at h1 h2
        exact first_last hF.out h20.out (by rw [HD.out]; exact had) (by rw [HD.out]; omega) h1 h2
      have hdk1 : Hid (d1.size = D) := HP1.out.1.trans hdk.out
      clear hF h20 HP1 HO1 hdk HB hab hba had hz
      go_loopw [6] (fun bv wr => ∃ (B : Nat) (dk : Array Ed), bv = .int .i64 B ∧ 0 < B ∧ B ≤ 2000020 ∧ Hid (dk.size = D) ∧ Hid (SWK enc k w0 blk off dk wr) ∧ Hid (Done B d0 dk)) (fun bv _ => D - (RowKit.intOf bv).toNat)
      case atStart => exact ⟨20, d1, by go_num, by omega, by omega, hdk1, HS1, HDn⟩
      case round =>
        clear HS1 HDn hdk1
        obtain ⟨B, dk, rfl, hB0, hBm, hdk, hS, hDn⟩ := hrel
        by_cases hBD : B < D
        · have hzB : (B : Int) < (D : Int) := by omega
          obtain ⟨B2, hB2⟩ : ∃ B2 : Nat, 2 * (B : Int) = (B2 : Int) := ⟨2 * B, by omega⟩
          have hB3 : (B : Int) * 2 = (B2 : Int) := by omega
          have HB2 : Hid (B2 = 2 * B) := by show _ = _; omega
          have hP : Hid (Pass B 0 d0 dk) := pass_start hDn.out
          clear hDn
          go_wp2
          go_loopw [7, 8] (fun av bv wr => ∃ (a e : Nat) (dk : Array Ed), av = .int .i64 a ∧ bv = .int .i64 e ∧ Hid (e = a + B2) ∧ a ≤ D ∧ Hid (B2 ∣ a) ∧ Hid (dk.size = D) ∧ Hid (SWK enc k w0 blk off dk wr) ∧ Hid (Pass B a d0 dk))
            (fun av _ _ => D + 1 - (RowKit.intOf av).toNat)
          case atStart => exact ⟨0, B2, dk, by go_num, by go_num, (Nat.zero_add _).symm, Nat.zero_le _, Nat.dvd_zero _, hdk, hS, hP⟩
          case round =>
            clear hS hP hdk
            obtain ⟨a, e, dk, rfl, rfl, HE, had, h20, hdk, hS, hP⟩ := hrel
            have he1 : a + B2 ≤ e := by have := HE.out; omega
            have he2 : e ≤ a + B2 := by have := HE.out; omega
            obtain ⟨m, hm⟩ : ∃ m : Nat, (a : Int) + (B : Int) = (m : Int) := ⟨a + B, by omega⟩
            by_cases hlt : e ≤ D
            · have hz : (e : Int) ≤ (D : Int) := by omega
              have H : Halves a m e dk := by
                rw [show m = a + B from by omega]
                have h20' := h20.out
                rw [HB2.out] at h20'
                exact pass_halves hP.out hB0 h20' (by rw [HD.out]; have := HB2.out; omega) (by omega)
              have cc := HM.out wr dk a m e hdk.out hS.out H
              unfold SymIs at cc
              clear hS hlt H
              go_wp2_with (go_at_call 43; refine cc.mono ?_; rintro e w1 ⟨rfl, d1, hp1, ho1, hs1⟩; clear cc; have HS1 := Lib.hid hs1; have HP1 := Lib.hid hp1; have HO1 := Lib.hid ho1; clear hs1 hp1 ho1)
              go_roundw
              case rel =>
                exact ⟨e, e + B2, d1, rfl, by go_num, rfl, by omega, by
                  show B2 ∣ e
                  rw [HE.out]
                  exact Nat.dvd_add h20.out (Nat.dvd_refl _), HP1.out.1.trans hdk.out, HS1, by
                  show Pass B e d0 d1
                  have h1 := HP1.out
                  have h2 := HO1.out
                  have h3 := h20.out
                  rw [HB2.out] at h3
                  rw [show e = a + 2 * B from by have := HB2.out; omega] at h1 h2 ⊢
                  exact pass_step hP.out hB0 h3 (by rw [HD.out]; have := HB2.out; omega) h1 h2⟩
              case measure => simp [RowKit.intOf]; omega
            · have hz : ¬ (e : Int) ≤ (D : Int) := by omega
              by_cases hmD : m < D
              · have hzm : (m : Int) < (D : Int) := by omega
                have H : Halves a m D dk := by
                  rw [show m = a + B from by omega]
                  have h20' := h20.out
                  rw [HB2.out] at h20'
                  exact pass_halves hP.out hB0 h20' (by rw [HD.out]; have := HB2.out; omega) (by omega)
                have cc := HM.out wr dk a m D hdk.out hS.out H
                unfold SymIs at cc
                clear hS hlt H
                go_wp2_with (go_at_call 43; refine cc.mono ?_; rintro e w1 ⟨rfl, d1, hp1, ho1, hs1⟩; clear cc; have HS1 := Lib.hid hs1; have HP1 := Lib.hid hp1; have HO1 := Lib.hid ho1; clear hs1 hp1 ho1)
                go_roundw
                case rel =>
                  exact ⟨B2, d1, by go_num, by omega, by omega, HP1.out.1.trans hdk.out, HS1, by
                    show Done B2 d0 d1
                    have h1 := HP1.out
                    have h2 := HO1.out
                    have h3 := h20.out
                    rw [← HD.out] at h1 h2
                    rw [HB2.out] at h3 ⊢
                    exact pass_last hP.out hB0 h3 (by rw [HD.out]; exact had) (by rw [HD.out]; have := HB2.out; omega) h1 h2⟩
                case measure => simp [RowKit.intOf]; omega
              · have hzm : ¬ (m : Int) < (D : Int) := by omega
                clear hlt
                go_wp2
                go_roundw
                case rel =>
                  exact ⟨B2, dk, by go_num, by omega, by omega, hdk, hS, by
                    show Done B2 d0 dk
                    have h3 := h20.out
                    rw [HB2.out] at h3 ⊢
                    exact pass_last hP.out hB0 h3 (by rw [HD.out]; exact had) (by rw [HD.out]; have := HB2.out; omega) (permIn_refl _ _ _) (pass_one hP.out h3 (by rw [HD.out]; omega))⟩
                case measure => simp [RowKit.intOf]; omega
        · have hzB : ¬ (B : Int) < (D : Int) := by omega
          go_wp2
          go_end0
          have hp := hDn.out.perm
          have ho := done_all hDn.out (by rw [HD.out]; omega)
          rw [HD.out] at hp ho
          exact ⟨rfl, dk, hp, ho, hS.out⟩
end Go.Proofs.Ytinanagjoaaacaa
