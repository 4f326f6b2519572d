/-
  The stable sort's exchanges: swapRange, rotate: walks.
-/
import Derived.Shelf.RegionOpenPlain
import Derived.Test.YtinanagjoaaacaaW1
namespace Go.Proofs.Ytinanagjoaaacaa
open Go.RowKit Go.Shelf Go.Lib Go.Sort

/-- n exchanges of the stretches at a and at b. -/
def swr (a b : Nat) : Nat → Nat → Array Ed → Array Ed
  | 0, _, d => d
  | n + 1, i, d => swr a b n (i + 1) (swp d (a + i) (b + i))
theorem swr_size (a b : Nat) : ∀ (n i : Nat) (d : Array Ed), (swr a b n i d).size = d.size
  | 0, _, _ => rfl
  | n + 1, i, d => by rw [swr, swr_size a b n (i + 1) _, swp_size]

theorem e45 : ∀ args w, (callFunc 45 args).run Try.prog w = .ok (.enter 45 args) w := enters_of Try.func45 (by kernel_rfl) rfl
set_option maxRecDepth 100000 in
set_option maxHeartbeats 2000000 in
theorem swr_k (k : Nat) (z37 : ∀ w, (Go.sizeOf 37).run Try.prog w = .ok k w) (hk : ∀ x, (enc x).length = k) (w0 w : World) (blk off cap a b n : Nat) (f : Value) (d0 d : Array Ed) (h0 : d.size = d0.size) (R : RowK enc k w0 blk off d0) (S : SWK enc k w0 blk off d w) (h1 : a + n ≤ b) (h2 : b + n ≤ d.size) (hsz : d.size ≤ 1000000) :
    Calls Try.prog 45 #[.slice (some ⟨blk, off, none⟩) d.size cap, .int .i64 a, .int .i64 b, .int .i64 n, f] w fun e w' => e = .returned (.tuple #[]) ∧ SWK enc k w0 blk off (swr a b n 0 d) w' := by
  have HS := Lib.hid S
  have H0 := Lib.hid h0
  clear h0
  obtain ⟨D, hD⟩ : ∃ D, d.size = D := ⟨_, rfl⟩
  have HD := Lib.hid hD
  rw [hD] at h2 hsz ⊢
  clear hD S
  go_enter Try.func45, Try.ntmps45
  go_wp2
  go_loopw [10] (fun iv wr => ∃ (i : Nat) (dk : Array Ed), iv = .int .i64 i ∧ i ≤ n ∧ dk.size = D ∧ Hid (SWK enc k w0 blk off dk wr) ∧ Hid (swr a b (n - i) i dk = swr a b n 0 d)) (fun iv _ => n - (RowKit.intOf iv).toNat)
  case atStart => exact ⟨0, d, rfl, Nat.zero_le _, HD.out, HS, rfl⟩
  case round =>
    obtain ⟨i, dk, rfl, hi, hdk, hS, hst⟩ := hrel
    by_cases hlt : i < n
    · have hz : (i : Int) < (n : Int) := by omega
      obtain ⟨p, hp⟩ : ∃ p : Nat, (a : Int) + (i : Int) = (p : Int) := ⟨a + i, by omega⟩
      obtain ⟨q, hq⟩ : ∃ q : Nat, (b : Int) + (i : Int) = (q : Int) := ⟨b + i, by omega⟩
      have hpD : (p : Int) < (D : Int) := by omega
      have hqD : (q : Int) < (D : Int) := by omega
      have hpd : p < dk.size := by omega
      have hqd : q < dk.size := by omega
      have S1 := Lib.hid (hS.out.swapped R p q hpd hqd)
      have l1 := hS.out.ld1 R ((hdk.trans HD.out.symm).trans H0.out) Try.prog p hpd
      have l2 := hS.out.ld1 R ((hdk.trans HD.out.symm).trans H0.out) Try.prog q hqd
      have s1 := hS.out.st1 R ((hdk.trans HD.out.symm).trans H0.out) Try.prog p hpd dk[q]!
      have s2 := hS.out.st2 R ((hdk.trans HD.out.symm).trans H0.out) Try.prog p q hpd hqd dk[q]! dk[p]!
      have hst2 : Hid (swr a b (n - (i + 1)) (i + 1) (swp dk p q) = swr a b n 0 d) := by
        show _ = _
        rw [← hst.out, show n - i = (n - (i + 1)) + 1 from by omega, swr, show a + i = p from by omega, show b + i = q from by omega]
      have mixed : Try.prog.follows .mixedOrders = true := by kernel_rfl
      have n1 : (enc dk[p]!).length = k := hk _
      have n2 : (enc dk[q]!).length = k := hk _
      have ep : ((p : Int)).toNat = p := by omega
      have eq : ((q : Int)).toNat = q := by omega
      have zp : (0 : Int) ≤ (p : Int) := by omega
      have zq : (0 : Int) ≤ (q : Int) := by omega
      generalize enc dk[p]! = cI at S1 l1 s2 n1
      generalize enc dk[q]! = cJ at S1 l2 s1 s2 n2
      have u22 := run_underlying Try.underlying22
      have a37 := Try.isAgg37
      clear hS hst
      go_wp2_with fail
      go_big_region_o
      clear l1 l2 s1 s2
      generalize (wr.drew.setCells blk (off + p * k) cJ).setCells blk (off + q * k) cI = w1 at S1 ⊢
      go_wp2
      go_roundw
      case rel => exact ⟨i + 1, swp dk p q, by go_num, by omega, by rw [swp_size]; exact hdk, S1, hst2⟩
      case measure => simp [RowKit.intOf]; omega
    · have hz : ¬ ((i : Int) < (n : Int)) := by omega
      have hst2 : Hid (SWK enc k w0 blk off (swr a b n 0 d) wr) := by
        show SWK _ _ _ _ _ _ _
        rw [← hst.out, show n - i = 0 from by omega]
        exact hS.out
      clear hst hlt hS
      go_wp2
      go_end0
      exact ⟨rfl, hst2.out⟩
end Go.Proofs.Ytinanagjoaaacaa
