/-
  The stable sort's rotation: a walk.
-/
import Derived.Test.YtinanagjoaaacaaW16
namespace Go.Proofs.Ytinanagjoaaacaa
open Go.RowKit Go.Shelf Go.Lib Go.Sort

/-- The stretches of i ahead of m and of j behind it, exchanged. -/
def rot (m : Nat) : Nat → Nat → Nat → Array Ed → Array Ed
  | 0, _, _, d => d
  | f + 1, i, j, d => if i = j then swr (m - i) m i 0 d else if j < i then rot m f (i - j) j (swr (m - i) m j 0 d) else rot m f i (j - i) (swr (m - i) (m + j - i) i 0 d)
theorem rot_size (m : Nat) : ∀ (f i j : Nat) (d : Array Ed), (rot m f i j d).size = d.size
  | 0, _, _, _ => rfl
  | f + 1, i, j, d => by
    unfold rot
    split
    · exact swr_size _ _ _ _ _
    · split
      · rw [rot_size m f, swr_size]
      · rw [rot_size m f, swr_size]
set_option maxRecDepth 100000 in
set_option maxHeartbeats 2000000 in
theorem rot_k (k : Nat) (z37 : ∀ w, (Go.sizeOf 37).run Try.prog w = .ok k w) (hk : ∀ x, (enc x).length = k) (w0 w : World) (blk off cap a m b : Nat) (f : Value) (d0 d : Array Ed) (h0 : d.size = d0.size) (R : RowK enc k w0 blk off d0) (S : SWK enc k w0 blk off d w) (h1 : a < m) (h2 : m < b) (h3 : b ≤ d.size) (hsz : d.size ≤ 1000000) :
    Calls Try.prog 44 #[.slice (some ⟨blk, off, none⟩) d.size cap, .int .i64 a, .int .i64 m, .int .i64 b, f] w fun e w' => e = .returned (.tuple #[]) ∧ SWK enc k w0 blk off (rot m (b - a) (m - a) (b - m) d) w' := by
  have HS := Lib.hid S
  have HR := Lib.hid R
  obtain ⟨D, hD⟩ : ∃ D, d.size = D := ⟨_, rfl⟩
  have HD := Lib.hid hD
  rw [hD] at h3 hsz ⊢
  have HC : Hid (∀ (W : World) (dk : Array Ed) (x y n : Nat), dk.size = D → SWK enc k w0 blk off dk W → x + n ≤ y → y + n ≤ D → Calls Try.prog 45 #[.slice (some ⟨blk, off, none⟩) D cap, .int .i64 x, .int .i64 y, .int .i64 n, f] W fun e w' => e = .returned (.tuple #[]) ∧ SWK enc k w0 blk off (swr x y n 0 dk) w') := by
    intro W dk x y n hdk hs h4 h5
    have := swr_k k z37 hk w0 W blk off cap x y n f d0 dk (by omega) R hs h4 (by omega) (by omega)
    rw [hdk] at this
    exact this
  clear S hD R
  go_enter Try.func44, Try.ntmps44
  go_wp2
  go_loopw [10, 11] (fun iv jv wr => ∃ (i j g : Nat) (dk : Array Ed), iv = .int .i64 i ∧ jv = .int .i64 j ∧ 0 < i ∧ 0 < j ∧ i ≤ m - a ∧ j ≤ b - m ∧ i + j ≤ g ∧ dk.size = D ∧ Hid (SWK enc k w0 blk off dk wr) ∧ Hid (rot m g i j dk = rot m (b - a) (m - a) (b - m) d)) (fun iv jv _ => (RowKit.intOf iv).toNat + (RowKit.intOf jv).toNat)
  case atStart => exact ⟨m - a, b - m, b - a, d, by go_num, by go_num, by omega, by omega, Nat.le_refl _, Nat.le_refl _, by omega, HD.out, HS, rfl⟩
  case round =>
    obtain ⟨i, j, g, dk, rfl, rfl, hi, hj, him, hjm, hg, hdk, hS, hst⟩ := hrel
    obtain ⟨g, rfl⟩ : ∃ g', g = g' + 1 := ⟨g - 1, by omega⟩
    obtain ⟨x, hx⟩ : ∃ x : Nat, (m : Int) - (i : Int) = (x : Int) := ⟨m - i, by omega⟩
    by_cases hij : i = j
    · subst hij
      have hst2 : Hid (rot m (b - a) (m - a) (b - m) d = swr x m i 0 dk) := by
        show _ = _
        rw [← hst.out, rot, if_pos rfl, show m - i = x from by omega]
      have c := HC.out wr dk x m i hdk hS.out (by omega) (by omega)
      have hne : ((i : Int) != (i : Int)) = false := by simp
      clear hst hS
      go_wp2_with (go_at_call 45; refine c.mono ?_; rintro e w1 ⟨rfl, hs1⟩; clear c)
      go_end0
      exact ⟨rfl, by rw [hst2.out]; exact hs1⟩
    · have hne : ((i : Int) != (j : Int)) = true := by simp [bne, eqF (show (i : Int) ≠ (j : Int) by omega)]
      by_cases hji : j < i
      · have hz : (j : Int) < (i : Int) := by omega
        have hst2 : Hid (rot m g (i - j) j (swr x m j 0 dk) = rot m (b - a) (m - a) (b - m) d) := by
          show _ = _
          rw [← hst.out, rot, if_neg hij, if_pos hji, show m - i = x from by omega]
        have c := HC.out wr dk x m j hdk hS.out (by omega) (by omega)
        have hsz2 : (swr x m j 0 dk).size = D := by rw [swr_size]; exact hdk
        clear hst hS
        go_wp2_with (go_at_call 45; refine c.mono ?_; rintro e w1 ⟨rfl, hs1⟩; clear c; have HS1 := Lib.hid hs1; clear hs1)
        go_roundw
        case rel => exact ⟨i - j, j, g, _, by go_num, rfl, by omega, hj, by omega, hjm, by omega, hsz2, HS1, hst2⟩
        case measure => simp [RowKit.intOf]; omega
      · have hz : ¬ ((j : Int) < (i : Int)) := by omega
        obtain ⟨y, hy⟩ : ∃ y : Nat, (m : Int) + (j : Int) - (i : Int) = (y : Int) := ⟨m + j - i, by omega⟩
        have hst2 : Hid (rot m g i (j - i) (swr x y i 0 dk) = rot m (b - a) (m - a) (b - m) d) := by
          show _ = _
          rw [← hst.out, rot, if_neg hij, if_neg hji, show m - i = x from by omega, show m + j - i = y from by omega]
        have c := HC.out wr dk x y i hdk hS.out (by omega) (by omega)
        have hsz2 : (swr x y i 0 dk).size = D := by rw [swr_size]; exact hdk
        clear hst hS
        go_wp2_with (go_at_call 45; refine c.mono ?_; rintro e w1 ⟨rfl, hs1⟩; clear c; have HS1 := Lib.hid hs1; clear hs1)
        go_roundw
        case rel => exact ⟨i, j - i, g, _, rfl, by go_num, hi, by omega, him, by omega, by omega, hsz2, HS1, hst2⟩
        case measure => simp [RowKit.intOf]; omega
end Go.Proofs.Ytinanagjoaaacaa
