/-
  EditsBack: a walk.
-/
import Derived.Test.YtinanagjoaaacaaP11
import Derived.Test.YtinanagjoaaacaaW21
namespace Go.Proofs.Ytinanagjoaaacaa
open Go.RowKit Go.Shelf Go.Lib Go.Sort

theorem doS_size {t : ByteArray} {l : List Ed} : (doS t l).size ≤ (l.length + 1) * t.size + txS l := by
  unfold doS
  split
  · rw [toArr_size]
    have := doL_length t.data.toList (srt l) 0
    rw [srt_length, txS_srt, ← Lib.size_eq] at this
    exact this
  · exact Nat.zero_le _
theorem mul_bd {a b A B : Nat} (h1 : a ≤ A) (h2 : b ≤ B) : (a + 1) * b ≤ (A + 1) * B := Nat.mul_le_mul (by omega) h2
set_option maxRecDepth 100000 in
set_option maxHeartbeats 4000000 in
theorem lback_any (t : ByteArray) (w : World) (v : Value) (l : List Ed) (h : Rd w v l) : Calls Try.prog 8 #[.string t, v] w fun e w' => e = .returned (.bool true) ∧ RowKit.Below w.heap.size w w' := by
  have HRd := Lib.hid h
  have cl := long_any w v l h
  clear h
  by_cases h1 : t.size > 5000
  · have hz : (5000 : Int) < (t.size : Int) := by omega
    clear h1 cl
    go_enter Try.func8, Try.ntmps8
    go_wp2_with (go_at_call 10; refine (awake_any _).mono ?_; rintro e w1 ⟨rfl, hb1⟩)
    go_ret
    exact ⟨rfl, hb1⟩
  have hz : ¬ ((5000 : Int) < (t.size : Int)) := by omega
  by_cases h2 : longB l = true
  · rw [h2] at cl
    clear h1 h2
    go_enter Try.func8, Try.ntmps8
    go_wp2_with (fail)
    refine cl.mono ?_
    rintro e w1 ⟨rfl, rfl⟩
    go_wp2_with (go_at_call 10; refine (awake_any _).mono ?_; rintro e w1 ⟨rfl, hb1⟩)
    go_ret
    exact ⟨rfl, hb1⟩
  have h3 : longB l = false := by simpa using h2
  rw [h3] at cl
  obtain ⟨hln, htx⟩ := long_no h3
  have ht : t.size ≤ 5000 := by omega
  have b1 : (l.length + 1) * t.size ≤ 101 * 5000 := mul_bd hln ht
  clear h1 h2 h3
  go_enter Try.func8, Try.ntmps8
  go_wp2_with (fail)
  refine cl.mono ?_
  rintro e w0 ⟨rfl, rfl⟩
  go_wp2_with (fail)
  refine (awake_any _).mono ?_
  rintro e w1 ⟨rfl, hb1⟩
  have HB1 := Lib.hid hb1
  clear hb1 cl
  have cd := do_e t w1 v l (HRd.out.below HB1.out (Nat.le_refl _)) hln (by omega)
  go_wp2_with (fail)
  refine cd.mono ?_
  rintro e w2 ⟨rfl, hb2⟩
  clear cd
  have HB2 := Lib.hid (HB1.out.trans (hb2.mono HB1.out.size))
  clear hb2
  have cb := back_e t w2 v l (HRd.out.below HB2.out (Nat.le_refl _)) hln (by omega)
  go_wp2_with (fail)
  refine cb.mono ?_
  rintro e w3 ⟨hb3, vb, rfl, hw3⟩
  clear cb
  have HB3 := Lib.hid (HB2.out.trans (hb3.mono HB2.out.size))
  have HRb := Lib.hid hw3.rd
  clear hb3 hw3
  obtain ⟨p, cap, rfl, hsh⟩ := HRb.out.shape
  clear hsh
  have hbl := back_len t l
  have hbt := back_txS t l
  have hds := doS_size (t := t) (l := l)
  have b2 : l.length * t.size ≤ 100 * 5000 := Nat.mul_le_mul hln ht
  have b3 : ((backS t l).length + 1) * (doS t l).size ≤ 101 * 605000 := mul_bd (by omega) (by omega)
  by_cases h0 : rowE t.size l = 0
  · obtain ⟨e1, e2⟩ := back_do h0
    have c := do_e (doS t l) w3 _ (backS t l) HRb.out (by omega) (by omega)
    rw [e1, e2] at c
    rw [h0]
    obtain ⟨T, hT⟩ : ∃ T, doS t l = T := ⟨_, rfl⟩
    obtain ⟨N, hN⟩ : ∃ N, (backS t l).length = N := ⟨_, rfl⟩
    rw [hT] at c ⊢
    rw [hN] at c ⊢
    have htt : (t.toList == t.toList) = true := str_eq rfl
    clear h0 e1 e2 hT hN hbl hbt hds b1 b2 b3 HRd HRb ht hln htx
    go_wp2_with (fail)
    refine c.mono ?_
    rintro e w4 ⟨rfl, hb4⟩
    clear c
    go_wp2
    go_ret
    exact ⟨rfl, HB3.out.trans (hb4.mono HB3.out.size)⟩
  · have hd : doS t l = ⟨#[]⟩ := if_neg h0
    have hb : backS t l = [] := if_neg h0
    rw [hd, hb]
    obtain ⟨E, hE⟩ : ∃ E, rowE t.size l = E := ⟨_, rfl⟩
    rw [hE] at h0 ⊢
    have hne : (E == 0) = false := eqF h0
    have hee : (E == E) = true := eqT rfl
    clear hE hd hb hbl hbt hds b1 b2 b3 HRd HRb ht hln htx h0
    go_wp2
    go_ret
    exact ⟨rfl, HB3.out⟩
end Go.Proofs.Ytinanagjoaaacaa
