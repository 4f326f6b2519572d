/-
  The document's row of edits: a walk.
-/
import Derived.Test.YtinanagjoaaacaaW25
namespace Go.Proofs.Ytinanagjoaaacaa
open Go.RowKit Go.Shelf Go.Lib Go.Sort

set_option maxRecDepth 100000 in
set_option maxHeartbeats 4000000 in
theorem rrow_any (t : ByteArray) (w : World) (v : Value) (l : List Ed) (h : Rd w v l) (hn : l.length ≤ 100) :
    Calls Try.prog 34 #[.string t, v] w fun e w' => RowKit.Below w.heap.size w w' ∧ ∃ v', e = .returned (.tuple #[v', .int .i64 (rowE t.size l)]) ∧ Rd w' v' (rowS t.size l) := by
  have c := rsort_any w v l h hn
  clear h
  by_cases h0 : sortE l = 0
  · have hS : sortS l = srt l := if_pos h0
    rw [h0, hS] at c
    have HE : Hid (rowE t.size l = if (srt l).any (fun x => decide ((t.size : Int) < x.to)) = true then 1 else 0) := by
      show _ = _
      unfold rowE
      rw [if_neg (by simpa using h0)]
    have HRS : Hid (rowS t.size l = if rowE t.size l = 0 then srt l else []) := rfl
    have HLN : Hid ((srt l).length = l.length) := srt_length l
    obtain ⟨E, hE⟩ : ∃ E, rowE t.size l = E := ⟨_, rfl⟩
    obtain ⟨S, hSS⟩ : ∃ S, rowS t.size l = S := ⟨_, rfl⟩
    obtain ⟨s, hs⟩ : ∃ s, srt l = s := ⟨_, rfl⟩
    obtain ⟨N, hN⟩ : ∃ N, l.length = N := ⟨_, rfl⟩
    rw [hE] at HE HRS ⊢
    rw [hSS] at HRS ⊢
    rw [hs] at c HE HRS HLN
    rw [hN] at HLN hn
    clear h0 hS hE hSS hs hN
    go_enter Try.func34, Try.ntmps34
    go_wp2_with (fail)
    refine c.mono ?_
    rintro e w1 ⟨hb1, v', rfl, hr⟩
    clear c
    have HRd := Lib.hid hr
    obtain ⟨p, cap, rfl, hsh⟩ := hr.shape
    have HSH := Lib.hid hsh
    rw [HLN.out] at HRd ⊢
    have HB1 := Lib.hid hb1
    clear hr hsh hb1
    go_wp2
    go_loopw [8] (fun iv wq => ∃ k : Nat, iv = .int .i64 k ∧ k ≤ N ∧ Hid (∀ (i : Nat) (x : Ed), i < k → s[i]? = some x → x.to ≤ (t.size : Int)) ∧ Hid (RowKit.Below w1.heap.size w1 wq)) (fun iv _ => N - (intOf iv).toNat)
    case atStart => exact ⟨0, rfl, Nat.zero_le _, fun i x h0 => by omega, RowKit.Below.refl _ _⟩
    case round =>
      obtain ⟨k, rfl, hk, hall, hb2⟩ := hrel
      by_cases hlt : k < N
      · obtain ⟨x, hx⟩ : ∃ x, s[k]? = some x := ⟨_, List.getElem?_eq_getElem (by rw [HLN.out]; exact hlt)⟩
        obtain ⟨g, off, rfl, hg, c0, c1, c2⟩ := HSH.out k x hx
        have d1 := (hb2.out.cell (p := ⟨g, off + k * 3 + 1, none⟩) hg).trans c1
        have hz : (k : Int) < (N : Int) := by omega
        have HX := Lib.hid hx
        clear hx hg c0 c1 c2 hlt
        by_cases hxt : (t.size : Int) < x.to
        · have hd : decide ((t.size : Int) < x.to) = true := decide_eq_true hxt
          have HE1 : Hid (E = 1) := by
            show _ = _
            rw [HE.out, if_pos]
            rw [List.any_eq_true]
            exact ⟨x, List.mem_of_getElem? HX.out, hd⟩
          have HS1 : Hid (S = []) := by
            show _ = _
            rw [HRS.out, HE1.out, if_neg (by omega)]
          go_wp2
          go_ret2
          exact ⟨HB1.out.trans (hb2.out.mono HB1.out.size), .slice none 0 0, by rw [HE1.out]; rfl, by rw [HS1.out]; exact .inl ⟨rfl, rfl⟩⟩
        · have HO : Hid (∀ (i : Nat) (x : Ed), i < k + 1 → s[i]? = some x → x.to ≤ (t.size : Int)) := by
            intro i y hi hy
            rcases Nat.lt_or_ge i k with h5 | h5
            · exact hall.out i y h5 hy
            · obtain rfl : i = k := by omega
              obtain rfl := Option.some.inj (HX.out.symm.trans hy)
              omega
          go_wp2
          go_roundw
          case rel => exact ⟨k + 1, by go_num, by omega, HO, hb2⟩
          case measure => simp [intOf]; omega
      · have hz : ¬ (k : Int) < (N : Int) := by omega
        have HE2 : Hid (E = 0) := by
          show _ = _
          rw [HE.out, if_neg]
          rw [List.any_eq_true]
          rintro ⟨x, h1, h2⟩
          obtain ⟨i, hi⟩ := List.getElem?_of_mem h1
          have h6 := (List.getElem?_eq_some_iff.1 hi).1
          rw [HLN.out] at h6
          have h7 := hall.out i x (by omega) hi
          have h8 := of_decide_eq_true h2
          omega
        have HS2 : Hid (S = s) := by
          show _ = _
          rw [HRS.out, HE2.out, if_pos rfl]
        clear hlt
        go_wp2
        go_ret2
        exact ⟨HB1.out.trans (hb2.out.mono HB1.out.size), .slice p N cap, by rw [HE2.out]; rfl, by rw [HS2.out]; exact HRd.out.below hb2.out (Nat.le_refl _)⟩
  · have hS : sortS l = [] := if_neg h0
    have hr : Hid (rowE t.size l = sortE l ∧ rowS t.size l = []) := by
      have h1 : rowE t.size l = sortE l := by unfold rowE; rw [if_pos (by simpa using h0)]
      exact ⟨h1, by unfold rowS; rw [if_neg (by rw [h1]; exact h0)]⟩
    rw [hS] at c
    obtain ⟨E, hE⟩ : ∃ E, sortE l = E := ⟨_, rfl⟩
    rw [hE] at c h0 hr
    have h0' : (E == 0) = false := eqF h0
    have h0'' : (E != 0) = true := bneT h0
    clear hE hS h0
    go_enter Try.func34, Try.ntmps34
    go_wp2_with (fail)
    refine c.mono ?_
    rintro e w1 ⟨hb, v', rfl, hw⟩
    clear c
    have HB := Lib.hid hb
    clear hw hb
    go_wp2
    go_ret2
    exact ⟨HB.out, .slice none 0 0, by rw [hr.out.1]; rfl, by rw [hr.out.2]; exact .inl ⟨rfl, rfl⟩⟩
end Go.Proofs.Ytinanagjoaaacaa
