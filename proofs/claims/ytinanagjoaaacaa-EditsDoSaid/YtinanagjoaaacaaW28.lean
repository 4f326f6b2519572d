/-
  The document's Move: a walk.
-/
import Derived.Test.YtinanagjoaaacaaW8
import Derived.Test.YtinanagjoaaacaaW27
namespace Go.Proofs.Ytinanagjoaaacaa
open Go.RowKit Go.Shelf Go.Lib Go.Sort

set_option maxRecDepth 100000 in
set_option maxHeartbeats 4000000 in
theorem rmove_any (at' : Int) (w : World) (v : Value) (l : List Ed) (h : Rd w v l) (hn : l.length ≤ 100) (hint : ∀ x, x ∈ l → x.to ≤ 9223372036854775807) (htx : txS l ≤ 1099511627776) (hat : at' ≤ 1099511627776) :
    Calls Try.prog 20 #[v, .int .i64 at'] w (MovePost at' l w) := by
  have c := rsort_any w v l h hn
  clear h
  unfold MovePost
  by_cases h0 : sortE l = 0
  · have hS : sortS l = srt l := if_pos h0
    rw [h0, hS] at c
    by_cases h1 : at' < 0
    · have hME : moveE at' l = 1 := by unfold moveE; rw [if_neg (by simpa using h0), if_pos h1]
      have hMV : moveV at' l = 0 := by unfold moveV; rw [hME, if_neg (by omega)]
      rw [hME, hMV]
      have hd : decide (at' < 0) = true := decide_eq_true h1
      clear h0 hS hME hMV h1
      go_enter Try.func20, Try.ntmps20
      go_wp2_with (fail)
      refine c.mono ?_
      rintro e w1 ⟨hb1, v', rfl, hr⟩
      clear c
      have HB := Lib.hid hb1
      clear hr hb1
      go_wp2
      go_ret2
      exact ⟨rfl, HB.out⟩
    · have hME : moveE at' l = 0 := by unfold moveE; rw [if_neg (by simpa using h0), if_neg h1]
      have HV : Hid (moveV at' l = mvV at' (at' + 0) (mvF 0 (srt l))) := by
        show _ = _
        unfold moveV mvL; rw [hME, if_pos rfl, Int.add_zero]
      rw [hME]
      have HF := Lib.hid (srt_fit h0)
      have HI : Hid (∀ x, x ∈ srt l → x.to ≤ 9223372036854775807) := fun x hx => by
        have h2 := (srt_perm l).mem_iff.1 hx
        obtain ⟨i, hi⟩ := List.getElem?_of_mem h2
        rw [tagL_at, Option.map_eq_some_iff] at hi
        obtain ⟨y, hy, rfl⟩ := hi
        exact hint y (List.mem_of_getElem? hy)
      have HTX : Hid (txS (srt l) ≤ 1099511627776) := by show _ ≤ _; rw [txS_srt]; exact htx
      have HLN : Hid ((srt l).length = l.length) := srt_length l
      have hd : decide (at' < 0) = false := decide_eq_false h1
      have hat0 : 0 ≤ at' := by omega
      obtain ⟨V, hV⟩ : ∃ V, moveV at' l = V := ⟨_, rfl⟩
      obtain ⟨s, hs⟩ : ∃ s, srt l = s := ⟨_, rfl⟩
      obtain ⟨N, hN⟩ : ∃ N, l.length = N := ⟨_, rfl⟩
      rw [hV, hs] at HV
      rw [hV]
      rw [hs] at c HF HI HTX HLN
      rw [hN] at HLN hn
      clear h0 hS hME hV hs hN hint htx h1
      go_enter Try.func20, Try.ntmps20
      go_wp2_with (fail)
      refine c.mono ?_
      rintro e w1 ⟨hb1, v', rfl, hr⟩
      clear c
      obtain ⟨p, cap, rfl, hsh⟩ := hr.shape
      have HSH := Lib.hid hsh
      rw [HLN.out]
      have HB1 := Lib.hid hb1
      clear hr hsh hb1
      go_wp2
      go_loopw [8, 9] (fun mv iv wq => ∃ (k : Nat) (m : Int), mv = .int .i64 m ∧ iv = .int .i64 k ∧ k ≤ N ∧ -9223372036854775807 ≤ m ∧ m ≤ 1099511627776 ∧ Hid (RowKit.Below w1.heap.size w1 wq) ∧ Hid ((m = dN (s.take k) ∧ V = mvV at' (at' + m) (mvF m (s.drop k))) ∨ (V = at' + m ∧ ∀ x, x ∈ s.drop k → at' < x.fr)))
        (fun _ iv _ => N - (intOf iv).toNat)
      case atStart => exact ⟨0, 0, rfl, rfl, Nat.zero_le _, by omega, by omega, RowKit.Below.refl _ _, .inl ⟨by simp [dN], HV.out⟩⟩
      case round =>
        obtain ⟨k, m, rfl, rfl, hk, hm1, hm2, hb2, hI⟩ := hrel
        by_cases hlt : k < N
        · have hltz : (k : Int) < (N : Int) := by omega
          obtain ⟨x, hx⟩ : ∃ x, s[k]? = some x := ⟨_, List.getElem?_eq_getElem (by rw [HLN.out]; exact hlt)⟩
          have hm := List.mem_of_getElem? hx
          have hf1 := HF.out.1 x hm
          have hi1 := HI.out x hm
          have ht1 := txS_mem hm
          have ht2 := HTX.out
          obtain ⟨g, off, rfl, hg, c0, c1, c2⟩ := HSH.out k x hx
          have hdr : s.drop k = x :: s.drop (k + 1) := by
            rw [List.drop_eq_getElem_cons (by rw [HLN.out]; exact hlt)]
            congr 1
            exact (List.getElem?_eq_some_iff.1 hx).2
          have d0 := (hb2.out.cell (p := ⟨g, off + k * 3, none⟩) hg).trans c0
          have d1 := (hb2.out.cell (p := ⟨g, off + k * 3 + 1, none⟩) hg).trans c1
          have d2 := (hb2.out.cell (p := ⟨g, off + k * 3 + 2, none⟩) hg).trans c2
          have hdN := dN_take hx
          have hbd := dN_bounds HF.out HI.out (k + 1) (by rw [HLN.out]; omega)
          by_cases ha : x.to ≤ at'
          · have hda : decide (x.to ≤ at') = true := decide_eq_true ha
            have hI2 : m + dE x = dN (s.take (k + 1)) ∧ V = mvV at' (at' + (m + dE x)) (mvF (m + dE x) (s.drop (k + 1))) := by
              rcases hI.out with ⟨e1, e2⟩ | ⟨e1, e2⟩
              · rw [hdr] at e2
                simp only [mvF, mvV] at e2
                rw [if_neg (by omega), if_neg (by omega)] at e2
                refine ⟨by rw [hdN, e1], ?_⟩
                rw [e2]
                congr 1
                unfold dE
                omega
              · have := e2 x (by rw [hdr]; simp)
                omega
            have hq : m + dE x = m + (x.tx.size : Int) - (x.to - x.fr) := by unfold dE; omega
            rw [hq] at hI2
            have hw1 : IntKind.i64.wrap (m + (x.tx.size : Int)) = m + (x.tx.size : Int) := by rw [IntKind.wrap_i64]; omega
            have hw2 : IntKind.i64.wrap (x.to - x.fr) = x.to - x.fr := by rw [IntKind.wrap_i64]; omega
            have hw3 : IntKind.i64.wrap (m + (x.tx.size : Int) - (x.to - x.fr)) = m + (x.tx.size : Int) - (x.to - x.fr) := by rw [IntKind.wrap_i64]; omega
            have hr1 : -9223372036854775807 ≤ m + (x.tx.size : Int) - (x.to - x.fr) := by omega
            have hr2 : m + (x.tx.size : Int) - (x.to - x.fr) ≤ 1099511627776 := by omega
            have HI2 := Lib.hid hI2
            have HR := Lib.hid (And.intro hr1 hr2)
            clear hI2 hq hr1 hr2 hI hdN hbd hdr hx hm hf1 hi1 ht1 ht2 hg c0 c1 c2 ha hlt
            go_wp2_with fail
            go_quiet (fail)
            go_wp2
            go_roundw
            case rel => exact ⟨k + 1, m + (x.tx.size : Int) - (x.to - x.fr), rfl, by go_num, by omega, HR.out.1, HR.out.2, below_drewN hb2.out _, .inl HI2.out⟩
            case measure => simp [intOf]; omega
          · have hda : decide (x.to ≤ at') = false := decide_eq_false ha
            by_cases hb : x.fr ≤ at'
            · have hdb : decide (x.fr ≤ at') = true := decide_eq_true hb
              have hV : Hid (V = x.fr + m) := by
                show _ = _
                rcases hI.out with ⟨e1, e2⟩ | ⟨e1, e2⟩
                · rw [hdr] at e2
                  simp only [mvF, mvV] at e2
                  rw [if_neg (by omega), if_pos (by omega)] at e2
                  exact e2
                · have := e2 x (by rw [hdr]; simp)
                  omega
              have hw : IntKind.i64.wrap (x.fr + m) = x.fr + m := by rw [IntKind.wrap_i64]; omega
              clear hI hdN hbd hdr hx hm hf1 hi1 ht1 ht2 hg c0 c1 c2 ha hb hlt
              go_wp2
              go_ret2
              exact ⟨by rw [hV.out]; rfl, HB1.out.trans (hb2.out.mono HB1.out.size)⟩
            · have hdb : decide (x.fr ≤ at') = false := decide_eq_false hb
              have hI2 : Hid (V = at' + m ∧ ∀ y, y ∈ s.drop (k + 1) → at' < y.fr) := by
                have hrest : ∀ y, y ∈ s.drop (k + 1) → at' < y.fr := fun y hy => by
                  obtain ⟨i, hi⟩ := List.getElem?_of_mem hy
                  rw [List.getElem?_drop] at hi
                  have := fit_rise HF.out i k x y hx (by rw [show k + i + 1 = k + 1 + i from by omega]; exact hi)
                  omega
                refine ⟨?_, hrest⟩
                rcases hI.out with ⟨e1, e2⟩ | ⟨e1, e2⟩
                · rw [hdr] at e2
                  simp only [mvF, mvV] at e2
                  rw [if_pos (by omega)] at e2
                  exact e2
                · exact e1
              clear hI hdN hbd hdr hx hm hf1 hi1 ht1 ht2 hg c0 c1 c2 ha hb hlt
              go_wp2
              go_roundw
              case rel => exact ⟨k + 1, m, rfl, by go_num, by omega, hm1, hm2, hb2, .inr hI2.out⟩
              case measure => simp [intOf]; omega
        · have hltz : ¬ ((k : Int) < (N : Int)) := by omega
          have hV : Hid (V = at' + m) := by
            show _ = _
            rcases hI.out with ⟨e1, e2⟩ | ⟨e1, e2⟩
            · rw [List.drop_eq_nil_of_le (by rw [HLN.out]; omega)] at e2
              exact e2
            · exact e1
          have hw : IntKind.i64.wrap (at' + m) = at' + m := by rw [IntKind.wrap_i64]; omega
          clear hI hlt
          go_wp2
          go_ret2
          exact ⟨by rw [hV.out]; rfl, HB1.out.trans (hb2.out.mono HB1.out.size)⟩
  · have hME : moveE at' l = sortE l := by unfold moveE; rw [if_pos (by simpa using h0)]
    have hMV : moveV at' l = 0 := by unfold moveV; rw [hME, if_neg h0]
    rw [hME, hMV]
    obtain ⟨E, hE⟩ : ∃ E, sortE l = E := ⟨_, rfl⟩
    rw [hE] at c h0 ⊢
    have h0' : (E == 0) = false := eqF h0
    have h0'' : (E != 0) = true := bneT h0
    clear hE h0 hME hMV hint htx hat
    go_enter Try.func20, Try.ntmps20
    go_wp2_with (fail)
    refine c.mono ?_
    rintro e w1 ⟨hb, v', rfl, hw⟩
    clear c
    have HB := Lib.hid hb
    clear hw hb
    go_wp2
    go_ret2
    exact ⟨rfl, HB.out⟩
end Go.Proofs.Ytinanagjoaaacaa
