/-
  The document's Do: a walk.
-/
import Derived.Test.YtinanagjoaaacaaW26
namespace Go.Proofs.Ytinanagjoaaacaa
open Go.RowKit Go.Shelf Go.Lib Go.Sort

set_option maxRecDepth 100000 in
set_option maxHeartbeats 4000000 in
theorem rdo_any (t : ByteArray) (w : World) (v : Value) (l : List Ed) (h : Rd w v l) (hn : l.length ≤ 100) (hbig : (l.length + 1) * t.size + txS l ≤ 1099511627776) :
    Calls Try.prog 16 #[.string t, v] w fun e w' => e = .returned (.tuple #[.string (doS t l), .int .i64 (rowE t.size l)]) ∧ RowKit.Below w.heap.size w w' := by
  have c := rrow_any t w v l h hn
  clear h
  obtain ⟨E, hE⟩ : ∃ E, rowE t.size l = E := ⟨_, rfl⟩
  obtain ⟨D, hD⟩ : ∃ D, doS t l = D := ⟨_, rfl⟩
  rw [hD]
  have hS : rowS t.size l = if E = 0 then srt l else [] := by unfold rowS; rw [hE]
  have hDD : D = if E = 0 then ⟨(doL t.data.toList 0 (srt l)).toArray⟩ else ⟨#[]⟩ := by rw [← hD]; unfold doS; rw [hE]
  have hok : E = 0 → Fit (srt l) ∧ ∀ x, x ∈ srt l → x.to ≤ (t.size : Int) := fun h0 => by
    have := rowE_ok (hE.trans h0)
    exact ⟨srt_fit this.1, this.2⟩
  rw [hE, hS] at c
  rw [hE]
  have hlen := doL_length t.data.toList (srt l) 0
  rw [srt_length, txS_srt, ← Lib.size_eq] at hlen
  have HOK := Lib.hid hok
  by_cases h0 : E = 0
  · subst h0
    rw [if_pos rfl] at c hDD
    obtain ⟨hfit, hmax⟩ := HOK.out rfl
    have HDD := Lib.hid hDD
    have HF := Lib.hid hfit
    have HM := Lib.hid hmax
    have HLN : Hid ((srt l).length = l.length) := srt_length l
    have HLEN : Hid ((doL t.data.toList 0 (srt l)).length ≤ 1099511627776) := Nat.le_trans hlen hbig
    have HS : Hid (t.data.toList.length = t.size) := (Lib.size_eq t).symm
    obtain ⟨s, hs⟩ : ∃ s, srt l = s := ⟨_, rfl⟩
    obtain ⟨N, hN⟩ : ∃ N, l.length = N := ⟨_, rfl⟩
    rw [hs] at c HDD HF HM HLN HLEN
    rw [hN] at HLN hn
    clear hE hD hS hDD hok HOK hlen hfit hmax hs hbig hN
    go_enter Try.func16, Try.ntmps16
    go_wp2_with (fail)
    refine c.mono ?_
    rintro e w1 ⟨hb1, v', rfl, hr⟩
    clear c
    obtain ⟨p, cap, rfl, hsh⟩ := hr.shape
    have HSH := Lib.hid hsh
    rw [HLN.out]
    have HB1 := Lib.hid hb1
    clear hr hsh hb1
    go_wp2
    go_loopw [8, 9, 10] (fun ov av iv wq => ∃ (k at' : Nat) (U : ByteArray), ov = .string U ∧ iv = .int .i64 k ∧ av = .int .i64 at' ∧ k ≤ N ∧ at' ≤ t.size ∧ Hid (∀ x, s[k]? = some x → (at' : Int) ≤ x.fr) ∧ Hid (RowKit.Below w1.heap.size w1 wq) ∧ Hid (U.data.toList ++ doL t.data.toList at' (s.drop k) = doL t.data.toList 0 s))
      (fun _ _ iv _ => N - (intOf iv).toNat)
    case atStart => exact ⟨0, 0, ⟨#[]⟩, rfl, rfl, rfl, Nat.zero_le _, Nat.zero_le _, fun x hx => (HF.out.1 x (List.mem_of_getElem? hx)).1, RowKit.Below.refl _ _, rfl⟩
    case round =>
      obtain ⟨k, at', U, rfl, rfl, rfl, hk, hat, hnext, hb2, hpre⟩ := hrel
      by_cases hlt : k < N
      · have hltz : (k : Int) < (N : Int) := by omega
        obtain ⟨x, hx⟩ : ∃ x, s[k]? = some x := ⟨_, List.getElem?_eq_getElem (by rw [HLN.out]; exact hlt)⟩
        have hm := List.mem_of_getElem? hx
        have hf1 := HF.out.1 x hm
        have hf2 := HM.out x hm
        have hf3 := hnext.out x hx
        have hf4 : ∀ y, s[k + 1]? = some y → x.to ≤ y.fr := fun y hy => HF.out.2 k x y hx hy
        obtain ⟨g, off, rfl, hg, c0, c1, c2⟩ := HSH.out k x hx
        have hdr : s.drop k = x :: s.drop (k + 1) := by
          rw [List.drop_eq_getElem_cons (by rw [HLN.out]; exact hlt)]
          congr 1
          exact (List.getElem?_eq_some_iff.1 hx).2
        obtain ⟨xf, xt, xx, xg⟩ := x
        dsimp only at hf1 hf2 hf3 hf4 c0 c1 c2
        obtain ⟨f, rfl⟩ : ∃ f : Nat, xf = (f : Int) := ⟨xf.toNat, by omega⟩
        obtain ⟨z, rfl⟩ : ∃ z : Nat, xt = (z : Int) := ⟨xt.toNat, by omega⟩
        have hpre2 := hpre.out
        rw [hdr] at hpre2
        simp only [doL, Int.toNat_natCast] at hpre2
        rw [← List.append_assoc, ← List.append_assoc] at hpre2
        have hwl : U.size + (t.extract at' f).size + xx.size ≤ 1099511627776 := by
          have h1 := HLEN.out
          rw [← hpre2, List.length_append, List.length_append, List.length_append] at h1
          rw [Lib.size_eq (t.extract at' f), ext_list', Lib.size_eq xx, Lib.size_eq U]
          omega
        have hpre3 : Hid ((U ++ t.extract at' f ++ xx).data.toList ++ doL t.data.toList z (s.drop (k + 1)) = doL t.data.toList 0 s) := by
          show _ = _
          rw [app_list, app_list, ext_list']
          exact hpre2
        have d0 := (hb2.out.cell (p := ⟨g, off + k * 3, none⟩) hg).trans c0
        have d1 := (hb2.out.cell (p := ⟨g, off + k * 3 + 1, none⟩) hg).trans c1
        have d2 := (hb2.out.cell (p := ⟨g, off + k * 3 + 2, none⟩) hg).trans c2
        have HNX : Hid (∀ y, s[k + 1]? = some y → (z : Int) ≤ y.fr) := hf4
        have hz3 : z ≤ t.size := by omega
        have hz1 : (at' : Int) ≤ (f : Int) := hf3
        have hz2 : (f : Int) ≤ (t.size : Int) := by omega
        obtain ⟨e1, he1⟩ : ∃ e, t.extract at' f = e := ⟨_, rfl⟩
        rw [he1] at hwl hpre3
        have hadd : ∀ W, (Op.stringOp .add U e1).run Try.prog W = .ok (.string (U ++ e1)) W := fun W => run_string_add_sum _ _ _ (by omega)
        have hadd2 : ∀ W, (Op.stringOp .add (U ++ e1) xx).run Try.prog W = .ok (.string (U ++ e1 ++ xx)) W := fun W => run_string_add_sum _ _ _ (by rw [ByteArray.size_append]; omega)
        clear hx hm hf1 hf2 hf3 hf4 c0 c1 c2 hdr hpre hpre2 hnext hwl hg hlt
        go_wp2_with fail
        go_quiet (fail)
        go_wp2
        go_roundw
        case rel => exact ⟨k + 1, z, U ++ e1 ++ xx, rfl, by go_num, rfl, by omega, hz3, HNX, below_drewN hb2.out _, hpre3⟩
        case measure => simp [intOf]; omega
      · have hltz : ¬ ((k : Int) < (N : Int)) := by omega
        have hdr : s.drop k = [] := List.drop_eq_nil_of_le (by rw [HLN.out]; omega)
        have hpre2 := hpre.out
        rw [hdr] at hpre2
        simp only [doL] at hpre2
        have hext : (t.extract at' t.size).data.toList = t.data.toList.drop at' := by
          rw [ext_list', List.take_of_length_le (by rw [List.length_drop, HS.out]; exact Nat.le_refl _)]
        have hD2 : Hid (U ++ t.extract at' t.size = D) := by
          show _ = _
          have h1 : (U ++ t.extract at' t.size).data.toList = doL t.data.toList 0 s := by rw [app_list, hext, hpre2]
          rw [HDD.out, ← h1]
        have hwl : U.size + (t.extract at' t.size).size ≤ 1099511627776 := by
          have h1 := HLEN.out
          rw [← hpre2, List.length_append] at h1
          rw [Lib.size_eq (t.extract at' t.size), hext, Lib.size_eq U]
          omega
        have hz1 : (at' : Int) ≤ (t.size : Int) := by omega
        obtain ⟨e1, he1⟩ : ∃ e, t.extract at' t.size = e := ⟨_, rfl⟩
        rw [he1] at hwl hD2
        have hadd : ∀ W, (Op.stringOp .add U e1).run Try.prog W = .ok (.string (U ++ e1)) W := fun W => run_string_add_sum _ _ _ (by omega)
        clear hlt hdr hpre hpre2 hnext hext hwl
        go_wp2
        go_ret2
        exact ⟨by rw [← hD2.out]; rfl, HB1.out.trans (hb2.out.mono HB1.out.size)⟩
  · have hne : (E == 0) = false := eqF h0
    have hne2 : (E != 0) = true := bneT h0
    rw [if_neg h0] at c hDD
    clear hE hD hS hok hlen HOK hbig h0
    subst hDD
    go_enter Try.func16, Try.ntmps16
    go_wp2_with (fail)
    refine c.mono ?_
    rintro e w1 ⟨hb1, v', rfl, hw⟩
    clear c
    have HB := Lib.hid hb1
    clear hw hb1
    go_wp2
    go_ret2
    exact ⟨rfl, HB.out⟩
end Go.Proofs.Ytinanagjoaaacaa
