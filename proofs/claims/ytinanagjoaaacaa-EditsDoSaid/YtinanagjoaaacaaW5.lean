/-
  edits.row and edits.Do: walks.
-/
import Derived.StillTailTactics
import Derived.Shelf.Strings.BuilderK
import Derived.Lib.OthersKept
import Derived.Laws.Concat
import Derived.RangeFuncRecord
import Derived.Test.YtinanagjoaaacaaP2
namespace Go.Proofs.Ytinanagjoaaacaa
open Go.RowKit Go.Shelf Go.Lib Go.Sort

theorem sort_ec (w : World) (v : Value) (l : List Ed) (h : Rd w v l) (hn : l.length ≤ 100) :
    Calls Try.prog 12 #[v] w fun e w' => RowKit.Below w.heap.size w w' ∧ ∃ v', e = .returned (.tuple #[v', .int .i64 (sortE l)]) ∧ Rw w' w.heap.size v' (sortS l) ∧ capOk v' := by
  by_cases hb : l.any badE = true
  · have h1 : sortE l = 1 := if_pos hb
    refine (sort_bad w v l h (by omega) hb).mono fun e w' ⟨he, hbl⟩ => ⟨hbl, _, by rw [h1]; exact he, .inl ⟨rfl, ?_⟩, Nat.le_refl 0⟩
    unfold sortS
    rw [h1, if_neg (by omega)]
  · refine (sort_go w v l h hn (by simpa using hb)).mono fun e w' ⟨hbl, hx⟩ => ⟨hbl, ?_⟩
    unfold sortS sortE
    rw [if_neg hb]
    rcases hx with ⟨ho, v', he, hr, hc⟩ | ⟨ho, he⟩
    · rw [if_pos ((inOrdB_iff _).2 ho), if_pos rfl]
      exact ⟨v', he, hr, hc⟩
    · rw [if_neg (fun hx => ho ((inOrdB_iff _).1 hx)), if_neg (by omega)]
      exact ⟨_, he, .inl ⟨rfl, rfl⟩, Nat.le_refl 0⟩
theorem sort_e (w : World) (v : Value) (l : List Ed) (h : Rd w v l) (hn : l.length ≤ 100) :
    Calls Try.prog 12 #[v] w fun e w' => RowKit.Below w.heap.size w w' ∧ ∃ v', e = .returned (.tuple #[v', .int .i64 (sortE l)]) ∧ Rw w' w.heap.size v' (sortS l) :=
  (sort_ec w v l h hn).mono fun _ _ ⟨h1, v', h2, h3, _⟩ => ⟨h1, v', h2, h3⟩

theorem Rw.below {W W' : World} {B n : Nat} {v : Value} {l : List Ed} (h : Rw W B v l) (hb : RowKit.Below n W W') (hn : W.heap.size ≤ n) : Rw W' B v l := by
  rcases h with h | ⟨g, cap, h1, h2, h3, h4⟩
  · exact .inl h
  · refine .inr ⟨g, cap, h1, h2, Nat.lt_of_lt_of_le h3 hb.size, fun j hj => ?_⟩
    obtain ⟨a, b⟩ := h4 j hj
    exact ⟨(hb.cell (by show g < n; omega)).trans a, (hb.frozen (by show g < n; omega)).trans b⟩
theorem Rw.low {W : World} {B B' : Nat} {v : Value} {l : List Ed} (h : Rw W B v l) (hB : B' ≤ B) : Rw W B' v l := by
  rcases h with h | ⟨g, cap, h1, h2, h3, h4⟩
  · exact .inl h
  · exact .inr ⟨g, cap, h1, by omega, h3, h4⟩

/-- What row answers. -/
def RowPost (w : World) (n : Nat) (l : List Ed) (e : Ending) (w' : World) : Prop :=
  RowKit.Below w.heap.size w w' ∧ ∃ v', e = .returned (.tuple #[v', .int .i64 (rowE n l)]) ∧ Rw w' w.heap.size v' (rowS n l)
set_option maxRecDepth 100000 in
set_option maxHeartbeats 2000000 in
theorem row_e (t : ByteArray) (w : World) (v : Value) (l : List Ed) (h : Rd w v l) (hn : l.length ≤ 100) : Calls Try.prog 23 #[.string t, v] w (RowPost w t.size l) := by
  have c := sort_e w v l h hn
  have HP : Hid (∀ (e : Ending) (w' : World), RowKit.Below w.heap.size w w' → (∃ v', e = .returned (.tuple #[v', .int .i64 (rowE t.size l)]) ∧ Rw w' w.heap.size v' (rowS t.size l)) → RowPost w t.size l e w') := fun e w' h1 h2 => ⟨h1, h2⟩
  clear h
  by_cases h0 : sortE l = 0
  · have hf := srt_fit h0
    have hS : sortS l = srt l := if_pos h0
    rw [hS, h0] at c
    by_cases hl : l.length = 0
    · have hs : srt l = [] := List.eq_nil_of_length_eq_zero (by rw [srt_length]; exact hl)
      have hr : Hid (rowE t.size l = 0 ∧ rowS t.size l = []) := by
        have h1 : rowE t.size l = 0 := by
          unfold rowE
          rw [if_neg (by simpa using h0), hs, if_neg (by simp)]
        exact ⟨h1, by unfold rowS; rw [if_pos h1, hs]⟩
      rw [hs] at c
      clear hf hS hl hs h0
      go_enter Try.func23, Try.ntmps23
      go_wp2_with (fail)
      refine c.mono ?_
      rintro e w1 ⟨hb, v', rfl, hw⟩
      clear c
      rcases hw with ⟨rfl, _⟩ | ⟨g, cap, rfl, h1, h2, h3⟩
      · go_wp2
        go_ret2
        exact HP.out _ _ hb ⟨_, by rw [hr.out.1]; rfl, .inl ⟨rfl, hr.out.2⟩⟩
      · have HH : Hid (Rw w1 w.heap.size (.slice (some ⟨g, 0, none⟩) ([] : List Ed).length cap) []) := .inr ⟨g, cap, rfl, h1, h2, h3⟩
        clear h1 h2 h3
        go_wp2
        go_ret2
        exact HP.out _ _ hb ⟨_, by rw [hr.out.1]; rfl, by rw [hr.out.2]; exact HH.out⟩
    · obtain ⟨n, hln⟩ : ∃ n, l.length = n + 1 := ⟨l.length - 1, by omega⟩
      obtain ⟨y, hy⟩ : ∃ y, (srt l)[n]? = some y := ⟨_, List.getElem?_eq_getElem (by rw [srt_length]; omega)⟩
      have hlast := fit_last hf (by rw [srt_length]; exact hln) hy (t.size : Int)
      have HY := Lib.hid hy
      have HL : Hid ((srt l).length = n + 1) := by show _ = _; rw [srt_length]; exact hln
      have hn20 : n + 1 ≤ 100 := by omega
      have HE : Hid (rowE t.size l = if t.size < y.to then 1 else 0) := by
        show _ = _
        unfold rowE
        rw [if_neg (by simpa using h0), hlast]
        by_cases hx : (t.size : Int) < y.to
        · rw [decide_eq_true hx, if_pos rfl, if_pos hx]
        · rw [decide_eq_false hx, if_neg (by simp), if_neg hx]
      have HRS : Hid (rowS t.size l = if rowE t.size l = 0 then srt l else []) := rfl
      clear hf hS hl hln hy hlast h0 hn
      go_enter Try.func23, Try.ntmps23
      go_wp2_with (fail)
      refine c.mono ?_
      rintro e w1 ⟨hb, v', rfl, hw⟩
      clear c
      have HRw := Lib.hid hw
      rcases hw with ⟨_, hx⟩ | ⟨g, cap, rfl, h1, h2, h3⟩
      · have := HL.out
        rw [hx] at this
        simp at this
      · have yc := (holds_rd h3 n y HY.out).2.1
        rw [Nat.zero_add] at yc
        rw [HL.out] at HRw ⊢
        clear h1 h2 h3
        by_cases hx : (t.size : Int) < y.to
        · go_wp2
          go_ret2
          refine HP.out _ _ hb ⟨.slice none 0 0, ?_, .inl ⟨rfl, ?_⟩⟩
          · rw [HE.out, if_pos hx]; rfl
          · rw [HRS.out, HE.out, if_pos hx, if_neg (by omega)]
        · have hx' : y.to ≤ (t.size : Int) := by omega
          go_wp2
          go_ret2
          refine HP.out _ _ hb ⟨.slice (some ⟨g, 0, none⟩) (n + 1) cap, ?_, ?_⟩
          · rw [HE.out, if_neg (by omega)]; rfl
          · rw [HRS.out, if_pos (show rowE t.size l = 0 by rw [HE.out, if_neg (by omega)])]
            exact HRw.out
  · have hS : sortS l = [] := if_neg h0
    have hr : Hid (rowE t.size l = sortE l ∧ rowS t.size l = []) := by
      have h1 : rowE t.size l = sortE l := by unfold rowE; rw [if_pos (by simpa using h0)]
      exact ⟨h1, by unfold rowS; rw [if_neg (by rw [h1]; exact h0)]⟩
    rw [hS] at c
    obtain ⟨E, hE⟩ : ∃ E, sortE l = E := ⟨_, rfl⟩
    rw [hE] at c h0 hr
    have h0' : (E == 0) = false := eqF h0
    clear hE hS h0
    go_enter Try.func23, Try.ntmps23
    go_wp2_with (fail)
    refine c.mono ?_
    rintro e w1 ⟨hb, v', rfl, hw⟩
    clear c
    have HW := Lib.hid hw
    clear hw
    go_wp2
    go_ret2
    exact HP.out _ _ hb ⟨_, by rw [hr.out.1]; rfl, by rw [hr.out.2]; exact HW.out⟩

def doS (t : ByteArray) (l : List Ed) : ByteArray := if rowE t.size l = 0 then ⟨(doL t.data.toList 0 (srt l)).toArray⟩ else ⟨#[]⟩
theorem ext_list' (s : ByteArray) (a b : Nat) : (s.extract a b).data.toList = (s.data.toList.drop a).take (b - a) := by
  simp [ByteArray.data_extract]
theorem app_list (a b : ByteArray) : (a ++ b).data.toList = a.data.toList ++ b.data.toList := by simp [ByteArray.data_append]
theorem bytes_app (pre : List UInt8) (s : ByteArray) : byteCells pre ++ strCells s = byteCells (pre ++ s.data.toList) := by rw [byteCells_append, strCells_eq]

set_option maxRecDepth 100000 in
set_option maxHeartbeats 4000000 in
theorem do_e (t : ByteArray) (w : World) (v : Value) (l : List Ed) (h : Rd w v l) (hn : l.length ≤ 100) (hbig : (l.length + 1) * t.size + txS l ≤ 1099511627776) :
    Calls Try.prog 11 #[.string t, v] w fun e w' => e = .returned (.tuple #[.string (doS t l), .int .i64 (rowE t.size l)]) ∧ RowKit.Below w.heap.size w w' := by
  have c := row_e t w v l h hn
  clear h
  obtain ⟨E, hE⟩ : ∃ E, rowE t.size l = E := ⟨_, rfl⟩
  obtain ⟨D, hD⟩ : ∃ D, doS t l = D := ⟨_, rfl⟩
  rw [hD]
  unfold RowPost at c
  have hS : rowS t.size l = if E = 0 then srt l else [] := by unfold rowS; rw [hE]
  have hDD : D = if E = 0 then ⟨(doL t.data.toList 0 (srt l)).toArray⟩ else ⟨#[]⟩ := by rw [← hD]; unfold doS; rw [hE]
  have hok : E = 0 → Fit (srt l) ∧ ∀ x, x ∈ srt l → x.to ≤ (t.size : Int) := fun h0 => by
    have := rowE_ok (hE.trans h0)
    exact ⟨srt_fit this.1, this.2⟩
  rw [hE, hS] at c
  rw [hE]
  have hlen := doL_length t.data.toList (srt l) 0
  rw [srt_length, txS_srt, ← Lib.size_eq] at hlen
  have HOK := Lib.hid hok
  by_cases h0 : E = 0
  · subst h0
    rw [if_pos rfl] at c hDD
    obtain ⟨hfit, hmax⟩ := HOK.out rfl
    have HDD := Lib.hid hDD
    have HF := Lib.hid hfit
    have HM := Lib.hid hmax
    have HLN : Hid ((srt l).length = l.length) := srt_length l
    have HLEN : Hid ((doL t.data.toList 0 (srt l)).length ≤ 1099511627776) := Nat.le_trans hlen hbig
    have HS : Hid (t.data.toList.length = t.size) := (Lib.size_eq t).symm
    obtain ⟨s, hs⟩ : ∃ s, srt l = s := ⟨_, rfl⟩
    rw [hs] at c HDD HF HM HLN HLEN
    clear hE hD hS hDD hok HOK hlen hfit hmax hs hbig
    go_enter Try.func11, Try.ntmps11
    go_wp2_with (fail)
    refine c.mono ?_
    rintro e w1 ⟨hb1, v', rfl, hw⟩
    clear c
    have hv : Hid (∃ p cap, v' = .slice p s.length cap) := by
      rcases hw with ⟨rfl, rfl⟩ | ⟨g, cap, rfl, _⟩
      · exact ⟨_, _, rfl⟩
      · exact ⟨_, _, rfl⟩
    have HRd := Lib.hid hw.rd
    clear hw
    obtain ⟨p, cap, rfl⟩ := hv.out
    clear hv
    obtain ⟨N, hN⟩ : ∃ N, s.length = N := ⟨_, rfl⟩
    have HN := Lib.hid hN
    rw [hN]
    have hN20 : (N : Int) ≤ 100 := by
      have := HLN.out
      omega
    clear hN
    have hcell : Hid (∀ k x, s[k]? = some x → ∃ g off, p = some ⟨g, off, none⟩ ∧ g < w1.heap.size ∧ w1.cell? ⟨g, off + k * 3, none⟩ = some (.int .i64 x.fr) ∧ w1.cell? ⟨g, off + k * 3 + 1, none⟩ = some (.int .i64 x.to) ∧ w1.cell? ⟨g, off + k * 3 + 2, none⟩ = some (.string x.tx)) := by
      intro k x hx
      rcases HRd.out with ⟨_, h2⟩ | ⟨g, off, cap', h1, h2, h3⟩
      · rw [h2] at hx; simp at hx
      · simp only [Value.slice.injEq] at h1
        obtain ⟨a0, a1, a2⟩ := h3 k x hx
        exact ⟨g, off, h1.1, h2, a0, a1, a2⟩
    obtain ⟨B, hB⟩ : ∃ B, w1.heap.size = B := ⟨_, rfl⟩
    obtain ⟨W2, hW2⟩ : ∃ W, w1.alloc (.cells #[.pointer none, .slice none 0 0] 46) = W := ⟨_, rfl⟩
    have hbd := Lib.IsBuilderF.of (Lib.fresh_isBuilder 46 5 w1)
    have kb := (RowKit.Below.refl w1.heap.size w1).alloc (Nat.le_refl _) (.cells #[.pointer none, .slice none 0 0] 46)
    rw [hW2] at hbd kb
    rw [hB] at hbd kb
    have HBD : Hid (Lib.IsBuilderF 46 5 B B (byteCells []) W2) := hbd
    have HB := Lib.hid hB
    have HW2 := Lib.hid hW2
    clear hbd hB hW2 HRd hN20
    have hN20 : N ≤ 100 := by rw [← HN.out]; rw [HLN.out]; exact hn
    go_wp2_with (fail)
    rw [HW2.out, HB.out]
    go_loopw [9, 23] (fun av iv wr => ∃ (k at' : Nat) (pre : List UInt8), iv = .int .i64 k ∧ av = .int .i64 at' ∧ k ≤ N ∧ at' ≤ t.size ∧ Hid (∀ x, s[k]? = some x → (at' : Int) ≤ x.fr) ∧ Hid (Lib.IsBuilderF 46 5 B B (byteCells pre) wr) ∧ RowKit.Below B w1 wr ∧ Hid (pre ++ doL t.data.toList at' (s.drop k) = doL t.data.toList 0 s))
      (fun _ iv _ => N - (intOf iv).toNat)
    case atStart => exact ⟨0, 0, [], rfl, rfl, Nat.zero_le _, Nat.zero_le _, fun x hx => (HF.out.1 x (List.mem_of_getElem? hx)).1, HBD, kb, rfl⟩
    case round =>
      obtain ⟨k, at', pre, rfl, rfl, hk, hat, hnext, hbld, hbl, hpre⟩ := hrel
      have hBr : B ≤ wr.heap.size := by have := hbl.size; have := HB.out; omega
      have hprel : pre.length ≤ 1099511627776 := by
        have h1 := HLEN.out
        rw [← hpre.out, List.length_append] at h1
        omega
      by_cases hlt : k < N
      · have hltz : (k : Int) < (N : Int) := by omega
        obtain ⟨x, hx⟩ : ∃ x, s[k]? = some x := ⟨_, List.getElem?_eq_getElem (by rw [HN.out]; exact hlt)⟩
        have hm := List.mem_of_getElem? hx
        have hf1 := HF.out.1 x hm
        have hf2 := HM.out x hm
        have hf3 := hnext.out x hx
        have hf4 : ∀ y, s[k + 1]? = some y → x.to ≤ y.fr := fun y hy => HF.out.2 k x y hx hy
        obtain ⟨g, off, hp, hg, c0, c1, c2⟩ := hcell.out k x hx
        have hdr : s.drop k = x :: s.drop (k + 1) := by
          rw [List.drop_eq_getElem_cons (by rw [HN.out]; exact hlt)]
          congr 1
          exact (List.getElem?_eq_some_iff.1 hx).2
        obtain ⟨xf, xt, xx, xg⟩ := x
        dsimp only at hf1 hf2 hf3 hf4 c0 c1 c2
        obtain ⟨f, rfl⟩ : ∃ f : Nat, xf = (f : Int) := ⟨xf.toNat, by omega⟩
        obtain ⟨z, rfl⟩ : ∃ z : Nat, xt = (z : Int) := ⟨xt.toNat, by omega⟩
        have hpre2 := hpre.out
        rw [hdr] at hpre2
        simp only [doL, Int.toNat_natCast] at hpre2
        rw [← List.append_assoc, ← List.append_assoc] at hpre2
        have hwl : pre.length + (t.extract at' f ++ xx).size ≤ 1099511627776 := by
          have h1 := HLEN.out
          rw [← hpre2, List.length_append, List.length_append, List.length_append] at h1
          rw [ByteArray.size_append, Lib.size_eq (t.extract at' f), ext_list', Lib.size_eq xx]
          omega
        have hpre3 : Hid ((pre ++ (t.extract at' f ++ xx).data.toList) ++ doL t.data.toList z (s.drop (k + 1)) = doL t.data.toList 0 s) := by
          show _ = _
          rw [app_list, ext_list', ← List.append_assoc]
          exact hpre2
        have d0 := (hbl.cell (p := ⟨g, off + k * 3, none⟩) (by rw [← HB.out]; exact hg)).trans c0
        have d1 := (hbl.cell (p := ⟨g, off + k * 3 + 1, none⟩) (by rw [← HB.out]; exact hg)).trans c1
        have d2 := (hbl.cell (p := ⟨g, off + k * 3 + 2, none⟩) (by rw [← HB.out]; exact hg)).trans c2
        have hsum : (t.extract at' f).size + xx.size ≤ 1099511627776 := by rw [ByteArray.size_append] at hwl; omega
        have HNX : Hid (∀ y, s[k + 1]? = some y → (z : Int) ≤ y.fr) := hf4
        have kx := hbl.alloc hBr (.cells #[.int .i64 (f : Int), .int .i64 (z : Int), .string xx] 37)
        have bx := hbld.out.alloc (.cells #[.int .i64 (f : Int), .int .i64 (z : Int), .string xx] 37)
        obtain ⟨W3, hW3⟩ : ∃ W, wr.alloc (.cells #[.int .i64 (f : Int), .int .i64 (z : Int), .string xx] 37) = W := ⟨_, rfl⟩
        obtain ⟨B3, hB3⟩ : ∃ b, wr.heap.size = b := ⟨_, rfl⟩
        have hh : W3.heap[B3]? = some (.cells #[.int .i64 (f : Int), .int .i64 (z : Int), .string xx] 37 (0, 0)) := by rw [← hW3, ← hB3]; exact World.alloc_heap_new wr _
        have hBW3 : B ≤ W3.heap.size := by rw [← hW3]; simp; omega
        rw [hW3] at kx bx
        have cw := Any.Builder_WriteString_k Try.lays166 Try.Builder_Extra_166 B B (byteCells pre) (t.extract at' f ++ xx) W3.drew (by
          rcases bx with h | h
          · exact .inl h.drew
          · exact .inr h.drew) (by rw [byteCells_length]; omega) (by exact hBW3)
        change Calls Try.prog 24 _ _ _ at cw
        have q0 := cell_of_heap hh 0
        have q1 := cell_of_heap hh 1
        have q2 := cell_of_heap hh 2
        have HH := Lib.hid hh
        have HW3 := Lib.hid hW3
        have HB3 := Lib.hid hB3
        have h3b : B < B3 := by
          rw [← hB3]
          exact hbld.out.elim BuilderAtF.lt BuilderAtF.lt
        have hz3 : z ≤ t.size := by omega
        have hz1 : (at' : Int) ≤ (f : Int) := hf3
        have hz2 : (f : Int) ≤ (t.size : Int) := by omega
        have hd : ∀ a, ({ W3 with drawn := W3.drawn + 1 } : World).cell? a = W3.cell? a := fun _ => rfl
        obtain ⟨e1, he1⟩ : ∃ e, t.extract at' f = e := ⟨_, rfl⟩
        rw [he1] at cw hsum hpre3
        have hadd : (Op.stringOp .add e1 xx).run Try.prog W3.drew = .ok (.string (e1 ++ xx)) W3.drew := run_string_add_sum _ _ _ (by omega)
        have hadd2 : (Op.stringOp .add e1 xx).run Try.prog { W3 with drawn := W3.drawn + 1 } = .ok (.string (e1 ++ xx)) { W3 with drawn := W3.drawn + 1 } := hadd
        clear hsum
        clear hx hm hf1 hf2 hf3 hf4 c0 c1 c2 hdr hpre hpre2 hnext hbld bx hh hW3 hB3 hwl hprel hg
        subst hp
        go_wp2_with (fail)
        rw [HW3.out, HB3.out]
        go_still_tail 9, (by kernel_rfl)
        go_wp2_with (fail)
        refine cw.mono ?_
        rintro e w4 ⟨rfl, hb4, hbel4, hok4⟩
        clear cw
        have hh4 := hok4 B3 _ HH.out (fun he => by have := Option.some.inj he; omega) (fun c fz he => by cases he)
        have q1b := cell_of_heap hh4 1
        have HB4 : Hid (Lib.IsBuilderF 46 5 B B (byteCells pre ++ strCells (e1 ++ xx)) w4) := .inr hb4
        clear hb4 hok4 hh4
        go_wp2
        go_roundw
        case rel => exact ⟨k + 1, z, pre ++ (e1 ++ xx).data.toList, by go_num, rfl, by omega, by omega, HNX, by rw [← bytes_app]; exact HB4, (kx.drew).trans hbel4, hpre3⟩
        case measure => simp [intOf]; omega
      · have hltz : ¬ ((k : Int) < (N : Int)) := by omega
        have hdr : s.drop k = [] := List.drop_eq_nil_of_le (by rw [HN.out]; omega)
        have hpre2 := hpre.out
        rw [hdr] at hpre2
        simp only [doL] at hpre2
        have hext : (t.extract at' t.size).data.toList = t.data.toList.drop at' := by
          rw [ext_list', List.take_of_length_le (by rw [List.length_drop, HS.out]; exact Nat.le_refl _)]
        have hD2 : Hid (pre ++ (t.extract at' t.size).data.toList = D.data.toList) := by
          show _ = _
          rw [hext, hpre2, HDD.out]
        have hwl : pre.length + (t.extract at' t.size).size ≤ 1099511627776 := by
          have h1 := HLEN.out
          rw [← hpre2, List.length_append] at h1
          rw [Lib.size_eq (t.extract at' t.size), hext]
          omega
        have cw := Any.Builder_WriteString_k Try.lays166 Try.Builder_Extra_166 B B (byteCells pre) (t.extract at' t.size) wr hbld.out (by rw [byteCells_length]; omega) hBr
        change Calls Try.prog 24 _ _ _ at cw
        have hz1 : (at' : Int) ≤ (t.size : Int) := by omega
        obtain ⟨e1, he1⟩ : ∃ e, t.extract at' t.size = e := ⟨_, rfl⟩
        have HE1 := Lib.hid he1
        rw [he1] at cw hD2
        have HBL := Lib.hid hbl
        have HBR := Lib.hid hBr
        clear hlt hdr hpre hpre2 hnext hbld hext hwl hprel hbl hBr he1
        go_wp2_with (fail)
        try rw [HE1.out]
        refine cw.mono ?_
        rintro e w4 ⟨rfl, hb4, hbel4, hok4⟩
        clear cw hok4
        have HB4 : Lib.IsBuilderF 46 5 B B (byteCells (pre ++ e1.data.toList)) w4 := by rw [← bytes_app]; exact .inr hb4
        rw [hD2.out] at HB4
        have cs := Any.Builder_String_any_k Try.lays169 Try.Builder_Extra_169 B B D.data.toList w4 HB4 (Nat.le_trans HBR.out hbel4.size)
        change Calls Try.prog 25 _ _ _ at cs
        have HK := Lib.hid (HBL.out.trans hbel4)
        clear hb4 hbel4 HB4
        go_wp2_with (fail)
        refine cs.mono ?_
        rintro e w5 ⟨rfl, _, hbel5, _⟩
        clear cs
        go_wp2
        go_ret2
        exact ⟨rfl, hb1.trans ((HK.out.trans hbel5).mono (by have := HB.out; have := hb1.size; omega))⟩
  · have hne : (E == 0) = false := eqF h0
    rw [if_neg h0] at c hDD
    clear hE hD hS hok hlen HOK hbig h0
    subst hDD
    go_enter Try.func11, Try.ntmps11
    go_wp2_with (fail)
    refine c.mono ?_
    rintro e w1 ⟨hb1, v', rfl, hw⟩
    clear c
    have HW := Lib.hid hw
    clear hw
    go_wp2
    go_ret2
    exact ⟨rfl, hb1⟩
end Go.Proofs.Ytinanagjoaaacaa
