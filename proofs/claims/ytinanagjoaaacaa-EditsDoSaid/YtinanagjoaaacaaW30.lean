/-
  EditsDo: a walk.
-/
import Derived.Test.YtinanagjoaaacaaW22
import Derived.Test.YtinanagjoaaacaaW29
namespace Go.Proofs.Ytinanagjoaaacaa
open Go.RowKit Go.Shelf Go.Lib Go.Sort

theorem same_self : ∀ l : List Ed, sameE l l = true
  | [] => rfl
  | x :: l => by simp [sameE, eqE, same_self l]
/-- A row of its own: where its texts lie. -/
def TxAt (W : World) (p : Option Addr) (N : Nat) : Prop := ∀ g, p = some ⟨g, 0, none⟩ → ∀ j, j < N → (∃ u, W.cell? ⟨g, j * 3 + 2, none⟩ = some u) ∧ W.frozen? ⟨g, j * 3 + 2, none⟩ = false
theorem Rw.txAt {W : World} {B : Nat} {v : Value} {s : List Ed} (h : Rw W B v s) : ∃ p cap, v = .slice p s.length cap ∧ (0 < s.length → ∃ g, p = some ⟨g, 0, none⟩ ∧ B ≤ g ∧ g < W.heap.size) ∧ TxAt W p s.length ∧ (∀ g, p = some ⟨g, 0, none⟩ → g < W.heap.size) := by
  rcases h with ⟨rfl, rfl⟩ | ⟨g, cap, rfl, h1, h2, h3⟩
  · exact ⟨none, 0, rfl, fun h => by simp at h, fun g hg j hj => (by cases hg), fun g hg => (by cases hg)⟩
  · refine ⟨_, cap, rfl, fun _ => ⟨g, rfl, h1, h2⟩, fun g' hg j hj => ?_, fun g' hg => ?_⟩
    · simp only [Option.some.injEq, Addr.mk.injEq, and_true] at hg
      obtain rfl := hg
      have := h3.cell (i := j) (c := 2) (by simpa using hj) (by omega)
      rw [show 0 + j * 3 + 2 = j * 3 + 2 from by omega] at this
      exact ⟨⟨_, this.1⟩, this.2⟩
    · simp only [Option.some.injEq, Addr.mk.injEq, and_true] at hg
      obtain rfl := hg
      exact h2
theorem TxAt.below {W W' : World} {p : Option Addr} {N n : Nat} (h : TxAt W p N) (hb : RowKit.Below n W W') (hp : ∀ g, p = some ⟨g, 0, none⟩ → g < n) : TxAt W' p N := fun g hg j hj => by
  obtain ⟨⟨u, h1⟩, h2⟩ := h g hg j hj
  exact ⟨⟨u, (hb.cell (p := ⟨g, j * 3 + 2, none⟩) (hp g hg)).trans h1⟩, (hb.frozen (p := ⟨g, j * 3 + 2, none⟩) (hp g hg)).trans h2⟩
theorem TxAt.set {W : World} {g N i : Nat} (h : TxAt W (some ⟨g, 0, none⟩) N) (v : Value) : TxAt (W.setCell ⟨g, i * 3 + 2, none⟩ v) (some ⟨g, 0, none⟩) N := fun g' hg j hj => by
  simp only [Option.some.injEq, Addr.mk.injEq, and_true] at hg
  obtain rfl := hg
  obtain ⟨⟨u, h1⟩, h2⟩ := h g rfl j hj
  refine ⟨?_, by rw [World.frozen?_setCell]; exact h2⟩
  by_cases hij : j = i
  · subst hij
    exact ⟨v, World.cell?_setCell_same _ _ _ h1⟩
  · exact ⟨u, by rw [World.cell?_setCell_other _ _ _ _ (fun e => hij (by simp only [Addr.mk.injEq] at e; omega))]; exact h1⟩

set_option maxRecDepth 100000 in
set_option maxHeartbeats 8000000 in
theorem ldo_any (t : ByteArray) (at' : Int) (w : World) (v : Value) (l : List Ed) (h : Rd w v l) (hint : ∀ x, x ∈ l → x.to ≤ 9223372036854775807) : Calls Try.prog 5 #[.string t, v, .int .i64 at'] w fun e w' => e = .returned (.bool true) ∧ RowKit.Below w.heap.size w w' := by
  have HRd := Lib.hid h
  have cl := long_any w v l h
  clear h
  by_cases h1 : t.size > 5000
  · have hz : (5000 : Int) < (t.size : Int) := by omega
    clear h1 cl hint
    go_enter Try.func5, Try.ntmps5
    go_wp2_with (go_at_call 10; refine (awake_any _).mono ?_; rintro e w1 ⟨rfl, hb1⟩)
    go_ret
    exact ⟨rfl, hb1⟩
  have hz : ¬ ((5000 : Int) < (t.size : Int)) := by omega
  by_cases h2 : longB l = true
  · rw [h2] at cl
    clear h1 h2 hint
    go_enter Try.func5, Try.ntmps5
    go_wp2_with (fail)
    refine cl.mono ?_
    rintro e w1 ⟨rfl, rfl⟩
    go_wp2_with (go_at_call 10; refine (awake_any _).mono ?_; rintro e w1 ⟨rfl, hb1⟩)
    go_ret
    exact ⟨rfl, hb1⟩
  have h3 : longB l = false := by simpa using h2
  rw [h3] at cl
  by_cases h4 : 1099511627776 < at'
  · clear h1 h2 h3 hint
    go_enter Try.func5, Try.ntmps5
    go_wp2_with (fail)
    refine cl.mono ?_
    rintro e w1 ⟨rfl, rfl⟩
    go_wp2_with (go_at_call 10; refine (awake_any _).mono ?_; rintro e w1 ⟨rfl, hb1⟩)
    go_ret
    exact ⟨rfl, hb1⟩
  obtain ⟨hln, htx⟩ := long_no h3
  have ht : t.size ≤ 5000 := by omega
  have b1 : (l.length + 1) * t.size ≤ 101 * 5000 := mul_bd hln ht
  have HBIG : Hid ((l.length + 1) * t.size + txS l ≤ 1099511627776) := by show _ ≤ _; omega
  have HTX : Hid (txS l ≤ 1099511627776) := by show _ ≤ _; omega
  have HAT : Hid (at' ≤ 1099511627776) := by show _ ≤ _; omega
  have HINT := Lib.hid hint
  have HLN := Lib.hid hln
  obtain ⟨p0, cap0, rfl, hsh0⟩ := HRd.out.shape
  obtain ⟨N, hN⟩ : ∃ N, l.length = N := ⟨_, rfl⟩
  have HN := Lib.hid hN
  rw [hN] at HRd cl hln ⊢
  obtain ⟨H, hH⟩ : ∃ H, w.heap.size = H := ⟨_, rfl⟩
  have hown0 := World.ownsRow_made (base := H) (e := 37) (size := 3) w #[] 0 (by omega) (by decide) rfl
  have hX0 : RowKit.Below H w (w.alloc (.cells #[] 37)) := by rw [← hH]; exact RowKit.Below.alloc (RowKit.Below.refl _ _) (Nat.le_refl _) _
  have hs0 : H ≤ (w.alloc (.cells #[] 37)).heap.size := by rw [← hH]; exact hX0.size
  have hr0 := HRd.out.below hX0 (by omega)
  have hN6 : N ≤ 1000000 := by omega
  have HH := Lib.hid hH
  clear h1 h2 h3 hsh0 hN hint htx ht b1
  rw [hH]
  clear hH
  go_enter Try.func5, Try.ntmps5
  go_wp2_with (fail)
  refine cl.mono ?_
  rintro e w0 ⟨rfl, rfl⟩
  go_upto_region 4 with (refine wpList_app2 rfl (.tmp 31) (.tmp 32) rfl rfl H hs0 _ _ [] l l N rfl rfl rfl HN.out hown0 hr0 hN6 ?_; intro p1 cap1 w2 hown2 hbX)
  have hB2 := hX0.trans hbX
  have hRin := (owns_rd hown2).1
  have HRin := Lib.hid hRin
  have HB2 := Lib.hid hB2
  clear hown0 hX0 hs0 hr0 hown2 hbX cl hB2
  have cs := sort_e w2 _ l hRin HLN.out
  clear hRin
  obtain ⟨B, hB⟩ : ∃ B, w2.heap.size = B := ⟨_, rfl⟩
  have HB := Lib.hid hB
  rw [hB] at cs
  clear hB
  go_wp2_with (fail)
  refine cs.mono ?_
  rintro e w3 ⟨hb3, va, rfl, hw3⟩
  clear cs
  obtain ⟨pa, capa, rfl, hpa, htx, hpl⟩ := hw3.txAt
  have HB3 := Lib.hid hb3
  have HRa := Lib.hid hw3.rd
  have HPA := Lib.hid hpa
  have HTXA := Lib.hid htx
  have HPL := Lib.hid hpl
  have cr := rsort_any w3 _ l (HRd.out.below (HB2.out.trans (hb3.mono (by have h1 := HB.out; have h2 := HB2.out.size; have h3 := HH.out; omega))) (Nat.le_of_eq HH.out)) HLN.out
  have hsl : (sortS l).length ≤ 100 := by
    unfold sortS
    split
    · rw [srt_length]; exact HLN.out
    · simp
  obtain ⟨E, hE⟩ : ∃ E, sortE l = E := ⟨_, rfl⟩
  obtain ⟨s, hs⟩ : ∃ s, sortS l = s := ⟨_, rfl⟩
  obtain ⟨M, hM⟩ : ∃ M, s.length = M := ⟨_, rfl⟩
  rw [hE, hs] at cr
  rw [hs, hM] at hsl HRa HPA HTXA ⊢
  rw [hE]
  have HM := Lib.hid hM
  clear hb3 hw3 hpa htx hpl hE hs hM
  go_wp2_with (fail)
  refine cr.mono ?_
  rintro e w4 ⟨hb4, vb, rfl, hrb⟩
  clear cr
  obtain ⟨pb, capb, rfl, hshb⟩ := hrb.shape
  have csm := same_any w4 _ _ s s (HRa.out.below hb4 (Nat.le_refl _)) hrb (by rw [HM.out]; omega) (by rw [HM.out]; omega)
  rw [same_self, HM.out] at csm
  rw [HM.out]
  have HB4 := Lib.hid hb4
  have hee : (E != E) = false := bneF rfl
  clear hb4 hrb hshb
  go_wp2_with (fail)
  refine csm.mono ?_
  rintro e w5 ⟨rfl, n5, rfl⟩
  clear csm
  have HTX5 : Hid (TxAt (w4.drewN n5) pa M) := HTXA.out.below (below_drewN HB4.out n5) (fun g hg => HPL.out g hg)
  have HB5 : Hid (RowKit.Below B w2 (w4.drewN n5)) := HB3.out.trans ((below_drewN HB4.out n5).mono (by have h1 := HB3.out.size; have h2 := HB.out; omega))
  obtain ⟨W5, hW5⟩ : ∃ W, w4.drewN n5 = W := ⟨_, rfl⟩
  rw [hW5] at HTX5 HB5 ⊢
  clear hW5 HB3 HB4 HRa HTXA HPL
  go_wp2
  go_loopw [12] (fun iv wr => ∃ i : Nat, iv = .int .i64 i ∧ i ≤ M ∧ Hid (TxAt wr pa M) ∧ Hid (RowKit.Below B w2 wr)) (fun iv _ => M - (intOf iv).toNat)
  case atStart => exact ⟨0, rfl, Nat.zero_le _, HTX5, HB5⟩
  case round =>
    obtain ⟨i, rfl, hi, htx, hbw⟩ := hrel
    by_cases hlt : i < M
    · have hltz : (i : Int) < (M : Int) := by omega
      obtain ⟨g, rfl, hgB, _⟩ := HPA.out (by omega)
      obtain ⟨⟨u, hu⟩, hfz⟩ := htx.out g rfl i hlt
      have HTX6 : Hid (TxAt (wr.setCell ⟨g, i * 3 + 2, none⟩ (.string ⟨#[115, 112, 111, 105, 108, 116]⟩)) (some ⟨g, 0, none⟩) M) := htx.out.set _
      have HB6 : Hid (RowKit.Below B w2 (wr.setCell ⟨g, i * 3 + 2, none⟩ (.string ⟨#[115, 112, 111, 105, 108, 116]⟩))) := RowKit.Below.setCell hbw.out hgB _
      clear htx hbw hlt
      go_wp2
      go_roundw
      case rel => exact ⟨i + 1, by go_num, by omega, HTX6, HB6⟩
      case measure => simp [intOf]; omega
    · have hltz : ¬ ((i : Int) < (M : Int)) := by omega
      have hH0 : H ≤ B := by have h1 := HB2.out.size; have h2 := HB.out; have h3 := HH.out; omega
      have HBwr : Hid (RowKit.Below H w0 wr) := HB2.out.trans (hbw.out.mono hH0)
      have HR1 : Hid (Rd wr (.slice p1 N cap1) l) := HRin.out.below hbw.out (Nat.le_of_eq HB.out)
      clear hlt htx hbw HRin
      have cd := do_e t wr _ l HR1.out HLN.out HBIG.out
      obtain ⟨D, hD⟩ : ∃ D, doS t l = D := ⟨_, rfl⟩
      obtain ⟨F, hF⟩ : ∃ F, rowE t.size l = F := ⟨_, rfl⟩
      rw [hD, hF] at cd
      go_wp2_with (fail)
      refine cd.mono ?_
      rintro e w6 ⟨rfl, hb6⟩
      clear cd
      have HB6 : Hid (RowKit.Below H w0 w6) := HBwr.out.trans (hb6.mono (by have h1 := HBwr.out.size; have h3 := HH.out; omega))
      have HR6 : Hid (Rd w6 (.slice p1 N cap1) l) := HR1.out.below hb6 (Nat.le_refl _)
      clear hb6 HBwr HR1
      have cd := rdo_any t w6 _ l (HRd.out.below HB6.out (Nat.le_of_eq HH.out)) HLN.out HBIG.out
      rw [hD, hF] at cd
      have hff : (F != F) = false := bneF rfl
      have hdd : (D.toList != D.toList) = false := by simp
      have hdd2 : (D.toList == D.toList) = true := str_eq rfl
      clear hD
      go_wp2_with (fail)
      refine cd.mono ?_
      rintro e w7 ⟨rfl, hb7⟩
      clear cd
      have HB7 : Hid (RowKit.Below H w0 w7) := HB6.out.trans (hb7.mono (by have h1 := HB6.out.size; have h3 := HH.out; omega))
      have HR7 : Hid (Rd w7 (.slice p1 N cap1) l) := HR6.out.below hb7 (Nat.le_refl _)
      clear hb7 HB6 HR6
      have cb := back_e t w7 _ l HR7.out HLN.out HBIG.out
      rw [hF] at cb
      go_wp2_with (fail)
      refine cb.mono ?_
      rintro e w8 ⟨hb8, vg, rfl, hw8⟩
      clear cb
      have HB8 : Hid (RowKit.Below H w0 w8) := HB7.out.trans (hb8.mono (by have h1 := HB7.out.size; have h3 := HH.out; omega))
      have HR8 : Hid (Rd w8 (.slice p1 N cap1) l) := HR7.out.below hb8 (Nat.le_refl _)
      have HRg := Lib.hid hw8.rd
      obtain ⟨pg, capg, rfl, hshg⟩ := HRg.out.shape
      clear hb8 HB7 HR7 hw8 hshg
      have cb := rback_any t w8 _ l (HRd.out.below HB8.out (Nat.le_of_eq HH.out)) HLN.out HBIG.out
      rw [hF] at cb
      clear hF
      go_wp2_with (fail)
      refine cb.mono ?_
      rintro e w9 ⟨hb9, vh, rfl, hrh⟩
      clear cb
      obtain ⟨ph, caph, rfl, hshh⟩ := hrh.shape
      have hbl : (backS t l).length ≤ 1000000 := by have h1 := back_len t l; have h2 := HLN.out; omega
      have csm := same_any w9 _ _ (backS t l) (backS t l) (HRg.out.below hb9 (Nat.le_refl _)) hrh hbl hbl
      rw [same_self] at csm
      have HB9 : Hid (RowKit.Below H w0 w9) := HB8.out.trans (hb9.mono (by have h1 := HB8.out.size; have h3 := HH.out; omega))
      have HR9 : Hid (Rd w9 (.slice p1 N cap1) l) := HR8.out.below hb9 (Nat.le_refl _)
      clear hb9 HB8 HR8 hrh hshh HRg hbl
      obtain ⟨K, hK⟩ : ∃ K, (backS t l).length = K := ⟨_, rfl⟩
      rw [hK] at csm ⊢
      clear hK
      go_wp2_with (fail)
      refine csm.mono ?_
      rintro e w10 ⟨rfl, n10, rfl⟩
      clear csm
      have HB10 : Hid (RowKit.Below H w0 (w9.drewN n10)) := below_drewN HB9.out n10
      have HR10 : Hid (Rd (w9.drewN n10) (.slice p1 N cap1) l) := HR9.out.below (below_drewN (RowKit.Below.refl w9.heap.size w9) n10) (Nat.le_refl _)
      obtain ⟨W10, hW10⟩ : ∃ W, w9.drewN n10 = W := ⟨_, rfl⟩
      rw [hW10] at HB10 HR10 ⊢
      clear hW10 HB9 HR9
      have cm := move_e at' W10 _ l HR10.out HLN.out HINT.out HTX.out HAT.out
      unfold MovePost at cm
      obtain ⟨V, hV⟩ : ∃ V, moveV at' l = V := ⟨_, rfl⟩
      obtain ⟨G, hG⟩ : ∃ G, moveE at' l = G := ⟨_, rfl⟩
      rw [hV, hG] at cm
      go_wp2_with (fail)
      refine cm.mono ?_
      rintro e w11 ⟨rfl, hb11⟩
      clear cm
      have HB11 : Hid (RowKit.Below H w0 w11) := HB10.out.trans (hb11.mono (by have h1 := HB10.out.size; have h3 := HH.out; omega))
      have HR11 : Hid (Rd w11 (.slice p1 N cap1) l) := HR10.out.below hb11 (Nat.le_refl _)
      clear hb11 HB10 HR10
      have cm := rmove_any at' w11 _ l (HRd.out.below HB11.out (Nat.le_of_eq HH.out)) HLN.out HINT.out HTX.out HAT.out
      unfold MovePost at cm
      rw [hV, hG] at cm
      have hvv : (V == V) = true := eqT rfl
      have hgg : (G == G) = true := eqT rfl
      clear hV hG
      go_wp2_with (fail)
      refine cm.mono ?_
      rintro e w12 ⟨rfl, hb12⟩
      clear cm
      have HB12 : Hid (RowKit.Below H w0 w12) := HB11.out.trans (hb12.mono (by have h1 := HB11.out.size; have h3 := HH.out; omega))
      have HR12 : Hid (Rd w12 (.slice p1 N cap1) l) := HR11.out.below hb12 (Nat.le_refl _)
      clear hb12 HB11 HR11
      have csm := same_any w12 _ _ l l HR12.out (HRd.out.below HB12.out (Nat.le_of_eq HH.out)) (by have := HLN.out; omega) (by have := HLN.out; omega)
      rw [same_self] at csm
      go_wp2_with (fail)
      refine csm.mono ?_
      rintro e w13 ⟨rfl, n13, rfl⟩
      clear csm
      have HB13 : Hid (RowKit.Below H w0 (w12.drewN n13)) := below_drewN HB12.out n13
      obtain ⟨W13, hW13⟩ : ∃ W, w12.drewN n13 = W := ⟨_, rfl⟩
      rw [hW13] at HB13 ⊢
      clear hW13 HB12 HR12
      go_wp2_with (fail)
      refine (awake_any _).mono ?_
      rintro e w14 ⟨rfl, hb14⟩
      have HB14 : Hid (RowKit.Below H w0 w14) := HB13.out.trans (hb14.mono (by have h1 := HB13.out.size; have h3 := HH.out; omega))
      clear hb14
      go_wp2
      go_ret
      exact ⟨rfl, HB14.out⟩
end Go.Proofs.Ytinanagjoaaacaa
