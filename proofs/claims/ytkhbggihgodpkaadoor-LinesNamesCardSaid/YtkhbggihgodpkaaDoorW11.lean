/-
  The law LinesTwo: it answers true.
-/
import Derived.Test.YtkhbggihgodpkaaDoorW12
namespace Go.Proofs.YtkhbggihgodpkaaDoor
open Go.RowKit Go.Shelf Go.Lib

theorem cat_list (s t : ByteArray) : (s ++ ⟨#[10]⟩ ++ t).data.toList = s.data.toList ++ 10 :: t.data.toList := by
  simp [ByteArray.data_append]
theorem cat_size (s t : ByteArray) : (s ++ ⟨#[10]⟩ ++ t).size = s.size + 1 + t.size := by
  rw [ByteArray.size_append, ByteArray.size_append]; rfl

/-- A box of two cells. -/
structure Bx (W : World) (b : Nat) (u v : Value) : Prop where
  c0 : W.cell? ⟨b, 0, none⟩ = some u
  c1 : W.cell? ⟨b, 1, none⟩ = some v
  f0 : W.frozen? ⟨b, 0, none⟩ = false
  f1 : W.frozen? ⟨b, 1, none⟩ = false
theorem Bx.lt {W : World} {b : Nat} {u v : Value} (h : Bx W b u v) : b < W.heap.size := World.block_lt_of_cell? W ⟨b, 0, none⟩ h.c0
theorem bx_new (W : World) (u v : Value) (t : TypeId) : Bx (W.alloc (.cells #[u, v] t)) W.heap.size u v := ⟨by simp, by simp, by simp, by simp⟩
theorem Bx.below {W W' : World} {b n : Nat} {u v : Value} (h : Bx W b u v) (hb : Below n W W') (hn : W.heap.size ≤ n) : Bx W' b u v := by
  have hl : b < n := by have := h.lt; omega
  exact ⟨(hb.cell hl).trans h.c0, (hb.cell hl).trans h.c1, (hb.frozen hl).trans h.f0, (hb.frozen hl).trans h.f1⟩
theorem Bx.alloc {W : World} {b : Nat} {u v : Value} (h : Bx W b u v) (o : Obj) : Bx (W.alloc o) b u v := h.below ((Below.refl W.heap.size W).alloc (Nat.le_refl _) o) (Nat.le_refl _)

theorem new_e (s : ByteArray) (w : World) (hs : (s.size : Int) ≤ 65536) (hT : Tabs w) :
    Calls Tryd.prog 10 #[.string s] w fun e w' => ∃ p, e = .returned (.tuple #[.pointer p, .int .i64 (if validD s.data.toList = true then 0 else 4)]) ∧ Below w.heap.size w w' := by
  by_cases hv : validD s.data.toList = true
  · rw [if_pos hv]
    exact (new_ok s w hs hv hT).mono fun _ _ ⟨b, _, _, he, hb, _⟩ => ⟨some ⟨b, 0, none⟩, he, hb⟩
  · rw [if_neg hv]
    exact (new_form s w hs (by simpa using hv) hT).mono fun _ _ ⟨he, hb⟩ => ⟨none, he, hb⟩

set_option maxRecDepth 100000 in
set_option maxHeartbeats 1000000 in
theorem two_long (s t : ByteArray) (w : World) (hT : Tabs w) (h1 : (s.size : Int) ≤ 140737488351232) (h2 : (t.size : Int) ≤ 140737488351232) (hl : 3000 < (s.size : Int) + (t.size : Int)) :
    Calls Tryd.prog 6 #[.string s, .string t] w fun e w' => e = .returned (.bool true) ∧ Below w.heap.size w w' := by
  have ca := awake_any w hT
  clear hT
  go_enter Tryd.func6, Tryd.ntmps6
  go_wp2_with (go_at_call 9; refine ca.mono ?_; rintro e w' ⟨rfl, hb⟩; clear ca)
  go_ret
  exact ⟨rfl, hb⟩

set_option maxRecDepth 100000 in
set_option maxHeartbeats 2000000 in
theorem two_bad (s t : ByteArray) (w : World) (hT : Tabs w) (h1 : (s.size : Int) ≤ 3000) (h2 : (t.size : Int) ≤ 3000) (hl : (s.size : Int) + (t.size : Int) ≤ 3000) (hv : (validD s.data.toList && validD t.data.toList) = false) :
    Calls Tryd.prog 6 #[.string s, .string t] w fun e w' => e = .returned (.bool true) ∧ Below w.heap.size w w' := by
  have ca := grows_awake hT
  have cs := fun W hW => new_e s W (by omega) (tabs_below hT hW)
  have ct := fun W hW => new_e t W (by omega) (tabs_below hT hW)
  have cu := fun W hW => new_e (s ++ ⟨#[10]⟩ ++ t) W (by rw [cat_size]; omega) (tabs_below hT hW)
  rw [show (if validD (s ++ ⟨#[10]⟩ ++ t).data.toList = true then (0 : Int) else 4) = 4 from by rw [cat_list, validD_nl _ _ _ (Nat.le_refl _), hv]; rfl] at cu
  have hb0 := Below.refl w.heap.size w
  obtain ⟨es, hes⟩ : ∃ e : Int, (if validD s.data.toList = true then (0 : Int) else 4) = e := ⟨_, rfl⟩
  obtain ⟨et, het⟩ : ∃ e : Int, (if validD t.data.toList = true then (0 : Int) else 4) = e := ⟨_, rfl⟩
  have hor : (es = 4) ∨ (es = 0 ∧ et = 4) := by
    cases hs : validD s.data.toList with
    | false => rw [hs] at hes; exact .inl hes.symm
    | true =>
      rw [hs] at hes hv
      rw [Bool.true_and] at hv
      rw [hv] at het
      exact .inr ⟨hes.symm, het.symm⟩
  rw [hes] at cs
  rw [het] at ct
  have HU : Hid (∀ W, Below w.heap.size w W → Calls Tryd.prog 10 #[.string (s ++ ⟨#[10]⟩ ++ t)] W fun e w' => ∃ p, e = .returned (.tuple #[.pointer p, .int .i64 4]) ∧ Below W.heap.size W w') := cu
  clear hT hv hes het cu
  rcases hor with rfl | ⟨rfl, rfl⟩
  all_goals
    go_enter Tryd.func6, Tryd.ntmps6
    go_wp2_with (fail)
    refine (ca _ hb0).mono ?_
    rintro e w1 ⟨rfl, hb1⟩
    have k1 := hb0.trans (hb1.mono hb0.size)
    go_wp2_with (fail)
    refine (cs _ k1).mono ?_
    rintro e w2 ⟨ps, rfl, hb2⟩
    have k2 := k1.trans (hb2.mono k1.size)
    go_wp2_with (fail)
    refine (ct _ k2).mono ?_
    rintro e w3 ⟨pt, rfl, hb3⟩
    have k3 := k2.trans (hb3.mono k2.size)
    go_wp2_with (fail)
    refine (HU.out _ k3).mono ?_
    rintro e w4 ⟨pu, rfl, hb4⟩
    have k4 := k3.trans (hb4.mono k3.size)
    go_wp2
    go_ret
    exact ⟨rfl, k4⟩

set_option maxRecDepth 100000 in
set_option maxHeartbeats 4000000 in
theorem two_cr (s t : ByteArray) (w : World) (hT : Tabs w) (h1 : (s.size : Int) ≤ 3000) (h2 : (t.size : Int) ≤ 3000) (hl : (s.size : Int) + (t.size : Int) ≤ 3000) (hvs : validD s.data.toList = true) (hvt : validD t.data.toList = true) (h13 : s.data.toList.getD (s.data.toList.length - 1) 0 = 13) (hpos : 0 < s.size) :
    Calls Tryd.prog 6 #[.string s, .string t] w fun e w' => e = .returned (.bool true) ∧ Below w.heap.size w w' := by
  have ca := grows_awake hT
  have cs := fun W hW => new_ok s W (by omega) hvs (tabs_below hT hW)
  have ct := fun W hW => new_ok t W (by omega) hvt (tabs_below hT hW)
  have cu := fun W hW => new_ok (s ++ ⟨#[10]⟩ ++ t) W (by rw [cat_size]; omega) (by rw [cat_list, validD_nl _ _ _ (Nat.le_refl _), hvs, hvt]; rfl) (tabs_below hT hW)
  have hb0 := Below.refl w.heap.size w
  have HU : Hid (∀ W, Below w.heap.size w W → Calls Tryd.prog 10 #[.string (s ++ ⟨#[10]⟩ ++ t)] W fun e w' => ∃ b g cap, e = .returned (.tuple #[.pointer (some ⟨b, 0, none⟩), .int .i64 0]) ∧ Below W.heap.size W w' ∧ Idx w' b g cap (s ++ ⟨#[10]⟩ ++ t) ∧ W.heap.size ≤ b ∧ W.heap.size ≤ g) := cu
  obtain ⟨n, hn⟩ : ∃ n, s.size - 1 = n := ⟨_, rfl⟩
  have hn1 : n < s.size := by omega
  have hto : ((s.size : Int) - 1).toNat = n := by omega
  have hz0 : (0 : Int) ≤ (s.size : Int) - 1 := by omega
  have hz1 : (1 : Int) ≤ (s.size : Int) := by omega
  have hz2 : (s.size : Int) - 1 < (s.size : Int) := by omega
  have hne : s.toList.isEmpty = false := by
    rw [Lib.toList_data]
    cases h' : s.data.toList with
    | nil => have h0 := Lib.size_eq s; rw [h', List.length_nil] at h0; omega
    | cons _ _ => rfl
  obtain ⟨c, hc⟩ : ∃ c, s[n] = c := ⟨_, rfl⟩
  have hcl : s.data.toList.getD (s.data.toList.length - 1) 0 = c := by rw [← Lib.size_eq, hn, ← hc, ← byte_at]
  rw [h13] at hcl
  subst hcl
  clear hT hvs hvt cu h13 hn
  go_enter Tryd.func6, Tryd.ntmps6
  go_wp2_with (fail)
  refine (ca _ hb0).mono ?_
  rintro e w1 ⟨rfl, hb1⟩
  have k1 := hb0.trans (hb1.mono hb0.size)
  go_wp2_with (fail)
  refine (cs _ k1).mono ?_
  rintro e w2 ⟨bs, gs, caps, rfl, hb2, hIs, hx1, hx2⟩
  clear hx1 hx2
  have HIs2 := Lib.hid hIs
  clear hIs
  have k2 := k1.trans (hb2.mono k1.size)
  go_wp2_with (fail)
  refine (ct _ k2).mono ?_
  rintro e w3 ⟨bt, gt, capt, rfl, hb3, hIt, hx1, hx2⟩
  clear hx1 hx2
  have HIt3 := Lib.hid hIt
  clear hIt
  have HIs3 := Lib.hid (HIs2.out.below hb3 (Nat.le_refl _))
  have k3 := k2.trans (hb3.mono k2.size)
  go_wp2_with (fail)
  refine (HU.out _ k3).mono ?_
  rintro e w4 ⟨bu, gu, capu, rfl, hb4, hIu, hx1, hx2⟩
  clear hx1 hx2
  have HIu4 := Lib.hid hIu
  clear hIu
  have HIs4 := Lib.hid (HIs3.out.below hb4 (Nat.le_refl _))
  have HIt4 := Lib.hid (HIt3.out.below hb4 (Nat.le_refl _))
  have k4 := k3.trans (hb4.mono k3.size)
  clear HIs2 HIs3 HIt3 hb1 hb2 hb3 hb4 k1 k2 k3 ca cs ct HU
  go_wp2
  go_ret
  exact ⟨rfl, k4⟩

/-! ### The loop -/
set_option maxRecDepth 100000 in
set_option maxHeartbeats 8000000 in
theorem two_nil (s t : ByteArray) (w : World) (hT : Tabs w) (h1 : (s.size : Int) ≤ 3000) (h2 : (t.size : Int) ≤ 3000) (hl : (s.size : Int) + (t.size : Int) ≤ 3000) (hvs : validD s.data.toList = true) (hvt : validD t.data.toList = true) (hpos : s.size = 0) :
    Calls Tryd.prog 6 #[.string s, .string t] w fun e w' => e = .returned (.bool true) ∧ Below w.heap.size w w' := by
  have h13 : s.data.toList = [] ∨ s.data.toList.getD (s.data.toList.length - 1) 0 ≠ 13 := .inl (List.eq_nil_of_length_eq_zero (by rw [← Lib.size_eq]; exact hpos))
  have ca := grows_awake hT
  have cs := fun W hW => new_ok s W (by omega) hvs (tabs_below hT hW)
  have ct := fun W hW => new_ok t W (by omega) hvt (tabs_below hT hW)
  have cu := fun W hW => new_ok (s ++ ⟨#[10]⟩ ++ t) W (by rw [cat_size]; omega) (by rw [cat_list, validD_nl _ _ _ (Nat.le_refl _), hvs, hvt]; rfl) (tabs_below hT hW)
  have hb0 := Below.refl w.heap.size w
  have HU : Hid (∀ W, Below w.heap.size w W → Calls Tryd.prog 10 #[.string (s ++ ⟨#[10]⟩ ++ t)] W fun e w' => ∃ b g cap, e = .returned (.tuple #[.pointer (some ⟨b, 0, none⟩), .int .i64 0]) ∧ Below W.heap.size W w' ∧ Idx w' b g cap (s ++ ⟨#[10]⟩ ++ t) ∧ W.heap.size ≤ b ∧ W.heap.size ≤ g) := cu
  have hA : ∀ k, k < (spans s.data.toList).length → (spans (s ++ ⟨#[10]⟩ ++ t).data.toList)[k]? = (spans s.data.toList)[k]? := fun k hk => by
    rw [cat_list, spans_two _ _ h13, List.getElem?_append_left hk]
  have hBB : ∀ k y, (spans t.data.toList)[k]? = some y → (spans (s ++ ⟨#[10]⟩ ++ t).data.toList)[(spans s.data.toList).length + k]? = some (y.1 + (s.size + 1), y.2 + (s.size + 1)) := fun k y hy => by
    rw [cat_list, spans_two _ _ h13, List.getElem?_append_right (by omega), Nat.add_sub_cancel_left]
    unfold shift
    rw [List.getElem?_map, hy, ← Lib.size_eq]
    rfl
  have hNU : (spans (s ++ ⟨#[10]⟩ ++ t).data.toList).length = (spans s.data.toList).length + (spans t.data.toList).length := by
    rw [cat_list, spans_two _ _ h13, List.length_append]
    unfold shift
    rw [List.length_map]
  have hNA := spans_length s.data.toList
  have hNB := spans_length t.data.toList
  rw [← Lib.size_eq] at hNA hNB
  obtain ⟨NA, hna⟩ : ∃ n, (spans s.data.toList).length = n := ⟨_, rfl⟩
  obtain ⟨NB, hnb⟩ : ∃ n, (spans t.data.toList).length = n := ⟨_, rfl⟩
  rw [hna] at hA hBB hNU hNA
  rw [hnb] at hNU hNB
  have HA := Lib.hid hA
  have HBB := Lib.hid hBB
  have HNU := Lib.hid hNU
  have Hna := Lib.hid hna
  have Hnb := Lib.hid hnb
  have hNAz : (NA : Int) ≤ 3001 := by omega
  have hNBz : (NB : Int) ≤ 3001 := by omega
  clear hA hBB hNU hna hnb hNA hNB h13
  have hne : s.toList.isEmpty = true := by rw [Lib.toList_data, List.eq_nil_of_length_eq_zero (show s.data.toList.length = 0 by rw [← Lib.size_eq]; exact hpos)]; rfl
  clear hT hvs hvt cu hpos
  go_enter Tryd.func6, Tryd.ntmps6
  go_wp2_with (fail)
  refine (ca _ hb0).mono ?_
  rintro e w1 ⟨rfl, hb1⟩
  have k1 := hb0.trans (hb1.mono hb0.size)
  go_wp2_with (fail)
  refine (cs _ k1).mono ?_
  rintro e w2 ⟨bs, gs, caps, rfl, hb2, hIs, hx1, hx2⟩
  clear hx1 hx2
  have HIs2 := Lib.hid hIs
  clear hIs
  have k2 := k1.trans (hb2.mono k1.size)
  go_wp2_with (fail)
  refine (ct _ k2).mono ?_
  rintro e w3 ⟨bt, gt, capt, rfl, hb3, hIt, hx1, hx2⟩
  clear hx1 hx2
  have HIt3 := Lib.hid hIt
  clear hIt
  have HIs3 := Lib.hid (HIs2.out.below hb3 (Nat.le_refl _))
  have k3 := k2.trans (hb3.mono k2.size)
  go_wp2_with (fail)
  refine (HU.out _ k3).mono ?_
  rintro e w4 ⟨bu, gu, capu, rfl, hb4, hIu, hx1, hx2⟩
  clear hx1 hx2
  have HIu4 := Lib.hid hIu
  clear hIu
  have HIs4 := Lib.hid (HIs3.out.below hb4 (Nat.le_refl _))
  have HIt4 := Lib.hid (HIt3.out.below hb4 (Nat.le_refl _))
  have k4 := k3.trans (hb4.mono k3.size)
  clear HIs2 HIs3 HIt3 hb1 hb2 hb3 hb4 k1 k2 k3 ca cs ct HU
  have lu : ∀ W, Idx W bu gu capu (s ++ ⟨#[10]⟩ ++ t) → Calls Tryd.prog 13 #[.pointer (some ⟨bu, 0, none⟩)] W fun e w' => e = .returned (.int .i64 ((NA : Int) + (NB : Int))) ∧ w' = W := fun W h => by
    have := lines_ok h
    rw [HNU.out, Int.natCast_add] at this
    exact this
  have ls : ∀ W, Idx W bs gs caps s → Calls Tryd.prog 13 #[.pointer (some ⟨bs, 0, none⟩)] W fun e w' => e = .returned (.int .i64 (NA : Int)) ∧ w' = W := fun W h => by
    have := lines_ok h
    rw [Hna.out] at this
    exact this
  have lt : ∀ W, Idx W bt gt capt t → Calls Tryd.prog 13 #[.pointer (some ⟨bt, 0, none⟩)] W fun e w' => e = .returned (.int .i64 (NB : Int)) ∧ w' = W := fun W h => by
    have := lines_ok h
    rw [Hnb.out] at this
    exact this
  have LU := Lib.hid lu
  have LS := Lib.hid ls
  have LT := Lib.hid lt
  clear lu ls lt
  go_wp2_with (fail)
  refine (LU.out _ HIu4.out).mono ?_
  rintro e w4a ⟨rfl, rfl⟩
  go_wp2_with (fail)
  refine (LS.out _ HIs4.out).mono ?_
  rintro e w4b ⟨rfl, rfl⟩
  go_wp2_with (fail)
  refine (LT.out _ HIt4.out).mono ?_
  rintro e w4c ⟨rfl, rfl⟩
  go_wp2_with (fail)
  obtain ⟨B, hB⟩ : ∃ B, w4c.heap.size = B := ⟨_, rfl⟩
  obtain ⟨wB, hwB⟩ : ∃ W, w4c = W := ⟨_, rfl⟩
  rw [hwB] at hB HIu4 HIs4 HIt4 k4 ⊢
  have hb0 : Below B wB wB := Below.refl _ _
  have HBs := Lib.hid hB
  clear hB hwB
  go_loopw [11] (fun iv wr => ∃ k : Nat, iv = .int .i64 k ∧ k ≤ NA + NB ∧ Below B wB wr) (fun iv _ => NA + NB - (intOf iv).toNat)
  case atStart => exact ⟨0, rfl, Nat.zero_le _, hb0⟩
  case round =>
    obtain ⟨k, rfl, hk, hbr⟩ := hrel
    have hBr : B ≤ wr.heap.size := by have := hbr.size; have := HBs.out; omega
    have HIur := Lib.hid (HIu4.out.below hbr (by rw [HBs.out]; exact Nat.le_refl _))
    have HIsr := Lib.hid (HIs4.out.below hbr (by rw [HBs.out]; exact Nat.le_refl _))
    have HItr := Lib.hid (HIt4.out.below hbr (by rw [HBs.out]; exact Nat.le_refl _))
    by_cases hlt : k < NA + NB
    · have hltz : (k : Int) < (NA : Int) + (NB : Int) := by omega
      by_cases hka : k < NA
      · have hkaz : (k : Int) < (NA : Int) := by omega
        obtain ⟨x, hx⟩ : ∃ x, (spans s.data.toList)[k]? = some x := ⟨_, List.getElem?_eq_getElem (by rw [Hna.out]; exact hka)⟩
        have cu := line_ok HIur.out k x ((HA.out k hka).trans hx)
        have cs := fun W (h : Idx W bs gs caps s) => line_ok h k x hx
        have CS := Lib.hid cs
        clear cs hx
        go_wp2_with (fail)
        refine (LU.out _ HIur.out).mono ?_
        rintro e wra ⟨rfl, rfl⟩
        go_wp2_with (fail)
        refine cu.mono ?_
        rintro e w5 ⟨rfl, hb5⟩
        clear cu
        have HIs5 := Lib.hid (HIsr.out.below hb5 (Nat.le_refl _))
        go_wp2_with (fail)
        obtain ⟨W5, hW5⟩ : ∃ W5, w5.alloc (.cells #[.int .i64 (x.1 : Int), .int .i64 (x.2 : Int)] 32) = W5 := ⟨_, rfl⟩
        obtain ⟨B5, hB5⟩ : ∃ B5, w5.heap.size = B5 := ⟨_, rfl⟩
        have x5 := bx_new w5 (.int .i64 (x.1 : Int)) (.int .i64 (x.2 : Int)) 32
        have m5 := (hbr.trans (hb5.mono hBr)).alloc (by have := hb5.size; omega) (.cells #[.int .i64 (x.1 : Int), .int .i64 (x.2 : Int)] 32)
        have HIs6 := Lib.hid (HIs5.out.below ((Below.refl w5.heap.size w5).alloc (Nat.le_refl _) (.cells #[.int .i64 (x.1 : Int), .int .i64 (x.2 : Int)] 32)) (Nat.le_refl _))
        rw [hW5] at x5 m5 HIs6 ⊢
        rw [hB5] at x5 ⊢
        have HX5 := Lib.hid x5
        clear hW5 hB5 x5 HIs5
        refine (CS.out _ HIs6.out).mono ?_
        rintro e w6 ⟨rfl, hb6⟩
        have HIs7 := Lib.hid (HIs6.out.below hb6 (Nat.le_refl _))
        have HX6 := Lib.hid (HX5.out.below hb6 (Nat.le_refl _))
        have m6 := m5.trans (hb6.mono (by have := m5.size; have := HBs.out; omega))
        go_wp2_with (fail)
        obtain ⟨W6, hW6⟩ : ∃ W6, w6.alloc (.cells #[.int .i64 (x.1 : Int), .int .i64 (x.2 : Int)] 32) = W6 := ⟨_, rfl⟩
        obtain ⟨B6, hB6⟩ : ∃ B6, w6.heap.size = B6 := ⟨_, rfl⟩
        have y6 := bx_new w6 (.int .i64 (x.1 : Int)) (.int .i64 (x.2 : Int)) 32
        have x6 := HX6.out.alloc (.cells #[.int .i64 (x.1 : Int), .int .i64 (x.2 : Int)] 32)
        have m7 := m6.alloc (by have := m6.size; have := HBs.out; omega) (.cells #[.int .i64 (x.1 : Int), .int .i64 (x.2 : Int)] 32)
        have HIs8 := Lib.hid (HIs7.out.below ((Below.refl w6.heap.size w6).alloc (Nat.le_refl _) (.cells #[.int .i64 (x.1 : Int), .int .i64 (x.2 : Int)] 32)) (Nat.le_refl _))
        rw [hW6] at x6 y6 m7 HIs8 ⊢
        rw [hB6] at y6 ⊢
        obtain ⟨x60, x61, _, _⟩ := x6
        obtain ⟨y60, y61, _, _⟩ := y6
        clear hW6 hB6 HX5 HX6 HIs6 HIs7
        refine (LS.out _ HIs8.out).mono ?_
        rintro e w7 ⟨rfl, rfl⟩
        go_wp2
        go_roundw
        case rel => exact ⟨k + 1, by go_num, by omega, m7⟩
        case measure => simp [intOf]; omega
      · obtain ⟨j, rfl⟩ : ∃ j, k = NA + j := ⟨k - NA, by omega⟩
        have hkaz : (NA : Int) ≤ (NA : Int) + (j : Int) := by omega
        obtain ⟨y, hy⟩ : ∃ y, (spans t.data.toList)[j]? = some y := ⟨_, List.getElem?_eq_getElem (by rw [Hnb.out]; omega)⟩
        have hsp := span_at hy
        have hyz1 : (y.1 : Int) ≤ 3000 := by have := Lib.size_eq t; omega
        have hyz2 : (y.2 : Int) ≤ 3000 := by have := Lib.size_eq t; omega
        have cu : Calls Tryd.prog 14 #[.pointer (some ⟨bu, 0, none⟩), .int .i64 ((NA : Int) + (j : Int))] wr fun e w' => e = .returned (.tuple #[.agg #[.int .i64 ((y.1 : Int) + (s.size : Int) + 1), .int .i64 ((y.2 : Int) + (s.size : Int) + 1)], .int .i64 0]) ∧ Below wr.heap.size wr w' := by
          have := line_ok HIur.out (NA + j) _ (HBB.out j y hy)
          rw [Int.natCast_add NA j, show (((y.1 + (s.size + 1) : Nat)) : Int) = (y.1 : Int) + (s.size : Int) + 1 from by omega, show (((y.2 + (s.size + 1) : Nat)) : Int) = (y.2 : Int) + (s.size : Int) + 1 from by omega] at this
          exact this
        have cs := fun W (h : Idx W bs gs caps s) => line_bad h ((NA : Int) + (j : Int)) (by rw [Hna.out]; omega)
        have ct := fun W (h : Idx W bt gt capt t) => line_ok h j y hy
        have CS := Lib.hid cs
        have CT := Lib.hid ct
        rw [Int.natCast_add] at hltz ⊢
        have hsub : (NA : Int) + (j : Int) - (NA : Int) = (j : Int) := by omega
        clear cs ct hy hsp hka
        go_wp2_with (fail)
        refine (LU.out _ HIur.out).mono ?_
        rintro e wra ⟨rfl, rfl⟩
        go_wp2_with (fail)
        refine cu.mono ?_
        rintro e w5 ⟨rfl, hb5⟩
        clear cu
        have HIs5 := Lib.hid (HIsr.out.below hb5 (Nat.le_refl _))
        have HIt5 := Lib.hid (HItr.out.below hb5 (Nat.le_refl _))
        go_wp2_with (fail)
        obtain ⟨W5, hW5⟩ : ∃ W5, w5.alloc (.cells #[.int .i64 ((y.1 : Int) + (s.size : Int) + 1), .int .i64 ((y.2 : Int) + (s.size : Int) + 1)] 32) = W5 := ⟨_, rfl⟩
        obtain ⟨B5, hB5⟩ : ∃ B5, w5.heap.size = B5 := ⟨_, rfl⟩
        have x5 := bx_new w5 (.int .i64 ((y.1 : Int) + (s.size : Int) + 1)) (.int .i64 ((y.2 : Int) + (s.size : Int) + 1)) 32
        have m5 := (hbr.trans (hb5.mono hBr)).alloc (by have := hb5.size; omega) (.cells #[.int .i64 ((y.1 : Int) + (s.size : Int) + 1), .int .i64 ((y.2 : Int) + (s.size : Int) + 1)] 32)
        have k5 := (Below.refl w5.heap.size w5).alloc (Nat.le_refl _) (.cells #[.int .i64 ((y.1 : Int) + (s.size : Int) + 1), .int .i64 ((y.2 : Int) + (s.size : Int) + 1)] 32)
        have HIs6 := Lib.hid (HIs5.out.below k5 (Nat.le_refl _))
        have HIt6 := Lib.hid (HIt5.out.below k5 (Nat.le_refl _))
        clear k5
        rw [hW5] at x5 m5 HIs6 HIt6 ⊢
        rw [hB5] at x5 ⊢
        have HX5 := Lib.hid x5
        clear hW5 hB5 x5 HIs5 HIt5
        refine (CS.out _ HIs6.out).mono ?_
        rintro e w6 ⟨rfl, hb6⟩
        have HIs7 := Lib.hid (HIs6.out.below hb6 (Nat.le_refl _))
        have HIt7 := Lib.hid (HIt6.out.below hb6 (Nat.le_refl _))
        have HX6 := Lib.hid (HX5.out.below hb6 (Nat.le_refl _))
        have m6 := m5.trans (hb6.mono (by have := m5.size; have := HBs.out; omega))
        go_wp2_with (fail)
        obtain ⟨W6, hW6⟩ : ∃ W6, w6.alloc (.cells #[.int .i64 0, .int .i64 0] 32) = W6 := ⟨_, rfl⟩
        obtain ⟨B6, hB6⟩ : ∃ B6, w6.heap.size = B6 := ⟨_, rfl⟩
        have y6 := bx_new w6 (.int .i64 0) (.int .i64 0) 32
        have x6 := HX6.out.alloc (.cells #[.int .i64 0, .int .i64 0] 32)
        have hBB6 : B ≤ B6 := by rw [← hB6]; have := m6.size; have := HBs.out; omega
        have h56 : B5 < B6 := by rw [← hB6]; exact HX6.out.lt
        have m7 := m6.alloc (by have := m6.size; have := HBs.out; omega) (.cells #[.int .i64 0, .int .i64 0] 32)
        have k6 := (Below.refl w6.heap.size w6).alloc (Nat.le_refl _) (.cells #[.int .i64 0, .int .i64 0] 32)
        have HIs8 := Lib.hid (HIs7.out.below k6 (Nat.le_refl _))
        have HIt8 := Lib.hid (HIt7.out.below k6 (Nat.le_refl _))
        clear k6
        rw [hW6] at x6 y6 m7 HIs8 HIt8 ⊢
        rw [hB6] at y6 ⊢
        have HX7 := Lib.hid x6
        have HY7 := Lib.hid y6
        clear hW6 hB6 HX5 HX6 HIs6 HIs7 HIt6 HIt7 x6 y6
        refine (LS.out _ HIs8.out).mono ?_
        rintro e w7 ⟨rfl, rfl⟩
        go_wp2_with (fail)
        refine (LS.out _ HIs8.out).mono ?_
        rintro e w7a ⟨rfl, rfl⟩
        go_wp2_with (fail)
        refine (CT.out _ HIt8.out).mono ?_
        rintro e w8 ⟨rfl, hb8⟩
        obtain ⟨x80, x81, _, _⟩ := HX7.out.below hb8 (Nat.le_refl _)
        obtain ⟨y80, y81, yf0, yf1⟩ := HY7.out.below hb8 (Nat.le_refl _)
        have m8 := m7.trans (hb8.mono (by have := m7.size; have := HBs.out; omega))
        have hne : B5 ≠ B6 := by omega
        have hne' : B6 ≠ B5 := by omega
        have s1 : (w8.setCell ⟨B6, 0, none⟩ (.int .i64 (y.1 : Int))).cell? ⟨B6, 1, none⟩ = _ := (World.cell?_setCell_other _ _ _ _ (by simp)).trans y81
        have s2 : ((w8.setCell ⟨B6, 0, none⟩ (.int .i64 (y.1 : Int))).setCell ⟨B6, 1, none⟩ (.int .i64 (y.2 : Int))).cell? ⟨B6, 1, none⟩ = _ := World.cell?_setCell_same _ _ _ s1
        have s3 : (((w8.setCell ⟨B6, 0, none⟩ (.int .i64 (y.1 : Int))).setCell ⟨B6, 1, none⟩ (.int .i64 (y.2 : Int))).setCell ⟨B6, 0, none⟩ (.int .i64 ((y.1 : Int) + (s.size : Int) + 1))).cell? ⟨B6, 1, none⟩ = _ := (World.cell?_setCell_other _ _ _ _ (by simp)).trans s2
        have s4 : ((((w8.setCell ⟨B6, 0, none⟩ (.int .i64 (y.1 : Int))).setCell ⟨B6, 1, none⟩ (.int .i64 (y.2 : Int))).setCell ⟨B6, 0, none⟩ (.int .i64 ((y.1 : Int) + (s.size : Int) + 1))).setCell ⟨B6, 1, none⟩ (.int .i64 ((y.2 : Int) + (s.size : Int) + 1))).cell? ⟨B6, 1, none⟩ = _ := World.cell?_setCell_same _ _ _ s3
        clear hb8 HX7 HY7 HIs8 HIt8 hsub
        go_wp2
        go_roundw
        case rel => exact ⟨NA + j + 1, by go_num, by omega, ((((m8.setCell (by show B ≤ B6; omega) _).setCell (by show B ≤ B6; omega) _).setCell (by show B ≤ B6; omega) _).setCell (by show B ≤ B6; omega) _)⟩
        case measure => simp [intOf]; omega
    · have hltz : ¬ ((k : Int) < (NA : Int) + (NB : Int)) := by omega
      go_wp2_with (fail)
      refine (LU.out _ HIur.out).mono ?_
      rintro e wra ⟨rfl, rfl⟩
      go_wp2
      go_ret
      exact ⟨rfl, k4.trans (hbr.mono (by have := k4.size; have := HBs.out; omega))⟩

set_option maxRecDepth 100000 in
set_option maxHeartbeats 8000000 in
theorem two_go (s t : ByteArray) (w : World) (hT : Tabs w) (h1 : (s.size : Int) ≤ 3000) (h2 : (t.size : Int) ≤ 3000) (hl : (s.size : Int) + (t.size : Int) ≤ 3000) (hvs : validD s.data.toList = true) (hvt : validD t.data.toList = true) (h14 : s.data.toList.getD (s.data.toList.length - 1) 0 ≠ 13) (hpos : 0 < s.size) :
    Calls Tryd.prog 6 #[.string s, .string t] w fun e w' => e = .returned (.bool true) ∧ Below w.heap.size w w' := by
  have h13 : s.data.toList = [] ∨ s.data.toList.getD (s.data.toList.length - 1) 0 ≠ 13 := .inr h14
  have ca := grows_awake hT
  have cs := fun W hW => new_ok s W (by omega) hvs (tabs_below hT hW)
  have ct := fun W hW => new_ok t W (by omega) hvt (tabs_below hT hW)
  have cu := fun W hW => new_ok (s ++ ⟨#[10]⟩ ++ t) W (by rw [cat_size]; omega) (by rw [cat_list, validD_nl _ _ _ (Nat.le_refl _), hvs, hvt]; rfl) (tabs_below hT hW)
  have hb0 := Below.refl w.heap.size w
  have HU : Hid (∀ W, Below w.heap.size w W → Calls Tryd.prog 10 #[.string (s ++ ⟨#[10]⟩ ++ t)] W fun e w' => ∃ b g cap, e = .returned (.tuple #[.pointer (some ⟨b, 0, none⟩), .int .i64 0]) ∧ Below W.heap.size W w' ∧ Idx w' b g cap (s ++ ⟨#[10]⟩ ++ t) ∧ W.heap.size ≤ b ∧ W.heap.size ≤ g) := cu
  have hA : ∀ k, k < (spans s.data.toList).length → (spans (s ++ ⟨#[10]⟩ ++ t).data.toList)[k]? = (spans s.data.toList)[k]? := fun k hk => by
    rw [cat_list, spans_two _ _ h13, List.getElem?_append_left hk]
  have hBB : ∀ k y, (spans t.data.toList)[k]? = some y → (spans (s ++ ⟨#[10]⟩ ++ t).data.toList)[(spans s.data.toList).length + k]? = some (y.1 + (s.size + 1), y.2 + (s.size + 1)) := fun k y hy => by
    rw [cat_list, spans_two _ _ h13, List.getElem?_append_right (by omega), Nat.add_sub_cancel_left]
    unfold shift
    rw [List.getElem?_map, hy, ← Lib.size_eq]
    rfl
  have hNU : (spans (s ++ ⟨#[10]⟩ ++ t).data.toList).length = (spans s.data.toList).length + (spans t.data.toList).length := by
    rw [cat_list, spans_two _ _ h13, List.length_append]
    unfold shift
    rw [List.length_map]
  have hNA := spans_length s.data.toList
  have hNB := spans_length t.data.toList
  rw [← Lib.size_eq] at hNA hNB
  obtain ⟨NA, hna⟩ : ∃ n, (spans s.data.toList).length = n := ⟨_, rfl⟩
  obtain ⟨NB, hnb⟩ : ∃ n, (spans t.data.toList).length = n := ⟨_, rfl⟩
  rw [hna] at hA hBB hNU hNA
  rw [hnb] at hNU hNB
  have HA := Lib.hid hA
  have HBB := Lib.hid hBB
  have HNU := Lib.hid hNU
  have Hna := Lib.hid hna
  have Hnb := Lib.hid hnb
  have hNAz : (NA : Int) ≤ 3001 := by omega
  have hNBz : (NB : Int) ≤ 3001 := by omega
  clear hA hBB hNU hna hnb hNA hNB h13
  obtain ⟨n, hn⟩ : ∃ n, s.size - 1 = n := ⟨_, rfl⟩
  have hn1 : n < s.size := by omega
  have hto : ((s.size : Int) - 1).toNat = n := by omega
  have hz0 : (0 : Int) ≤ (s.size : Int) - 1 := by omega
  have hz1 : (1 : Int) ≤ (s.size : Int) := by omega
  have hz2 : (s.size : Int) - 1 < (s.size : Int) := by omega
  have hne : s.toList.isEmpty = false := by
    rw [Lib.toList_data]
    cases h' : s.data.toList with
    | nil => have h0 := Lib.size_eq s; rw [h', List.length_nil] at h0; omega
    | cons _ _ => rfl
  obtain ⟨c, hc⟩ : ∃ c, s[n] = c := ⟨_, rfl⟩
  have hcl : s.data.toList.getD (s.data.toList.length - 1) 0 = c := by rw [← Lib.size_eq, hn, ← hc, ← byte_at]
  rw [hcl] at h14
  have hc13 : ((c.toNat : Int) == 13) = false := u8_ne h14
  clear hT hvs hvt cu h14 hn hcl
  go_enter Tryd.func6, Tryd.ntmps6
  go_wp2_with (fail)
  refine (ca _ hb0).mono ?_
  rintro e w1 ⟨rfl, hb1⟩
  have k1 := hb0.trans (hb1.mono hb0.size)
  go_wp2_with (fail)
  refine (cs _ k1).mono ?_
  rintro e w2 ⟨bs, gs, caps, rfl, hb2, hIs, hx1, hx2⟩
  clear hx1 hx2
  have HIs2 := Lib.hid hIs
  clear hIs
  have k2 := k1.trans (hb2.mono k1.size)
  go_wp2_with (fail)
  refine (ct _ k2).mono ?_
  rintro e w3 ⟨bt, gt, capt, rfl, hb3, hIt, hx1, hx2⟩
  clear hx1 hx2
  have HIt3 := Lib.hid hIt
  clear hIt
  have HIs3 := Lib.hid (HIs2.out.below hb3 (Nat.le_refl _))
  have k3 := k2.trans (hb3.mono k2.size)
  go_wp2_with (fail)
  refine (HU.out _ k3).mono ?_
  rintro e w4 ⟨bu, gu, capu, rfl, hb4, hIu, hx1, hx2⟩
  clear hx1 hx2
  have HIu4 := Lib.hid hIu
  clear hIu
  have HIs4 := Lib.hid (HIs3.out.below hb4 (Nat.le_refl _))
  have HIt4 := Lib.hid (HIt3.out.below hb4 (Nat.le_refl _))
  have k4 := k3.trans (hb4.mono k3.size)
  clear HIs2 HIs3 HIt3 hb1 hb2 hb3 hb4 k1 k2 k3 ca cs ct HU
  have lu : ∀ W, Idx W bu gu capu (s ++ ⟨#[10]⟩ ++ t) → Calls Tryd.prog 13 #[.pointer (some ⟨bu, 0, none⟩)] W fun e w' => e = .returned (.int .i64 ((NA : Int) + (NB : Int))) ∧ w' = W := fun W h => by
    have := lines_ok h
    rw [HNU.out, Int.natCast_add] at this
    exact this
  have ls : ∀ W, Idx W bs gs caps s → Calls Tryd.prog 13 #[.pointer (some ⟨bs, 0, none⟩)] W fun e w' => e = .returned (.int .i64 (NA : Int)) ∧ w' = W := fun W h => by
    have := lines_ok h
    rw [Hna.out] at this
    exact this
  have lt : ∀ W, Idx W bt gt capt t → Calls Tryd.prog 13 #[.pointer (some ⟨bt, 0, none⟩)] W fun e w' => e = .returned (.int .i64 (NB : Int)) ∧ w' = W := fun W h => by
    have := lines_ok h
    rw [Hnb.out] at this
    exact this
  have LU := Lib.hid lu
  have LS := Lib.hid ls
  have LT := Lib.hid lt
  clear lu ls lt
  go_wp2_with (fail)
  refine (LU.out _ HIu4.out).mono ?_
  rintro e w4a ⟨rfl, rfl⟩
  go_wp2_with (fail)
  refine (LS.out _ HIs4.out).mono ?_
  rintro e w4b ⟨rfl, rfl⟩
  go_wp2_with (fail)
  refine (LT.out _ HIt4.out).mono ?_
  rintro e w4c ⟨rfl, rfl⟩
  go_wp2_with (fail)
  obtain ⟨B, hB⟩ : ∃ B, w4c.heap.size = B := ⟨_, rfl⟩
  obtain ⟨wB, hwB⟩ : ∃ W, w4c = W := ⟨_, rfl⟩
  rw [hwB] at hB HIu4 HIs4 HIt4 k4 ⊢
  have hb0 : Below B wB wB := Below.refl _ _
  have HBs := Lib.hid hB
  clear hB hwB
  go_loopw [11] (fun iv wr => ∃ k : Nat, iv = .int .i64 k ∧ k ≤ NA + NB ∧ Below B wB wr) (fun iv _ => NA + NB - (intOf iv).toNat)
  case atStart => exact ⟨0, rfl, Nat.zero_le _, hb0⟩
  case round =>
    obtain ⟨k, rfl, hk, hbr⟩ := hrel
    have hBr : B ≤ wr.heap.size := by have := hbr.size; have := HBs.out; omega
    have HIur := Lib.hid (HIu4.out.below hbr (by rw [HBs.out]; exact Nat.le_refl _))
    have HIsr := Lib.hid (HIs4.out.below hbr (by rw [HBs.out]; exact Nat.le_refl _))
    have HItr := Lib.hid (HIt4.out.below hbr (by rw [HBs.out]; exact Nat.le_refl _))
    by_cases hlt : k < NA + NB
    · have hltz : (k : Int) < (NA : Int) + (NB : Int) := by omega
      by_cases hka : k < NA
      · have hkaz : (k : Int) < (NA : Int) := by omega
        obtain ⟨x, hx⟩ : ∃ x, (spans s.data.toList)[k]? = some x := ⟨_, List.getElem?_eq_getElem (by rw [Hna.out]; exact hka)⟩
        have cu := line_ok HIur.out k x ((HA.out k hka).trans hx)
        have cs := fun W (h : Idx W bs gs caps s) => line_ok h k x hx
        have CS := Lib.hid cs
        clear cs hx
        go_wp2_with (fail)
        refine (LU.out _ HIur.out).mono ?_
        rintro e wra ⟨rfl, rfl⟩
        go_wp2_with (fail)
        refine cu.mono ?_
        rintro e w5 ⟨rfl, hb5⟩
        clear cu
        have HIs5 := Lib.hid (HIsr.out.below hb5 (Nat.le_refl _))
        go_wp2_with (fail)
        obtain ⟨W5, hW5⟩ : ∃ W5, w5.alloc (.cells #[.int .i64 (x.1 : Int), .int .i64 (x.2 : Int)] 32) = W5 := ⟨_, rfl⟩
        obtain ⟨B5, hB5⟩ : ∃ B5, w5.heap.size = B5 := ⟨_, rfl⟩
        have x5 := bx_new w5 (.int .i64 (x.1 : Int)) (.int .i64 (x.2 : Int)) 32
        have m5 := (hbr.trans (hb5.mono hBr)).alloc (by have := hb5.size; omega) (.cells #[.int .i64 (x.1 : Int), .int .i64 (x.2 : Int)] 32)
        have HIs6 := Lib.hid (HIs5.out.below ((Below.refl w5.heap.size w5).alloc (Nat.le_refl _) (.cells #[.int .i64 (x.1 : Int), .int .i64 (x.2 : Int)] 32)) (Nat.le_refl _))
        rw [hW5] at x5 m5 HIs6 ⊢
        rw [hB5] at x5 ⊢
        have HX5 := Lib.hid x5
        clear hW5 hB5 x5 HIs5
        refine (CS.out _ HIs6.out).mono ?_
        rintro e w6 ⟨rfl, hb6⟩
        have HIs7 := Lib.hid (HIs6.out.below hb6 (Nat.le_refl _))
        have HX6 := Lib.hid (HX5.out.below hb6 (Nat.le_refl _))
        have m6 := m5.trans (hb6.mono (by have := m5.size; have := HBs.out; omega))
        go_wp2_with (fail)
        obtain ⟨W6, hW6⟩ : ∃ W6, w6.alloc (.cells #[.int .i64 (x.1 : Int), .int .i64 (x.2 : Int)] 32) = W6 := ⟨_, rfl⟩
        obtain ⟨B6, hB6⟩ : ∃ B6, w6.heap.size = B6 := ⟨_, rfl⟩
        have y6 := bx_new w6 (.int .i64 (x.1 : Int)) (.int .i64 (x.2 : Int)) 32
        have x6 := HX6.out.alloc (.cells #[.int .i64 (x.1 : Int), .int .i64 (x.2 : Int)] 32)
        have m7 := m6.alloc (by have := m6.size; have := HBs.out; omega) (.cells #[.int .i64 (x.1 : Int), .int .i64 (x.2 : Int)] 32)
        have HIs8 := Lib.hid (HIs7.out.below ((Below.refl w6.heap.size w6).alloc (Nat.le_refl _) (.cells #[.int .i64 (x.1 : Int), .int .i64 (x.2 : Int)] 32)) (Nat.le_refl _))
        rw [hW6] at x6 y6 m7 HIs8 ⊢
        rw [hB6] at y6 ⊢
        obtain ⟨x60, x61, _, _⟩ := x6
        obtain ⟨y60, y61, _, _⟩ := y6
        clear hW6 hB6 HX5 HX6 HIs6 HIs7
        refine (LS.out _ HIs8.out).mono ?_
        rintro e w7 ⟨rfl, rfl⟩
        go_wp2
        go_roundw
        case rel => exact ⟨k + 1, by go_num, by omega, m7⟩
        case measure => simp [intOf]; omega
      · obtain ⟨j, rfl⟩ : ∃ j, k = NA + j := ⟨k - NA, by omega⟩
        have hkaz : (NA : Int) ≤ (NA : Int) + (j : Int) := by omega
        obtain ⟨y, hy⟩ : ∃ y, (spans t.data.toList)[j]? = some y := ⟨_, List.getElem?_eq_getElem (by rw [Hnb.out]; omega)⟩
        have hsp := span_at hy
        have hyz1 : (y.1 : Int) ≤ 3000 := by have := Lib.size_eq t; omega
        have hyz2 : (y.2 : Int) ≤ 3000 := by have := Lib.size_eq t; omega
        have cu : Calls Tryd.prog 14 #[.pointer (some ⟨bu, 0, none⟩), .int .i64 ((NA : Int) + (j : Int))] wr fun e w' => e = .returned (.tuple #[.agg #[.int .i64 ((y.1 : Int) + (s.size : Int) + 1), .int .i64 ((y.2 : Int) + (s.size : Int) + 1)], .int .i64 0]) ∧ Below wr.heap.size wr w' := by
          have := line_ok HIur.out (NA + j) _ (HBB.out j y hy)
          rw [Int.natCast_add NA j, show (((y.1 + (s.size + 1) : Nat)) : Int) = (y.1 : Int) + (s.size : Int) + 1 from by omega, show (((y.2 + (s.size + 1) : Nat)) : Int) = (y.2 : Int) + (s.size : Int) + 1 from by omega] at this
          exact this
        have cs := fun W (h : Idx W bs gs caps s) => line_bad h ((NA : Int) + (j : Int)) (by rw [Hna.out]; omega)
        have ct := fun W (h : Idx W bt gt capt t) => line_ok h j y hy
        have CS := Lib.hid cs
        have CT := Lib.hid ct
        rw [Int.natCast_add] at hltz ⊢
        have hsub : (NA : Int) + (j : Int) - (NA : Int) = (j : Int) := by omega
        clear cs ct hy hsp hka
        go_wp2_with (fail)
        refine (LU.out _ HIur.out).mono ?_
        rintro e wra ⟨rfl, rfl⟩
        go_wp2_with (fail)
        refine cu.mono ?_
        rintro e w5 ⟨rfl, hb5⟩
        clear cu
        have HIs5 := Lib.hid (HIsr.out.below hb5 (Nat.le_refl _))
        have HIt5 := Lib.hid (HItr.out.below hb5 (Nat.le_refl _))
        go_wp2_with (fail)
        obtain ⟨W5, hW5⟩ : ∃ W5, w5.alloc (.cells #[.int .i64 ((y.1 : Int) + (s.size : Int) + 1), .int .i64 ((y.2 : Int) + (s.size : Int) + 1)] 32) = W5 := ⟨_, rfl⟩
        obtain ⟨B5, hB5⟩ : ∃ B5, w5.heap.size = B5 := ⟨_, rfl⟩
        have x5 := bx_new w5 (.int .i64 ((y.1 : Int) + (s.size : Int) + 1)) (.int .i64 ((y.2 : Int) + (s.size : Int) + 1)) 32
        have m5 := (hbr.trans (hb5.mono hBr)).alloc (by have := hb5.size; omega) (.cells #[.int .i64 ((y.1 : Int) + (s.size : Int) + 1), .int .i64 ((y.2 : Int) + (s.size : Int) + 1)] 32)
        have k5 := (Below.refl w5.heap.size w5).alloc (Nat.le_refl _) (.cells #[.int .i64 ((y.1 : Int) + (s.size : Int) + 1), .int .i64 ((y.2 : Int) + (s.size : Int) + 1)] 32)
        have HIs6 := Lib.hid (HIs5.out.below k5 (Nat.le_refl _))
        have HIt6 := Lib.hid (HIt5.out.below k5 (Nat.le_refl _))
        clear k5
        rw [hW5] at x5 m5 HIs6 HIt6 ⊢
        rw [hB5] at x5 ⊢
        have HX5 := Lib.hid x5
        clear hW5 hB5 x5 HIs5 HIt5
        refine (CS.out _ HIs6.out).mono ?_
        rintro e w6 ⟨rfl, hb6⟩
        have HIs7 := Lib.hid (HIs6.out.below hb6 (Nat.le_refl _))
        have HIt7 := Lib.hid (HIt6.out.below hb6 (Nat.le_refl _))
        have HX6 := Lib.hid (HX5.out.below hb6 (Nat.le_refl _))
        have m6 := m5.trans (hb6.mono (by have := m5.size; have := HBs.out; omega))
        go_wp2_with (fail)
        obtain ⟨W6, hW6⟩ : ∃ W6, w6.alloc (.cells #[.int .i64 0, .int .i64 0] 32) = W6 := ⟨_, rfl⟩
        obtain ⟨B6, hB6⟩ : ∃ B6, w6.heap.size = B6 := ⟨_, rfl⟩
        have y6 := bx_new w6 (.int .i64 0) (.int .i64 0) 32
        have x6 := HX6.out.alloc (.cells #[.int .i64 0, .int .i64 0] 32)
        have hBB6 : B ≤ B6 := by rw [← hB6]; have := m6.size; have := HBs.out; omega
        have h56 : B5 < B6 := by rw [← hB6]; exact HX6.out.lt
        have m7 := m6.alloc (by have := m6.size; have := HBs.out; omega) (.cells #[.int .i64 0, .int .i64 0] 32)
        have k6 := (Below.refl w6.heap.size w6).alloc (Nat.le_refl _) (.cells #[.int .i64 0, .int .i64 0] 32)
        have HIs8 := Lib.hid (HIs7.out.below k6 (Nat.le_refl _))
        have HIt8 := Lib.hid (HIt7.out.below k6 (Nat.le_refl _))
        clear k6
        rw [hW6] at x6 y6 m7 HIs8 HIt8 ⊢
        rw [hB6] at y6 ⊢
        have HX7 := Lib.hid x6
        have HY7 := Lib.hid y6
        clear hW6 hB6 HX5 HX6 HIs6 HIs7 HIt6 HIt7 x6 y6
        refine (LS.out _ HIs8.out).mono ?_
        rintro e w7 ⟨rfl, rfl⟩
        go_wp2_with (fail)
        refine (LS.out _ HIs8.out).mono ?_
        rintro e w7a ⟨rfl, rfl⟩
        go_wp2_with (fail)
        refine (CT.out _ HIt8.out).mono ?_
        rintro e w8 ⟨rfl, hb8⟩
        obtain ⟨x80, x81, _, _⟩ := HX7.out.below hb8 (Nat.le_refl _)
        obtain ⟨y80, y81, yf0, yf1⟩ := HY7.out.below hb8 (Nat.le_refl _)
        have m8 := m7.trans (hb8.mono (by have := m7.size; have := HBs.out; omega))
        have hne : B5 ≠ B6 := by omega
        have hne' : B6 ≠ B5 := by omega
        have s1 : (w8.setCell ⟨B6, 0, none⟩ (.int .i64 (y.1 : Int))).cell? ⟨B6, 1, none⟩ = _ := (World.cell?_setCell_other _ _ _ _ (by simp)).trans y81
        have s2 : ((w8.setCell ⟨B6, 0, none⟩ (.int .i64 (y.1 : Int))).setCell ⟨B6, 1, none⟩ (.int .i64 (y.2 : Int))).cell? ⟨B6, 1, none⟩ = _ := World.cell?_setCell_same _ _ _ s1
        have s3 : (((w8.setCell ⟨B6, 0, none⟩ (.int .i64 (y.1 : Int))).setCell ⟨B6, 1, none⟩ (.int .i64 (y.2 : Int))).setCell ⟨B6, 0, none⟩ (.int .i64 ((y.1 : Int) + (s.size : Int) + 1))).cell? ⟨B6, 1, none⟩ = _ := (World.cell?_setCell_other _ _ _ _ (by simp)).trans s2
        have s4 : ((((w8.setCell ⟨B6, 0, none⟩ (.int .i64 (y.1 : Int))).setCell ⟨B6, 1, none⟩ (.int .i64 (y.2 : Int))).setCell ⟨B6, 0, none⟩ (.int .i64 ((y.1 : Int) + (s.size : Int) + 1))).setCell ⟨B6, 1, none⟩ (.int .i64 ((y.2 : Int) + (s.size : Int) + 1))).cell? ⟨B6, 1, none⟩ = _ := World.cell?_setCell_same _ _ _ s3
        clear hb8 HX7 HY7 HIs8 HIt8 hsub
        go_wp2
        go_roundw
        case rel => exact ⟨NA + j + 1, by go_num, by omega, ((((m8.setCell (by show B ≤ B6; omega) _).setCell (by show B ≤ B6; omega) _).setCell (by show B ≤ B6; omega) _).setCell (by show B ≤ B6; omega) _)⟩
        case measure => simp [intOf]; omega
    · have hltz : ¬ ((k : Int) < (NA : Int) + (NB : Int)) := by omega
      go_wp2_with (fail)
      refine (LU.out _ HIur.out).mono ?_
      rintro e wra ⟨rfl, rfl⟩
      go_wp2
      go_ret
      exact ⟨rfl, k4.trans (hbr.mono (by have := k4.size; have := HBs.out; omega))⟩

theorem two_law (s t : ByteArray) (w : World) (hT : Tabs w) (h1 : (s.size : Int) ≤ 140737488351232) (h2 : (t.size : Int) ≤ 140737488351232) :
    Calls Tryd.prog 6 #[.string s, .string t] w fun e w' => e = .returned (.bool true) ∧ Below w.heap.size w w' := by
  by_cases hl : 3000 < (s.size : Int) + (t.size : Int)
  · exact two_long s t w hT h1 h2 hl
  cases hv : (validD s.data.toList && validD t.data.toList) with
  | false => exact two_bad s t w hT (by omega) (by omega) (by omega) hv
  | true =>
    obtain ⟨hvs, hvt⟩ := (Bool.and_eq_true_iff).1 hv
    by_cases hpos : 0 < s.size
    · by_cases h13 : s.data.toList.getD (s.data.toList.length - 1) 0 = 13
      · exact two_cr s t w hT (by omega) (by omega) (by omega) hvs hvt h13 hpos
      · exact two_go s t w hT (by omega) (by omega) (by omega) hvs hvt h13 hpos
    · exact two_nil s t w hT (by omega) (by omega) (by omega) hvs hvt (by omega)
end Go.Proofs.YtkhbggihgodpkaaDoor
