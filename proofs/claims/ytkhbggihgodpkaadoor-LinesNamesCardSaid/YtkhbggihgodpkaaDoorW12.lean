/-
  The law LinesTell: it answers true.
-/
import Derived.StillTailTactics
import Derived.Test.YtkhbggihgodpkaaDoorR3
import Derived.Test.YtkhbggihgodpkaaDoorW10
namespace Go.Proofs.YtkhbggihgodpkaaDoor
open Go.RowKit Go.Shelf Go.Lib

theorem tabs_below {w W : World} (hT : Tabs w) (h : Below w.heap.size w W) : Tabs W := Utf8Tabs_below hT h
theorem grows_of {f : Nat} {args : Array Value} {w : World} {v : Value} (hT : Tabs w) (h : ∀ W, Tabs W → Calls Tryd.prog f args W fun e w' => e = .returned v ∧ Below W.heap.size W w') : Grows f args w v :=
  fun W hW => h W (tabs_below hT hW)
theorem grows_awake {w : World} (hT : Tabs w) : Grows 9 #[] w (.bool true) := grows_of hT awake_any

theorem LRow.at_ {W : World} {B g cap : Nat} {s : ByteArray} (h : LRow W B g cap s) {n : Nat} {x : Nat × Nat} (hn : (spans s.data.toList)[n]? = some x) :
    W.cell? ⟨g, n * 2, none⟩ = some (.int .i64 (x.1 : Int)) ∧ W.cell? ⟨g, n * 2 + 1, none⟩ = some (.int .i64 (x.2 : Int)) := by
  have hlt : n < (spans s.data.toList).length := (List.getElem?_eq_some_iff.1 hn).1
  rw [h.2.cellAt _ (by omega), h.2.cellAt _ (by omega)]
  exact cellsS_at _ _ _ hn
theorem LRow.below {W W' : World} {B g cap n : Nat} {s : ByteArray} (h : LRow W B g cap s) (hb : Below n W W') (hn : W.heap.size ≤ n) : LRow W' B g cap s := by
  refine ⟨h.1, h.2.1, ?_⟩
  have hl := h.2.lt g rfl
  rcases h.2.2 with ⟨he, _⟩ | ⟨g', cap', cur, he, h1, h2, h3⟩
  · cases he
  · cases he
    exact .inr ⟨g, cap, cur, rfl, h1, (hb.block g (by omega)).trans h2, h3⟩

set_option maxHeartbeats 1000000 in
theorem tell_long (s : ByteArray) (n : Int) (w : World) (hs : 70000 < (s.size : Int)) (hT : Tabs w) :
    Calls Tryd.prog 3 #[.string s, .int .i64 n] w fun e w' => e = .returned (.bool true) ∧ Below w.heap.size w w' := by
  have ca := awake_any w hT
  clear hT
  go_enter Tryd.func3, Tryd.ntmps3
  go_wp2_with (go_at_call 9; refine ca.mono ?_; rintro e w' ⟨rfl, hb⟩; clear ca)
  go_ret
  exact ⟨rfl, hb⟩
set_option maxHeartbeats 1000000 in
theorem tell_large (s : ByteArray) (n : Int) (w : World) (hs : (s.size : Int) ≤ 70000) (hs2 : 65536 < (s.size : Int)) (hT : Tabs w) :
    Calls Tryd.prog 3 #[.string s, .int .i64 n] w fun e w' => e = .returned (.bool true) ∧ Below w.heap.size w w' := by
  have cn := new_big s w hs2
  have ca := fun W hW => awake_any W (tabs_below hT hW)
  clear hT
  go_enter Tryd.func3, Tryd.ntmps3
  go_wp2_with (first | (go_at_call 10; refine cn.mono ?_; rintro e w1 ⟨rfl, hb1⟩; clear cn) | (go_at_call 9; refine (ca _ hb1).mono ?_; rintro e w2 ⟨rfl, hb⟩; clear ca))
  go_ret
  exact ⟨rfl, hb1.trans (hb.mono hb1.size)⟩
set_option maxHeartbeats 1000000 in
theorem tell_form (s : ByteArray) (n : Int) (w : World) (hs2 : (s.size : Int) ≤ 65536) (hv : validD s.data.toList = false) (hT : Tabs w) :
    Calls Tryd.prog 3 #[.string s, .int .i64 n] w fun e w' => e = .returned (.bool true) ∧ Below w.heap.size w w' := by
  have cn := new_form s w hs2 hv hT
  have ca := fun W hW => awake_any W (tabs_below hT hW)
  have cv := fun W => refValid_any s W (by omega)
  rw [hv] at cv
  clear hT hv
  go_enter Tryd.func3, Tryd.ntmps3
  go_wp2_with (first | (go_at_call 10; refine cn.mono ?_; rintro e w1 ⟨rfl, hb1⟩; clear cn) | (go_at_call 11; refine (cv _).mono ?_; rintro e w1' ⟨rfl, rfl⟩; clear cv) | (go_at_call 9; refine (ca _ hb1).mono ?_; rintro e w2 ⟨rfl, hb⟩; clear ca))
  go_ret
  exact ⟨rfl, hb1.trans (hb.mono hb1.size)⟩

set_option maxRecDepth 100000 in
set_option maxHeartbeats 4000000 in
theorem tell_ok (s : ByteArray) (n : Int) (w : World) (hs2 : (s.size : Int) ≤ 65536) (hv : validD s.data.toList = true) (hT : Tabs w) :
    Calls Tryd.prog 3 #[.string s, .int .i64 n] w fun e w' => e = .returned (.bool true) ∧ Below w.heap.size w w' := by
  have cn := new_ok s w hs2 hv hT
  have ca := grows_awake hT
  have cv := fun W => refValid_any s W (by omega)
  have cl := fun W => refLines_any s W (by omega)
  rw [hv] at cv
  have HN : Hid ((spans s.data.toList).length ≤ 70001) := by show _ ≤ _; have := spans_length s.data.toList; rw [← Lib.size_eq] at this; omega
  obtain ⟨N, hN⟩ : ∃ N, (spans s.data.toList).length = N := ⟨_, rfl⟩
  have HE := Lib.hid hN
  clear hT hv hN
  go_enter Tryd.func3, Tryd.ntmps3
  go_wp2_with (first | (go_at_call 10; refine cn.mono ?_; rintro e w1 ⟨b, g, cap, rfl, hb1, hI, hlb, hlg⟩; clear cn) | (go_at_call 11; refine (cv _).mono ?_; rintro e w1' ⟨rfl, rfl⟩; clear cv) | (go_at_call 12; refine (cl _).mono ?_; rintro e w2 ⟨g2, cap2, rfl, hb2, hL⟩; clear cl))
  have HI2 := Lib.hid (hI.below hb2 (Nat.le_refl _))
  have HL2 := Lib.hid hL
  have hbb := hb1.trans (hb2.mono hb1.size)
  have c13 := hI.lines _ hb2
  rw [HE.out] at c13 ⊢
  clear hI hL
  refine c13.mono ?_
  rintro e w3 ⟨rfl, hb3⟩
  clear c13
  have hb33 := hbb.trans (hb3.mono hbb.size)
  have HI3 := Lib.hid (HI2.out.below hb3 (Nat.le_refl _))
  have HL3 := Lib.hid (HL2.out.below hb3 (Nat.le_refl _))
  have hNz : N ≤ 70001 := by have := HN.out; rw [HE.out] at this; exact this
  clear HI2 HL2 HN hb2 hb1 hbb
  go_wp2_with (fail)
  obtain ⟨B, hB⟩ : ∃ B, w3.heap.size = B := ⟨_, rfl⟩
  have HBs := Lib.hid hB
  have hb0 : Below B w3 w3 := Below.refl _ _
  clear hB
  go_loopw [8] (fun iv wr => ∃ k : Nat, iv = .int .i64 k ∧ k ≤ N ∧ Below B w3 wr) (fun iv _ => N - (intOf iv).toNat)
  case atStart => exact ⟨0, rfl, Nat.zero_le _, hb0⟩
  case round =>
    obtain ⟨k, rfl, hk, hbr⟩ := hrel
    have hBr : B ≤ wr.heap.size := by have := hbr.size; have := HBs.out; omega
    have HIr := Lib.hid (HI3.out.below hbr (by rw [HBs.out]; exact Nat.le_refl _))
    have HLr := Lib.hid (HL3.out.below hbr (by rw [HBs.out]; exact Nat.le_refl _))
    by_cases hlt : k < N
    · have hlz : (k : Int) < (N : Int) := by omega
      obtain ⟨x, hx⟩ : ∃ x, (spans s.data.toList)[k]? = some x := ⟨_, List.getElem?_eq_getElem (by rw [HE.out]; exact hlt)⟩
      have c14 := line_ok HIr.out k x hx
      have HX := Lib.hid hx
      clear hx
      go_wp2_with (go_at_call 14; refine c14.mono ?_; rintro e w4 ⟨rfl, hb4⟩; clear c14)
      have HL4 := Lib.hid (HLr.out.below hb4 (Nat.le_refl _))
      obtain ⟨l0, l1⟩ := HL4.out.at_ HX.out
      have hs4 := hb4.size
      obtain ⟨W4, hW4⟩ : ∃ W4, w4.alloc (.cells #[.int .i64 (x.1 : Int), .int .i64 (x.2 : Int)] 32) = W4 := ⟨_, rfl⟩
      obtain ⟨B4, hB4⟩ : ∃ B4, w4.heap.size = B4 := ⟨_, rfl⟩
      have y4 := cell_new2 w4 (.int .i64 (x.1 : Int)) (.int .i64 (x.2 : Int)) 32
      have l0' := cell_alloc_l (.cells #[.int .i64 (x.1 : Int), .int .i64 (x.2 : Int)] 32) l0
      have l1' := cell_alloc_l (.cells #[.int .i64 (x.1 : Int), .int .i64 (x.2 : Int)] 32) l1
      have hb5 : Below B w3 W4 := by rw [← hW4]; exact (hbr.trans (hb4.mono hBr)).alloc (by omega) _
      rw [hW4] at l0' l1' y4 ⊢
      rw [hB4] at y4 ⊢
      obtain ⟨y0, y1⟩ := y4
      clear hW4 hB4 l0 l1
      go_quiet (fail)
      go_wp2
      go_roundw
      case rel => exact ⟨k + 1, by go_num, by omega, below_drewN hb5 _⟩
      case measure => simp [intOf]; omega
    · have hlz : (N : Int) ≤ (k : Int) := by omega
      have hcr := ca.on hb33
      clear hlt
      by_cases hin : 0 ≤ n ∧ n < (N : Int)
      · obtain ⟨m, rfl⟩ : ∃ m : Nat, n = (m : Int) := ⟨n.toNat, by omega⟩
        have hmz : (m : Int) < (N : Int) := by omega
        obtain ⟨x, hx⟩ : ∃ x, (spans s.data.toList)[m]? = some x := ⟨_, List.getElem?_eq_getElem (by rw [HE.out]; omega)⟩
        have c14 := line_ok HIr.out m x hx
        have HX := Lib.hid hx
        have d1 : decide ((m : Int) < (N : Int)) = true := by simpa using hmz
        clear hx hin
        go_wp2_with (go_at_call 14; refine c14.mono ?_; rintro e w4 ⟨rfl, hb4⟩; clear c14)
        have HL4 := Lib.hid (HLr.out.below hb4 (Nat.le_refl _))
        obtain ⟨l0, l1⟩ := HL4.out.at_ HX.out
        have hs4 := hb4.size
        obtain ⟨W4, hW4⟩ : ∃ W4, w4.alloc (.cells #[.int .i64 (x.1 : Int), .int .i64 (x.2 : Int)] 32) = W4 := ⟨_, rfl⟩
        obtain ⟨B4, hB4⟩ : ∃ B4, w4.heap.size = B4 := ⟨_, rfl⟩
        have y4 := cell_new2 w4 (.int .i64 (x.1 : Int)) (.int .i64 (x.2 : Int)) 32
        have l0' := cell_alloc_l (.cells #[.int .i64 (x.1 : Int), .int .i64 (x.2 : Int)] 32) l0
        have l1' := cell_alloc_l (.cells #[.int .i64 (x.1 : Int), .int .i64 (x.2 : Int)] 32) l1
        have hb5 : Below B w3 W4 := by rw [← hW4]; exact (hbr.trans (hb4.mono hBr)).alloc (by omega) _
        rw [hW4] at l0' l1' y4 ⊢
        rw [hB4] at y4 ⊢
        obtain ⟨y0, y1⟩ := y4
        have hbW := hb33.trans (hb5.mono (by have := HBs.out; have := hb33.size; omega))
        have cW := ca W4.drew hbW.drew
        have hd : ∀ a, ({ W4 with drawn := W4.drawn + 1 } : World).cell? a = W4.cell? a := fun _ => rfl
        clear hW4 hB4 l0 l1
        go_still_tail 11, (by kernel_rfl)
        go_wp2_with (go_at_call 9; refine cW.mono ?_; rintro e w5 ⟨rfl, hb6⟩; clear cW)
        go_ret
        exact ⟨rfl, hbW.drew.trans (hb6.mono hbW.size)⟩
      · have c14 := line_bad HIr.out n (by rw [HE.out]; exact hin)
        by_cases hn0 : 0 ≤ n
        · have hnz : (N : Int) ≤ n := by omega
          have d1 : decide (0 ≤ n) = true := by simpa using hn0
          have d2 : decide (n < (N : Int)) = false := by simp; omega
          clear hin
          go_wp2_with (go_at_call 14; refine c14.mono ?_; rintro e w4 ⟨rfl, hb4⟩; clear c14)
          have hb5 := (hbr.trans (hb4.mono hBr)).alloc (by have := hb4.size; omega) (.cells #[.int .i64 0, .int .i64 0] 32)
          have hbW := hb33.trans (hb5.mono (by have := HBs.out; have := hb33.size; omega))
          have cW := ca _ hbW
          go_wp2_with (go_at_call 9; refine cW.mono ?_; rintro e w5 ⟨rfl, hb6⟩; clear cW)
          go_ret
          exact ⟨rfl, hbW.trans (hb6.mono hbW.size)⟩
        · have hnz : n < 0 := by omega
          have d1 : decide (0 ≤ n) = false := by simpa using hn0
          clear hin
          go_wp2_with (go_at_call 14; refine c14.mono ?_; rintro e w4 ⟨rfl, hb4⟩; clear c14)
          have hb5 := (hbr.trans (hb4.mono hBr)).alloc (by have := hb4.size; omega) (.cells #[.int .i64 0, .int .i64 0] 32)
          have hbW := hb33.trans (hb5.mono (by have := HBs.out; have := hb33.size; omega))
          have cW := ca _ hbW
          go_wp2_with (go_at_call 9; refine cW.mono ?_; rintro e w5 ⟨rfl, hb6⟩; clear cW)
          go_ret
          exact ⟨rfl, hbW.trans (hb6.mono hbW.size)⟩

theorem tell_law (s : ByteArray) (n : Int) (w : World) (hT : Tabs w) : Calls Tryd.prog 3 #[.string s, .int .i64 n] w fun e w' => e = .returned (.bool true) ∧ Below w.heap.size w w' := by
  by_cases h1 : 70000 < (s.size : Int)
  · exact tell_long s n w h1 hT
  by_cases h2 : 65536 < (s.size : Int)
  · exact tell_large s n w (by omega) h2 hT
  cases hv : validD s.data.toList with
  | false => exact tell_form s n w (by omega) hv hT
  | true => exact tell_ok s n w (by omega) hv hT
end Go.Proofs.YtkhbggihgodpkaaDoor
