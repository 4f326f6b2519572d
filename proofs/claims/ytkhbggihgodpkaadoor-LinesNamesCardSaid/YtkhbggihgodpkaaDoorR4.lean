/-
  The reference's Offset and Pos: walks.
-/
import Derived.StillTailTactics
import Derived.Test.YtkhbggihgodpkaaDoorP11
import Derived.Test.YtkhbggihgodpkaaDoorW11
namespace Go.Proofs.YtkhbggihgodpkaaDoor
open Go.RowKit Go.Shelf Go.Lib

set_option maxRecDepth 100000 in
set_option maxHeartbeats 2000000 in
theorem refOffset_bad (s : ByteArray) (p1 p2 : Int) (w : World) (hs : s.size ≤ 65536) (hn : p1 < 0 ∨ ((spans s.data.toList).length : Int) ≤ p1 ∨ p2 < 0) :
    Calls Tryd.prog 18 #[.string s, .agg #[.int .i64 p1, .int .i64 p2]] w fun e w' => e = .returned (.tuple #[.int .i64 0, .int .i64 60]) ∧ Below w.heap.size w w' := by
  have cl := fun W => refLines_any s W (by omega)
  obtain ⟨N, hN⟩ : ∃ N, (spans s.data.toList).length = N := ⟨_, rfl⟩
  rw [hN] at cl hn
  clear hN
  have l0 := cell_new2 w (.int .i64 p1) (.int .i64 p2) 37
  have k0 := (Below.refl w.heap.size w).alloc (Nat.le_refl _) (.cells #[.int .i64 p1, .int .i64 p2] 37)
  obtain ⟨W0, hW0⟩ : ∃ W0, w.alloc (.cells #[.int .i64 p1, .int .i64 p2] 37) = W0 := ⟨_, rfl⟩
  obtain ⟨B, hB⟩ : ∃ B, w.heap.size = B := ⟨_, rfl⟩
  rw [hW0] at l0 k0
  rw [hB] at l0
  have HW := Lib.hid hW0
  have HBs := Lib.hid hB
  clear hW0 hB
  go_enter Tryd.func18, Tryd.ntmps18
  go_wp2_with (fail)
  rw [HW.out, HBs.out]
  refine (cl _).mono ?_
  rintro e w1 ⟨g, cap, rfl, hb1, hL⟩
  obtain ⟨l1a, l1b⟩ := keep2 hb1 l0
  have kw := k0.trans (hb1.mono k0.size)
  clear hL l0 hb1 k0 cl
  by_cases h0 : p1 < 0
  · clear hn
    go_wp2
    go_ret2
    exact ⟨rfl, kw⟩
  · have h0' : 0 ≤ p1 := by omega
    by_cases h2 : (N : Int) ≤ p1
    · clear hn
      go_wp2
      go_ret2
      exact ⟨rfl, kw⟩
    · have h2' : p1 < (N : Int) := by omega
      have h3 : p2 < 0 := by omega
      clear hn
      go_wp2
      go_ret2
      exact ⟨rfl, kw⟩

set_option maxRecDepth 100000 in
set_option maxHeartbeats 4000000 in
theorem refOffset_ok (s : ByteArray) (n : Nat) (c : Int) (w : World) (hs : s.size ≤ 65536) (hv : validD s.data.toList = true) (hn : n < (spans s.data.toList).length) (hc : 0 ≤ c) :
    Calls Tryd.prog 18 #[.string s, .agg #[.int .i64 (n : Int), .int .i64 c]] w fun e w' => e = .returned (.tuple #[.int .i64 (offsetV s.data.toList (n : Int) c).1, .int .i64 (offsetV s.data.toList (n : Int) c).2]) ∧ Below w.heap.size w w' := by
  have cl := fun W => refLines_any s W (by omega)
  obtain ⟨x, hx⟩ : ∃ x, (spans s.data.toList)[n]? = some x := ⟨_, List.getElem?_eq_getElem hn⟩
  have hps := place_start hv hx
  have hup := upto_start hv hx c
  have hlen0 : len16 (slice s.data.toList x.1 x.1) = 0 := by rw [slice_nil]; rfl
  have hx2 : x.2 ≤ s.size := by have := (span_at hx).2.1; rw [← Lib.size_eq] at this; exact this
  obtain ⟨N, hN⟩ : ∃ N, (spans s.data.toList).length = N := ⟨_, rfl⟩
  obtain ⟨⟨R1, R2⟩, hR⟩ : ∃ R, offsetV s.data.toList (n : Int) c = R := ⟨_, rfl⟩
  rw [hN] at cl hn
  rw [hR]
  have HV := Lib.hid hv
  have HX := Lib.hid hx
  have HR := Lib.hid hR
  have HN : Hid (N ≤ 65537) := by show _ ≤ _; rw [← hN]; have := spans_length s.data.toList; rw [← Lib.size_eq] at this; omega
  have HP : Hid (Place s.data.toList n x x.1) := hps
  have HU : Hid (Upto s.data.toList n c x.1) := hup
  have HL0 : Hid (len16 (slice s.data.toList x.1 x.1) = 0) := hlen0
  have hnz : (n : Int) < (N : Int) := by omega
  have d0 : decide ((n : Int) < 0) = false := by simp
  have d2 : decide ((N : Int) ≤ (n : Int)) = false := by simp; omega
  have d2n : decide (N ≤ n) = false := by simp; omega
  have d3 : decide (c < 0) = false := by simpa using hc
  have l0 := cell_new2 w (.int .i64 (n : Int)) (.int .i64 c) 37
  have k0 := (Below.refl w.heap.size w).alloc (Nat.le_refl _) (.cells #[.int .i64 (n : Int), .int .i64 c] 37)
  obtain ⟨W0, hW0⟩ : ∃ W0, w.alloc (.cells #[.int .i64 (n : Int), .int .i64 c] 37) = W0 := ⟨_, rfl⟩
  obtain ⟨B, hB⟩ : ∃ B, w.heap.size = B := ⟨_, rfl⟩
  rw [hW0] at l0 k0
  rw [hB] at l0
  have HW := Lib.hid hW0
  have HBs := Lib.hid hB
  clear hW0 hB hN hv hx hR hps hup hlen0
  go_enter Tryd.func18, Tryd.ntmps18
  go_wp2_with (fail)
  rw [HW.out, HBs.out]
  refine (cl _).mono ?_
  rintro e w1 ⟨g, cap, rfl, hb1, hL⟩
  obtain ⟨l1a, l1b⟩ := keep2 hb1 l0
  obtain ⟨g0, g1⟩ := hL.at_ HX.out
  have kw := k0.trans (hb1.mono k0.size)
  have kw2 := kw.alloc kw.size (.cells #[.int .i64 (x.1 : Int), .int .i64 (x.2 : Int)] 32)
  have l2a := cell_alloc_l (.cells #[.int .i64 (x.1 : Int), .int .i64 (x.2 : Int)] 32) l1a
  have l2b := cell_alloc_l (.cells #[.int .i64 (x.1 : Int), .int .i64 (x.2 : Int)] 32) l1b
  clear hL l0 hb1 k0 cl
  go_wp2_with (fail)
  obtain ⟨W2, hW2⟩ : ∃ W2, w1.alloc (.cells #[.int .i64 (x.1 : Int), .int .i64 (x.2 : Int)] 32) = W2 := ⟨_, rfl⟩
  obtain ⟨B2, hB2⟩ : ∃ B2, w1.heap.size = B2 := ⟨_, rfl⟩
  have x2 := cell_new2 w1 (.int .i64 (x.1 : Int)) (.int .i64 (x.2 : Int)) 32
  rw [hW2] at x2 l2a l2b kw2 ⊢
  rw [hB2] at x2 ⊢
  obtain ⟨x2a, x2b⟩ := x2
  clear hW2 hB2 l1a l1b g0 g1 kw
  go_loop [8, 9] (fun uv iv => ∃ i u : Nat, iv = .int .i64 i ∧ uv = .int .i64 u ∧ i ≤ x.2 ∧ u ≤ 2 * i ∧ Hid (Place s.data.toList n x i) ∧ Hid (len16 (slice s.data.toList x.1 i) = u) ∧ Hid (Upto s.data.toList n c i))
    (fun _ iv => x.2 - (intOf iv).toNat)
  case atStart => exact ⟨x.1, 0, rfl, rfl, HP.out.hi, by omega, HP, HL0, HU⟩
  case round =>
    obtain ⟨i, u, rfl, rfl, hi, hu, hp, hl, hup⟩ := hrel
    by_cases huc : (u : Int) = c
    · have hfin : Hid (R1 = (i : Int) ∧ R2 = 0) := by
        show _ ∧ _
        have := placeOff HV.out hp.out
        rw [hl.out, huc, HR.out] at this
        exact Prod.mk.inj this
      have t1 : ((u : Int) == c) = true := eqT huc
      clear huc
      go_wp2
      go_ret2
      exact ⟨by rw [hfin.out.1, hfin.out.2]; rfl, kw2⟩
    · have t1 : ((u : Int) == c) = false := eqF huc
      have hlc : (len16 (slice s.data.toList x.1 i) : Int) ≠ c := by rw [hl.out]; exact huc
      by_cases hie : i < x.2
      · obtain ⟨q1, q2, q3, q4, q5⟩ := off_next HV.out hp.out hie
        have q6 := upto_next HV.out hp.out hie hup.out hlc
        have h4 := szL_four (l := s.data.toList.drop i) (drop_ne (by rw [← Lib.size_eq]; omega))
        have cz := size_any s i W2 (by omega) (by omega)
        rw [q1] at cz h4
        have q7 := q3.hi
        obtain ⟨r1, hr1⟩ : ∃ r, (rn (s.data.toList.drop i)).1 = r := ⟨_, rfl⟩
        obtain ⟨d, hd⟩ : ∃ d, (rn (s.data.toList.drop i)).2 = d := ⟨_, rfl⟩
        rw [hd] at cz h4 q2 q3 q4 q6 q7
        rw [hr1] at h4 q4
        have hiez : (i : Int) < (x.2 : Int) := by omega
        have hm : max (d : Int) 1 = (d : Int) := by omega
        have hsum : (i : Int) + (d : Int) ≤ (x.2 : Int) := by omega
        have Q3 : Hid (Place s.data.toList n x (i + d)) := q3
        have Q6 : Hid (Upto s.data.toList n c (i + d)) := q6
        by_cases hd4 : d = 4
        · have Q4 : Hid (len16 (slice s.data.toList x.1 (i + d)) = u + 1 + 1) := by
            show _ = _
            rw [q4, hl.out, ← h4, decide_eq_true hd4]; rfl
          have e4 : ((d : Int) == 4) = true := eqT (by omega)
          clear q1 q3 q4 q5 q6 h4 hd hr1 hd4 huc hlc
          go_wp2_with (go_at_call 26; refine cz.mono ?_; rintro e w' ⟨rfl, rfl⟩)
          go_round
          case rel => exact ⟨i + d, u + 1 + 1, by go_num, by go_num, by omega, by omega, Q3, Q4, Q6⟩
          case measure => simp [intOf]; omega
        · have Q4 : Hid (len16 (slice s.data.toList x.1 (i + d)) = u + 1) := by
            show _ = _
            rw [q4, hl.out, ← h4, decide_eq_false hd4]; rfl
          have e4 : ((d : Int) == 4) = false := eqF (by omega)
          clear q1 q3 q4 q5 q6 h4 hd hr1 hd4 huc hlc
          go_wp2_with (go_at_call 26; refine cz.mono ?_; rintro e w' ⟨rfl, rfl⟩)
          go_round
          case rel => exact ⟨i + d, u + 1, by go_num, by go_num, by omega, by omega, Q3, Q4, Q6⟩
          case measure => simp [intOf]; omega
      · have hiez : (x.2 : Int) ≤ (i : Int) := by omega
        have hfin : Hid (R1 = 0 ∧ R2 = 60) := by
          show _ ∧ _
          have := upto_end HV.out hp.out (by omega) hup.out hlc
          rw [HR.out] at this
          exact Prod.mk.inj this
        clear huc hlc hie
        go_wp2
        go_ret2
        exact ⟨by rw [hfin.out.1, hfin.out.2]; rfl, kw2⟩

theorem refOffset_any (s : ByteArray) (p1 p2 : Int) (w : World) (hs : s.size ≤ 65536) (hv : validD s.data.toList = true) :
    Calls Tryd.prog 18 #[.string s, .agg #[.int .i64 p1, .int .i64 p2]] w fun e w' => e = .returned (.tuple #[.int .i64 (offsetV s.data.toList p1 p2).1, .int .i64 (offsetV s.data.toList p1 p2).2]) ∧ Below w.heap.size w w' := by
  by_cases hn : p1 < 0 ∨ ((spans s.data.toList).length : Int) ≤ p1 ∨ p2 < 0
  · have hv : offsetV s.data.toList p1 p2 = (0, 60) := if_pos hn
    rw [hv]
    exact refOffset_bad s p1 p2 w hs hn
  · obtain ⟨n, rfl⟩ : ∃ n : Nat, p1 = (n : Int) := ⟨p1.toNat, by omega⟩
    exact refOffset_ok s n p2 w hs hv (by omega) (by omega)

set_option maxRecDepth 100000 in
set_option maxHeartbeats 2000000 in
theorem refPos_bad (s : ByteArray) (q : Int) (w : World) (hn : q < 0 ∨ (s.size : Int) < q) :
    Calls Tryd.prog 19 #[.string s, .int .i64 q] w fun e w' => e = .returned (.tuple #[.agg #[.int .i64 0, .int .i64 0], .int .i64 1]) ∧ Below w.heap.size w w' := by
  have kw := (Below.refl w.heap.size w).alloc (Nat.le_refl _) (.cells #[.int .i64 0, .int .i64 0] 37)
  by_cases h0 : q < 0
  · clear hn
    go_enter Tryd.func19, Tryd.ntmps19
    go_wp2
    exact bodyPost_ret (v := .tuple #[.agg #[.int .i64 0, .int .i64 0], .int .i64 1]) (by simp [results, Tryd.f19, go_sem]) rfl ⟨rfl, kw⟩
  · have h1 : (s.size : Int) < q := by omega
    clear hn
    go_enter Tryd.func19, Tryd.ntmps19
    go_wp2
    exact bodyPost_ret (v := .tuple #[.agg #[.int .i64 0, .int .i64 0], .int .i64 1]) (by simp [results, Tryd.f19, go_sem]) rfl ⟨rfl, kw⟩

set_option maxRecDepth 100000 in
set_option maxHeartbeats 2000000 in
theorem refPos_mid (s : ByteArray) (k : Nat) (w : World) (hs : s.size ≤ 65536) (hv : validD s.data.toList = true) (hk : k ≤ s.size) (hst : startsAt s.data.toList k = false) :
    Calls Tryd.prog 19 #[.string s, .int .i64 (k : Int)] w fun e w' => e = .returned (.tuple #[.agg #[.int .i64 0, .int .i64 0], .int .i64 1]) ∧ Below w.heap.size w w' := by
  have kw := (Below.refl w.heap.size w).alloc (Nat.le_refl _) (.cells #[.int .i64 0, .int .i64 0] 37)
  have ce := fun W => refEdge_any s k W (by omega) hk hv
  rw [hst] at ce
  have hkz : (k : Int) ≤ (s.size : Int) := by omega
  clear hv hst
  go_enter Tryd.func19, Tryd.ntmps19
  go_wp2_with (go_at_call 31; refine (ce _).mono ?_; rintro e w' ⟨rfl, rfl⟩)
  exact bodyPost_ret (v := .tuple #[.agg #[.int .i64 0, .int .i64 0], .int .i64 1]) (by simp [results, Tryd.f19, go_sem]) rfl ⟨rfl, kw⟩

set_option maxRecDepth 100000 in
set_option maxHeartbeats 4000000 in
theorem refPos_ok (s : ByteArray) (k : Nat) (w : World) (hs : s.size ≤ 65536) (hv : validD s.data.toList = true) (hk : k ≤ s.size) (hst : startsAt s.data.toList k = true) :
    Calls Tryd.prog 19 #[.string s, .int .i64 (k : Int)] w fun e w' => e = .returned (.tuple #[.agg #[.int .i64 (posV s.data.toList (k : Int)).1.1, .int .i64 (posV s.data.toList (k : Int)).1.2], .int .i64 0]) ∧ Below w.heap.size w w' := by
  have ce := fun W => refEdge_any s k W (by omega) hk hv
  have cl := fun W => refLines_any s W (by omega)
  rw [hst] at ce
  have hkz : (k : Int) ≤ (s.size : Int) := by omega
  have hval : posV s.data.toList (k : Int) = (((lineNo s.data.toList k : Int), (len16 (slice s.data.toList (startOf s.data.toList (lineNo s.data.toList k)) (min k ((spans s.data.toList)[lineNo s.data.toList k]?.getD (0, 0)).2)) : Int)), 0) := by
    unfold posV
    rw [Int.toNat_natCast, if_neg (by rw [hst, ← Lib.size_eq]; simp; omega)]
  rw [hval]
  obtain ⟨N, hN⟩ : ∃ N, (spans s.data.toList).length = N := ⟨_, rfl⟩
  have hNs : N ≤ 65537 := by rw [← hN]; have := spans_length s.data.toList; rw [← Lib.size_eq] at this; omega
  have hN0 : 0 < N := by rw [← hN]; exact spans_ne _
  have h00 : startOf s.data.toList 0 ≤ k := by
    obtain ⟨x, hx⟩ : ∃ x, (spans s.data.toList)[0]? = some x := ⟨_, List.getElem?_eq_getElem (by rw [hN]; exact hN0)⟩
    rw [startOf_eq hx, (span_at hx).2.2.2.1 rfl]
    omega
  rw [hN] at cl
  have HN := Lib.hid hN
  have H00 : Hid (startOf s.data.toList 0 ≤ k) := h00
  obtain ⟨B, hB⟩ : ∃ B, w.heap.size = B := ⟨_, rfl⟩
  have r0 := Lib.hid (bx_new w (.int .i64 0) (.int .i64 0) 37)
  have k0 := (Below.refl w.heap.size w).alloc (Nat.le_refl _) (.cells #[.int .i64 0, .int .i64 0] 37)
  obtain ⟨W0, hW0⟩ : ∃ W0, w.alloc (.cells #[.int .i64 0, .int .i64 0] 37) = W0 := ⟨_, rfl⟩
  rw [hW0] at r0 k0
  rw [hB] at r0
  have HW := Lib.hid hW0
  have HBs := Lib.hid hB
  clear hv hst hval hN h00 hB hW0
  go_enter Tryd.func19, Tryd.ntmps19
  go_wp2_with (fail)
  rw [HW.out, HBs.out]
  refine (ce _).mono ?_
  rintro e w' ⟨rfl, rfl⟩
  clear ce
  go_wp2_with (fail)
  refine (cl _).mono ?_
  rintro e w1 ⟨g, cap, rfl, hb1, hL⟩
  have r1 := Lib.hid (r0.out.below hb1 (Nat.le_refl _))
  have k1 := k0.trans (hb1.mono k0.size)
  have HL := Lib.hid hL
  clear hL r0 k0 hb1 cl
  go_wp2_with (fail)
  go_loop [7] (fun nv => ∃ n : Nat, nv = .int .i64 n ∧ n < N ∧ Hid (startOf s.data.toList n ≤ k)) (fun nv => N - (intOf nv).toNat)
  case atStart => exact ⟨0, rfl, hN0, H00⟩
  case round =>
    obtain ⟨n, rfl, hn, hst⟩ := hrel
    have hnz : (n : Int) < (N : Int) := by omega
    have HN0 : True := trivial
    by_cases h1 : n + 1 < N
    · have h1z : (n : Int) + 1 < (N : Int) := by omega
      obtain ⟨y, hy⟩ : ∃ y, (spans s.data.toList)[n + 1]? = some y := ⟨_, List.getElem?_eq_getElem (by rw [HN.out]; exact h1)⟩
      have yc := (HL.out.at_ hy).1
      have hys := startOf_eq hy
      by_cases h2 : y.1 ≤ k
      · have h2z : (y.1 : Int) ≤ (k : Int) := by omega
        have HY : Hid (startOf s.data.toList (n + 1) ≤ k) := by show _ ≤ _; rw [hys]; exact h2
        clear hy hys
        go_wp2
        go_round
        case rel => exact ⟨n + 1, by go_num, h1, HY⟩
        case measure => simp [intOf]; omega
      · have h2z : (k : Int) < (y.1 : Int) := by omega
        have hln := lineNo_stop (k := k) (n := n) (by rw [HN.out]; exact hn) hst.out (by rw [HN.out]; exact .inr (by rw [hys]; omega))
        obtain ⟨x, hx⟩ : ∃ x, (spans s.data.toList)[n]? = some x := ⟨_, List.getElem?_eq_getElem (by rw [HN.out]; exact hn)⟩
        obtain ⟨g0, g1⟩ := HL.out.at_ hx
        have hso := startOf_eq hx
        obtain ⟨sp1, sp2, _⟩ := span_at hx
        rw [← Lib.size_eq] at sp2
        have hxk : x.1 ≤ k := by rw [← hso]; exact hst.out
        obtain ⟨e, he⟩ : ∃ e, min k x.2 = e := ⟨_, rfl⟩
        have hez : min (k : Int) (x.2 : Int) = (e : Int) := by omega
        have hes : (e : Int) ≤ (s.size : Int) := by omega
        have hxe : (x.1 : Int) ≤ (e : Int) := by omega
        have hx0 : (0 : Int) ≤ (x.1 : Int) := by omega
        have HF : Hid (len16 (slice s.data.toList (startOf s.data.toList (lineNo s.data.toList k)) (min k ((spans s.data.toList)[lineNo s.data.toList k]?.getD (0, 0)).2)) = len16 (s.extract x.1 e).data.toList ∧ lineNo s.data.toList k = n) := by
          show _ ∧ _
          rw [hln, hso, hx, Option.getD_some, he, slice_extract]
          exact ⟨rfl, rfl⟩
        have hmz : (s.extract x.1 e).size ≤ 70000 := by rw [ByteArray.size_extract]; omega
        have cu := fun W => refUnits_any (s.extract x.1 e) W hmz
        obtain ⟨u, hu⟩ : ∃ u, len16 (s.extract x.1 e).data.toList = u := ⟨_, rfl⟩
        rw [hu] at cu
        have HUU := Lib.hid hu
        have hd : ∀ a, ({ w1 with drawn := w1.drawn + 1 } : World).cell? a = w1.cell? a := fun _ => rfl
        obtain ⟨r1a, r1b, rf0, rf1⟩ := r1.out
        clear hy hys h2 hln hx hso he hu hxk sp1 sp2 hmz HN0
        go_wp2
        refine wp_region_still_tail 17 (by kernel_rfl) (by kernel_rfl) ?_
        simp only [List.take_succ_cons, List.take_zero, List.drop_succ_cons, List.drop_zero]
        repeat still_step
        still_call ((cu _).mono (fun _ _ h => ⟨h.1, h.2.symm⟩))
        repeat still_step
        refine wpStill_nil ?_
        go_wp2
        refine bodyPost_ret (v := .tuple #[.agg #[.int .i64 (n : Int), .int .i64 (u : Int)], .int .i64 0]) (by simp [results, Tryd.f19, go_sem, r1a, r1b]) rfl ⟨?_, ?_⟩
        · rw [HF.out.1, HUU.out, HF.out.2]
        · rw [HBs.out] at k1 ⊢
          exact (k1.drew.setCell (p := ⟨B, 0, none⟩) (Nat.le_refl _) _).setCell (p := ⟨B, 1, none⟩) (Nat.le_refl _) _
    · have h1z : ¬ ((n : Int) + 1 < (N : Int)) := by omega
      have hln := lineNo_stop (k := k) (n := n) (by rw [HN.out]; exact hn) hst.out (by rw [HN.out]; exact .inl (by omega))
      obtain ⟨x, hx⟩ : ∃ x, (spans s.data.toList)[n]? = some x := ⟨_, List.getElem?_eq_getElem (by rw [HN.out]; exact hn)⟩
      obtain ⟨g0, g1⟩ := HL.out.at_ hx
      have hso := startOf_eq hx
      obtain ⟨sp1, sp2, _⟩ := span_at hx
      rw [← Lib.size_eq] at sp2
      have hxk : x.1 ≤ k := by rw [← hso]; exact hst.out
      obtain ⟨e, he⟩ : ∃ e, min k x.2 = e := ⟨_, rfl⟩
      have hez : min (k : Int) (x.2 : Int) = (e : Int) := by omega
      have hes : (e : Int) ≤ (s.size : Int) := by omega
      have hxe : (x.1 : Int) ≤ (e : Int) := by omega
      have hx0 : (0 : Int) ≤ (x.1 : Int) := by omega
      have HF : Hid (len16 (slice s.data.toList (startOf s.data.toList (lineNo s.data.toList k)) (min k ((spans s.data.toList)[lineNo s.data.toList k]?.getD (0, 0)).2)) = len16 (s.extract x.1 e).data.toList ∧ lineNo s.data.toList k = n) := by
        show _ ∧ _
        rw [hln, hso, hx, Option.getD_some, he, slice_extract]
        exact ⟨rfl, rfl⟩
      have hmz : (s.extract x.1 e).size ≤ 70000 := by rw [ByteArray.size_extract]; omega
      have cu := fun W => refUnits_any (s.extract x.1 e) W hmz
      obtain ⟨u, hu⟩ : ∃ u, len16 (s.extract x.1 e).data.toList = u := ⟨_, rfl⟩
      rw [hu] at cu
      have HUU := Lib.hid hu
      have hd : ∀ a, ({ w1 with drawn := w1.drawn + 1 } : World).cell? a = w1.cell? a := fun _ => rfl
      obtain ⟨r1a, r1b, rf0, rf1⟩ := r1.out
      clear hln hx hso he hu hxk sp1 sp2 hmz HN0
      go_wp2
      refine wp_region_still_tail 17 (by kernel_rfl) (by kernel_rfl) ?_
      simp only [List.take_succ_cons, List.take_zero, List.drop_succ_cons, List.drop_zero]
      repeat still_step
      still_call ((cu _).mono (fun _ _ h => ⟨h.1, h.2.symm⟩))
      repeat still_step
      refine wpStill_nil ?_
      go_wp2
      refine bodyPost_ret (v := .tuple #[.agg #[.int .i64 (n : Int), .int .i64 (u : Int)], .int .i64 0]) (by simp [results, Tryd.f19, go_sem, r1a, r1b]) rfl ⟨?_, ?_⟩
      · rw [HF.out.1, HUU.out, HF.out.2]
      · rw [HBs.out] at k1 ⊢
        exact (k1.drew.setCell (p := ⟨B, 0, none⟩) (Nat.le_refl _) _).setCell (p := ⟨B, 1, none⟩) (Nat.le_refl _) _

theorem refPos_any (s : ByteArray) (q : Int) (w : World) (hs : s.size ≤ 65536) (hv : validD s.data.toList = true) :
    Calls Tryd.prog 19 #[.string s, .int .i64 q] w fun e w' => e = .returned (.tuple #[.agg #[.int .i64 (posV s.data.toList q).1.1, .int .i64 (posV s.data.toList q).1.2], .int .i64 (posV s.data.toList q).2]) ∧ Below w.heap.size w w' := by
  have hsz : s.data.toList.length = s.size := (Lib.size_eq s).symm
  by_cases hn : q < 0 ∨ (s.size : Int) < q
  · have hv2 : posV s.data.toList q = ((0, 0), 1) := if_pos (by rw [hsz]; omega)
    rw [hv2]
    exact refPos_bad s q w hn
  · obtain ⟨k, rfl⟩ : ∃ k : Nat, q = (k : Int) := ⟨q.toNat, by omega⟩
    cases hst : startsAt s.data.toList k with
    | false =>
      have hv2 : posV s.data.toList (k : Int) = ((0, 0), 1) := if_pos (by rw [Int.toNat_natCast]; exact .inr (.inr hst))
      rw [hv2]
      exact refPos_mid s k w hs hv (by omega) hst
    | true =>
      have h0 : (posV s.data.toList (k : Int)).2 = 0 := by
        unfold posV
        rw [Int.toNat_natCast, if_neg (by rw [hst, hsz]; simp; omega)]
      rw [h0]
      exact refPos_ok s k w hs hv (by omega) hst
end Go.Proofs.YtkhbggihgodpkaaDoor
