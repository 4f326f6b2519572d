/-
  edits.Diff and edits.inner: walks.
-/
import Derived.Test.YtinanagjoaaacaaP4
import Derived.Laws.BitsAllLaws
import Derived.Test.YtinanagjoaaacaaW5
namespace Go.Proofs.Ytinanagjoaaacaa
open Go.RowKit Go.Shelf Go.Lib Go.Sort

theorem byte_at (t : ByteArray) (i : Nat) (h : i < t.size) : t[i] = t.data.toList.getD i 0 := by
  have h' : i < t.data.toList.length := by rw [← Lib.size_eq]; exact h
  rw [List.getD_eq_getElem?_getD, List.getElem?_eq_getElem h']
  rfl
theorem and_all : ∀ n : Fin 256, (n.val &&& 192 == 128) = (decide (128 ≤ n.val) && decide (n.val ≤ 191)) := by decide +kernel
theorem and_in (c : UInt8) : (bits .and .u8 (c.toNat : Int) 192 == 128) = inB c := by
  have hc : c.toNat < 256 := c.toNat_lt
  have h := u8_and_nat c.toNat 192 hc (by omega)
  have h2 := and_all ⟨c.toNat, hc⟩
  unfold inB
  rw [← h2]
  have h3 : bits .and .u8 (c.toNat : Int) 192 = ((c.toNat &&& 192 : Nat) : Int) := h
  rw [h3]
  by_cases hx : c.toNat &&& 192 = 128
  · rw [beq_iff_eq.2 (by rw [hx]; rfl), beq_iff_eq.2 hx]
  · rw [beq_eq_false_iff_ne.2 (by omega), beq_eq_false_iff_ne.2 hx]
set_option maxRecDepth 100000 in
set_option maxHeartbeats 2000000 in
theorem inner_any (t : ByteArray) (i : Nat) (w : World) : Calls Try.prog 32 #[.string t, .int .i64 i] w fun e w' => e = .returned (.bool (inn t.data.toList i)) ∧ w' = w := by
  by_cases h : i < t.size
  · have hz : (i : Int) < (t.size : Int) := by omega
    obtain ⟨c, hc⟩ : ∃ c, t[i] = c := ⟨_, rfl⟩
    have hinn : inn t.data.toList i = inB c := by
      unfold inn
      rw [← byte_at t i h, hc, decide_eq_true (by rw [← Lib.size_eq]; exact h), Bool.true_and]
    rw [hinn]
    go_enter Try.func32, Try.ntmps32
    go_wp2
    go_ret
    exact ⟨congrArg (fun z => Ending.returned (Value.bool z)) (and_in c), rfl⟩
  · have hz : ¬ ((i : Int) < (t.size : Int)) := by omega
    have hinn : inn t.data.toList i = false := by
      unfold inn
      rw [decide_eq_false (by rw [← Lib.size_eq]; exact h), Bool.false_and]
    rw [hinn]
    clear h hinn
    go_enter Try.func32, Try.ntmps32
    go_wp2
    go_ret
    exact ⟨rfl, rfl⟩

theorem str_eq {a b : ByteArray} (h : a = b) : (a.toList == b.toList) = true := by rw [h]; exact beq_self_eq_true _
theorem str_ne {a b : ByteArray} (h : a ≠ b) : (a.toList == b.toList) = false :=
  beq_eq_false_iff_ne.2 fun e => h (by
    rw [ByteArray.toList_eq, ByteArray.toList_eq] at e
    exact ByteArray.ext (Array.toList_inj.mp e))
theorem u8_eq {c d : UInt8} (h : c ≠ d) : ((c.toNat : Int) == (d.toNat : Int)) = false :=
  beq_eq_false_iff_ne.2 fun e => h (UInt8.toNat_inj.1 (by omega))
theorem bkO_pos (a b : List UInt8) {j : Nat} (h : 0 < j) : bkO a b j = if (inn a j || inn b j) = true then bkO a b (j - 1) else j := by
  obtain ⟨k, rfl⟩ : ∃ k, j = k + 1 := ⟨j - 1, by omega⟩
  rfl
theorem bkS_pos (a : List UInt8) {j : Nat} (h : 0 < j) : bkS a j = if inn a (a.length - j) = true then bkS a (j - 1) else j := by
  obtain ⟨k, rfl⟩ : ∃ k, j = k + 1 := ⟨j - 1, by omega⟩
  rfl
theorem cell_own3 (W : World) (x : Ed) : Rw (W.alloc (.cells #[.int .i64 x.fr, .int .i64 x.to, .string x.tx] 37)) W.heap.size (.slice (some ⟨W.heap.size, 0, none⟩) 1 1) [x] := by
  refine .inr ⟨W.heap.size, 1, rfl, Nat.le_refl _, by simp, fun j hj => ?_⟩
  rw [size_flatK] at hj
  rw [get_flatK _ _ _ _ hj, Nat.zero_add]
  have hj' : j < 3 := by simpa using hj
  have : j = 0 ∨ j = 1 ∨ j = 2 := by omega
  rcases this with rfl | rfl | rfl
  · exact ⟨by simp; rfl, by simp⟩
  · exact ⟨by simp; rfl, by simp⟩
  · exact ⟨by simp; rfl, by simp⟩
set_option maxRecDepth 100000 in
set_option maxHeartbeats 8000000 in
theorem diff_any (a b : ByteArray) (w : World) (hab : a ≠ b) (ha : a.size ≤ 1099511627776) (hb : b.size ≤ 1099511627776) :
    Calls Try.prog 13 #[.string a, .string b] w fun e w' => ∃ v x, e = .returned v ∧ RowKit.Below w.heap.size w w' ∧ Rw w' w.heap.size v [x] ∧ IsDf a b x := by
  have hne : (a.toList == b.toList) = false := str_ne hab
  obtain ⟨m, hm⟩ : ∃ m, min a.size b.size = m := ⟨_, rfl⟩
  have hmin : min (a.size : Int) (b.size : Int) = (m : Int) := by omega
  have HA : Hid (a.data.toList.length = a.size) := (Lib.size_eq a).symm
  have HB : Hid (b.data.toList.length = b.size) := (Lib.size_eq b).symm
  have HM := Lib.hid hm
  have hm1 : m ≤ a.size := by omega
  have hm2 : m ≤ b.size := by omega
  clear hm hab
  go_enter Try.func13, Try.ntmps13
  go_wp2
  rename_i K1 hK1
  have tail1 : ∀ (u10 u11 u12 u13 u14 u15 u16 u17 u18 u19 u20 u21 u22 u23 u24 u25 u26 u27 : Value) (i q : Nat), i ≤ m → Hid (IsCp a.data.toList b.data.toList i) → K1 { tmps := #[.string a, .string b, undef, undef, .slice none 0 0, .int .i64 (i : Int), undef, .string a, .string b, .bool false, u10, u11, u12, u13, u14, u15, u16, u17, u18, u19, u20, u21, u22, u23, u24, u25, u26, u27, undef, undef, undef, undef, undef, undef, undef, undef, undef, undef, undef, undef, undef, undef, undef, undef, undef, undef, undef, undef, undef, undef, undef, undef, undef, undef, undef, undef, undef, undef, undef, undef, undef, undef, undef, undef, undef, undef, undef, undef, undef, undef, undef, undef, undef, undef, undef, undef, undef, undef, undef, undef, undef, undef, undef, undef, undef, undef, undef, undef, undef, undef, undef, undef, undef, undef, undef, undef, undef], defers := [] } (w.drewN q) := by
    intro u10 u11 u12 u13 u14 u15 u16 u17 u18 u19 u20 u21 u22 u23 u24 u25 u26 u27 i q him HCP
    refine hK1 _ _ ?_
    clear hK1
    go_wp2
    rename_i K2 hK2
    have tail2 : ∀ (u28 u29 u30 u31 u32 u33 u34 u35 u36 u37 u38 u39 u40 u41 : Value) (f q : Nat), f ≤ i → Hid (f = bkO a.data.toList b.data.toList i) → K2 { tmps := #[.string a, .string b, undef, undef, .slice none 0 0, .int .i64 (f : Int), undef, .string a, .string b, .bool false, u10, u11, u12, u13, u14, u15, u16, u17, u18, u19, u20, u21, u22, u23, u24, u25, u26, u27, u28, u29, u30, u31, u32, u33, u34, u35, u36, u37, u38, u39, u40, u41, undef, undef, undef, undef, undef, undef, undef, undef, undef, undef, undef, undef, undef, undef, undef, undef, undef, undef, undef, undef, undef, undef, undef, undef, undef, undef, undef, undef, undef, undef, undef, undef, undef, undef, undef, undef, undef, undef, undef, undef, undef, undef, undef, undef, undef, undef, undef, undef, undef, undef, undef, undef, undef, undef, undef], defers := [] } (w.drewN q) := by
      intro u28 u29 u30 u31 u32 u33 u34 u35 u36 u37 u38 u39 u40 u41 f q hfi HF
      refine hK2 _ _ ?_
      clear hK2
      have hfm : f ≤ m := by omega
      go_wp2
      rename_i K3 hK3
      have tail3 : ∀ (u42 u43 u44 u45 u46 u47 u48 u49 u50 u51 u52 u53 u54 u55 u56 u57 u58 u59 u60 u61 u62 u63 u64 u65 u66 u67 u68 u69 : Value) (k q : Nat), k ≤ m - f → Hid (IsCs a.data.toList b.data.toList (min a.size b.size - f) k) → K3 { tmps := #[.string a, .string b, undef, undef, .slice none 0 0, .int .i64 (f : Int), .int .i64 (k : Int), .string a, .string b, .bool false, u10, u11, u12, u13, u14, u15, u16, u17, u18, u19, u20, u21, u22, u23, u24, u25, u26, u27, u28, u29, u30, u31, u32, u33, u34, u35, u36, u37, u38, u39, u40, u41, u42, u43, u44, u45, u46, u47, u48, u49, u50, u51, u52, u53, u54, u55, u56, u57, u58, u59, u60, u61, u62, u63, u64, u65, u66, u67, u68, u69, undef, undef, undef, undef, undef, undef, undef, undef, undef, undef, undef, undef, undef, undef, undef, undef, undef, undef, undef, undef, undef, undef, undef, undef, undef, undef, undef], defers := [] } (w.drewN q) := by
        intro u42 u43 u44 u45 u46 u47 u48 u49 u50 u51 u52 u53 u54 u55 u56 u57 u58 u59 u60 u61 u62 u63 u64 u65 u66 u67 u68 u69 k q hkm HCS
        refine hK3 _ _ ?_
        clear hK3
        go_wp2
        rename_i K4 hK4
        have tail4 : ∀ (u70 u71 u72 u73 u74 u75 u76 u77 u78 u79 u80 u81 : Value) (n q : Nat), n ≤ k → Hid (n = bkS a.data.toList k) → K4 { tmps := #[.string a, .string b, undef, undef, .slice none 0 0, .int .i64 (f : Int), .int .i64 (n : Int), .string a, .string b, .bool false, u10, u11, u12, u13, u14, u15, u16, u17, u18, u19, u20, u21, u22, u23, u24, u25, u26, u27, u28, u29, u30, u31, u32, u33, u34, u35, u36, u37, u38, u39, u40, u41, u42, u43, u44, u45, u46, u47, u48, u49, u50, u51, u52, u53, u54, u55, u56, u57, u58, u59, u60, u61, u62, u63, u64, u65, u66, u67, u68, u69, u70, u71, u72, u73, u74, u75, u76, u77, u78, u79, u80, u81, undef, undef, undef, undef, undef, undef, undef, undef, undef, undef, undef, undef, undef, undef, undef], defers := [] } (w.drewN q) := by
          intro u70 u71 u72 u73 u74 u75 u76 u77 u78 u79 u80 u81 n q hnk HN
          refine hK4 _ _ ?_
          clear hK4
          obtain ⟨z, hz⟩ : ∃ z : Nat, (b.size : Int) - (n : Int) = (z : Int) := ⟨b.size - n, by omega⟩
          have hfz : (f : Int) ≤ (z : Int) := by omega
          have hzb : (z : Int) ≤ (b.size : Int) := by omega
          have HX : Hid (IsDf a b ⟨(f : Int), (a.size : Int) - (n : Int), b.extract f z, 0⟩) := by
            refine ⟨i, k, f, n, HCP.out, HF.out, HCS.out, HN.out, ?_⟩
            rw [show b.size - n = z from by omega]
          obtain ⟨y, hy⟩ : ∃ y, (a.size : Int) - (n : Int) = y := ⟨_, rfl⟩
          have hy1 : 0 ≤ y := by omega
          have hy2 : y ≤ 1099511627776 := by omega
          rw [hy] at HX
          go_wp2
          go_ret
          exact ⟨_, _, rfl, (below_drewN (Below.refl _ w) q).alloc (Nat.le_refl _) _, cell_own3 (w.drewN q) ⟨(f : Int), y, b.extract f z, 0⟩, HX.out⟩
        clear hK4
        go_loopw [6] (fun nv wr => ∃ n q : Nat, nv = .int .i64 n ∧ n ≤ k ∧ Hid (bkS a.data.toList n = bkS a.data.toList k) ∧ wr = w.drewN q) (fun nv _ => (RowKit.intOf nv).toNat)
        case atStart => exact ⟨k, q, rfl, Nat.le_refl _, rfl, rfl⟩
        case round =>
          obtain ⟨n, q, rfl, hnk, hn, rfl⟩ := hrel
          by_cases h0 : 0 < n
          · have hz : (0 : Int) < (n : Int) := by omega
            obtain ⟨p, hp⟩ : ∃ p : Nat, (a.size : Int) - (n : Int) = (p : Int) := ⟨a.size - n, by omega⟩
            have hs : bkS a.data.toList n = if inn a.data.toList p = true then bkS a.data.toList (n - 1) else n := by
              rw [bkS_pos _ h0, HA.out, show a.size - n = p from by omega]
            by_cases hi : inn a.data.toList p = true
            · have hn2 : Hid (bkS a.data.toList (n - 1) = bkS a.data.toList k) := by
                show _ = _
                rw [← hn.out, hs, if_pos hi]
              clear hs hn h0
              go_wp2_with (go_at_call 32; refine (inner_any _ _ _).mono ?_; rintro e w' ⟨rfl, rfl⟩)
              go_roundw
              case rel => exact ⟨n - 1, q, by go_num, by omega, hn2, rfl⟩
              case measure => simp [RowKit.intOf]; omega
            · have hi' : inn a.data.toList p = false := by simpa using hi
              have hn2 : Hid (n = bkS a.data.toList k) := by
                show _ = _
                rw [← hn.out, hs, if_neg hi]
              clear hs hn h0 hi
              go_wp2_with (go_at_call 32; refine (inner_any _ _ _).mono ?_; rintro e w' ⟨rfl, rfl⟩)
              exact tail4 _ _ _ _ _ _ _ _ _ _ _ _ n q hnk hn2
          · have hz : ¬ ((0 : Int) < (n : Int)) := by omega
            have hn2 : Hid (n = bkS a.data.toList k) := by
              show _ = _
              rw [← hn.out, show n = 0 from by omega]; rfl
            clear hn h0
            go_wp2
            exact tail4 _ _ _ _ _ _ _ _ _ _ _ _ n q hnk hn2
      clear hK3
      go_loopw [6] (fun kv wr => ∃ k q : Nat, kv = .int .i64 k ∧ k ≤ m - f ∧ Hid (∀ j, j < k → a.data.toList.getD (a.data.toList.length - 1 - j) 0 = b.data.toList.getD (b.data.toList.length - 1 - j) 0) ∧ wr = w.drewN q) (fun kv _ => m - f - (RowKit.intOf kv).toNat)
      case atStart => exact ⟨0, q, rfl, Nat.zero_le _, fun j h => by omega, rfl⟩
      case round =>
        obtain ⟨k, q, rfl, hkm, heq, rfl⟩ := hrel
        by_cases hlt : k < m - f
        · have hz : (k : Int) < (m : Int) - (f : Int) := by omega
          obtain ⟨p, hp⟩ : ∃ p : Nat, (a.size : Int) - 1 - (k : Int) = (p : Int) := ⟨a.size - 1 - k, by omega⟩
          obtain ⟨r, hr⟩ : ∃ r : Nat, (b.size : Int) - 1 - (k : Int) = (r : Int) := ⟨b.size - 1 - k, by omega⟩
          have hpa : (p : Int) < (a.size : Int) := by omega
          have hrb : (r : Int) < (b.size : Int) := by omega
          have hpn : p < a.size := by omega
          have hrn : r < b.size := by omega
          obtain ⟨c, hc⟩ : ∃ c, a[p] = c := ⟨_, rfl⟩
          obtain ⟨d, hd⟩ : ∃ c, b[r] = c := ⟨_, rfl⟩
          have hcc : Hid (a.data.toList.getD (a.data.toList.length - 1 - k) 0 = c) := by show _ = _; rw [HA.out, show a.size - 1 - k = p from by omega, ← byte_at a p hpn, hc]
          have hdd : Hid (b.data.toList.getD (b.data.toList.length - 1 - k) 0 = d) := by show _ = _; rw [HB.out, show b.size - 1 - k = r from by omega, ← byte_at b r hrn, hd]
          by_cases hcd : c = d
          · subst hcd
            have heq2 : Hid (∀ j, j < k + 1 → a.data.toList.getD (a.data.toList.length - 1 - j) 0 = b.data.toList.getD (b.data.toList.length - 1 - j) 0) := fun j hj => by
              rcases Nat.lt_or_ge j k with h5 | h5
              · exact heq.out j h5
              · obtain rfl : j = k := by omega
                rw [hcc.out, hdd.out]
            clear hlt
            go_wp2
            go_quiet (fail)
            go_wp2
            go_roundw
            case rel => exact ⟨k + 1, q + nq, by go_num, by omega, heq2, rfl⟩
            case measure => simp [RowKit.intOf]; omega
          · have he := u8_eq hcd
            have HCS : Hid (IsCs a.data.toList b.data.toList (min a.size b.size - f) k) := ⟨by rw [HM.out]; omega, heq.out, fun _ h => hcd (by rw [← hcc.out, ← hdd.out]; exact h)⟩
            clear hcd hlt
            go_wp2
            go_quiet (fail)
            go_wp2
            rw [World.drewN_drewN]
            exact tail3 _ _ _ _ _ _ _ _ _ _ _ _ _ _ _ _ _ _ _ _ _ _ _ _ _ _ _ _ k (q + nq) hkm HCS
        · have hz : decide ((k : Int) < (m : Int) - (f : Int)) = false := decide_eq_false (by omega)
          have HCS : Hid (IsCs a.data.toList b.data.toList (min a.size b.size - f) k) := ⟨by rw [HM.out]; omega, heq.out, fun h => by rw [HM.out] at h; omega⟩
          clear hlt
          go_wp2
          go_quiet (fail)
          go_wp2
          rw [World.drewN_drewN]
          exact tail3 _ _ _ _ _ _ _ _ _ _ _ _ _ _ _ _ _ _ _ _ _ _ _ _ _ _ _ _ k (q + nq) hkm HCS
    clear hK2
    go_loopw [5] (fun fv wr => ∃ j q : Nat, fv = .int .i64 j ∧ j ≤ i ∧ Hid (bkO a.data.toList b.data.toList j = bkO a.data.toList b.data.toList i) ∧ wr = w.drewN q) (fun fv _ => (RowKit.intOf fv).toNat)
    case atStart => exact ⟨i, q, rfl, Nat.le_refl _, rfl, rfl⟩
    case round =>
      obtain ⟨j, q, rfl, hji, hj, rfl⟩ := hrel
      by_cases h0 : 0 < j
      · have hz : (0 : Int) < (j : Int) := by omega
        have hs := bkO_pos a.data.toList b.data.toList h0
        by_cases hia : inn a.data.toList j = true
        · have hj2 : Hid (bkO a.data.toList b.data.toList (j - 1) = bkO a.data.toList b.data.toList i) := by
            show _ = _
            rw [← hj.out, hs, if_pos (by rw [hia]; rfl)]
          clear hs hj h0
          go_wp2_with (go_at_call 32; refine (inner_any _ _ _).mono ?_; rintro e w' ⟨rfl, rfl⟩)
          go_roundw
          case rel => exact ⟨j - 1, q, by go_num, by omega, hj2, rfl⟩
          case measure => simp [RowKit.intOf]; omega
        · have hia' : inn a.data.toList j = false := by simpa using hia
          by_cases hib : inn b.data.toList j = true
          · have hj2 : Hid (bkO a.data.toList b.data.toList (j - 1) = bkO a.data.toList b.data.toList i) := by
              show _ = _
              rw [← hj.out, hs, if_pos (by rw [hib, Bool.or_true])]
            clear hs hj h0 hia
            go_wp2_with (go_at_call 32; refine (inner_any _ _ _).mono ?_; rintro e w' ⟨rfl, rfl⟩)
            go_roundw
            case rel => exact ⟨j - 1, q, by go_num, by omega, hj2, rfl⟩
            case measure => simp [RowKit.intOf]; omega
          · have hib' : inn b.data.toList j = false := by simpa using hib
            have hj2 : Hid (j = bkO a.data.toList b.data.toList i) := by
              show _ = _
              rw [← hj.out, hs, if_neg (by rw [hia', hib']; simp)]
            clear hs hj h0 hia hib
            go_wp2_with (go_at_call 32; refine (inner_any _ _ _).mono ?_; rintro e w' ⟨rfl, rfl⟩)
            exact tail2 _ _ _ _ _ _ _ _ _ _ _ _ _ _ j q hji hj2
      · have hz : ¬ ((0 : Int) < (j : Int)) := by omega
        have hj2 : Hid (j = bkO a.data.toList b.data.toList i) := by
          show _ = _
          rw [← hj.out, show j = 0 from by omega]; rfl
        clear hj h0
        go_wp2
        exact tail2 _ _ _ _ _ _ _ _ _ _ _ _ _ _ j q hji hj2
  clear hK1
  go_loopw [5] (fun fv wr => ∃ i q : Nat, fv = .int .i64 i ∧ i ≤ m ∧ Hid (∀ j, j < i → a.data.toList.getD j 0 = b.data.toList.getD j 0) ∧ wr = w.drewN q) (fun fv _ => m - (RowKit.intOf fv).toNat)
  case atStart => exact ⟨0, 0, rfl, Nat.zero_le _, fun j h => by omega, rfl⟩
  case round =>
    obtain ⟨i, q, rfl, him, heq, rfl⟩ := hrel
    by_cases hlt : i < m
    · have hz : (i : Int) < (m : Int) := by omega
      have hza : (i : Int) < (a.size : Int) := by omega
      have hzb : (i : Int) < (b.size : Int) := by omega
      obtain ⟨c, hc⟩ : ∃ c, a[i] = c := ⟨_, rfl⟩
      obtain ⟨d, hd⟩ : ∃ c, b[i] = c := ⟨_, rfl⟩
      have hcc : Hid (a.data.toList.getD i 0 = c) := by show _ = _; rw [← byte_at a i (by omega), hc]
      have hdd : Hid (b.data.toList.getD i 0 = d) := by show _ = _; rw [← byte_at b i (by omega), hd]
      by_cases hcd : c = d
      · subst hcd
        have heq2 : Hid (∀ j, j < i + 1 → a.data.toList.getD j 0 = b.data.toList.getD j 0) := fun j hj => by
          rcases Nat.lt_or_ge j i with h5 | h5
          · exact heq.out j h5
          · obtain rfl : j = i := by omega
            rw [hcc.out, hdd.out]
        clear hlt
        go_wp2
        go_quiet (fail)
        go_wp2
        go_roundw
        case rel => exact ⟨i + 1, q + nq, by go_num, by omega, heq2, rfl⟩
        case measure => simp [RowKit.intOf]; omega
      · have he := u8_eq hcd
        have HCP : Hid (IsCp a.data.toList b.data.toList i) := ⟨by rw [HA.out]; omega, by rw [HB.out]; omega, heq.out, fun _ _ h => hcd (by rw [← hcc.out, ← hdd.out]; exact h)⟩
        clear hcd hlt
        go_wp2
        go_quiet (fail)
        go_wp2
        rw [World.drewN_drewN]
        exact tail1 _ _ _ _ _ _ _ _ _ _ _ _ _ _ _ _ _ _ i (q + nq) him HCP
    · have hz : decide (i < m) = false := decide_eq_false hlt
      have HCP : Hid (IsCp a.data.toList b.data.toList i) := ⟨by rw [HA.out]; omega, by rw [HB.out]; omega, heq.out, fun h1 h2 => by
        rw [HA.out] at h1
        rw [HB.out] at h2
        have := HM.out
        omega⟩
      clear hlt
      go_wp2
      go_quiet (fail)
      go_wp2
      rw [World.drewN_drewN]
      exact tail1 _ _ _ _ _ _ _ _ _ _ _ _ _ _ _ _ _ _ i (q + nq) him HCP
end Go.Proofs.Ytinanagjoaaacaa
