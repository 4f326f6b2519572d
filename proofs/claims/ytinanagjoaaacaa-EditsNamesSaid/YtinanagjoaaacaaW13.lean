/-
  The document's Diff and inner: walks.
-/
import Derived.Test.YtinanagjoaaacaaW12
namespace Go.Proofs.Ytinanagjoaaacaa
open Go.RowKit Go.Shelf Go.Lib Go.Sort

set_option maxRecDepth 100000 in
set_option maxHeartbeats 2000000 in
theorem rinner_any (t : ByteArray) (i : Nat) (w : World) : Calls Try.prog 36 #[.string t, .int .i64 i] w fun e w' => e = .returned (.bool (inn t.data.toList i)) ∧ w' = w := by
  by_cases h : i < t.size
  · have hz : (i : Int) < (t.size : Int) := by omega
    obtain ⟨c, hc⟩ : ∃ c, t[i] = c := ⟨_, rfl⟩
    have hinn : inn t.data.toList i = inB c := by
      unfold inn
      rw [← byte_at t i h, hc, decide_eq_true (by rw [← Lib.size_eq]; exact h), Bool.true_and]
    rw [hinn]
    by_cases h1 : 128 ≤ c.toNat
    · have z1 : (128 : Int) ≤ (c.toNat : Int) := by omega
      by_cases h2 : c.toNat ≤ 191
      · have z2 : (c.toNat : Int) ≤ 191 := by omega
        have hb : inB c = true := by unfold inB; rw [decide_eq_true h1, decide_eq_true h2]; rfl
        rw [hb]
        clear hinn hb h1 h2
        go_enter Try.func36, Try.ntmps36
        go_wp2
        go_ret
        exact ⟨rfl, rfl⟩
      · have z2 : ¬ ((c.toNat : Int) ≤ 191) := by omega
        have hb : inB c = false := by unfold inB; rw [decide_eq_true h1, decide_eq_false h2]; rfl
        rw [hb]
        clear hinn hb h1 h2
        go_enter Try.func36, Try.ntmps36
        go_wp2
        go_ret
        exact ⟨rfl, rfl⟩
    · have z1 : ¬ ((128 : Int) ≤ (c.toNat : Int)) := by omega
      have hb : inB c = false := by unfold inB; rw [decide_eq_false h1]; rfl
      rw [hb]
      clear hinn hb h1
      go_enter Try.func36, Try.ntmps36
      go_wp2
      go_ret
      exact ⟨rfl, rfl⟩
  · have hz : ¬ ((i : Int) < (t.size : Int)) := by omega
    have hinn : inn t.data.toList i = false := by
      unfold inn
      rw [decide_eq_false (by rw [← Lib.size_eq]; exact h), Bool.false_and]
    rw [hinn]
    clear h hinn
    go_enter Try.func36, Try.ntmps36
    go_wp2
    go_ret
    exact ⟨rfl, rfl⟩

set_option maxRecDepth 100000 in
set_option maxHeartbeats 4000000 in
theorem rdiff_same (a : ByteArray) (w : World) : Calls Try.prog 21 #[.string a, .string a] w fun e w' => e = .returned (.slice none 0 0) ∧ w' = w := by
  have h : (a.toList == a.toList) = true := str_eq rfl
  go_enter Try.func21, Try.ntmps21
  go_wp2
  go_ret
  exact ⟨rfl, rfl⟩
set_option maxRecDepth 100000 in
set_option maxHeartbeats 8000000 in
theorem rdiff_any (a b : ByteArray) (w : World) (hab : a ≠ b) (ha : a.size ≤ 1099511627776) (hb : b.size ≤ 1099511627776) :
    Calls Try.prog 21 #[.string a, .string b] w fun e w' => ∃ v x, e = .returned v ∧ RowKit.Below w.heap.size w w' ∧ Rw w' w.heap.size v [x] ∧ IsDf a b x := by
  have hne : (a.toList == b.toList) = false := str_ne hab
  obtain ⟨m, hm⟩ : ∃ m, min a.size b.size = m := ⟨_, rfl⟩
  have HA : Hid (a.data.toList.length = a.size) := (Lib.size_eq a).symm
  have HB : Hid (b.data.toList.length = b.size) := (Lib.size_eq b).symm
  have HM := Lib.hid hm
  have hm1 : m ≤ a.size := by omega
  have hm2 : m ≤ b.size := by omega
  clear hm hab
  go_enter Try.func21, Try.ntmps21
  go_wp2
  rename_i K1 hK1
  have tail1 : ∀ (u12 u13 u14 u15 u16 u17 u18 u19 u20 u21 u22 u23 u24 u25 u26 u27 u28 u29 u30 u31 u32 : Value) (i q : Nat), i ≤ m → Hid (IsCp a.data.toList b.data.toList i) → K1 { tmps := #[.string a, .string b, undef, undef, .slice none 0 0, .int .i64 (i : Int), undef, undef, undef, .string a, .string b, .bool false, u12, u13, u14, u15, u16, u17, u18, u19, u20, u21, u22, u23, u24, u25, u26, u27, u28, u29, u30, u31, u32, undef, undef, undef, undef, undef, undef, undef, undef, undef, undef, undef, undef, undef, undef, undef, undef, undef, undef, undef, undef, undef, undef, undef, undef, undef, undef, undef, undef, undef, undef, undef, undef, undef, undef, undef, undef, undef, undef, undef, undef, undef, undef, undef, undef, undef, undef, undef, undef, undef, undef, undef, undef, undef, undef, undef, undef, undef, undef, undef, undef, undef, undef, undef, undef, undef, undef, undef, undef, undef], defers := [] } (w.drewN q) := by
    intro u12 u13 u14 u15 u16 u17 u18 u19 u20 u21 u22 u23 u24 u25 u26 u27 u28 u29 u30 u31 u32 i q him HCP
    refine hK1 _ _ ?_
    clear hK1
    go_wp2
    rename_i K2 hK2
    have tail2 : ∀ (u34 u35 u36 u37 u38 u39 u40 u41 u42 u43 u44 u45 u46 u47 : Value) (f q : Nat), f ≤ i → Hid (f = bkO a.data.toList b.data.toList i) → K2 { tmps := #[.string a, .string b, undef, undef, .slice none 0 0, .int .i64 (i : Int), .int .i64 (f : Int), undef, undef, .string a, .string b, .bool false, u12, u13, u14, u15, u16, u17, u18, u19, u20, u21, u22, u23, u24, u25, u26, u27, u28, u29, u30, u31, u32, .int .i64 (i : Int), u34, u35, u36, u37, u38, u39, u40, u41, u42, u43, u44, u45, u46, u47, undef, undef, undef, undef, undef, undef, undef, undef, undef, undef, undef, undef, undef, undef, undef, undef, undef, undef, undef, undef, undef, undef, undef, undef, undef, undef, undef, undef, undef, undef, undef, undef, undef, undef, undef, undef, undef, undef, undef, undef, undef, undef, undef, undef, undef, undef, undef, undef, undef, undef, undef, undef, undef, undef], defers := [] } (w.drewN q) := by
      intro u34 u35 u36 u37 u38 u39 u40 u41 u42 u43 u44 u45 u46 u47 f q hfi HF
      refine hK2 _ _ ?_
      clear hK2
      have hfm : f ≤ m := by omega
      go_wp2
      rename_i K3 hK3
      have tail3 : ∀ (u48 u49 u50 u51 u52 u53 u54 u55 u56 u57 u58 u59 u60 u61 u62 u63 u64 u65 u66 u67 u68 u69 u70 u71 u72 u73 u74 u75 u76 u77 u78 u79 u80 u81 u82 u83 u84 u85 u86 : Value) (n h q : Nat), 1 ≤ n → n ≤ m - f + 1 → h ≤ n - 1 → Hid (IsCs a.data.toList b.data.toList (min a.size b.size - f) (n - 1)) → Hid (h = bkS a.data.toList (n - 1)) → K3 { tmps := #[.string a, .string b, undef, undef, .slice none 0 0, .int .i64 (i : Int), .int .i64 (f : Int), .int .i64 (h : Int), .int .i64 (n : Int), .string a, .string b, .bool false, u12, u13, u14, u15, u16, u17, u18, u19, u20, u21, u22, u23, u24, u25, u26, u27, u28, u29, u30, u31, u32, .int .i64 (i : Int), u34, u35, u36, u37, u38, u39, u40, u41, u42, u43, u44, u45, u46, u47, u48, u49, u50, u51, u52, u53, u54, u55, u56, u57, u58, u59, u60, u61, u62, u63, u64, u65, u66, u67, u68, u69, u70, u71, u72, u73, u74, u75, u76, u77, u78, u79, u80, u81, u82, u83, u84, u85, u86, undef, undef, undef, undef, undef, undef, undef, undef, undef, undef, undef, undef, undef, undef, undef], defers := [] } (w.drewN q) := by
        intro u48 u49 u50 u51 u52 u53 u54 u55 u56 u57 u58 u59 u60 u61 u62 u63 u64 u65 u66 u67 u68 u69 u70 u71 u72 u73 u74 u75 u76 u77 u78 u79 u80 u81 u82 u83 u84 u85 u86 n h q hn1 hnm hhn HCS HN
        refine hK3 _ _ ?_
        clear hK3
        obtain ⟨z, hz⟩ : ∃ z : Nat, (b.size : Int) - (h : Int) = (z : Int) := ⟨b.size - h, by omega⟩
        have hfz : (f : Int) ≤ (z : Int) := by omega
        have hzb : (z : Int) ≤ (b.size : Int) := by omega
        have HX : Hid (IsDf a b ⟨(f : Int), (a.size : Int) - (h : Int), b.extract f z, 0⟩) := by
          refine ⟨i, n - 1, f, h, HCP.out, HF.out, HCS.out, HN.out, ?_⟩
          rw [show b.size - h = z from by omega]
        obtain ⟨y, hy⟩ : ∃ y, (a.size : Int) - (h : Int) = y := ⟨_, rfl⟩
        have hy1 : 0 ≤ y := by omega
        have hy2 : y ≤ 1099511627776 := by omega
        rw [hy] at HX
        go_wp2
        go_ret
        exact ⟨_, _, rfl, (below_drewN (Below.refl _ w) q).alloc (Nat.le_refl _) _, cell_own3 (w.drewN q) ⟨(f : Int), y, b.extract f z, 0⟩, HX.out⟩
      clear hK3
      go_loopw [7, 8] (fun hv nv wr => ∃ n h q : Nat, hv = .int .i64 h ∧ nv = .int .i64 n ∧ 1 ≤ n ∧ n ≤ m - f + 1 ∧ h ≤ n - 1 ∧ Hid (∀ j, j < n - 1 → a.data.toList.getD (a.data.toList.length - 1 - j) 0 = b.data.toList.getD (b.data.toList.length - 1 - j) 0) ∧ Hid (h = bkS a.data.toList (n - 1)) ∧ wr = w.drewN q) (fun _ nv _ => m - f + 1 - (RowKit.intOf nv).toNat)
      case atStart => exact ⟨1, 0, q, rfl, rfl, Nat.le_refl _, by omega, Nat.le_refl _, fun j h => by omega, rfl, rfl⟩
      case round =>
        obtain ⟨n, h, q, rfl, rfl, hn1, hnm, hhn, heq, hh, rfl⟩ := hrel
        by_cases hlt : n ≤ m - f
        · have hz1 : (n : Int) ≤ (a.size : Int) - (f : Int) := by omega
          have hz2 : (n : Int) ≤ (b.size : Int) - (f : Int) := by omega
          obtain ⟨p, hp⟩ : ∃ p : Nat, (a.size : Int) - (n : Int) = (p : Int) := ⟨a.size - n, by omega⟩
          obtain ⟨r, hr⟩ : ∃ r : Nat, (b.size : Int) - (n : Int) = (r : Int) := ⟨b.size - n, by omega⟩
          have hpa : (p : Int) < (a.size : Int) := by omega
          have hrb : (r : Int) < (b.size : Int) := by omega
          have hpn : p < a.size := by omega
          have hrn : r < b.size := by omega
          obtain ⟨c, hc⟩ : ∃ c, a[p] = c := ⟨_, rfl⟩
          obtain ⟨d, hd⟩ : ∃ c, b[r] = c := ⟨_, rfl⟩
          have hcc : Hid (a.data.toList.getD (a.data.toList.length - 1 - (n - 1)) 0 = c) := by show _ = _; rw [HA.out, show a.size - 1 - (n - 1) = p from by omega, ← byte_at a p hpn, hc]
          have hdd : Hid (b.data.toList.getD (b.data.toList.length - 1 - (n - 1)) 0 = d) := by show _ = _; rw [HB.out, show b.size - 1 - (n - 1) = r from by omega, ← byte_at b r hrn, hd]
          by_cases hcd : c = d
          · subst hcd
            have heq2 : Hid (∀ j, j < n + 1 - 1 → a.data.toList.getD (a.data.toList.length - 1 - j) 0 = b.data.toList.getD (b.data.toList.length - 1 - j) 0) := fun j hj => by
              rcases Nat.lt_or_ge j (n - 1) with h5 | h5
              · exact heq.out j h5
              · obtain rfl : j = n - 1 := by omega
                rw [hcc.out, hdd.out]
            have hs : bkS a.data.toList (n + 1 - 1) = if inn a.data.toList p = true then bkS a.data.toList (n - 1) else n := by
              rw [show n + 1 - 1 = n from by omega, bkS_pos _ (by omega), HA.out, show a.size - n = p from by omega]
            by_cases hi : inn a.data.toList p = true
            · have hh2 : Hid (h = bkS a.data.toList (n + 1 - 1)) := by
                show _ = _
                rw [hs, if_pos hi]; exact hh.out
              have HLT := Lib.hid hlt
              clear hlt hs hh
              go_wp2
              go_quiet (fail)
              go_wp2_with (go_at_call 36; refine (rinner_any _ _ _).mono ?_; rintro e w' ⟨rfl, rfl⟩)
              go_roundw
              case rel => exact ⟨n + 1, h, q + nq, by go_num, by go_num, by omega, by have := HLT.out; omega, by omega, heq2, hh2, by first | rfl | exact World.drewN_drewN _ _ _⟩
              case measure => simp [RowKit.intOf]; have := HLT.out; omega
            · have hi' : inn a.data.toList p = false := by simpa using hi
              have hh2 : Hid (n = bkS a.data.toList (n + 1 - 1)) := by
                show _ = _
                rw [hs, if_neg hi]
              have HLT := Lib.hid hlt
              clear hlt hs hh hi
              go_wp2
              go_quiet (fail)
              go_wp2_with (go_at_call 36; refine (rinner_any _ _ _).mono ?_; rintro e w' ⟨rfl, rfl⟩)
              go_roundw
              case rel => exact ⟨n + 1, n, q + nq, by go_num, by go_num, by omega, by have := HLT.out; omega, by omega, heq2, hh2, by first | rfl | exact World.drewN_drewN _ _ _⟩
              case measure => simp [RowKit.intOf]; have := HLT.out; omega
          · have he := u8_eq hcd
            have HCS : Hid (IsCs a.data.toList b.data.toList (min a.size b.size - f) (n - 1)) := ⟨by rw [HM.out]; omega, heq.out, fun _ h => hcd (by rw [← hcc.out, ← hdd.out]; exact h)⟩
            clear hcd hlt
            go_wp2
            go_quiet (fail)
            go_wp2
            rw [World.drewN_drewN]
            exact tail3 _ _ _ _ _ _ _ _ _ _ _ _ _ _ _ _ _ _ _ _ _ _ _ _ _ _ _ _ _ _ _ _ _ _ _ _ _ _ _ n h (q + nq) hn1 hnm hhn HCS hh
        · have HCS : Hid (IsCs a.data.toList b.data.toList (min a.size b.size - f) (n - 1)) := ⟨by rw [HM.out]; omega, heq.out, fun h => by rw [HM.out] at h; omega⟩
          have hM := HM.out
          by_cases h5 : n ≤ a.size - f
          · have hz1 : (n : Int) ≤ (a.size : Int) - (f : Int) := by omega
            have hz2 : decide ((n : Int) ≤ (b.size : Int) - (f : Int)) = false := decide_eq_false (by omega)
            clear hlt h5 hM
            go_wp2
            go_quiet (fail)
            go_wp2
            rw [World.drewN_drewN]
            exact tail3 _ _ _ _ _ _ _ _ _ _ _ _ _ _ _ _ _ _ _ _ _ _ _ _ _ _ _ _ _ _ _ _ _ _ _ _ _ _ _ n h (q + nq) hn1 hnm hhn HCS hh
          · have hz1 : decide ((n : Int) ≤ (a.size : Int) - (f : Int)) = false := decide_eq_false (by omega)
            clear hlt h5 hM
            go_wp2
            go_quiet (fail)
            go_wp2
            rw [World.drewN_drewN]
            exact tail3 _ _ _ _ _ _ _ _ _ _ _ _ _ _ _ _ _ _ _ _ _ _ _ _ _ _ _ _ _ _ _ _ _ _ _ _ _ _ _ n h (q + nq) hn1 hnm hhn HCS hh
    clear hK2
    go_loopw [6] (fun fv wr => ∃ j q : Nat, fv = .int .i64 j ∧ j ≤ i ∧ Hid (bkO a.data.toList b.data.toList j = bkO a.data.toList b.data.toList i) ∧ wr = w.drewN q) (fun fv _ => (RowKit.intOf fv).toNat)
    case atStart => exact ⟨i, q, rfl, Nat.le_refl _, rfl, rfl⟩
    case round =>
      obtain ⟨j, q, rfl, hji, hj, rfl⟩ := hrel
      by_cases h0 : 0 < j
      · have hz : (0 : Int) < (j : Int) := by omega
        have hs := bkO_pos a.data.toList b.data.toList h0
        by_cases hia : inn a.data.toList j = true
        · have hj2 : Hid (bkO a.data.toList b.data.toList (j - 1) = bkO a.data.toList b.data.toList i) := by
            show _ = _
            rw [← hj.out, hs, if_pos (by rw [hia]; rfl)]
          clear hs hj h0
          go_wp2_with (go_at_call 36; refine (rinner_any _ _ _).mono ?_; rintro e w' ⟨rfl, rfl⟩)
          go_roundw
          case rel => exact ⟨j - 1, q, by go_num, by omega, hj2, rfl⟩
          case measure => simp [RowKit.intOf]; omega
        · have hia' : inn a.data.toList j = false := by simpa using hia
          by_cases hib : inn b.data.toList j = true
          · have hj2 : Hid (bkO a.data.toList b.data.toList (j - 1) = bkO a.data.toList b.data.toList i) := by
              show _ = _
              rw [← hj.out, hs, if_pos (by rw [hib, Bool.or_true])]
            clear hs hj h0 hia
            go_wp2_with (go_at_call 36; refine (rinner_any _ _ _).mono ?_; rintro e w' ⟨rfl, rfl⟩)
            go_roundw
            case rel => exact ⟨j - 1, q, by go_num, by omega, hj2, rfl⟩
            case measure => simp [RowKit.intOf]; omega
          · have hib' : inn b.data.toList j = false := by simpa using hib
            have hj2 : Hid (j = bkO a.data.toList b.data.toList i) := by
              show _ = _
              rw [← hj.out, hs, if_neg (by rw [hia', hib']; simp)]
            clear hs hj h0 hia hib
            go_wp2_with (go_at_call 36; refine (rinner_any _ _ _).mono ?_; rintro e w' ⟨rfl, rfl⟩)
            exact tail2 _ _ _ _ _ _ _ _ _ _ _ _ _ _ j q hji hj2
      · have hz : ¬ ((0 : Int) < (j : Int)) := by omega
        have hj2 : Hid (j = bkO a.data.toList b.data.toList i) := by
          show _ = _
          rw [← hj.out, show j = 0 from by omega]; rfl
        clear hj h0
        go_wp2
        exact tail2 _ _ _ _ _ _ _ _ _ _ _ _ _ _ j q hji hj2
  clear hK1
  go_loopw [5] (fun fv wr => ∃ i q : Nat, fv = .int .i64 i ∧ i ≤ m ∧ Hid (∀ j, j < i → a.data.toList.getD j 0 = b.data.toList.getD j 0) ∧ wr = w.drewN q) (fun fv _ => m - (RowKit.intOf fv).toNat)
  case atStart => exact ⟨0, 0, rfl, Nat.zero_le _, fun j h => by omega, rfl⟩
  case round =>
    obtain ⟨i, q, rfl, him, heq, rfl⟩ := hrel
    by_cases hlt : i < m
    · have hza : (i : Int) < (a.size : Int) := by omega
      have hzb : (i : Int) < (b.size : Int) := by omega
      obtain ⟨c, hc⟩ : ∃ c, a[i] = c := ⟨_, rfl⟩
      obtain ⟨d, hd⟩ : ∃ c, b[i] = c := ⟨_, rfl⟩
      have hcc : Hid (a.data.toList.getD i 0 = c) := by show _ = _; rw [← byte_at a i (by omega), hc]
      have hdd : Hid (b.data.toList.getD i 0 = d) := by show _ = _; rw [← byte_at b i (by omega), hd]
      by_cases hcd : c = d
      · subst hcd
        have heq2 : Hid (∀ j, j < i + 1 → a.data.toList.getD j 0 = b.data.toList.getD j 0) := fun j hj => by
          rcases Nat.lt_or_ge j i with h5 | h5
          · exact heq.out j h5
          · obtain rfl : j = i := by omega
            rw [hcc.out, hdd.out]
        have HLT := Lib.hid hlt
        clear hlt
        go_wp2
        go_quiet (fail)
        go_wp2
        go_roundw
        case rel => exact ⟨i + 1, q + nq, by go_num, by have := HLT.out; omega, heq2, rfl⟩
        case measure => simp [RowKit.intOf]; have := HLT.out; omega
      · have he := u8_eq hcd
        have HCP : Hid (IsCp a.data.toList b.data.toList i) := ⟨by rw [HA.out]; omega, by rw [HB.out]; omega, heq.out, fun _ _ h => hcd (by rw [← hcc.out, ← hdd.out]; exact h)⟩
        clear hcd hlt
        go_wp2
        go_quiet (fail)
        go_wp2
        rw [World.drewN_drewN]
        exact tail1 _ _ _ _ _ _ _ _ _ _ _ _ _ _ _ _ _ _ _ _ _ i (q + nq) him HCP
    · have HCP : Hid (IsCp a.data.toList b.data.toList i) := ⟨by rw [HA.out]; omega, by rw [HB.out]; omega, heq.out, fun h1 h2 => by
        rw [HA.out] at h1
        rw [HB.out] at h2
        have := HM.out
        omega⟩
      have hM := HM.out
      by_cases h5 : i < a.size
      · have hz1 : (i : Int) < (a.size : Int) := by omega
        have hz2 : decide (i < b.size) = false := decide_eq_false (by omega)
        clear hlt h5 hM
        go_wp2
        go_quiet (fail)
        go_wp2
        rw [World.drewN_drewN]
        exact tail1 _ _ _ _ _ _ _ _ _ _ _ _ _ _ _ _ _ _ _ _ _ i (q + nq) him HCP
      · have hz1 : decide (i < a.size) = false := decide_eq_false h5
        clear hlt h5 hM
        go_wp2
        go_quiet (fail)
        go_wp2
        rw [World.drewN_drewN]
        exact tail1 _ _ _ _ _ _ _ _ _ _ _ _ _ _ _ _ _ _ _ _ _ i (q + nq) him HCP
end Go.Proofs.Ytinanagjoaaacaa
