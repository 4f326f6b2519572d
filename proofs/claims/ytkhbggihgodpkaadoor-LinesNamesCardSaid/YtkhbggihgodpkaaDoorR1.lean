/-
  The reference's Size: a walk.
-/
import Derived.WalkKit
import Derived.WalkSpells
import Derived.WalkLawsBesides
import Derived.Lib.Hide
import Derived.Test.YtkhbggihgodpkaaDoorProg
import Derived.Test.YtkhbggihgodpkaaDoorP8
namespace Go.Proofs.YtkhbggihgodpkaaDoor
open Go.RowKit Go.Lib

theorem byte_atR (t : ByteArray) (i : Nat) (h : i < t.size) : t[i] = t.data.toList.getD i 0 := by
  have h' : i < t.data.toList.length := by rw [← Lib.size_eq]; exact h
  rw [List.getD_eq_getElem?_getD, List.getElem?_eq_getElem h']
  rfl
theorem getD_dropR (l : List UInt8) (w j : Nat) : (l.drop w).getD j 0 = l.getD (w + j) 0 := by
  rw [List.getD_eq_getElem?_getD, List.getD_eq_getElem?_getD, List.getElem?_drop]
/-- The size at place i, by the bytes there. -/
theorem szL_at (s : ByteArray) (i : Nat) : szL (s.data.toList.drop i) = sizeN (s.size - i) (s.data.toList.getD i 0).toNat (s.data.toList.getD (i + 1) 0).toNat (s.data.toList.getD (i + 2) 0).toNat (s.data.toList.getD (i + 3) 0).toNat := by
  unfold szL
  rw [getD_dropR, getD_dropR, getD_dropR, getD_dropR, List.length_drop, ← Lib.size_eq, Nat.add_zero]

theorem u8_neR {c d : UInt8} (h : c ≠ d) : ((c.toNat : Int) == (d.toNat : Int)) = false :=
  beq_eq_false_iff_ne.2 fun e => h (UInt8.toNat_inj.1 (by omega))
theorem ret_intR {a b : Int} (h : a = b) : Ending.returned (.int .i64 a) = .returned (.int .i64 b) := by rw [h]
theorem eqF {a b : Int} (h : a ≠ b) : (a == b) = false := beq_eq_false_iff_ne.2 h
theorem eqT {a b : Int} (h : a = b) : (a == b) = true := beq_iff_eq.2 h

set_option maxRecDepth 100000 in
set_option maxHeartbeats 1000000 in
theorem size_one (s : ByteArray) (i : Nat) (w : World) (hi : i < s.size) (h : s[i].toNat < 128) :
    Calls Tryd.prog 26 #[.string s, .int .i64 (i : Int)] w fun e w' => e = .returned (.int .i64 1) ∧ w = w' := by
  have hz : (i : Int) < (s.size : Int) := by omega
  obtain ⟨c, hc⟩ : ∃ c, s[i] = c := ⟨_, rfl⟩
  rw [hc] at h
  have hlt := c.toNat_lt
  have hcz : (c.toNat : Int) < 128 := by omega
  go_enter Tryd.func26, Tryd.ntmps26
  go_wp2
  go_ret
  exact ⟨rfl, rfl⟩

set_option maxRecDepth 100000 in
set_option maxHeartbeats 1000000 in
theorem size_none (s : ByteArray) (i : Nat) (w : World) (hi : i < s.size) (h : (128 ≤ s[i].toNat ∧ s[i].toNat < 194) ∨ 244 < s[i].toNat) :
    Calls Tryd.prog 26 #[.string s, .int .i64 (i : Int)] w fun e w' => e = .returned (.int .i64 0) ∧ w = w' := by
  have hz : (i : Int) < (s.size : Int) := by omega
  obtain ⟨c, hc⟩ : ∃ c, s[i] = c := ⟨_, rfl⟩
  rw [hc] at h
  have hlt := c.toNat_lt
  rcases h with ⟨h1, h2⟩ | h1
  · have z1 : (128 : Int) ≤ (c.toNat : Int) := by omega
    have z2 : (c.toNat : Int) < 194 := by omega
    go_enter Tryd.func26, Tryd.ntmps26
    go_wp2
    go_ret
    exact ⟨rfl, rfl⟩
  · have z1 : (244 : Int) < (c.toNat : Int) := by omega
    go_enter Tryd.func26, Tryd.ntmps26
    go_wp2
    go_ret
    exact ⟨rfl, rfl⟩

set_option maxRecDepth 100000 in
set_option maxHeartbeats 1000000 in
theorem size_short2 (s : ByteArray) (i : Nat) (w : World) (hs : s.size ≤ 70000) (hi : i < s.size) (h1 : 194 ≤ s[i].toNat) (h2 : s[i].toNat ≤ 223) (hn : s.size < i + 2) :
    Calls Tryd.prog 26 #[.string s, .int .i64 (i : Int)] w fun e w' => e = .returned (.int .i64 0) ∧ w = w' := by
  have hz : (i : Int) < (s.size : Int) := by omega
  have hnz : (s.size : Int) < (i : Int) + 2 := by omega
  obtain ⟨c, hc⟩ : ∃ c, s[i] = c := ⟨_, rfl⟩
  rw [hc] at h1 h2
  have z1 : (194 : Int) ≤ (c.toNat : Int) := by omega
  have z2 : (c.toNat : Int) ≤ 223 := by omega
  go_enter Tryd.func26, Tryd.ntmps26
  go_wp2
  go_ret
  exact ⟨rfl, rfl⟩

set_option maxRecDepth 100000 in
set_option maxHeartbeats 4000000 in
theorem size_loop2 (s : ByteArray) (i : Nat) (w : World) (hs : s.size ≤ 70000) (hi : i < s.size) (h1 : 194 ≤ s[i].toNat) (h2 : s[i].toNat ≤ 223) (hn : i + 2 ≤ s.size) :
    Calls Tryd.prog 26 #[.string s, .int .i64 (i : Int)] w fun e w' => e = .returned (.int .i64 (szL (s.data.toList.drop i) : Int)) ∧ w = w' := by
  have hz : (i : Int) < (s.size : Int) := by omega
  have hnz : (i : Int) + 2 ≤ (s.size : Int) := by omega
  have hb : ∀ j (h : j < s.size), s[j] = s.data.toList.getD j 0 := byte_atR s
  have HB : Hid (∀ j (h : j < s.size), s[j] = s.data.toList.getD j 0) := hb
  have HS := Lib.hid (szL_at s i)
  obtain ⟨R, hR⟩ : ∃ R, szL (s.data.toList.drop i) = R := ⟨_, rfl⟩
  rw [hR] at HS ⊢
  obtain ⟨c, hc⟩ : ∃ c, s[i] = c := ⟨_, rfl⟩
  have HC : Hid (c = s.data.toList.getD i 0) := by show _ = _; rw [← hb i hi, hc]
  rw [hc] at h1 h2
  have z1 : (194 : Int) ≤ (c.toNat : Int) := by omega
  have z2 : (c.toNat : Int) ≤ 223 := by omega
  clear hb hR
  go_enter Tryd.func26, Tryd.ntmps26
  go_wp2
  go_loop [7] (fun kk => ∃ k : Nat, kk = .int .i64 k ∧ 1 ≤ k ∧ k ≤ 2 ∧ Hid (∀ j, 1 ≤ j → j < k → 128 ≤ (s.data.toList.getD (i + j) 0).toNat ∧ (s.data.toList.getD (i + j) 0).toNat ≤ 191)) (fun kk => 2 - (intOf kk).toNat)
  case atStart => exact ⟨1, rfl, by omega, by omega, fun j h3 h4 => by omega⟩
  case round =>
    obtain ⟨k, rfl, hk1, hkn, hK⟩ := hrel
    by_cases hlt : k < 2
    · have hlz : (k : Int) < 2 := by omega
      have hik : (i : Int) + (k : Int) < (s.size : Int) := by omega
      have hik0 : (0 : Int) ≤ (i : Int) + (k : Int) := by omega
      have hikn : i + k < s.size := by omega
      have hto : ((i : Int) + (k : Int)).toNat = i + k := by omega
      obtain ⟨d, hd⟩ : ∃ d, s[i + k] = d := ⟨_, rfl⟩
      have HD : Hid (d = s.data.toList.getD (i + k) 0) := by show _ = _; rw [← HB.out (i + k) hikn, hd]
      by_cases hd1 : d.toNat < 128
      · have y1 : (d.toNat : Int) < 128 := by omega
        go_wp2
        go_ret
        refine ⟨ret_intR ?_, rfl⟩
        rw [HS.out]
        rw [HD.out] at hd1
        rw [HC.out] at h1 h2
        have hk' : k = 1 ∨ k = 2 ∨ k = 3 := by omega
        unfold sizeN
        rcases hk' with rfl | rfl | rfl
        all_goals
          repeat' split
          all_goals omega
      · have y1 : (128 : Int) ≤ (d.toNat : Int) := by omega
        by_cases hd2 : 191 < d.toNat
        · have y2 : (191 : Int) < (d.toNat : Int) := by omega
          go_wp2
          go_ret
          refine ⟨ret_intR ?_, rfl⟩
          rw [HS.out]
          rw [HD.out] at hd2
          rw [HC.out] at h1 h2
          have hk' : k = 1 ∨ k = 2 ∨ k = 3 := by omega
          unfold sizeN
          rcases hk' with rfl | rfl | rfl
          all_goals
            repeat' split
            all_goals omega
        · have y2 : (d.toNat : Int) ≤ 191 := by omega
          go_wp2
          go_round
          case rel =>
            refine ⟨k + 1, by go_num, by omega, by omega, fun j h3 h4 => ?_⟩
            rcases Nat.lt_or_ge j k with h5 | h5
            · exact hK.out j h3 h5
            · obtain rfl : j = k := by omega
              rw [← HD.out]; omega
          case measure => simp [intOf]; omega
    · have hlz : (2 : Int) ≤ (k : Int) := by omega
      obtain rfl : k = 2 := by omega
      have hik : (i : Int) + 1 < (s.size : Int) := by omega
      obtain ⟨d, hd⟩ : ∃ d, s[i + 1] = d := ⟨_, rfl⟩
      have HD : Hid (d = s.data.toList.getD (i + 1) 0) := by show _ = _; rw [← HB.out (i + 1) (by omega), hd]
      have k1 := hK.out 1 (by omega) (by omega)
      rw [← HD.out] at k1
      have q224 : ((c.toNat : Int) == 224) = false := eqF (by omega)
      have q237 : ((c.toNat : Int) == 237) = false := eqF (by omega)
      have q240 : ((c.toNat : Int) == 240) = false := eqF (by omega)
      have q244 : ((c.toNat : Int) == 244) = false := eqF (by omega)
      go_wp2
      go_ret
      refine ⟨ret_intR ?_, rfl⟩
      have HS' := HS.out
      rw [← HD.out, ← HC.out] at HS'
      rw [HS']
      unfold sizeN
      repeat' split
      all_goals omega

set_option maxRecDepth 100000 in
set_option maxHeartbeats 1000000 in
theorem size_short3 (s : ByteArray) (i : Nat) (w : World) (hs : s.size ≤ 70000) (hi : i < s.size) (h1 : 224 ≤ s[i].toNat) (h2 : s[i].toNat ≤ 239) (hn : s.size < i + 3) :
    Calls Tryd.prog 26 #[.string s, .int .i64 (i : Int)] w fun e w' => e = .returned (.int .i64 0) ∧ w = w' := by
  have hz : (i : Int) < (s.size : Int) := by omega
  have hnz : (s.size : Int) < (i : Int) + 3 := by omega
  obtain ⟨c, hc⟩ : ∃ c, s[i] = c := ⟨_, rfl⟩
  rw [hc] at h1 h2
  have z1 : (224 : Int) ≤ (c.toNat : Int) := by omega
  have z2 : (c.toNat : Int) ≤ 239 := by omega
  go_enter Tryd.func26, Tryd.ntmps26
  go_wp2
  go_ret
  exact ⟨rfl, rfl⟩

set_option maxRecDepth 100000 in
set_option maxHeartbeats 4000000 in
theorem size_loop3 (s : ByteArray) (i : Nat) (w : World) (hs : s.size ≤ 70000) (hi : i < s.size) (h1 : 224 ≤ s[i].toNat) (h2 : s[i].toNat ≤ 239) (hn : i + 3 ≤ s.size) :
    Calls Tryd.prog 26 #[.string s, .int .i64 (i : Int)] w fun e w' => e = .returned (.int .i64 (szL (s.data.toList.drop i) : Int)) ∧ w = w' := by
  have hz : (i : Int) < (s.size : Int) := by omega
  have hnz : (i : Int) + 3 ≤ (s.size : Int) := by omega
  have hb : ∀ j (h : j < s.size), s[j] = s.data.toList.getD j 0 := byte_atR s
  have HB : Hid (∀ j (h : j < s.size), s[j] = s.data.toList.getD j 0) := hb
  have HS := Lib.hid (szL_at s i)
  obtain ⟨R, hR⟩ : ∃ R, szL (s.data.toList.drop i) = R := ⟨_, rfl⟩
  rw [hR] at HS ⊢
  obtain ⟨c, hc⟩ : ∃ c, s[i] = c := ⟨_, rfl⟩
  have HC : Hid (c = s.data.toList.getD i 0) := by show _ = _; rw [← hb i hi, hc]
  rw [hc] at h1 h2
  have z1 : (224 : Int) ≤ (c.toNat : Int) := by omega
  have z2 : (c.toNat : Int) ≤ 239 := by omega
  clear hb hR
  go_enter Tryd.func26, Tryd.ntmps26
  go_wp2
  go_loop [7] (fun kk => ∃ k : Nat, kk = .int .i64 k ∧ 1 ≤ k ∧ k ≤ 3 ∧ Hid (∀ j, 1 ≤ j → j < k → 128 ≤ (s.data.toList.getD (i + j) 0).toNat ∧ (s.data.toList.getD (i + j) 0).toNat ≤ 191)) (fun kk => 3 - (intOf kk).toNat)
  case atStart => exact ⟨1, rfl, by omega, by omega, fun j h3 h4 => by omega⟩
  case round =>
    obtain ⟨k, rfl, hk1, hkn, hK⟩ := hrel
    by_cases hlt : k < 3
    · have hlz : (k : Int) < 3 := by omega
      have hik : (i : Int) + (k : Int) < (s.size : Int) := by omega
      have hik0 : (0 : Int) ≤ (i : Int) + (k : Int) := by omega
      have hikn : i + k < s.size := by omega
      have hto : ((i : Int) + (k : Int)).toNat = i + k := by omega
      obtain ⟨d, hd⟩ : ∃ d, s[i + k] = d := ⟨_, rfl⟩
      have HD : Hid (d = s.data.toList.getD (i + k) 0) := by show _ = _; rw [← HB.out (i + k) hikn, hd]
      by_cases hd1 : d.toNat < 128
      · have y1 : (d.toNat : Int) < 128 := by omega
        go_wp2
        go_ret
        refine ⟨ret_intR ?_, rfl⟩
        rw [HS.out]
        rw [HD.out] at hd1
        rw [HC.out] at h1 h2
        have hk' : k = 1 ∨ k = 2 ∨ k = 3 := by omega
        unfold sizeN
        rcases hk' with rfl | rfl | rfl
        all_goals
          repeat' split
          all_goals omega
      · have y1 : (128 : Int) ≤ (d.toNat : Int) := by omega
        by_cases hd2 : 191 < d.toNat
        · have y2 : (191 : Int) < (d.toNat : Int) := by omega
          go_wp2
          go_ret
          refine ⟨ret_intR ?_, rfl⟩
          rw [HS.out]
          rw [HD.out] at hd2
          rw [HC.out] at h1 h2
          have hk' : k = 1 ∨ k = 2 ∨ k = 3 := by omega
          unfold sizeN
          rcases hk' with rfl | rfl | rfl
          all_goals
            repeat' split
            all_goals omega
        · have y2 : (d.toNat : Int) ≤ 191 := by omega
          go_wp2
          go_round
          case rel =>
            refine ⟨k + 1, by go_num, by omega, by omega, fun j h3 h4 => ?_⟩
            rcases Nat.lt_or_ge j k with h5 | h5
            · exact hK.out j h3 h5
            · obtain rfl : j = k := by omega
              rw [← HD.out]; omega
          case measure => simp [intOf]; omega
    · have hlz : (3 : Int) ≤ (k : Int) := by omega
      obtain rfl : k = 3 := by omega
      have hik : (i : Int) + 1 < (s.size : Int) := by omega
      obtain ⟨d, hd⟩ : ∃ d, s[i + 1] = d := ⟨_, rfl⟩
      have HD : Hid (d = s.data.toList.getD (i + 1) 0) := by show _ = _; rw [← HB.out (i + 1) (by omega), hd]
      have k1 := hK.out 1 (by omega) (by omega)
      have k2 := hK.out 2 (by omega) (by omega)
      rw [← HD.out] at k1
      by_cases ha : c.toNat = 224
      · have q224 : ((c.toNat : Int) == 224) = true := eqT (by omega)
        have q237 : ((c.toNat : Int) == 237) = false := eqF (by omega)
        have q240 : ((c.toNat : Int) == 240) = false := eqF (by omega)
        have q244 : ((c.toNat : Int) == 244) = false := eqF (by omega)
        by_cases hdd : d.toNat < 160
        · have y1 : (d.toNat : Int) < 160 := by omega
          go_wp2
          go_ret
          refine ⟨ret_intR ?_, rfl⟩
          have HS' := HS.out
          rw [← HD.out, ← HC.out] at HS'
          rw [HS']
          unfold sizeN
          repeat' split
          all_goals omega
        · have y1 : (160 : Int) ≤ (d.toNat : Int) := by omega
          go_wp2
          go_ret
          refine ⟨ret_intR ?_, rfl⟩
          have HS' := HS.out
          rw [← HD.out, ← HC.out] at HS'
          rw [HS']
          unfold sizeN
          repeat' split
          all_goals omega
      · by_cases hb : c.toNat = 237
        · have q224 : ((c.toNat : Int) == 224) = false := eqF (by omega)
          have q237 : ((c.toNat : Int) == 237) = true := eqT (by omega)
          have q240 : ((c.toNat : Int) == 240) = false := eqF (by omega)
          have q244 : ((c.toNat : Int) == 244) = false := eqF (by omega)
          by_cases hdd : 159 < d.toNat
          · have y1 : (159 : Int) < (d.toNat : Int) := by omega
            go_wp2
            go_ret
            refine ⟨ret_intR ?_, rfl⟩
            have HS' := HS.out
            rw [← HD.out, ← HC.out] at HS'
            rw [HS']
            unfold sizeN
            repeat' split
            all_goals omega
          · have y1 : (d.toNat : Int) ≤ 159 := by omega
            go_wp2
            go_ret
            refine ⟨ret_intR ?_, rfl⟩
            have HS' := HS.out
            rw [← HD.out, ← HC.out] at HS'
            rw [HS']
            unfold sizeN
            repeat' split
            all_goals omega
        · have q224 : ((c.toNat : Int) == 224) = false := eqF (by omega)
          have q237 : ((c.toNat : Int) == 237) = false := eqF (by omega)
          have q240 : ((c.toNat : Int) == 240) = false := eqF (by omega)
          have q244 : ((c.toNat : Int) == 244) = false := eqF (by omega)
          go_wp2
          go_ret
          refine ⟨ret_intR ?_, rfl⟩
          have HS' := HS.out
          rw [← HD.out, ← HC.out] at HS'
          rw [HS']
          unfold sizeN
          repeat' split
          all_goals omega

set_option maxRecDepth 100000 in
set_option maxHeartbeats 1000000 in
theorem size_short4 (s : ByteArray) (i : Nat) (w : World) (hs : s.size ≤ 70000) (hi : i < s.size) (h1 : 240 ≤ s[i].toNat) (h2 : s[i].toNat ≤ 244) (hn : s.size < i + 4) :
    Calls Tryd.prog 26 #[.string s, .int .i64 (i : Int)] w fun e w' => e = .returned (.int .i64 0) ∧ w = w' := by
  have hz : (i : Int) < (s.size : Int) := by omega
  have hnz : (s.size : Int) < (i : Int) + 4 := by omega
  obtain ⟨c, hc⟩ : ∃ c, s[i] = c := ⟨_, rfl⟩
  rw [hc] at h1 h2
  have z1 : (240 : Int) ≤ (c.toNat : Int) := by omega
  have z2 : (c.toNat : Int) ≤ 244 := by omega
  go_enter Tryd.func26, Tryd.ntmps26
  go_wp2
  go_ret
  exact ⟨rfl, rfl⟩

set_option maxRecDepth 100000 in
set_option maxHeartbeats 4000000 in
theorem size_loop4 (s : ByteArray) (i : Nat) (w : World) (hs : s.size ≤ 70000) (hi : i < s.size) (h1 : 240 ≤ s[i].toNat) (h2 : s[i].toNat ≤ 244) (hn : i + 4 ≤ s.size) :
    Calls Tryd.prog 26 #[.string s, .int .i64 (i : Int)] w fun e w' => e = .returned (.int .i64 (szL (s.data.toList.drop i) : Int)) ∧ w = w' := by
  have hz : (i : Int) < (s.size : Int) := by omega
  have hnz : (i : Int) + 4 ≤ (s.size : Int) := by omega
  have hb : ∀ j (h : j < s.size), s[j] = s.data.toList.getD j 0 := byte_atR s
  have HB : Hid (∀ j (h : j < s.size), s[j] = s.data.toList.getD j 0) := hb
  have HS := Lib.hid (szL_at s i)
  obtain ⟨R, hR⟩ : ∃ R, szL (s.data.toList.drop i) = R := ⟨_, rfl⟩
  rw [hR] at HS ⊢
  obtain ⟨c, hc⟩ : ∃ c, s[i] = c := ⟨_, rfl⟩
  have HC : Hid (c = s.data.toList.getD i 0) := by show _ = _; rw [← hb i hi, hc]
  rw [hc] at h1 h2
  have z1 : (240 : Int) ≤ (c.toNat : Int) := by omega
  have z2 : (c.toNat : Int) ≤ 244 := by omega
  clear hb hR
  go_enter Tryd.func26, Tryd.ntmps26
  go_wp2
  go_loop [7] (fun kk => ∃ k : Nat, kk = .int .i64 k ∧ 1 ≤ k ∧ k ≤ 4 ∧ Hid (∀ j, 1 ≤ j → j < k → 128 ≤ (s.data.toList.getD (i + j) 0).toNat ∧ (s.data.toList.getD (i + j) 0).toNat ≤ 191)) (fun kk => 4 - (intOf kk).toNat)
  case atStart => exact ⟨1, rfl, by omega, by omega, fun j h3 h4 => by omega⟩
  case round =>
    obtain ⟨k, rfl, hk1, hkn, hK⟩ := hrel
    by_cases hlt : k < 4
    · have hlz : (k : Int) < 4 := by omega
      have hik : (i : Int) + (k : Int) < (s.size : Int) := by omega
      have hik0 : (0 : Int) ≤ (i : Int) + (k : Int) := by omega
      have hikn : i + k < s.size := by omega
      have hto : ((i : Int) + (k : Int)).toNat = i + k := by omega
      obtain ⟨d, hd⟩ : ∃ d, s[i + k] = d := ⟨_, rfl⟩
      have HD : Hid (d = s.data.toList.getD (i + k) 0) := by show _ = _; rw [← HB.out (i + k) hikn, hd]
      by_cases hd1 : d.toNat < 128
      · have y1 : (d.toNat : Int) < 128 := by omega
        go_wp2
        go_ret
        refine ⟨ret_intR ?_, rfl⟩
        rw [HS.out]
        rw [HD.out] at hd1
        rw [HC.out] at h1 h2
        have hk' : k = 1 ∨ k = 2 ∨ k = 3 := by omega
        unfold sizeN
        rcases hk' with rfl | rfl | rfl
        all_goals
          repeat' split
          all_goals omega
      · have y1 : (128 : Int) ≤ (d.toNat : Int) := by omega
        by_cases hd2 : 191 < d.toNat
        · have y2 : (191 : Int) < (d.toNat : Int) := by omega
          go_wp2
          go_ret
          refine ⟨ret_intR ?_, rfl⟩
          rw [HS.out]
          rw [HD.out] at hd2
          rw [HC.out] at h1 h2
          have hk' : k = 1 ∨ k = 2 ∨ k = 3 := by omega
          unfold sizeN
          rcases hk' with rfl | rfl | rfl
          all_goals
            repeat' split
            all_goals omega
        · have y2 : (d.toNat : Int) ≤ 191 := by omega
          go_wp2
          go_round
          case rel =>
            refine ⟨k + 1, by go_num, by omega, by omega, fun j h3 h4 => ?_⟩
            rcases Nat.lt_or_ge j k with h5 | h5
            · exact hK.out j h3 h5
            · obtain rfl : j = k := by omega
              rw [← HD.out]; omega
          case measure => simp [intOf]; omega
    · have hlz : (4 : Int) ≤ (k : Int) := by omega
      obtain rfl : k = 4 := by omega
      have hik : (i : Int) + 1 < (s.size : Int) := by omega
      obtain ⟨d, hd⟩ : ∃ d, s[i + 1] = d := ⟨_, rfl⟩
      have HD : Hid (d = s.data.toList.getD (i + 1) 0) := by show _ = _; rw [← HB.out (i + 1) (by omega), hd]
      have k1 := hK.out 1 (by omega) (by omega)
      have k2 := hK.out 2 (by omega) (by omega)
      have k3 := hK.out 3 (by omega) (by omega)
      rw [← HD.out] at k1
      by_cases ha : c.toNat = 240
      · have q224 : ((c.toNat : Int) == 224) = false := eqF (by omega)
        have q237 : ((c.toNat : Int) == 237) = false := eqF (by omega)
        have q240 : ((c.toNat : Int) == 240) = true := eqT (by omega)
        have q244 : ((c.toNat : Int) == 244) = false := eqF (by omega)
        by_cases hdd : d.toNat < 144
        · have y1 : (d.toNat : Int) < 144 := by omega
          go_wp2
          go_ret
          refine ⟨ret_intR ?_, rfl⟩
          have HS' := HS.out
          rw [← HD.out, ← HC.out] at HS'
          rw [HS']
          unfold sizeN
          repeat' split
          all_goals omega
        · have y1 : (144 : Int) ≤ (d.toNat : Int) := by omega
          go_wp2
          go_ret
          refine ⟨ret_intR ?_, rfl⟩
          have HS' := HS.out
          rw [← HD.out, ← HC.out] at HS'
          rw [HS']
          unfold sizeN
          repeat' split
          all_goals omega
      · by_cases hb : c.toNat = 244
        · have q224 : ((c.toNat : Int) == 224) = false := eqF (by omega)
          have q237 : ((c.toNat : Int) == 237) = false := eqF (by omega)
          have q240 : ((c.toNat : Int) == 240) = false := eqF (by omega)
          have q244 : ((c.toNat : Int) == 244) = true := eqT (by omega)
          by_cases hdd : 143 < d.toNat
          · have y1 : (143 : Int) < (d.toNat : Int) := by omega
            go_wp2
            go_ret
            refine ⟨ret_intR ?_, rfl⟩
            have HS' := HS.out
            rw [← HD.out, ← HC.out] at HS'
            rw [HS']
            unfold sizeN
            repeat' split
            all_goals omega
          · have y1 : (d.toNat : Int) ≤ 143 := by omega
            go_wp2
            go_ret
            refine ⟨ret_intR ?_, rfl⟩
            have HS' := HS.out
            rw [← HD.out, ← HC.out] at HS'
            rw [HS']
            unfold sizeN
            repeat' split
            all_goals omega
        · have q224 : ((c.toNat : Int) == 224) = false := eqF (by omega)
          have q237 : ((c.toNat : Int) == 237) = false := eqF (by omega)
          have q240 : ((c.toNat : Int) == 240) = false := eqF (by omega)
          have q244 : ((c.toNat : Int) == 244) = false := eqF (by omega)
          go_wp2
          go_ret
          refine ⟨ret_intR ?_, rfl⟩
          have HS' := HS.out
          rw [← HD.out, ← HC.out] at HS'
          rw [HS']
          unfold sizeN
          repeat' split
          all_goals omega

theorem size_any (s : ByteArray) (i : Nat) (w : World) (hs : s.size ≤ 70000) (hi : i < s.size) :
    Calls Tryd.prog 26 #[.string s, .int .i64 (i : Int)] w fun e w' => e = .returned (.int .i64 (szL (s.data.toList.drop i) : Int)) ∧ w = w' := by
  have hc := byte_atR s i hi
  have hlt := s[i].toNat_lt
  have hS := szL_at s i
  rw [← hc] at hS
  by_cases h1 : s[i].toNat < 128
  · rw [show szL (s.data.toList.drop i) = 1 by rw [hS]; unfold sizeN; rw [if_pos h1]]
    exact size_one s i w hi h1
  by_cases h2 : s[i].toNat < 194 ∨ 244 < s[i].toNat
  · rw [show szL (s.data.toList.drop i) = 0 by rw [hS]; unfold sizeN; rw [if_neg h1, if_neg (by omega), if_neg (by omega), if_neg (by omega)]]
    exact size_none s i w hi (by omega)
  by_cases c2 : s[i].toNat ≤ 223
  · by_cases hn : i + 2 ≤ s.size
    · exact size_loop2 s i w hs hi (by omega) c2 hn
    · rw [show szL (s.data.toList.drop i) = 0 by
        rw [hS]
        unfold sizeN
        repeat' split
        all_goals omega]
      exact size_short2 s i w hs hi (by omega) c2 (by omega)
  by_cases c3 : s[i].toNat ≤ 239
  · by_cases hn : i + 3 ≤ s.size
    · exact size_loop3 s i w hs hi (by omega) c3 hn
    · rw [show szL (s.data.toList.drop i) = 0 by
        rw [hS]
        unfold sizeN
        repeat' split
        all_goals omega]
      exact size_short3 s i w hs hi (by omega) c3 (by omega)
  by_cases c4 : s[i].toNat ≤ 244
  · by_cases hn : i + 4 ≤ s.size
    · exact size_loop4 s i w hs hi (by omega) c4 hn
    · rw [show szL (s.data.toList.drop i) = 0 by
        rw [hS]
        unfold sizeN
        repeat' split
        all_goals omega]
      exact size_short4 s i w hs hi (by omega) c4 (by omega)
  omega
end Go.Proofs.YtkhbggihgodpkaaDoor
