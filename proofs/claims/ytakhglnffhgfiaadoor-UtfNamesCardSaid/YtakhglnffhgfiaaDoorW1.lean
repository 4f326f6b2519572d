/-
  Walks of the small functions: Pair, Halves and Put, of the program and of the reference.
-/
import Derived.Test.YtakhglnffhgfiaaDoorProg
import Derived.WalkKit
import Derived.WalkSpells
import Derived.WalkLawsBesides
import Derived.Laws.BytesString
namespace Go.Proofs.YtakhglnffhgfiaaDoor
open Go.RowKit

def pairI (a b : Int) : Int × Bool :=
  if (a < 55296 ∨ 56320 ≤ a) ∨ b < 56320 ∨ 57344 ≤ b then (0, false) else (65536 + (a - 55296) * 1024 + (b - 56320), true)
def halvesI (p : Int) : Int × Int :=
  if p < 65536 ∨ 1114111 < p then (0, 0) else (55296 + (p - 65536) / 1024, 56320 + (p - 65536) % 1024)
def putB (p : Int) : ByteArray :=
  if (p < 0 ∨ 1114111 < p) ∨ (55296 ≤ p ∧ p < 57344) then ⟨#[]⟩ else Utf8.encode p
theorem pairI_no {a b : Int} (h : (a < 55296 ∨ 56320 ≤ a) ∨ b < 56320 ∨ 57344 ≤ b) : pairI a b = (0, false) := if_pos h
theorem pairI_yes {a b : Int} (h : ¬ ((a < 55296 ∨ 56320 ≤ a) ∨ b < 56320 ∨ 57344 ≤ b)) : pairI a b = (65536 + (a - 55296) * 1024 + (b - 56320), true) := if_neg h
theorem halvesI_no {p : Int} (h : p < 65536 ∨ 1114111 < p) : halvesI p = (0, 0) := if_pos h
theorem halvesI_yes {p : Int} (h : ¬ (p < 65536 ∨ 1114111 < p)) : halvesI p = (55296 + (p - 65536) / 1024, 56320 + (p - 65536) % 1024) := if_neg h
theorem putB_no {p : Int} (h : (p < 0 ∨ 1114111 < p) ∨ (55296 ≤ p ∧ p < 57344)) : putB p = ⟨#[]⟩ := if_pos h
theorem putB_yes {p : Int} (h : ¬ ((p < 0 ∨ 1114111 < p) ∨ (55296 ≤ p ∧ p < 57344))) : putB p = Utf8.encode p := if_neg h

set_option maxHeartbeats 400000 in
theorem pair_any (a b : Int) (w : World) :
    Calls Tryd.prog 10 #[.int .i64 a, .int .i64 b] w fun e w' => e = .returned (.tuple #[.int .i64 (pairI a b).1, .bool (pairI a b).2]) ∧ w = w' := by
  go_enter Tryd.func10, Tryd.ntmps10
  go_wp2
  all_goals go_ret2
  all_goals first | (rw [pairI_no (by omega)]; exact ⟨rfl, rfl⟩) | (rw [pairI_yes (by omega)]; exact ⟨rfl, rfl⟩)
set_option maxHeartbeats 400000 in
theorem refPair_any (a b : Int) (w : World) :
    Calls Tryd.prog 11 #[.int .i64 a, .int .i64 b] w fun e w' => e = .returned (.tuple #[.int .i64 (pairI a b).1, .bool (pairI a b).2]) ∧ w = w' := by
  go_enter Tryd.func11, Tryd.ntmps11
  go_wp2
  all_goals go_ret2
  all_goals first | (rw [pairI_no (by omega)]; exact ⟨rfl, rfl⟩) | (rw [pairI_yes (by omega), show 65536 + (a - 55296) * 1024 + b - 56320 = 65536 + (a - 55296) * 1024 + (b - 56320) by omega]; exact ⟨rfl, rfl⟩) 
theorem and1023 (x : Int) (h0 : 0 ≤ x) (h1 : x < 9223372036854775808) : bits .and .i64 x 1023 = x % 1024 :=
  bits_mask .i64 63 (by decide) (fun n a b => by rw [IntKind.wrap_i64]; omega) 10 (by decide) x h0 h1
theorem ret2_int {a b c d : Int} (h1 : a = c) (h2 : b = d) : Ending.returned (.tuple #[.int .i64 a, .int .i64 b]) = .returned (.tuple #[.int .i64 c, .int .i64 d]) := by rw [h1, h2]
set_option maxHeartbeats 400000 in
theorem halves_any (a : Int) (w : World) :
    Calls Tryd.prog 12 #[.int .i64 a] w fun e w' => e = .returned (.tuple #[.int .i64 (halvesI a).1, .int .i64 (halvesI a).2]) ∧ w = w' := by
  by_cases h : a < 65536 ∨ 1114111 < a
  · rw [halvesI_no h]
    go_enter Tryd.func12, Tryd.ntmps12
    go_wp2
    all_goals go_ret2
    all_goals exact ⟨rfl, rfl⟩
  · rw [halvesI_yes h]
    have h1 : 65536 ≤ a := by omega
    have h2 : a ≤ 1114111 := by omega
    have hb := and1023 (a - 65536) (by omega) (by omega)
    clear h
    go_enter Tryd.func12, Tryd.ntmps12
    go_wp2
    go_ret2
    exact ⟨rfl, rfl⟩
set_option maxHeartbeats 400000 in
theorem refHalves_any (a : Int) (w : World) :
    Calls Tryd.prog 13 #[.int .i64 a] w fun e w' => e = .returned (.tuple #[.int .i64 (halvesI a).1, .int .i64 (halvesI a).2]) ∧ w = w' := by
  go_enter Tryd.func13, Tryd.ntmps13
  go_wp2
  all_goals go_ret2
  all_goals first | (rw [halvesI_no (by omega)]; exact ⟨rfl, rfl⟩) | (rw [halvesI_yes (by omega)]; exact ⟨rfl, rfl⟩)
set_option maxHeartbeats 400000 in
theorem put_any (a : Int) (w : World) :
    Calls Tryd.prog 14 #[.int .i64 a] w fun e w' => e = .returned (.string (putB a)) ∧ w = w' := by
  go_enter Tryd.func14, Tryd.ntmps14
  go_wp2
  all_goals go_ret
  all_goals first | (rw [putB_no (by omega)]; exact ⟨rfl, rfl⟩) | (rw [putB_yes (by omega)]; exact ⟨rfl, rfl⟩)
theorem foldl_push (ns : List Int) : ∀ (s : ByteArray), ns.foldl (fun r n => r.push (UInt8.ofNat n.toNat)) s = ⟨(s.data.toList ++ ns.map fun n => UInt8.ofNat n.toNat).toArray⟩ := by
  induction ns with
  | nil => intro s; simp
  | cons n ns ih =>
    intro s
    rw [List.foldl_cons, ih]
    congr 1
    simp [ByteArray.push]
theorem conv_bytes (w : World) (ns : List Int) : (convert 42 9 (.slice (some ⟨w.heap.size, 0, none⟩) ns.length ns.length)).run Tryd.prog (w.alloc (.cells (ns.map (Value.int .u8)).toArray 5)) =
    .ok (.string ⟨(ns.map fun n => UInt8.ofNat n.toNat).toArray⟩) (w.alloc (.cells (ns.map (Value.int .u8)).toArray 5)) := by
  rw [run_convert_bytes_string _ 42 9 5 _ _ _ Tryd.underlying42 Tryd.underlying5 Tryd.underlying9, run_bytesToString _ _ _ _ ns, foldl_push]
  · rfl
  · have := run_loadCells_list (P := Tryd.prog) (w := w.alloc (.cells (ns.map (Value.int .u8)).toArray 5)) ⟨w.heap.size, 0, none⟩ (ns.map (Value.int .u8)) (fun j v h => by
      rw [Addr.add_lit]
      simp at h ⊢
      exact h)
    simpa using this
theorem encode_one {a : Int} (h0 : 0 ≤ a) (h1 : a < 128) : Utf8.encode a = ⟨#[UInt8.ofNat a.toNat]⟩ := by
  have hv : Utf8.valid a = true := by simp [Utf8.valid]; omega
  have h : a.toNat < 128 := by omega
  simp [Utf8.encode, hv, h]
theorem encode_two {a : Int} (h0 : 128 ≤ a) (h1 : a < 2048) : Utf8.encode a = ⟨#[UInt8.ofNat (192 + a / 64).toNat, UInt8.ofNat (128 + a % 64).toNat]⟩ := by
  have hv : Utf8.valid a = true := by simp [Utf8.valid]; omega
  have h : ¬ a.toNat < 128 := by omega
  have h' : a.toNat < 2048 := by omega
  have e1 : (192 + a / 64).toNat = 192 + a.toNat / 64 := by omega
  have e2 : (128 + a % 64).toNat = 128 + a.toNat % 64 := by omega
  rw [e1, e2]
  simp [Utf8.encode, hv, h, h']
theorem encode_three {a : Int} (h0 : 2048 ≤ a) (h1 : a < 65536) (hs : ¬ (55296 ≤ a ∧ a < 57344)) : Utf8.encode a = ⟨#[UInt8.ofNat (224 + a / 4096).toNat, UInt8.ofNat (128 + a / 64 % 64).toNat, UInt8.ofNat (128 + a % 64).toNat]⟩ := by
  have hv : Utf8.valid a = true := by simp [Utf8.valid]; omega
  have h : ¬ a.toNat < 128 := by omega
  have h' : ¬ a.toNat < 2048 := by omega
  have h'' : a.toNat < 65536 := by omega
  have e1 : (224 + a / 4096).toNat = 224 + a.toNat / 4096 := by omega
  have e2 : (128 + a / 64 % 64).toNat = 128 + a.toNat / 64 % 64 := by omega
  have e3 : (128 + a % 64).toNat = 128 + a.toNat % 64 := by omega
  rw [e1, e2, e3]
  simp [Utf8.encode, hv, h, h', h'']
theorem encode_four {a : Int} (h0 : 65536 ≤ a) (h1 : a ≤ 1114111) : Utf8.encode a = ⟨#[UInt8.ofNat (240 + a / 262144).toNat, UInt8.ofNat (128 + a / 4096 % 64).toNat, UInt8.ofNat (128 + a / 64 % 64).toNat, UInt8.ofNat (128 + a % 64).toNat]⟩ := by
  have hv : Utf8.valid a = true := by simp [Utf8.valid]; omega
  have h : ¬ a.toNat < 128 := by omega
  have h' : ¬ a.toNat < 2048 := by omega
  have h'' : ¬ a.toNat < 65536 := by omega
  have e0 : (240 + a / 262144).toNat = 240 + a.toNat / 262144 := by omega
  have e1 : (128 + a / 4096 % 64).toNat = 128 + a.toNat / 4096 % 64 := by omega
  have e2 : (128 + a / 64 % 64).toNat = 128 + a.toNat / 64 % 64 := by omega
  have e3 : (128 + a % 64).toNat = 128 + a.toNat % 64 := by omega
  rw [e0, e1, e2, e3]
  simp [Utf8.encode, hv, h, h', h'']
set_option maxHeartbeats 400000 in
theorem refPut_any (a : Int) (w : World) :
    Calls Tryd.prog 15 #[.int .i64 a] w fun e w' => e = .returned (.string (putB a)) ∧ Below w.heap.size w w' := by
  by_cases hb : (a < 0 ∨ 1114111 < a) ∨ (55296 ≤ a ∧ a < 57344)
  · rw [putB_no hb]
    go_enter Tryd.func15, Tryd.ntmps15
    go_wp2
    all_goals go_ret
    all_goals exact ⟨rfl, Below.refl _ _⟩
  · rw [putB_yes hb]
    have h0 : 0 ≤ a := by omega
    have h1 : a ≤ 1114111 := by omega
    by_cases a1 : a < 128
    · rw [encode_one h0 a1]
      have hc : (convert 42 9 (.slice (some ⟨w.heap.size, 0, none⟩) 1 1)).run Tryd.prog (w.alloc (.cells #[.int .u8 a] 5)) = .ok (.string ⟨#[UInt8.ofNat a.toNat]⟩) (w.alloc (.cells #[.int .u8 a] 5)) := conv_bytes w [a]
      clear hb
      go_enter Tryd.func15, Tryd.ntmps15
      go_wp2
      go_ret
      exact ⟨rfl, (Below.refl _ _).alloc (Nat.le_refl _) _⟩
    have b1 : 128 ≤ a := by omega
    by_cases a2 : a < 2048
    · rw [encode_two b1 a2]
      have hc : (convert 42 9 (.slice (some ⟨w.heap.size, 0, none⟩) 2 2)).run Tryd.prog (w.alloc (.cells #[.int .u8 (192 + a / 64), .int .u8 (128 + a % 64)] 5)) = .ok (.string ⟨#[UInt8.ofNat (192 + a / 64).toNat, UInt8.ofNat (128 + a % 64).toNat]⟩) (w.alloc (.cells #[.int .u8 (192 + a / 64), .int .u8 (128 + a % 64)] 5)) := conv_bytes w [192 + a / 64, 128 + a % 64]
      clear hb a1
      go_enter Tryd.func15, Tryd.ntmps15
      go_wp2
      go_ret
      exact ⟨rfl, (Below.refl _ _).alloc (Nat.le_refl _) _⟩
    have b2 : 2048 ≤ a := by omega
    by_cases a3 : a < 65536
    · rw [encode_three b2 a3 (by omega)]
      have hc : (convert 42 9 (.slice (some ⟨w.heap.size, 0, none⟩) 3 3)).run Tryd.prog (w.alloc (.cells #[.int .u8 (224 + a / 4096), .int .u8 (128 + a / 64 % 64), .int .u8 (128 + a % 64)] 5)) = .ok (.string ⟨#[UInt8.ofNat (224 + a / 4096).toNat, UInt8.ofNat (128 + a / 64 % 64).toNat, UInt8.ofNat (128 + a % 64).toNat]⟩) (w.alloc (.cells #[.int .u8 (224 + a / 4096), .int .u8 (128 + a / 64 % 64), .int .u8 (128 + a % 64)] 5)) := conv_bytes w [224 + a / 4096, 128 + a / 64 % 64, 128 + a % 64]
      have hs : a < 55296 ∨ 57344 ≤ a := by omega
      clear hb a1 a2
      rcases hs with hs | hs
      all_goals
        go_enter Tryd.func15, Tryd.ntmps15
        go_wp2
        go_ret
        exact ⟨rfl, (Below.refl _ _).alloc (Nat.le_refl _) _⟩
    · have b3 : 65536 ≤ a := by omega
      rw [encode_four b3 h1]
      have hc : (convert 42 9 (.slice (some ⟨w.heap.size, 0, none⟩) 4 4)).run Tryd.prog (w.alloc (.cells #[.int .u8 (240 + a / 262144), .int .u8 (128 + a / 4096 % 64), .int .u8 (128 + a / 64 % 64), .int .u8 (128 + a % 64)] 5)) = .ok (.string ⟨#[UInt8.ofNat (240 + a / 262144).toNat, UInt8.ofNat (128 + a / 4096 % 64).toNat, UInt8.ofNat (128 + a / 64 % 64).toNat, UInt8.ofNat (128 + a % 64).toNat]⟩) (w.alloc (.cells #[.int .u8 (240 + a / 262144), .int .u8 (128 + a / 4096 % 64), .int .u8 (128 + a / 64 % 64), .int .u8 (128 + a % 64)] 5)) := conv_bytes w [240 + a / 262144, 128 + a / 4096 % 64, 128 + a / 64 % 64, 128 + a % 64]
      clear hb a1 a2 a3
      go_enter Tryd.func15, Tryd.ntmps15
      go_wp2
      go_ret
      exact ⟨rfl, (Below.refl _ _).alloc (Nat.le_refl _) _⟩
end Go.Proofs.YtakhglnffhgfiaaDoor
