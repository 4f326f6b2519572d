/-
  The iterator 'characters': its contract.
-/
import Derived.RangeFuncNested
import Derived.RangeFuncBound
import Derived.RangeFuncCalls
import Derived.RangeFuncLeaves
import Derived.Shelf.Abstract
import Derived.Shelf.RegionOpen
import Derived.OwnWalkIn
import Derived.TacticsInMore
import Derived.LoopNIn
import Derived.LoopIn
import Derived.Test.YtakhglnffhgfiaaDoorW2
import Derived.Test.YtakhglnffhgfiaaDoorP2
namespace Go.Proofs.YtakhglnffhgfiaaDoor
open Go.RowKit Go.Shelf Go.Lib
attribute [local go_sem] Oper.semAt_some

set_option maxHeartbeats 400000 in
theorem units_any (p : Int) (w : World) : Calls Tryd.prog 32 #[.int .i64 p] w fun e w' => e = .returned (.int .i64 (uB (two p) : Nat)) ∧ w = w' := by
  by_cases h : 65536 ≤ p
  · rw [show uB (two p) = 2 by unfold uB two; rw [decide_eq_true h]; rfl]
    go_enter Tryd.func32, Tryd.ntmps32
    go_wp2
    go_ret
    exact ⟨rfl, rfl⟩
  · rw [show uB (two p) = 1 by unfold uB two; rw [decide_eq_false h]; rfl]
    go_enter Tryd.func32, Tryd.ntmps32
    go_wp2
    go_ret
    exact ⟨rfl, rfl⟩
set_option maxHeartbeats 400000 in
theorem characters_any (s : ByteArray) (w : World) :
    Calls Tryd.prog 27 #[.string s] w fun e w' => e = .returned (.func (.func 31) #[] #[.pointer (some ⟨w.heap.size, 0, none⟩)]) ∧ w' = w.alloc (.cells #[.string s] 9) := by
  go_enter Tryd.func27, Tryd.ntmps27
  go_wp2
  go_ret
  exact ⟨rfl, rfl⟩

theorem ext_list (t : ByteArray) (k : Nat) : (t.extract k t.size).data.toList = t.data.toList.drop k := Lib.ext_list t k

set_option maxRecDepth 100000 in
set_option maxHeartbeats 2000000 in
theorem chars1_in (n : Nat) (hn : 1 ≤ n) (l Bs : Nat) (w0 : World) (s : ByteArray) (hs : s.size ≤ 4611686018427387904) (hT : Tabs w0) (J Jx : List (Nat × Bool) → World → Prop) (W : World)
    (hJ : ∀ pre A B, J pre A → A.grownBy B none → J pre B)
    (hY : ∀ pre x W1, J pre W1 → pre.length < (chs s.data.toList).length → YieldAt Fence.wide (n - 1) Tryd.prog l #[.int .i64 (x.1 : Int), .int .i64 (uB x.2 : Nat)] W1 fun e W' =>
      (e = .returned (.bool true) ∧ J (pre ++ [x]) W' ∧ (Below w0.heap.size W1 W' ∧ W'.cell? ⟨Bs, 0, none⟩ = W1.cell? ⟨Bs, 0, none⟩)) ∨ (e = .returned (.bool false) ∧ Jx (pre ++ [x]) W'))
    (hBs : W.cell? ⟨Bs, 0, none⟩ = some (.string s)) (hbW : Below w0.heap.size w0 W) (h0 : J [] W) :
    CallsIn Fence.wide n Tryd.prog 31 #[.func (.yield l) #[] #[], .pointer (some ⟨Bs, 0, none⟩)] W fun e W' => (∃ v, e = .returned v) ∧
      ((∃ ys, ys = chs s.data.toList ∧ J ys W') ∨ (∃ pre, pre <+: chs s.data.toList ∧ Jx pre W')) := by
  have hsz : s.data.toList.length = s.size := (Lib.size_eq s).symm
  have HT : Hid (Tabs w0) := hT
  have HJ : Hid (∀ pre A B, J pre A → A.grownBy B none → J pre B) := hJ
  have HY : Hid (∀ pre x W1, J pre W1 → pre.length < (chs s.data.toList).length → YieldAt Fence.wide (n - 1) Tryd.prog l #[.int .i64 (x.1 : Int), .int .i64 (uB x.2 : Nat)] W1 fun e W' =>
      (e = .returned (.bool true) ∧ J (pre ++ [x]) W' ∧ (Below w0.heap.size W1 W' ∧ W'.cell? ⟨Bs, 0, none⟩ = W1.cell? ⟨Bs, 0, none⟩)) ∨ (e = .returned (.bool false) ∧ Jx (pre ++ [x]) W')) := hY
  have Hsz := Lib.hid hsz
  clear hT hJ hY hsz
  refine callsIn_of_wp Tryd.func31 rfl trivial ?_ rfl
  simp only [Tryd.ntmps31, List.size_toArray, List.length_cons, List.length_nil, Nat.reduceAdd, Nat.reduceSub, Array.replicate_succ, Array.replicate_zero, List.push_toArray, List.append_toArray, List.nil_append, List.cons_append]
  gi_wp2
  gi_loopw [3] (fun i wr => ∃ (k : Nat) (pre : List (Nat × Bool)), i = .int .i64 k ∧ k ≤ s.size ∧ Hid (chs s.data.toList = pre ++ chsAt s.data.toList k) ∧ J pre wr ∧ wr.cell? ⟨Bs, 0, none⟩ = some (.string s) ∧ Below w0.heap.size w0 wr)
    (fun i _ => s.size - (RowKit.intOf i).toNat)
  case atStart => exact ⟨0, [], rfl, Nat.zero_le _, (chsAt_zero _).symm, h0, hBs, hbW⟩
  case round =>
    obtain ⟨k, pre, rfl, hk, hpre, hJs, hcs, hbr⟩ := hrel
    by_cases hlt : k < s.size
    · have hlz : (k : Int) < (s.size : Int) := by omega
      obtain ⟨hst, hw1, hw2⟩ := chsAt_step s.data.toList k (by rw [Hsz.out]; exact hlt)
      rw [Hsz.out] at hw2
      have hru := rune_any (s.extract k s.size) wr (Utf8Tabs_below HT.out hbr)
      rw [ext_list] at hru
      have hst' : Hid (chs s.data.toList = (pre ++ [(k, two (rn (s.data.toList.drop k)).1)]) ++ chsAt s.data.toList (k + (rn (s.data.toList.drop k)).2)) := by
        show _ = _; rw [hpre.out, hst, List.append_assoc]; rfl
      have hpl : pre.length < (chs s.data.toList).length := by rw [hst'.out]; simp
      clear hst hpre
      obtain ⟨⟨r1, r2⟩, hr⟩ : ∃ r, rn (s.data.toList.drop k) = r := ⟨_, rfl⟩
      rw [hr] at hru hst' hw1 hw2
      dsimp only at hru hst' hw1 hw2
      clear hr
      gi_wp2_with (refine ⟨trivial, ?_⟩; gi_at_call 8; refine (callsIn_wide.2 hru).mono ?_; rintro e W2 ⟨rfl, hb2⟩)
      have hJ2 : J pre W2 := HJ.out pre wr W2 hJs ⟨hb2.os, hb2.tape, hb2.output, hb2.size, fun i hi _ => hb2.block i hi⟩
      have hc2 : W2.cell? ⟨Bs, 0, none⟩ = some (.string s) := (hb2.cell (p := ⟨Bs, 0, none⟩) (World.block_lt_of_cell? _ _ hcs)).trans hcs
      have hbr2 : Below w0.heap.size w0 W2 := hbr.trans (hb2.mono hbr.size)
      have hu := fun W : World => units_any r1 W
      obtain ⟨fn, tmps, assign, body, hy, hR⟩ := HY.out pre (k, two r1) W2 hJ2 hpl
      dsimp only at hy
      have hU : Hid (∀ W : World, Calls Tryd.prog 32 #[.int .i64 r1] W fun e w' => e = .returned (.int .i64 (uB (two r1) : Nat)) ∧ W = w') := hu
      generalize two r1 = u at hy hR hU hst'
      clear hu hcs hbr hJs hb2 hpl
      gi_wp2_with (refine ⟨trivial, ?_⟩; gi_at_call 32; refine (callsIn_wide.2 (hU.out _)).mono ?_; rintro e W' ⟨rfl, rfl⟩)
      refine hR.mono ?_
      rintro e W3 (⟨rfl, hJ3, hk3, hc3⟩ | ⟨rfl, hJx3⟩)
      · have hc3' := hc3.trans hc2
        gi_wp2
        go_roundw
        case rel => exact ⟨k + r2, pre ++ [(k, u)], by go_num, by omega, hst', hJ3, hc3', hbr2.trans hk3⟩
        case measure => simp [RowKit.intOf]; omega
      · gi_wp2
        refine bodyPost_ret (results_none rfl _ _ _) rfl ?_
        exact ⟨⟨_, rfl⟩, .inr ⟨_, ⟨_, hst'.out.symm⟩, hJx3⟩⟩
    · have hke : (s.size : Int) ≤ (k : Int) := by omega
      gi_wp2
      go_end0
      refine ⟨⟨_, rfl⟩, .inl ⟨pre, ?_, hJs⟩⟩
      rw [hpre.out, show k = s.data.toList.length by rw [Hsz.out]; omega, chsAt_end, List.append_nil]

/-- What a round of the loop's body keeps: all that lay at the call's beginning, and the text's own box. -/
def KpC (n₀ Bs : Nat) (A B : World) : Prop := Below n₀ A B ∧ B.cell? ⟨Bs, 0, none⟩ = A.cell? ⟨Bs, 0, none⟩
theorem kpC_t {n₀ Bs : Nat} {A B C : World} (h : KpC n₀ Bs A B) (k : KpC n₀ Bs B C) : KpC n₀ Bs A C := ⟨h.1.trans k.1, k.2.trans h.2⟩
theorem kpC_b {n₀ Bs : Nat} {w : World} (hn : n₀ ≤ w.heap.size) (hB : Bs < w.heap.size) (W : World) (l : Nat) (o o' : Obj) (hl : w.heap.size ≤ l) (h : W.heap[l]? = some o) (h1 : o.isCells = false) (h2 : o.isWalk = false) : KpC n₀ Bs W (W.putObj l o') :=
  ⟨belowK_b hn W l o o' hl h h1 h2, World.cell?_of_block ((grownBy_putObj' W l o').block Bs (by have := (Array.getElem?_eq_some_iff.1 h).1; omega) (fun e => by cases e; omega))⟩

/-- The iterator over a text's characters hands back all of them in order, or a first part. -/
theorem chars_stops (n : Nat) (hn : 1 ≤ n) (Bs : Nat) (w0 : World) (s : ByteArray) (hs : s.size ≤ 4611686018427387904) (hT : Tabs w0) (w : World) (hBs : Bs < w.heap.size) (hw : Below w0.heap.size w0 w)
    (hc : w.cell? ⟨Bs, 0, none⟩ = some (.string s)) :
    SeqStopsK Fence.wide n Tryd.prog 31 #[.pointer (some ⟨Bs, 0, none⟩)] (fun x : Nat × Bool => #[Value.int .i64 (x.1 : Int), Value.int .i64 (uB x.2 : Nat)]) (KpC w0.heap.size Bs)
      (fun ys => ys = chs s.data.toList) (fun pre => pre <+: chs s.data.toList) (chs s.data.toList).length w := fun l J Jx W hW hJ _ hY h0 =>
  chars1_in n hn l Bs w0 s hs hT J Jx W (fun pre A B ha hg => hJ pre A B none ha hg (fun r e => by cases e)) hY
    ((hW.cell (p := ⟨Bs, 0, none⟩) hBs).trans hc) (hw.trans (hW.mono hw.size)) h0
end Go.Proofs.YtakhglnffhgfiaaDoor
