/-
  The iterator over a text's lines: its contract.
-/
import Derived.RangeFuncNested
import Derived.RangeFuncBound
import Derived.RangeFuncCalls
import Derived.RangeFuncLeaves
import Derived.Shelf.Abstract
import Derived.Shelf.RegionOpen
import Derived.WalkKit
import Derived.WalkSpells
import Derived.WalkLawsBesides
import Derived.OwnWalkIn
import Derived.TacticsInMore
import Derived.LoopNIn
import Derived.LoopIn
import Derived.Lib.Hide
import Derived.Test.YtkhbggihgodpkaaDoorSh1
import Derived.Test.YtkhbggihgodpkaaDoorP5
namespace Go.Proofs.YtkhbggihgodpkaaDoor
open Go.RowKit Go.Shelf Go.Lib
attribute [local go_sem] Oper.semAt_some

abbrev Tabs (w : World) : Prop := Lib.Utf8Tabs 0 1 w
theorem byte_at (t : ByteArray) (i : Nat) (h : i < t.size) : t[i] = t.data.toList.getD i 0 := by
  have h' : i < t.data.toList.length := by rw [← Lib.size_eq]; exact h
  rw [List.getD_eq_getElem?_getD, List.getElem?_eq_getElem h']
  rfl
set_option maxHeartbeats 400000 in
theorem each_any (s : ByteArray) (w : World) :
    Calls Tryd.prog 25 #[.string s] w fun e w' => e = .returned (.func (.func 34) #[] #[.pointer (some ⟨w.heap.size, 0, none⟩)]) ∧ w' = w.alloc (.cells #[.string s] 9) := by
  go_enter Tryd.func25, Tryd.ntmps25
  go_wp2
  go_ret
  exact ⟨rfl, rfl⟩
theorem u8_ne {c d : UInt8} (h : c ≠ d) : ((c.toNat : Int) == (d.toNat : Int)) = false :=
  beq_eq_false_iff_ne.2 fun e => h (UInt8.toNat_inj.1 (by omega))
theorem u8_ne' {c d : UInt8} (h : c ≠ d) : ((c.toNat : Int) != (d.toNat : Int)) = true := by
  simp only [bne, u8_ne h, Bool.not_false]

/-- What a round of the loop's body keeps: all that lay at the call's beginning, and the text's own box. -/
def KpC (n₀ Bs : Nat) (A B : World) : Prop := Below n₀ A B ∧ B.cell? ⟨Bs, 0, none⟩ = A.cell? ⟨Bs, 0, none⟩
theorem kpC_t {n₀ Bs : Nat} {A B C : World} (h : KpC n₀ Bs A B) (k : KpC n₀ Bs B C) : KpC n₀ Bs A C := ⟨h.1.trans k.1, k.2.trans h.2⟩
theorem kpC_b {n₀ Bs : Nat} {w : World} (hn : n₀ ≤ w.heap.size) (hB : Bs < w.heap.size) (W : World) (l : Nat) (o o' : Obj) (hl : w.heap.size ≤ l) (h : W.heap[l]? = some o) (h1 : o.isCells = false) (h2 : o.isWalk = false) : KpC n₀ Bs W (W.putObj l o') :=
  ⟨belowK_b hn W l o o' hl h h1 h2, World.cell?_of_block ((grownBy_putObj' W l o').block Bs (by have := (Array.getElem?_eq_some_iff.1 h).1; omega) (fun e => by cases e; omega))⟩

set_option maxRecDepth 100000 in
set_option maxHeartbeats 4000000 in
theorem each1_in (n : Nat) (hn : 1 ≤ n) (l Bs n₀ : Nat) (s : ByteArray) (hs : s.size ≤ 4611686018427387904) (J Jx : List (Nat × Nat) → World → Prop) (W : World)
    (hY : ∀ pre x W1, J pre W1 → pre.length < (spans s.data.toList).length → YieldAt Fence.wide (n - 1) Tryd.prog l #[.agg #[.int .i64 (x.1 : Int), .int .i64 (x.2 : Int)]] W1 fun e W' =>
      (e = .returned (.bool true) ∧ J (pre ++ [x]) W' ∧ (Below n₀ W1 W' ∧ W'.cell? ⟨Bs, 0, none⟩ = W1.cell? ⟨Bs, 0, none⟩)) ∨ (e = .returned (.bool false) ∧ Jx (pre ++ [x]) W'))
    (hBs : W.cell? ⟨Bs, 0, none⟩ = some (.string s)) (h0 : J [] W) :
    CallsIn Fence.wide n Tryd.prog 34 #[.func (.yield l) #[] #[], .pointer (some ⟨Bs, 0, none⟩)] W fun e W' => (∃ v, e = .returned v) ∧
      ((∃ ys, ys = spans s.data.toList ∧ J ys W') ∨ (∃ pre, pre <+: spans s.data.toList ∧ Jx pre W')) := by
  have hsz : s.data.toList.length = s.size := (Lib.size_eq s).symm
  have hb : ∀ i (h : i < s.size), s[i] = s.data.toList.getD i 0 := byte_at s
  have HB : Hid (∀ i (h : i < s.size), s[i] = s.data.toList.getD i 0) := hb
  have HY : Hid (∀ pre x W1, J pre W1 → pre.length < (spans s.data.toList).length → YieldAt Fence.wide (n - 1) Tryd.prog l #[.agg #[.int .i64 (x.1 : Int), .int .i64 (x.2 : Int)]] W1 fun e W' =>
      (e = .returned (.bool true) ∧ J (pre ++ [x]) W' ∧ (Below n₀ W1 W' ∧ W'.cell? ⟨Bs, 0, none⟩ = W1.cell? ⟨Bs, 0, none⟩)) ∨ (e = .returned (.bool false) ∧ Jx (pre ++ [x]) W')) := hY
  have Hsz := Lib.hid hsz
  clear hY hsz hb
  refine callsIn_of_wp Tryd.func34 rfl trivial ?_ rfl
  simp only [Tryd.ntmps34, List.size_toArray, List.length_cons, List.length_nil, Nat.reduceAdd, Nat.reduceSub, Array.replicate_succ, Array.replicate_zero, List.push_toArray, List.append_toArray, List.nil_append, List.cons_append]
  gi_wp2
  gi_loopw [3, 4] (fun fr i wr => ∃ (a k : Nat) (pre : List (Nat × Nat)), fr = .int .i64 a ∧ i = .int .i64 k ∧ k ≤ s.size ∧ a ≤ k ∧ Hid (spans s.data.toList = pre ++ spAt s.data.toList a k) ∧ J pre wr ∧ wr.cell? ⟨Bs, 0, none⟩ = some (.string s))
    (fun _ i _ => s.size - (RowKit.intOf i).toNat)
  case atStart => exact ⟨0, 0, [], rfl, rfl, Nat.zero_le _, Nat.le_refl _, rfl, h0, hBs⟩
  case round =>
    obtain ⟨a, k, pre, rfl, rfl, hk, hak, hpre, hJs, hcs⟩ := hrel
    by_cases hlt : k < s.size
    · have hlz : (k : Int) < (s.size : Int) := by omega
      obtain ⟨c, hc⟩ : ∃ c, s[k] = c := ⟨_, rfl⟩
      have hcl : Hid (s.data.toList.getD k 0 = c) := by show _ = _; rw [← HB.out k hlt, hc]
      by_cases he : eol c = true
      · have hpl : pre.length < (spans s.data.toList).length := by
          rw [hpre.out, List.length_append]
          have := spF_pos s.data.toList (s.data.toList.length - k) a k
          unfold spAt; omega
        have hst : Hid (spans s.data.toList = (pre ++ [(a, k)]) ++ spAt s.data.toList (nx s.data.toList k) (nx s.data.toList k)) := by
          show _ = _
          rw [hpre.out, spAt_eol a (by rw [Hsz.out]; exact hlt) (by rw [hcl.out]; exact he), List.append_assoc]; rfl
        obtain ⟨fn, tmps, assign, body, hy, hR⟩ := HY.out pre (a, k) wr hJs hpl
        dsimp only at hy
        clear hpre hpl
        have hcc : c = 10 ∨ c = 13 := by simpa [eol] using he
        clear he
        rcases hcc with rfl | rfl
        · have hnx : nx s.data.toList k = k + 1 := nx_one (by rw [hcl.out]; simp)
          gi_wp2
          refine hR.mono ?_
          rintro e W3 (⟨rfl, hJ3, hk3, hc3⟩ | ⟨rfl, hJx3⟩)
          · have hc3' := hc3.trans hcs
            gi_wp2
            go_roundw
            case rel => exact ⟨k + 1, k + 1, _, by go_num, by go_num, by omega, by omega, hnx ▸ hst, hJ3, hc3'⟩
            case measure => simp [RowKit.intOf]; omega
          · gi_wp2
            refine bodyPost_ret (results_none rfl _ _ _) rfl ?_
            exact ⟨⟨_, rfl⟩, .inr ⟨_, ⟨_, hst.out.symm⟩, hJx3⟩⟩
        · by_cases h1 : k + 1 < s.size
          · have h1z : (k : Int) + 1 < (s.size : Int) := by omega
            obtain ⟨d, hd⟩ : ∃ d, s[k + 1] = d := ⟨_, rfl⟩
            have hdl : Hid (s.data.toList.getD (k + 1) 0 = d) := by show _ = _; rw [← HB.out (k + 1) h1, hd]
            by_cases h10 : d = 10
            · subst h10
              have hnx : Hid (nx s.data.toList k = k + 2) := nx_crlf hcl.out (by rw [Hsz.out]; exact h1) hdl.out
              gi_wp2
              refine hR.mono ?_
              rintro e W3 (⟨rfl, hJ3, hk3, hc3⟩ | ⟨rfl, hJx3⟩)
              · have hc3' := hc3.trans hcs
                gi_wp2
                go_roundw
                case rel => exact ⟨k + 2, k + 2, _, by go_num, by go_num, by omega, by omega, hnx.out ▸ hst, hJ3, hc3'⟩
                case measure => simp [RowKit.intOf]; omega
              · gi_wp2
                refine bodyPost_ret (results_none rfl _ _ _) rfl ?_
                exact ⟨⟨_, rfl⟩, .inr ⟨_, ⟨_, hst.out.symm⟩, hJx3⟩⟩
            · have hnx : Hid (nx s.data.toList k = k + 1) := nx_one (by rw [hdl.out]; intro h; exact h10 h.2.2)
              have d1 : ((d.toNat : Int) == 10) = false := u8_ne h10
              clear h10
              gi_wp2
              refine hR.mono ?_
              rintro e W3 (⟨rfl, hJ3, hk3, hc3⟩ | ⟨rfl, hJx3⟩)
              · have hc3' := hc3.trans hcs
                gi_wp2
                go_roundw
                case rel => exact ⟨k + 1, k + 1, _, by go_num, by go_num, by omega, by omega, hnx.out ▸ hst, hJ3, hc3'⟩
                case measure => simp [RowKit.intOf]; omega
              · gi_wp2
                refine bodyPost_ret (results_none rfl _ _ _) rfl ?_
                exact ⟨⟨_, rfl⟩, .inr ⟨_, ⟨_, hst.out.symm⟩, hJx3⟩⟩
          · have hnx : Hid (nx s.data.toList k = k + 1) := nx_one (by rw [Hsz.out]; intro h; exact h1 h.2.1)
            have h1z : ¬ ((k : Int) + 1 < (s.size : Int)) := by omega
            clear h1
            gi_wp2
            refine hR.mono ?_
            rintro e W3 (⟨rfl, hJ3, hk3, hc3⟩ | ⟨rfl, hJx3⟩)
            · have hc3' := hc3.trans hcs
              gi_wp2
              go_roundw
              case rel => exact ⟨k + 1, k + 1, _, by go_num, by go_num, by omega, by omega, hnx.out ▸ hst, hJ3, hc3'⟩
              case measure => simp [RowKit.intOf]; omega
            · gi_wp2
              refine bodyPost_ret (results_none rfl _ _ _) rfl ?_
              exact ⟨⟨_, rfl⟩, .inr ⟨_, ⟨_, hst.out.symm⟩, hJx3⟩⟩
      · have hst : Hid (spans s.data.toList = pre ++ spAt s.data.toList a (k + 1)) := by
          show _ = _
          rw [hpre.out, spAt_skip a (by rw [Hsz.out]; exact hlt) (by rw [hcl.out]; simpa using he)]
        have hcn : c ≠ 10 ∧ c ≠ 13 := by
          have he' : eol c = false := by simpa using he
          simpa [eol] using he'
        have e1 : ((c.toNat : Int) == 10) = false := u8_ne hcn.1
        have e2 : ((c.toNat : Int) == 13) = false := u8_ne hcn.2
        have e3 : ((c.toNat : Int) != 10) = true := u8_ne' hcn.1
        have e4 : ((c.toNat : Int) != 13) = true := u8_ne' hcn.2
        clear hpre he hcn
        gi_wp2
        go_roundw
        case rel => exact ⟨a, k + 1, pre, rfl, by go_num, by omega, by omega, hst, hJs, hcs⟩
        case measure => simp [RowKit.intOf]; omega
    · have hke : (s.size : Int) ≤ (k : Int) := by omega
      have hkl : k = s.size := by omega
      have hst : Hid (spans s.data.toList = pre ++ [(a, s.size)]) := by
        show _ = _
        rw [hpre.out, hkl, ← Hsz.out, spAt_end]
      have hpl : pre.length < (spans s.data.toList).length := by rw [hst.out]; simp
      obtain ⟨fn, tmps, assign, body, hy, hR⟩ := HY.out pre (a, s.size) wr hJs hpl
      dsimp only at hy
      clear hkl hpl hpre
      gi_wp2
      refine hR.mono ?_
      rintro e W3 (⟨rfl, hJ3, hk3, hc3⟩ | ⟨rfl, hJx3⟩)
      · gi_wp2
        go_end0
        exact ⟨⟨_, rfl⟩, .inl ⟨_, hst.out.symm, hJ3⟩⟩
      · gi_wp2
        go_end0
        exact ⟨⟨_, rfl⟩, .inr ⟨_, ⟨[], by rw [hst.out, List.append_nil]⟩, hJx3⟩⟩

theorem each_stops (n : Nat) (hn : 1 ≤ n) (Bs n₀ : Nat) (s : ByteArray) (hs : s.size ≤ 4611686018427387904) (w : World) (hBs : Bs < w.heap.size)
    (hc : w.cell? ⟨Bs, 0, none⟩ = some (.string s)) :
    SeqStopsK Fence.wide n Tryd.prog 34 #[.pointer (some ⟨Bs, 0, none⟩)] (fun x : Nat × Nat => #[Value.agg #[.int .i64 (x.1 : Int), .int .i64 (x.2 : Int)]]) (KpC n₀ Bs)
      (fun ys => ys = spans s.data.toList) (fun pre => pre <+: spans s.data.toList) (spans s.data.toList).length w := fun l J Jx W hW _ _ hY h0 =>
  each1_in n hn l Bs n₀ s hs J Jx W hY ((hW.cell (p := ⟨Bs, 0, none⟩) hBs).trans hc) h0
end Go.Proofs.YtkhbggihgodpkaaDoor
