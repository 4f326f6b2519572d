/-
  The iterator over edits, each with how far all is moved: its contract.
-/
import Derived.RangeFuncNested
import Derived.RangeFuncBound
import Derived.RangeFuncCalls
import Derived.RangeFuncLeaves
import Derived.Shelf.Abstract
import Derived.Shelf.RegionOpen
import Derived.OwnWalkIn
import Derived.TacticsInMore
import Derived.LoopNIn
import Derived.LoopIn
import Derived.Test.YtinanagjoaaacaaW5
import Derived.Test.YtinanagjoaaacaaP3
namespace Go.Proofs.Ytinanagjoaaacaa
open Go.RowKit Go.Shelf Go.Lib Go.Sort
attribute [local go_sem] Oper.semAt_some

/-- The block of the row that a variable's slice has. -/
def rowOf (b : Nat) (W : World) : Option Nat := (W.cell? ⟨b, 0, none⟩).bind Value.ownBlock
/-- What a round of the loop's body keeps: all cells but the variable b and its row, as long as that row lies. -/
def KpE (b : Nat) (A B : World) : Prop := (∀ r, rowOf b A = some r → r < A.heap.size) →
  ((∀ r, rowOf b B = some r → r < B.heap.size) ∧ A.heap.size ≤ B.heap.size ∧ ∀ k o, k ≠ b → A.heap[k]? = some o → o.isCells = true → rowOf b A ≠ some k → B.heap[k]? = some o ∧ rowOf b B ≠ some k)
theorem kpE_t {b : Nat} {A B C : World} (h1 : KpE b A B) (h2 : KpE b B C) : KpE b A C := fun h => by
  obtain ⟨a1, a2, a3⟩ := h1 h
  obtain ⟨b1, b2, b3⟩ := h2 a1
  refine ⟨b1, Nat.le_trans a2 b2, fun k o hk ho hc hr => ?_⟩
  obtain ⟨c1, c2⟩ := a3 k o hk ho hc hr
  exact b3 k o hk c1 hc c2
theorem rowOf_block {b : Nat} {A B : World} (h : B.heap[b]? = A.heap[b]?) : rowOf b B = rowOf b A := by
  unfold rowOf
  rw [World.cell?_of_block h]
theorem kpE_b {b : Nat} {w : World} (hb : b < w.heap.size) (W : World) (l : Nat) (o o' : Obj) (hl : w.heap.size ≤ l) (h : W.heap[l]? = some o) (h1 : o.isCells = false) (_ : o.isWalk = false) : KpE b W (W.putObj l o') := fun hr => by
  have e : rowOf b (W.putObj l o') = rowOf b W := rowOf_block (World.putObj_heap_other (by omega))
  refine ⟨fun r h2 => ?_, by simp, fun k o2 _ ho hc hk => ?_⟩
  · rw [e] at h2
    simpa using hr r h2
  · rw [e]
    refine ⟨(World.putObj_heap_other (fun e => ?_)).trans ho, hk⟩
    subst e
    rw [ho] at h; cases h; rw [hc] at h1; cases h1
theorem kpE_alloc {b : Nat} {W : World} (hb : b < W.heap.size) (o : Obj) : KpE b W (W.alloc o) := fun hr => by
  have e : rowOf b (W.alloc o) = rowOf b W := rowOf_block (alloc_old W o b hb)
  refine ⟨fun r h2 => ?_, by simp, fun k o2 _ ho hc hk => ?_⟩
  · rw [e] at h2
    have := hr r h2
    simp; omega
  · rw [e]
    exact ⟨(alloc_old W o k (Array.getElem?_eq_some_iff.1 ho).1).trans ho, hk⟩

/-- Sums that stay within an int. -/
structure Small (s : List Ed) : Prop where
  ok : ∀ (k : Nat) (x : Ed), s[k]? = some x → 0 ≤ x.fr ∧ x.fr ≤ x.to ∧ x.to ≤ 9223372036854775807 ∧ x.tx.size ≤ 1099511627776
  sum : ∀ k, k ≤ s.length → -9223372036854775807 ≤ dN (s.take k) ∧ dN (s.take k) ≤ 1099511627776

def encM (x : Int × Ed) : Array Value := #[.int .i64 x.1, .agg #[.int .i64 x.2.fr, .int .i64 x.2.to, .string x.2.tx]]
set_option maxRecDepth 100000 in
set_option maxHeartbeats 4000000 in
theorem mov_in (n : Nat) (hn : 1 ≤ n) (l Bs b g off cap : Nat) (p : Option Addr) (s : List Ed) (hs : Small s) (hsl : s.length ≤ 1000000) (J Jx : List (Int × Ed) → World → Prop) (W : World)
    (hJa : ∀ pre W o, J pre W → J pre (W.alloc o))
    (hY : ∀ pre x W1, J pre W1 → pre.length < s.length → pre ++ [x] <+: mvL s → YieldAt Fence.wide (n - 1) Try.prog l (encM x) W1 fun e W' =>
      (e = .returned (.bool true) ∧ J (pre ++ [x]) W' ∧ KpE b W1 W') ∨ (e = .returned (.bool false) ∧ Jx (pre ++ [x]) W'))
    (hBs : W.cell? ⟨Bs, 0, none⟩ = some (.slice p s.length cap)) (h0 : J [] W) (hb : b < W.heap.size) (hgb : g ≠ b) (hrow : ∀ r, rowOf b W = some r → r < W.heap.size)
    (hp : s ≠ [] → p = some ⟨g, off, none⟩) (hgr : rowOf b W ≠ some g) (og : s ≠ [] → ∃ o, W.heap[g]? = some o ∧ o.isCells = true)
    (hc : ∀ (k : Nat) (x : Ed), s[k]? = some x → W.cell? ⟨g, off + k * 3, none⟩ = some (.int .i64 x.fr) ∧ W.cell? ⟨g, off + k * 3 + 1, none⟩ = some (.int .i64 x.to) ∧ W.cell? ⟨g, off + k * 3 + 2, none⟩ = some (.string x.tx)) :
    CallsIn Fence.wide n Try.prog 40 #[.func (.yield l) #[] #[], .pointer (some ⟨Bs, 0, none⟩)] W fun e W' => (∃ v, e = .returned v) ∧
      ((∃ ys, ys = mvL s ∧ J ys W') ∨ (∃ pre, pre <+: mvL s ∧ Jx pre W')) := by
  have HY : Hid (∀ pre x W1, J pre W1 → pre.length < s.length → pre ++ [x] <+: mvL s → YieldAt Fence.wide (n - 1) Try.prog l (encM x) W1 fun e W' =>
      (e = .returned (.bool true) ∧ J (pre ++ [x]) W' ∧ KpE b W1 W') ∨ (e = .returned (.bool false) ∧ Jx (pre ++ [x]) W')) := hY
  have HJ : Hid (∀ pre W o, J pre W → J pre (W.alloc o)) := hJa
  have HC : Hid (∀ (k : Nat) (x : Ed), s[k]? = some x → W.cell? ⟨g, off + k * 3, none⟩ = some (.int .i64 x.fr) ∧ W.cell? ⟨g, off + k * 3 + 1, none⟩ = some (.int .i64 x.to) ∧ W.cell? ⟨g, off + k * 3 + 2, none⟩ = some (.string x.tx)) := hc
  have HP : Hid (s ≠ [] → p = some ⟨g, off, none⟩) := hp
  have HG : Hid (s ≠ [] → ∃ o, W.heap[g]? = some o ∧ o.isCells = true) := og
  have HR : Hid (∀ r, rowOf b W = some r → r < W.heap.size) := hrow
  have HGR : Hid (rowOf b W ≠ some g) := hgr
  obtain ⟨N, hN⟩ : ∃ N, s.length = N := ⟨_, rfl⟩
  have HN := Lib.hid hN
  have hN2 : N ≤ 1000000 := by omega
  rw [hN] at hBs
  clear hY hJa hc hp og hrow hgr hN
  refine callsIn_of_wp Try.func40 rfl trivial ?_ rfl
  simp only [Try.ntmps40, List.size_toArray, List.length_cons, List.length_nil, Nat.reduceAdd, Nat.reduceSub, Array.replicate_succ, Array.replicate_zero, List.push_toArray, List.append_toArray, List.nil_append, List.cons_append]
  gi_wp2
  gi_loopw [3, 8] (fun nv iv wr => ∃ (k : Nat) (pre : List (Int × Ed)) (m : Int), nv = .int .i64 m ∧ iv = .int .i64 k ∧ k ≤ N ∧ m = dN (s.take k) ∧ pre.length = k ∧ Hid (mvL s = pre ++ mvF m (s.drop k)) ∧ J pre wr ∧ KpE b W wr)
    (fun _ iv _ => N - (RowKit.intOf iv).toNat)
  case atStart => exact ⟨0, [], 0, rfl, rfl, Nat.zero_le _, rfl, rfl, rfl, h0, fun h => ⟨h, Nat.le_refl _, fun k o _ ho _ hr => ⟨ho, hr⟩⟩⟩
  case round =>
    obtain ⟨k, pre, m, rfl, rfl, hk, hm, hpl, hst, hJs, hKp⟩ := hrel
    by_cases hlt : k < N
    · have hltz : (k : Int) < (N : Int) := by omega
      have hkl : k < s.length := by rw [HN.out]; exact hlt
      obtain ⟨x, hx⟩ : ∃ x, s[k]? = some x := ⟨_, List.getElem?_eq_getElem hkl⟩
      have hne : s ≠ [] := fun e => by rw [e] at hkl; simp at hkl
      have hpg := HP.out hne
      obtain ⟨og, hog, hogc⟩ := HG.out hne
      obtain ⟨k1, k2, k3⟩ := hKp HR.out
      obtain ⟨kg1, kg2⟩ := k3 g og hgb hog hogc HGR.out
      have hgc : ∀ c, wr.cell? ⟨g, c, none⟩ = W.cell? ⟨g, c, none⟩ := fun c => World.cell?_of_block (kg1.trans hog.symm)
      obtain ⟨c0, c1, c2⟩ := HC.out k x hx
      have d0 := (hgc _).trans c0
      have d1 := (hgc _).trans c1
      have d2 := (hgc _).trans c2
      have hst2 : Hid (mvL s = (pre ++ [(m, x)]) ++ mvF (m + dE x) (s.drop (k + 1))) := by
        show _ = _
        rw [hst.out, mvF_drop m hx, List.append_assoc]; rfl
      have hpre : pre ++ [(m, x)] <+: mvL s := ⟨_, hst2.out.symm⟩
      have ho := hs.ok k x hx
      have hm2 := hs.sum (k + 1) (by omega)
      have hm1 := hs.sum k (by omega)
      rw [dN_take hx, ← hm] at hm2
      rw [← hm] at hm1
      have hmd : m + dE x = dN (s.take (k + 1)) := by rw [dN_take hx, hm]
      have HMD := Lib.hid hmd
      have hbw : b < wr.heap.size := Nat.lt_of_lt_of_le hb k2
      obtain ⟨W1, hW1⟩ : ∃ W1, wr.alloc (.cells #[.int .i64 x.fr, .int .i64 x.to, .string x.tx] 37) = W1 := ⟨_, rfl⟩
      obtain ⟨B3, hB3⟩ : ∃ b, wr.heap.size = b := ⟨_, rfl⟩
      have hh : W1.heap[B3]? = some (.cells #[.int .i64 x.fr, .int .i64 x.to, .string x.tx] 37 (0, 0)) := by rw [← hW1, ← hB3]; exact World.alloc_heap_new wr _
      have kp1 : KpE b W W1 := kpE_t hKp (by rw [← hW1]; exact kpE_alloc hbw _)
      have hJ1 : J pre W1 := by rw [← hW1]; exact HJ.out pre wr _ hJs
      have hr1 : rowOf b W1 = rowOf b wr := by rw [← hW1]; exact rowOf_block (alloc_old wr _ b hbw)
      have hr2 : rowOf b W1 ≠ some B3 := fun e => by
        rw [hr1] at e
        have := k1 _ e
        omega
      have hB3b : B3 ≠ b := by omega
      obtain ⟨fn, tmps, assign, body, hy, hR⟩ := HY.out pre (m, x) W1 hJ1 (by rw [hpl]; exact hkl) hpre
      obtain ⟨xf, xt, xx, xg⟩ := x
      simp only [encM] at hy
      dsimp only at hy c0 c1 c2 d0 d1 d2 ho hW1 hh
      have HH := Lib.hid hh
      have HW1 := Lib.hid hW1
      have HB3 := Lib.hid hB3
      have HK1 := Lib.hid kp1
      have hq : -9223372036854775807 ≤ m + ((xx.size : Int) - (xt - xf)) ∧ m + ((xx.size : Int) - (xt - xf)) ≤ 1099511627776 := hm2
      have q0 := cell_of_heap hh 0
      have q1 := cell_of_heap hh 1
      have q2 := cell_of_heap hh 2
      subst hpg
      clear hkl hx hne hog hogc k1 k2 k3 kg1 kg2 hgc c0 c1 c2 hst hpre hmd hbw hW1 hB3 hh kp1 hJ1 hr1 hJs hm2 hKp hm
      gi_wp2
      rw [HW1.out, HB3.out]
      gi_wp2
      rw [hy]
      gi_wp2
      refine hR.mono ?_
      rintro e W3 (⟨rfl, hJ3, hk3⟩ | ⟨rfl, hJx3⟩)
      · obtain ⟨r1, r2, r3⟩ := (HK1.out HR.out)
        have hh3 := ((hk3 r1).2.2 B3 _ hB3b HH.out rfl hr2).1
        have q0b := cell_of_heap hh3 0
        have q1b := cell_of_heap hh3 1
        have q2b := cell_of_heap hh3 2
        have KP3 := Lib.hid (kpE_t HK1.out hk3)
        have HR2 := Lib.hid hr2
        clear hk3 r1 r2 r3 hh3 hr2
        gi_wp2
        go_roundw
        case rel => exact ⟨k + 1, _, _, by go_num, by go_num, by omega, HMD.out, by simp [hpl], hst2, hJ3, KP3.out⟩
        case measure => simp [RowKit.intOf]; omega
      · gi_wp2
        refine bodyPost_ret (results_none rfl _ _ _) rfl ?_
        exact ⟨⟨_, rfl⟩, .inr ⟨_, ⟨_, hst2.out.symm⟩, hJx3⟩⟩
    · have hke : ¬ ((k : Int) < (N : Int)) := by omega
      have hst2 : Hid (mvL s = pre) := by
        show _ = _
        rw [hst.out, List.drop_eq_nil_of_le (by rw [HN.out]; omega)]
        simp [mvF]
      clear hst hlt hm
      gi_wp2
      go_end0
      exact ⟨⟨_, rfl⟩, .inl (by rw [hst2.out]; exact hJs)⟩
end Go.Proofs.Ytinanagjoaaacaa
