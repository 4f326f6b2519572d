/-
  The document's ahead: a walk; append onto a row of the call's own, of edits.
-/
import Derived.Maps.AppendAt
import Derived.Laws.OwnMore
import Derived.Test.YtinanagjoaaacaaP12
import Derived.Test.YtinanagjoaaacaaW21
namespace Go.Proofs.Ytinanagjoaaacaa
open Go.RowKit Go.Shelf Go.Lib Go.Sort

theorem bneT {a b : Int} (h : a ≠ b) : (a != b) = true := by rw [bne, eqF h]; rfl
theorem bneF {a b : Int} (h : a = b) : (a != b) = false := by rw [bne, eqT h]; rfl
set_option maxRecDepth 100000 in
set_option maxHeartbeats 1000000 in
theorem ahead_any (x y : Ed) (w : World) : Calls Try.prog 33 #[.agg #[.int .i64 x.fr, .int .i64 x.to, .string x.tx], .agg #[.int .i64 y.fr, .int .i64 y.to, .string y.tx]] w fun e w' =>
    e = .returned (.bool (aheadB x y)) ∧ w' = (w.alloc (.cells #[.int .i64 x.fr, .int .i64 x.to, .string x.tx] 37)).alloc (.cells #[.int .i64 y.fr, .int .i64 y.to, .string y.tx] 37) := by
  obtain ⟨xf, xt, xx, xg⟩ := x
  obtain ⟨yf, yt, yx, yg⟩ := y
  unfold aheadB
  dsimp only
  by_cases h : xf = yf
  · rw [if_pos h]
    have e1 : (xf != yf) = false := bneF h
    have e1' : (xf == yf) = true := eqT h
    by_cases h2 : xt = xf
    · rw [decide_eq_true h2, Bool.true_and]
      have e2 : (xt == xf) = true := eqT h2
      by_cases h3 : yt = yf
      · rw [decide_eq_true h3]
        have e3 : (yt != yf) = false := bneF h3
        clear h h2 h3
        go_enter Try.func33, Try.ntmps33
        go_wp2
        go_ret
        exact ⟨rfl, rfl⟩
      · rw [decide_eq_false h3]
        have e3 : (yt != yf) = true := bneT h3
        clear h h2 h3
        go_enter Try.func33, Try.ntmps33
        go_wp2
        go_ret
        exact ⟨rfl, rfl⟩
    · rw [decide_eq_false h2, Bool.false_and]
      have e2 : (xt == xf) = false := eqF h2
      clear h h2
      go_enter Try.func33, Try.ntmps33
      go_wp2
      go_ret
      exact ⟨rfl, rfl⟩
  · rw [if_neg h]
    have e1 : (xf != yf) = true := bneT h
    obtain ⟨g, hg⟩ : ∃ g, decide (xf < yf) = g := ⟨_, rfl⟩
    rw [hg]
    clear h
    go_enter Try.func33, Try.ntmps33
    go_wp2
    go_ret
    exact ⟨rfl, rfl⟩

theorem grown_below {H : Nat} {a w w' : World} {row : Option Nat} (h : RowKit.Below H a w) (hg : w.grownBy w' row) (hH : H ≤ w.heap.size) (hr : ∀ k, row = some k → H ≤ k) : RowKit.Below H a w' :=
  ⟨hg.os.trans h.os, hg.tape.trans h.tape, hg.output.trans h.output, Nat.le_trans h.size hg.size, fun k hk => (hg.block k (by omega) (fun e => by have := hr k e.symm; omega)).trans (h.block k hk)⟩
/-- Onto a row of the call's own. -/
theorem app_run (W : World) (H : Nat) (hH : H ≤ W.heap.size) (v u : Value) (l r : List Ed) (hown : W.ownsRow H 37 3 v l.length (cellsE l)) (hr : Rd W u r) (hn : l.length + r.length ≤ 1000000) :
    ∃ p cap W', (Builtin.append_ #[22, 22] 22 #[v, u]).run Try.prog W = .ok (.slice p (l ++ r).length cap) W' ∧ W'.ownsRow H 37 3 (.slice p (l ++ r).length cap) (l ++ r).length (cellsE (l ++ r)) ∧ RowKit.Below H W W' := by
  obtain ⟨i0, hi, hz0, hz1, hz2⟩ := info_parts3 info37
  have hcl : cellsE (l ++ r) = cellsE l ++ cellsE r := by unfold cellsE; rw [List.flatMap_append]
  rcases hr with ⟨rfl, rfl⟩ | ⟨b, off, cap, rfl, hb, hc⟩
  · have h1 := run_append_owned_none (P := Try.prog) W H 22 22 37 i0 3 Try.underlying22 hi v l.length _ hown
    rcases hown.2 with ⟨rfl, h0⟩ | ⟨g, cap, cur, rfl, hrest⟩
    · refine ⟨none, 0, W, ?_, ?_, RowKit.Below.refl _ _⟩
      · rw [h1, List.append_nil, h0]
      · rw [List.append_nil, h0]; rw [h0] at hown; exact hown
    · refine ⟨some ⟨g, 0, none⟩, cap, W, ?_, ?_, RowKit.Below.refl _ _⟩
      · rw [h1, List.append_nil]
      · rw [List.append_nil]; exact hown
  · have hnews : ∀ j u, (cellsE r)[j]? = some u → W.cell? ((⟨b, off, none⟩ : Addr).add j) = some u := by
      intro j u hu
      have hj : j < r.length * 3 := by rw [← cellsE_length]; exact (List.getElem?_eq_some_iff.1 hu).1
      have hi : j / 3 < r.length := by omega
      have hx : r[j / 3]? = some r[j / 3]! := by rw [getElem!_pos r _ hi]; exact List.getElem?_eq_getElem hi
      obtain ⟨a0, a1, a2⟩ := hc _ _ hx
      obtain ⟨c0, c1, c2⟩ := cellsE_at r _ _ hx
      have hadd : (⟨b, off, none⟩ : Addr).add j = ⟨b, off + j, none⟩ := by unfold Addr.add; split <;> simp_all
      rw [hadd]
      have hm : j % 3 = 0 ∨ j % 3 = 1 ∨ j % 3 = 2 := by omega
      rcases hm with hm | hm | hm
      · rw [show j = j / 3 * 3 from by omega] at hu ⊢
        rw [c0] at hu; rw [a0, ← Option.some.inj hu]
      · rw [show j = j / 3 * 3 + 1 from by omega] at hu ⊢
        rw [c1] at hu; rw [← Nat.add_assoc, a1, ← Option.some.inj hu]
      · rw [show j = j / 3 * 3 + 2 from by omega] at hu ⊢
        rw [c2] at hu; rw [← Nat.add_assoc, a2, ← Option.some.inj hu]
    obtain ⟨v', W', h1, h2, h3, _, _⟩ := run_append_own_at (P := Try.prog) W H 22 22 37 i0 _ 3 32 Try.underlying22 hi hz0 hz1 hz2 rfl (by omega) v l.length _ hown ⟨b, off, none⟩ r.length cap (cellsE r) (cellsE_length r) hnews (cellsE_one r) (by unfold maxLen; omega) (by omega) hH
    rw [← List.length_append, ← hcl] at h2
    have hform : ∃ p cap, v' = .slice p (l ++ r).length cap := by
      rcases h2.2 with ⟨h4, h5⟩ | ⟨g, cap', cur, h4, _⟩
      · exact ⟨none, 0, by rw [h4, h5]⟩
      · exact ⟨_, _, h4⟩
    obtain ⟨p, cap', rfl⟩ := hform
    exact ⟨p, cap', W', h1, h2, grown_below (RowKit.Below.refl _ _) h3 hH (fun k hk => (hown.lt k hk).1)⟩
theorem owns_rd {W : World} {H : Nat} {p : Option Addr} {n cap : Nat} {l : List Ed} (h : W.ownsRow H 37 3 (.slice p n cap) l.length (cellsE l)) : Rd W (.slice p n cap) l ∧ n = l.length ∧ n ≤ cap := by
  rcases h.2 with ⟨h4, h5⟩ | ⟨g, cap', cur, h4, h5, h6, h7, _⟩
  · obtain rfl : l = [] := List.eq_nil_of_length_eq_zero h5
    simp only [Value.slice.injEq] at h4
    obtain ⟨rfl, rfl, rfl⟩ := h4
    exact ⟨.inl ⟨rfl, rfl⟩, rfl, Nat.le_refl _⟩
  · simp only [Value.slice.injEq] at h4
    obtain ⟨rfl, rfl, rfl⟩ := h4
    exact ⟨(owns_rw h).rd, rfl, h7⟩
/-- At an append, in a walk. -/
theorem wpList_app {ops : Array Oper} {rest : List Oper} {o : Oper} {a : Act} {Q : Exit → Act → World → Prop} {W : World} (hgd : o.guard = none) (s x : Operand) (hty : o.type = 22)
    (ho : o.op = .call { callee := .builtin .append, args := #[s, x], argTypes := #[22, 22] }) (H : Nat) (hH : H ≤ W.heap.size) (v u : Value) (l r : List Ed) (hs : a.eval s = v) (hx : a.eval x = u) (hown : W.ownsRow H 37 3 v l.length (cellsE l)) (hr : Rd W u r) (hn : l.length + r.length ≤ 1000000)
    (h : ∀ p cap W', W'.ownsRow H 37 3 (.slice p (l ++ r).length cap) (l ++ r).length (cellsE (l ++ r)) → RowKit.Below H W W' → wpList Try.prog ops Q rest (a.put o.dst (.slice p (l ++ r).length cap)) W') : wpList Try.prog ops Q (o :: rest) a W :=
  wpList_plain hgd fun _ hK => by
    obtain ⟨p, cap, W', h1, h2, h3⟩ := app_run W H hH v u l r hown hr hn
    rw [← hty] at h1
    unfold Oper.wp execOp
    simp only [ho, resolve, invoke, builtin, Sem.run_bind, Sem.run_pure, Result.andThen_ok, List.map_toArray, List.map_cons, List.map_nil, hs, hx, hty] at h1 ⊢
    rw [h1]
    exact hK _ _ (h p cap W' h2 h3)
end Go.Proofs.Ytinanagjoaaacaa
