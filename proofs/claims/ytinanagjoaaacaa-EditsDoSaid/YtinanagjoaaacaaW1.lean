/-
  The closures of Sort: walks; what the sort asks of them.
-/
import Derived.Shelf.SlSortCmp.KitK
import Derived.WalkKit
import Derived.WalkSpells
import Derived.WalkLawsBesides
import Derived.Lib.Hide
import Derived.Deep.QuietTactic
import Derived.BigQuiet
import Derived.Test.YtinanagjoaaacaaSh1
import Derived.Test.YtinanagjoaaacaaP1
namespace Go.Proofs.Ytinanagjoaaacaa
open Go.RowKit Go.Shelf Go.Lib Go.Sort

def enc (x : Ed) : List Value := [.int .i64 x.fr, .int .i64 x.to, .string x.tx]
theorem enc_len (x : Ed) : (enc x).length = 3 := rfl
theorem enc_one (x : Ed) : ∀ v ∈ enc x, v.oneCell' = true := by
  intro v hv
  simp [enc] at hv
  rcases hv with rfl | rfl | rfl <;> rfl
theorem eqF {a b : Int} (h : a ≠ b) : (a == b) = false := beq_eq_false_iff_ne.2 h
theorem eqT {a b : Int} (h : a = b) : (a == b) = true := beq_iff_eq.2 h

set_option maxHeartbeats 1000000 in
theorem emp_any (x : Ed) (w : World) : Calls Try.prog 29 #[.agg #[.int .i64 x.fr, .int .i64 x.to, .string x.tx]] w fun e w' =>
    e = .returned (.int .i64 (emp x)) ∧ w' = w.alloc (.cells #[.int .i64 x.fr, .int .i64 x.to, .string x.tx] 37) := by
  obtain ⟨fr, to, tx, tg⟩ := x
  unfold emp
  dsimp only
  by_cases h : fr = to
  · rw [if_pos h]
    have h2 : (fr == to) = true := eqT h
    clear h
    go_enter Try.func29, Try.ntmps29
    go_wp2
    go_ret
    exact ⟨rfl, rfl⟩
  · rw [if_neg h]
    have h2 : (fr == to) = false := eqF h
    clear h
    go_enter Try.func29, Try.ntmps29
    go_wp2
    go_ret
    exact ⟨rfl, rfl⟩

/-- Is an edit refused by itself? -/
def badE (x : Ed) : Bool := decide (x.fr < 0) || decide (x.to < x.fr)
set_option maxHeartbeats 1000000 in
theorem bad_any (x : Ed) (w : World) : Calls Try.prog 27 #[.agg #[.int .i64 x.fr, .int .i64 x.to, .string x.tx]] w fun e w' =>
    e = .returned (.bool (badE x)) ∧ w' = w.alloc (.cells #[.int .i64 x.fr, .int .i64 x.to, .string x.tx] 37) := by
  obtain ⟨fr, to, tx, tg⟩ := x
  unfold badE
  dsimp only
  by_cases h : fr < 0
  · have h1 : decide (fr < 0) = true := by simpa using h
    rw [h1, Bool.true_or]
    go_enter Try.func27, Try.ntmps27
    go_wp2
    go_ret
    exact ⟨rfl, rfl⟩
  · have h1 : decide (fr < 0) = false := by simpa using h
    rw [h1, Bool.false_or]
    go_enter Try.func27, Try.ntmps27
    go_wp2
    go_ret
    exact ⟨rfl, rfl⟩
theorem bad_pred (w : World) : PredBelow Try.prog 27 #[] (fun x => .agg (enc x).toArray) badE w := fun W x hb =>
  (bad_any x W).mono fun _ _ ⟨he, hw⟩ => ⟨he, by rw [hw]; exact hb.alloc hb.size _⟩

set_option maxRecDepth 100000 in
set_option maxHeartbeats 2000000 in
theorem cmp_any (x y : Ed) (c : Nat) (w : World) (hc : w.cell? ⟨c, 0, none⟩ = some (.func (.func 29) #[] #[])) :
    Calls Try.prog 31 #[.agg #[.int .i64 x.fr, .int .i64 x.to, .string x.tx], .agg #[.int .i64 y.fr, .int .i64 y.to, .string y.tx], .pointer (some ⟨c, 0, none⟩)] w fun e w' =>
      e = .returned (.int .i64 (cf x y)) ∧ ∃ q os', w' = grow (w.drewN q) os' := by
  have hx := emp_two x
  have hy := emp_two y
  by_cases h1 : x.fr < y.fr
  · rw [show cf x y = -1 by unfold cf; rw [if_pos h1]]
    clear hx hy
    obtain ⟨xf, xt, xx, xg⟩ := x
    obtain ⟨yf, yt, yx, yg⟩ := y
    dsimp only at *
    go_enter Try.func31, Try.ntmps31
    go_wp2
    go_ret
    exact ⟨rfl, 0, _, by rw [alloc_eq_grow, alloc_eq_grow, grow_grow]; rfl⟩
  by_cases h2 : y.fr < x.fr
  · rw [show cf x y = 1 by unfold cf; rw [if_neg h1, if_pos h2]]
    clear hx hy
    obtain ⟨xf, xt, xx, xg⟩ := x
    obtain ⟨yf, yt, yx, yg⟩ := y
    dsimp only at *
    go_enter Try.func31, Try.ntmps31
    go_wp2
    go_ret
    exact ⟨rfl, 0, _, by rw [alloc_eq_grow, alloc_eq_grow, grow_grow]; rfl⟩
  · rw [show cf x y = emp x - emp y by unfold cf; rw [if_neg h1, if_neg h2]]
    have cx := emp_any x
    have cy := emp_any y
    obtain ⟨ex, hex⟩ : ∃ e, emp x = e := ⟨_, rfl⟩
    obtain ⟨ey, hey⟩ : ∃ e, emp y = e := ⟨_, rfl⟩
    rw [hex] at cx hx ⊢
    rw [hey] at cy hy ⊢
    have b1 : 0 ≤ ex := by omega
    have b2 : ex ≤ 1 := by omega
    have b3 : 0 ≤ ey := by omega
    have b4 : ey ≤ 1 := by omega
    clear hex hey hx hy
    obtain ⟨xf, xt, xx, xg⟩ := x
    obtain ⟨yf, yt, yx, yg⟩ := y
    dsimp only at *
    have g1 : yf ≤ xf := by omega
    have g2 : xf ≤ yf := by omega
    have CX : Hid (∀ W : World, Calls Try.prog 29 #[.agg #[.int .i64 xf, .int .i64 xt, .string xx]] W fun e w' => e = .returned (.int .i64 ex) ∧ w' = W.alloc (.cells #[.int .i64 xf, .int .i64 xt, .string xx] 37)) := cx
    have CY : Hid (∀ W : World, Calls Try.prog 29 #[.agg #[.int .i64 yf, .int .i64 yt, .string yx]] W fun e w' => e = .returned (.int .i64 ey) ∧ w' = W.alloc (.cells #[.int .i64 yf, .int .i64 yt, .string yx] 37)) := cy
    clear cx cy
    go_enter Try.func31, Try.ntmps31
    go_wp2
    obtain ⟨W, hW⟩ : ∃ W, (w.alloc (.cells #[.int .i64 xf, .int .i64 xt, .string xx] 37)).alloc (.cells #[.int .i64 yf, .int .i64 yt, .string yx] 37) = W := ⟨_, rfl⟩
    obtain ⟨B, hB⟩ : ∃ B, w.heap.size = B := ⟨_, rfl⟩
    have hsz : W.heap.size = B + 2 := by rw [← hW, ← hB]; simp
    have hcb : c < B := hB ▸ World.block_lt_of_cell? w ⟨c, 0, none⟩ hc
    have bel : Below B w W := by rw [← hW, ← hB]; exact ((Below.refl _ w).alloc (Nat.le_refl _) _).alloc (by simp) _
    have l0 := fun n os => cell_grown (w := W) (a := ⟨c, 0, none⟩) (by show c < W.heap.size; omega) ((bel.cell hcb).trans hc) n os
    have x0 := fun n os => cell_grown (w := W) (a := ⟨B, 0, none⟩) (v := .int .i64 xf) (by show B < W.heap.size; omega) (by rw [← hW, ← hB]; simp) n os
    have x1 := fun n os => cell_grown (w := W) (a := ⟨B, 1, none⟩) (v := .int .i64 xt) (by show B < W.heap.size; omega) (by rw [← hW, ← hB]; simp) n os
    have x2 := fun n os => cell_grown (w := W) (a := ⟨B, 2, none⟩) (v := .string xx) (by show B < W.heap.size; omega) (by rw [← hW, ← hB]; simp) n os
    have y0 := fun n os => cell_grown (w := W) (a := ⟨B + 1, 0, none⟩) (v := .int .i64 yf) (by show B + 1 < W.heap.size; omega) (by rw [← hW, ← hB]; simp) n os
    have y1 := fun n os => cell_grown (w := W) (a := ⟨B + 1, 1, none⟩) (v := .int .i64 yt) (by show B + 1 < W.heap.size; omega) (by rw [← hW, ← hB]; simp) n os
    have y2 := fun n os => cell_grown (w := W) (a := ⟨B + 1, 2, none⟩) (v := .string yx) (by show B + 1 < W.heap.size; omega) (by rw [← hW, ← hB]; simp) n os
    have cx : ∀ n os, Calls Try.prog 29 #[.agg #[.int .i64 xf, .int .i64 xt, .string xx]] (grow (W.drewN n) os) fun e w' => e = .returned (.int .i64 ex) ∧ ∃ q os', w' = grow ((grow (W.drewN n) os).drewN q) os' := fun n os =>
      (CX.out _).mono fun _ _ ⟨he, hw⟩ => ⟨he, 0, #[.cells #[.int .i64 xf, .int .i64 xt, .string xx] 37], by rw [hw, alloc_eq_grow]; rfl⟩
    have cy : ∀ n os, Calls Try.prog 29 #[.agg #[.int .i64 yf, .int .i64 yt, .string yx]] (grow (W.drewN n) os) fun e w' => e = .returned (.int .i64 ey) ∧ ∃ q os', w' = grow ((grow (W.drewN n) os).drewN q) os' := fun n os =>
      (CY.out _).mono fun _ _ ⟨he, hw⟩ => ⟨he, 0, #[.cells #[.int .i64 yf, .int .i64 yt, .string yx] 37], by rw [hw, alloc_eq_grow]; rfl⟩
    have HW : Hid (W = grow w #[.cells #[.int .i64 xf, .int .i64 xt, .string xx] 37, .cells #[.int .i64 yf, .int .i64 yt, .string yx] 37]) := by
      show _ = _
      rw [← hW, alloc_eq_grow, alloc_eq_grow, grow_grow]; rfl
    rw [hW, hB]
    clear hW hB hsz bel hcb hc CX CY
    have mixed : Try.prog.follows .mixedOrders = true := by kernel_rfl
    go_quiet_grown (first | (go_at_call 29; (with_reducible refine Calls.grown_of (cx _ _))) | (go_at_call 29; (with_reducible refine Calls.grown_of (cy _ _))))
    go_wp2
    go_ret
    have hwr : IntKind.i64.wrap (ex - ey) = ex - ey := by rw [IntKind.wrap_i64]; omega
    exact ⟨congrArg (fun z : Int => Ending.returned (Value.int .i64 z)) hwr, nq, _, by rw [HW.out]; show grow (grow (w.drewN nq) _) osq = _; rw [grow_grow]⟩

/-- What the sort asks of 'cmp'. -/
theorem cmp_lays (c blk off size : Nat) (w : World) (hcb : c ≠ blk) (hcl : c < w.heap.size) (hc : w.cell? ⟨c, 0, none⟩ = some (.func (.func 29) #[] #[])) : CmpLays Try.prog 31 #[.pointer (some ⟨c, 0, none⟩)] enc 3 cf blk off size w := by
  intro m os dk _ x y
  refine cmp_any x y c _ ?_
  unfold sortWorldK putRowK
  rw [cell?_grow _ _ _ (by rw [size_putRow]; exact hcl), cell?_putRow_other _ _ _ _ _ _ (Or.inl (by exact hcb))]
  exact hc
end Go.Proofs.Ytinanagjoaaacaa
