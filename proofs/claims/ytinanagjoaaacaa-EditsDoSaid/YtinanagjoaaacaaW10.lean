/-
  The law's edit; the document's Same: walks.
-/
import Derived.Laws.StructEq
import Derived.Test.YtinanagjoaaacaaW9
import Derived.Test.YtinanagjoaaacaaW8
namespace Go.Proofs.Ytinanagjoaaacaa
open Go.RowKit Go.Shelf Go.Lib Go.Sort

set_option maxRecDepth 100000 in
set_option maxHeartbeats 2000000 in
theorem edit_any (f t : Int) (x : ByteArray) (w : World) : Calls Try.prog 22 #[.int .i64 f, .int .i64 t, .string x] w fun e w' => e = .returned (.agg #[.int .i64 f, .int .i64 t, .string x]) ∧ ∃ o, w' = w.alloc o := by
  go_enter Try.func22, Try.ntmps22
  go_wp2
  exact bodyPost_ret (v := .agg #[.int .i64 f, .int .i64 t, .string x]) (by simp [results, Try.f22, go_sem]) rfl ⟨rfl, _, rfl⟩

def eqE (x y : Ed) : Bool := decide (x.fr = y.fr) && decide (x.to = y.to) && decide (x.tx = y.tx)
theorem eq35 (a b c d : Int) (w : World) : (Op.equalIn 9999 35 (.agg #[.int .i64 a, .int .i64 b]) (.agg #[.int .i64 c, .int .i64 d])).run Try.prog w = .ok (a == c && b == d) w := by
  have u3 := Try.underlying3
  have a3 := Try.isAgg3
  have z3 := Try.sizeOf3
  have hS : Try.prog.underlying 35 = some (.struct (Try.prog.fieldsOf 35)) := by kernel_rfl
  have hp : Try.prog.stoodInHeld 35 = false := by kernel_rfl
  rw [show (9999 : Nat) = 9998 + 1 from rfl, run_equalIn_agg w 9998 35 _ _ hS hp]
  simp only [Program.fieldsOf, Try.underlying35]
  go_simp
  by_cases h1 : a = c <;> by_cases h2 : b = d <;> simp [h1, h2]
theorem eq37 (x y : Ed) (w : World) : (Op.equalIn 10000 37 (.agg #[.int .i64 x.fr, .int .i64 x.to, .string x.tx]) (.agg #[.int .i64 y.fr, .int .i64 y.to, .string y.tx])).run Try.prog w = .ok (eqE x y) w := by
  have u3 := Try.underlying3
  have a3 := Try.isAgg3
  have z3 := Try.sizeOf3
  have u9 := Try.underlying9
  have a9 := Try.isAgg9
  have z9 := Try.sizeOf9
  have u35 := Try.underlying35
  have a35 := Try.isAgg35
  have z35 := Try.sizeOf35
  have e35 := fun w => eq35 x.fr x.to y.fr y.to w
  have hS : Try.prog.underlying 37 = some (.struct (Try.prog.fieldsOf 37)) := by kernel_rfl
  have hp : Try.prog.stoodInHeld 37 = false := by kernel_rfl
  rw [show (10000 : Nat) = 9999 + 1 from rfl, run_equalIn_agg w 9999 37 _ _ hS hp]
  simp only [Program.fieldsOf, Try.underlying37]
  go_simp
  have hs : (x.tx.toList = y.tx.toList) ↔ (x.tx = y.tx) := ⟨fun h => by
    rw [ByteArray.toList_eq, ByteArray.toList_eq] at h
    exact ByteArray.ext (Array.toList_inj.mp h), fun h => by rw [h]⟩
  unfold eqE
  by_cases h1 : x.fr = y.fr <;> by_cases h2 : x.to = y.to <;> by_cases h3 : x.tx = y.tx <;> simp [h1, h2, h3, hs]
theorem neq_run (x y : Ed) (w : World) : (binOp .neq 37 (.agg #[.int .i64 x.fr, .int .i64 x.to, .string x.tx]) (.agg #[.int .i64 y.fr, .int .i64 y.to, .string y.tx])).run Try.prog w = .ok (.bool (!eqE x y)) w := by
  rw [run_neq_struct, eq37]; rfl
theorem eql_run (x y : Ed) (w : World) : (binOp .eql 37 (.agg #[.int .i64 x.fr, .int .i64 x.to, .string x.tx]) (.agg #[.int .i64 y.fr, .int .i64 y.to, .string y.tx])).run Try.prog w = .ok (.bool (eqE x y)) w := by
  rw [run_eql_struct, eq37]; rfl
theorem guard37 : Try.prog.eqGuardType Try.prog.depth 37 = false := by kernel_rfl
/-- The same edits? -/
def sameE : List Ed → List Ed → Bool
  | [], [] => true
  | x :: l, y :: r => eqE x y && sameE l r
  | _, _ => false
set_option maxRecDepth 100000 in
set_option maxHeartbeats 2000000 in
theorem same_any (w : World) (v u : Value) (l r : List Ed) (hv : Rd w v l) (hu : Rd w u r) (hn : l.length ≤ 1000000) (hm : r.length ≤ 1000000) : Calls Try.prog 15 #[v, u] w fun e w' => e = .returned (.bool (sameE l r)) ∧ ∃ n, w' = w.drewN n := by
  obtain ⟨p, cap, rfl, hp⟩ : ∃ p cap, v = .slice p l.length cap ∧ ∀ k x, l[k]? = some x → ∃ g off, p = some ⟨g, off, none⟩ ∧ w.cell? ⟨g, off + k * 3, none⟩ = some (.int .i64 x.fr) ∧ w.cell? ⟨g, off + k * 3 + 1, none⟩ = some (.int .i64 x.to) ∧ w.cell? ⟨g, off + k * 3 + 2, none⟩ = some (.string x.tx) := by
    rcases hv with ⟨rfl, rfl⟩ | ⟨g, off, cap, rfl, _, h⟩
    · exact ⟨_, _, rfl, fun k x h => by simp at h⟩
    · exact ⟨_, _, rfl, fun k x hx => ⟨g, off, rfl, h k x hx⟩⟩
  obtain ⟨p', cap', rfl, hp'⟩ : ∃ p cap, u = .slice p r.length cap ∧ ∀ k x, r[k]? = some x → ∃ g off, p = some ⟨g, off, none⟩ ∧ w.cell? ⟨g, off + k * 3, none⟩ = some (.int .i64 x.fr) ∧ w.cell? ⟨g, off + k * 3 + 1, none⟩ = some (.int .i64 x.to) ∧ w.cell? ⟨g, off + k * 3 + 2, none⟩ = some (.string x.tx) := by
    rcases hu with ⟨rfl, rfl⟩ | ⟨g, off, cap, rfl, _, h⟩
    · exact ⟨_, _, rfl, fun k x h => by simp at h⟩
    · exact ⟨_, _, rfl, fun k x hx => ⟨g, off, rfl, h k x hx⟩⟩
  have HP := Lib.hid hp
  have HP' := Lib.hid hp'
  clear hp hp' hv hu
  obtain ⟨N, hN⟩ : ∃ N, l.length = N := ⟨_, rfl⟩
  obtain ⟨M, hM⟩ : ∃ N, r.length = N := ⟨_, rfl⟩
  have HN := Lib.hid hN
  have HM := Lib.hid hM
  rw [hN] at hn ⊢
  rw [hM] at hm ⊢
  clear hN hM
  by_cases hNM : N = M
  · subst hNM
    go_enter Try.func15, Try.ntmps15
    go_wp2
    go_loopw [5] (fun iv wr => ∃ k q : Nat, iv = .int .i64 k ∧ k ≤ N ∧ Hid (sameE (l.drop k) (r.drop k) = sameE l r) ∧ wr = w.drewN q) (fun iv _ => N - (RowKit.intOf iv).toNat)
    case atStart => exact ⟨0, 0, rfl, Nat.zero_le _, rfl, rfl⟩
    case round =>
      obtain ⟨k, q, rfl, hk, hst, rfl⟩ := hrel
      by_cases hlt : k < N
      · have hz : (k : Int) < (N : Int) := by omega
        obtain ⟨x, hx⟩ : ∃ x, l[k]? = some x := ⟨_, List.getElem?_eq_getElem (by rw [HN.out]; exact hlt)⟩
        obtain ⟨y, hy⟩ : ∃ y, r[k]? = some y := ⟨_, List.getElem?_eq_getElem (by rw [HM.out]; exact hlt)⟩
        obtain ⟨g, off, rfl, c0, c1, c2⟩ := HP.out k x hx
        obtain ⟨g', off', rfl, d0, d1, d2⟩ := HP'.out k y hy
        have HX := Lib.hid hx
        have HY := Lib.hid hy
        obtain ⟨xf, xt, xx, xg⟩ := x
        obtain ⟨yf, yt, yx, yg⟩ := y
        dsimp only at c0 c1 c2 d0 d1 d2
        have hnq := fun w => neq_run ⟨xf, xt, xx, xg⟩ ⟨yf, yt, yx, yg⟩ w
        have h37 := guard37
        dsimp only at hnq
        have hstep : Hid (sameE l r = (eqE ⟨xf, xt, xx, xg⟩ ⟨yf, yt, yx, yg⟩ && sameE (l.drop (k + 1)) (r.drop (k + 1)))) := by
          show _ = _
          have e1 : l.drop k = ⟨xf, xt, xx, xg⟩ :: l.drop (k + 1) := by
            rw [List.drop_eq_getElem_cons (by rw [HN.out]; exact hlt), (List.getElem?_eq_some_iff.1 hx).2]
          have e2 : r.drop k = ⟨yf, yt, yx, yg⟩ :: r.drop (k + 1) := by
            rw [List.drop_eq_getElem_cons (by rw [HM.out]; exact hlt), (List.getElem?_eq_some_iff.1 hy).2]
          rw [← hst.out, e1, e2]; rfl
        by_cases he : eqE ⟨xf, xt, xx, xg⟩ ⟨yf, yt, yx, yg⟩ = true
        · rw [he] at hnq hstep
          simp only [Bool.not_true] at hnq
          have hst2 : Hid (sameE (l.drop (k + 1)) (r.drop (k + 1)) = sameE l r) := by
            show _ = _
            rw [hstep.out, Bool.true_and]
          clear hx hy hlt he
          go_wp2
          go_quiet (fail)
          go_wp2
          go_roundw
          case rel => exact ⟨k + 1, q + nq, by go_num, by omega, hst2, by simp⟩
          case measure => simp [RowKit.intOf]; omega
        · have he' : eqE ⟨xf, xt, xx, xg⟩ ⟨yf, yt, yx, yg⟩ = false := by simpa using he
          rw [he'] at hnq hstep
          simp only [Bool.not_false] at hnq
          have hF : Hid (false = sameE l r) := by show _ = _; rw [hstep.out, Bool.false_and]
          clear hx hy hlt he he'
          go_wp2
          go_quiet (fail)
          go_wp2
          go_ret
          exact ⟨congrArg (fun z => Ending.returned (Value.bool z)) hF.out, _, World.drewN_drewN _ _ _⟩
      · have hz : ¬ ((k : Int) < (N : Int)) := by omega
        have hst2 : Hid (true = sameE l r) := by
          show _ = _
          rw [← hst.out, List.drop_eq_nil_of_le (by rw [HN.out]; omega), List.drop_eq_nil_of_le (by rw [HM.out]; omega)]; rfl
        clear hlt hst
        go_wp2
        go_ret
        exact ⟨congrArg (fun z => Ending.returned (Value.bool z)) hst2.out, _, rfl⟩
  · have hz : ((N : Int) == (M : Int)) = false := eqF (by omega)
    have hs : sameE l r = false := by
      have : ∀ l r : List Ed, l.length ≠ r.length → sameE l r = false := by
        intro l
        induction l with
        | nil => intro r h; cases r with
          | nil => simp at h
          | cons y r => rfl
        | cons x l ih => intro r h; cases r with
          | nil => rfl
          | cons y r => simp only [sameE]; rw [ih r (by simpa using h), Bool.and_false]
      exact this l r (by rw [HN.out, HM.out]; exact hNM)
    rw [hs]
    clear hs hNM
    go_enter Try.func15, Try.ntmps15
    go_wp2
    go_ret
    exact ⟨rfl, 0, rfl⟩
end Go.Proofs.Ytinanagjoaaacaa
