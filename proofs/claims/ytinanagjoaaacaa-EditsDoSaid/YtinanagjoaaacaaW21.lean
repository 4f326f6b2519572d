/-
  The law's long: a walk.
-/
import Derived.Test.YtinanagjoaaacaaW11
namespace Go.Proofs.Ytinanagjoaaacaa
open Go.RowKit Go.Shelf Go.Lib Go.Sort

/-- How a slice of edits lies, told by its index. -/
theorem Rd.shape {w : World} {v : Value} {l : List Ed} (h : Rd w v l) : ∃ p cap, v = .slice p l.length cap ∧ ∀ k x, l[k]? = some x → ∃ g off, p = some ⟨g, off, none⟩ ∧ g < w.heap.size ∧ w.cell? ⟨g, off + k * 3, none⟩ = some (.int .i64 x.fr) ∧ w.cell? ⟨g, off + k * 3 + 1, none⟩ = some (.int .i64 x.to) ∧ w.cell? ⟨g, off + k * 3 + 2, none⟩ = some (.string x.tx) := by
  rcases h with ⟨rfl, rfl⟩ | ⟨g, off, cap, rfl, hg, h⟩
  · exact ⟨_, _, rfl, fun k x h => by simp at h⟩
  · exact ⟨_, _, rfl, fun k x hx => ⟨g, off, rfl, hg, h k x hx⟩⟩
def bigE (x : Ed) : Bool := decide (1000 < x.tx.size)
def longB (l : List Ed) : Bool := decide (100 < l.length) || l.any bigE
theorem long_no {l : List Ed} (h : longB l = false) : l.length ≤ 100 ∧ txS l ≤ 100000 := by
  unfold longB at h
  rw [Bool.or_eq_false_iff] at h
  have h1 : l.length ≤ 100 := by have := h.1; simp at this; exact this
  have h2 : ∀ s : List Ed, s.any bigE = false → txS s ≤ s.length * 1000 := by
    intro s
    induction s with
    | nil => intro _; simp [txS]
    | cons x r ih =>
      intro h
      rw [List.any_cons, Bool.or_eq_false_iff] at h
      have h3 := ih h.2
      have h4 : x.tx.size ≤ 1000 := by have := h.1; unfold bigE at this; simp at this; exact this
      rw [txS_cons, List.length_cons]; omega
  have := h2 l h.2
  exact ⟨h1, by omega⟩
set_option maxRecDepth 100000 in
set_option maxHeartbeats 2000000 in
theorem long_any (w : World) (v : Value) (l : List Ed) (h : Rd w v l) : Calls Try.prog 9 #[v] w fun e w' => e = .returned (.bool (longB l)) ∧ w' = w := by
  obtain ⟨p, cap, rfl, hp⟩ := h.shape
  have HP := Lib.hid hp
  have HL : Hid (longB l = (decide (100 < l.length) || l.any bigE)) := rfl
  obtain ⟨B, hB⟩ : ∃ B, longB l = B := ⟨_, rfl⟩
  rw [hB] at HL ⊢
  obtain ⟨N, hN⟩ : ∃ N, l.length = N := ⟨_, rfl⟩
  have HN := Lib.hid hN
  rw [hN] at HL ⊢
  clear hp h hN hB
  by_cases hbig : 100 < N
  · have hz : (100 : Int) < (N : Int) := by omega
    have hB : B = true := by rw [HL.out, decide_eq_true hbig]; rfl
    subst hB
    clear hbig
    go_enter Try.func9, Try.ntmps9
    go_wp2
    go_ret
    exact ⟨rfl, rfl⟩
  · have hz : ¬ (100 : Int) < (N : Int) := by omega
    have hB : Hid (B = l.any bigE) := by show _ = _; rw [HL.out, decide_eq_false hbig]; rfl
    clear hbig
    go_enter Try.func9, Try.ntmps9
    go_wp2
    go_loopw [3] (fun iv wr => ∃ k : Nat, iv = .int .i64 k ∧ k ≤ N ∧ Hid ((l.drop k).any bigE = B) ∧ wr = w) (fun iv _ => N - (RowKit.intOf iv).toNat)
    case atStart => exact ⟨0, rfl, Nat.zero_le _, hB.out.symm, rfl⟩
    case round =>
      obtain ⟨k, rfl, hk, hst, rfl⟩ := hrel
      by_cases hlt : k < N
      · have hzk : (k : Int) < (N : Int) := by omega
        obtain ⟨x, hx⟩ : ∃ x, l[k]? = some x := ⟨_, List.getElem?_eq_getElem (by rw [HN.out]; exact hlt)⟩
        obtain ⟨g, off, rfl, _, _, _, c2⟩ := HP.out k x hx
        have hstep : Hid ((bigE x || (l.drop (k + 1)).any bigE) = B) := by
          show _ = _
          have e1 : l.drop k = x :: l.drop (k + 1) := by
            rw [List.drop_eq_getElem_cons (by rw [HN.out]; exact hlt), (List.getElem?_eq_some_iff.1 hx).2]
          rw [← hst.out, e1]; rfl
        obtain ⟨xf, xt, xx, xg⟩ := x
        dsimp only at c2
        clear hx hlt hst
        by_cases hb : 1000 < xx.size
        · have hzb : (1000 : Int) < (xx.size : Int) := by omega
          have hB2 : Hid (true = B) := by
            show _ = _
            have h1 : bigE ⟨xf, xt, xx, xg⟩ = true := decide_eq_true hb
            rw [← hstep.out, h1]; rfl
          clear hb hstep
          go_wp2
          go_ret
          exact ⟨congrArg (fun z => Ending.returned (Value.bool z)) hB2.out, rfl⟩
        · have hzb : ¬ (1000 : Int) < (xx.size : Int) := by omega
          have hB2 : Hid ((l.drop (k + 1)).any bigE = B) := by
            show _ = _
            have h1 : bigE ⟨xf, xt, xx, xg⟩ = false := decide_eq_false hb
            rw [← hstep.out, h1]; rfl
          clear hb hstep
          go_wp2
          go_roundw
          case rel => exact ⟨k + 1, by go_num, by omega, hB2, trivial⟩
          case measure => simp [RowKit.intOf]; omega
      · have hzk : ¬ (k : Int) < (N : Int) := by omega
        have hB2 : Hid (false = B) := by
          show _ = _
          rw [← hst.out, List.drop_eq_nil_of_le (by rw [HN.out]; omega)]; rfl
        clear hlt hst
        go_wp2
        go_ret
        exact ⟨congrArg (fun z => Ending.returned (Value.bool z)) hB2.out, rfl⟩
end Go.Proofs.Ytinanagjoaaacaa
