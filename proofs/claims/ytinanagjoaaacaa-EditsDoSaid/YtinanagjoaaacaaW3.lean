/-
  How a slice of edits lies in memory; slices.ContainsFunc and slices.Clone at edits.
-/
import Derived.Test.YtinanagjoaaacaaW2
namespace Go.Proofs.Ytinanagjoaaacaa
open Go.RowKit Go.Shelf Go.Lib Go.Sort

theorem below_sort {B : Nat} {w : World} {blk : Nat} (hB : B ≤ blk) (hs : B ≤ w.heap.size) (off n : Nat) (d : Array Ed) (os : Array Obj) : RowKit.Below B w (sortWorldK enc 3 w blk off n d os) := by
  unfold sortWorldK putRowK putRow
  refine ⟨rfl, rfl, rfl, ?_, fun k hk => ?_⟩
  · rw [size_grow]
    show w.heap.size ≤ (w.heap.modify blk _).size + _
    rw [Array.size_modify]; omega
  · show ((w.heap.modify blk _) ++ os)[k]? = _
    rw [Array.getElem?_append_left (by rw [Array.size_modify]; omega), Array.getElem?_modify, if_neg (by omega)]

/-- The cells of a list of edits. -/
def cellsE (l : List Ed) : List Value := l.flatMap enc
theorem cellsE_length : ∀ l : List Ed, (cellsE l).length = l.length * 3
  | [] => rfl
  | x :: r => by
    have := cellsE_length r
    unfold cellsE at this ⊢
    rw [List.flatMap_cons, List.length_append, this, enc_len, List.length_cons]; omega
theorem cellsE_at : ∀ (l : List Ed) (i : Nat) (x : Ed), l[i]? = some x → (cellsE l)[i * 3]? = some (.int .i64 x.fr) ∧ (cellsE l)[i * 3 + 1]? = some (.int .i64 x.to) ∧ (cellsE l)[i * 3 + 2]? = some (.string x.tx)
  | [], i, x, h => by simp at h
  | y :: r, 0, x, h => by
    obtain rfl : y = x := by simpa using h
    exact ⟨rfl, rfl, rfl⟩
  | y :: r, i + 1, x, h => by
    have ih := cellsE_at r i x (by simpa using h)
    have e : cellsE (y :: r) = .int .i64 y.fr :: .int .i64 y.to :: .string y.tx :: cellsE r := rfl
    rw [e, show (i + 1) * 3 = i * 3 + 3 from by omega, show i * 3 + 3 + 1 = i * 3 + 1 + 3 from by omega, show i * 3 + 3 + 2 = i * 3 + 2 + 3 from by omega]
    exact ih
theorem cellsE_one (l : List Ed) : ∀ u ∈ cellsE l, u.oneCell' = true := by
  intro u hu
  obtain ⟨x, _, hx⟩ := List.mem_flatMap.1 hu
  exact enc_one x u hx

/-- A slice that reads as a list of edits. -/
def Rd (W : World) (v : Value) (l : List Ed) : Prop :=
  (v = .slice none 0 0 ∧ l = []) ∨ ∃ b off cap, v = .slice (some ⟨b, off, none⟩) l.length cap ∧ b < W.heap.size ∧
    ∀ i x, l[i]? = some x → W.cell? ⟨b, off + i * 3, none⟩ = some (.int .i64 x.fr) ∧ W.cell? ⟨b, off + i * 3 + 1, none⟩ = some (.int .i64 x.to) ∧ W.cell? ⟨b, off + i * 3 + 2, none⟩ = some (.string x.tx)
theorem Rd.below {W W' : World} {n : Nat} {v : Value} {l : List Ed} (h : Rd W v l) (hb : RowKit.Below n W W') (hn : W.heap.size ≤ n) : Rd W' v l := by
  rcases h with h | ⟨b, off, cap, h1, h2, h3⟩
  · exact .inl h
  · refine .inr ⟨b, off, cap, h1, Nat.lt_of_lt_of_le h2 hb.size, fun i x hx => ?_⟩
    obtain ⟨a1, a2, a3⟩ := h3 i x hx
    exact ⟨(hb.cell (by show b < n; omega)).trans a1, (hb.cell (by show b < n; omega)).trans a2, (hb.cell (by show b < n; omega)).trans a3⟩
/-- A slice in a row of its own, block B or behind, that reads as a list of edits. -/
def Rw (W : World) (B : Nat) (v : Value) (l : List Ed) : Prop :=
  (v = .slice none 0 0 ∧ l = []) ∨ ∃ g cap, v = .slice (some ⟨g, 0, none⟩) l.length cap ∧ B ≤ g ∧ g < W.heap.size ∧ HoldsK enc 3 W g 0 l.toArray
theorem holds_rd {W : World} {g off : Nat} {l : List Ed} (h : HoldsK enc 3 W g off l.toArray) : ∀ i x, l[i]? = some x → W.cell? ⟨g, off + i * 3, none⟩ = some (.int .i64 x.fr) ∧ W.cell? ⟨g, off + i * 3 + 1, none⟩ = some (.int .i64 x.to) ∧ W.cell? ⟨g, off + i * 3 + 2, none⟩ = some (.string x.tx) := by
  intro i x hx
  have hi : i < l.length := (List.getElem?_eq_some_iff.1 hx).1
  have hx' : l.toArray[i]! = x := by
    rw [getElem!_pos l.toArray i (by simpa using hi)]
    simpa using (List.getElem?_eq_some_iff.1 hx).2
  have h0 := (h.cell (i := i) (c := 0) (by simpa using hi) (by omega)).1
  have h1 := (h.cell (i := i) (c := 1) (by simpa using hi) (by omega)).1
  have h2 := (h.cell (i := i) (c := 2) (by simpa using hi) (by omega)).1
  rw [hx'] at h0 h1 h2
  exact ⟨h0, h1, h2⟩
theorem Rw.rd {W : World} {B : Nat} {v : Value} {l : List Ed} (h : Rw W B v l) : Rd W v l := by
  rcases h with h | ⟨g, cap, h1, _, h3, h4⟩
  · exact .inl h
  · exact .inr ⟨g, 0, cap, h1, h3, holds_rd h4⟩

theorem e27 : ∀ args w, (callFunc 27 args).run Try.prog w = .ok (.enter 27 args) w := enters_of Try.func27 (by kernel_rfl) rfl
set_option maxRecDepth 100000 in
set_option maxHeartbeats 1000000 in
theorem contains_nil (w : World) (f : Value) : Calls Try.prog 26 #[.slice none 0 0, f] w fun e w' => e = .returned (.bool false) ∧ w' = w := by
  have h38 : Calls Try.prog 38 #[.slice none 0 0, f] w fun e w' => e = .returned (.int .i64 (-1)) ∧ w' = w := by
    go_enter Try.func38, Try.ntmps38
    go_wp2
    refine wp_loop_rounds 1 ?_
    rw [rounds_succ]
    go_wp2
    go_ret
    exact ⟨rfl, rfl⟩
  go_enter Try.func26, Try.ntmps26
  go_wp2_with (go_at_call 38; refine h38.mono ?_; rintro e w1 ⟨rfl, rfl⟩)
  go_ret
  exact ⟨rfl, rfl⟩
theorem contains_any (w : World) (v : Value) (l : List Ed) (h : Rd w v l) (hn : l.length ≤ 1000000) :
    Calls Try.prog 26 #[v, .func (.func 27) #[] #[]] w fun e w' => e = .returned (.bool (l.any badE)) ∧ RowKit.Below w.heap.size w w' := by
  rcases h with ⟨rfl, rfl⟩ | ⟨b, off, cap, rfl, hb, hc⟩
  · exact (contains_nil w _).mono fun _ _ ⟨he, hw⟩ => ⟨he, by rw [hw]; exact Below.refl _ _⟩
  · have := AnyQ.slices_ContainsFunc Try.laysContains 3 Try.isAgg37 Try.sizeOf37 enc enc_len badE 27 #[] e27 b off l.length cap l w (bad_pred w) (Nat.le_refl _) (by omega) hb (fun j hj i u hu => by
      have hx : l[j]? = some l[j]! := by rw [getElem!_pos l j hj]; exact List.getElem?_eq_getElem hj
      obtain ⟨a0, a1, a2⟩ := hc j _ hx
      match i, hu with
      | 0, hu => rw [← Option.some.inj hu]; exact a0
      | 1, hu => rw [← Option.some.inj hu]; exact a1
      | 2, hu => rw [← Option.some.inj hu]; exact a2)
    rw [List.take_length] at this
    exact this

theorem info37 : (Try.prog.info? 37).map (fun i => (i.zero, i.size, i.bytes)) = some (some (.agg #[.int .i64 0, .int .i64 0, .string ⟨#[]⟩]), 3, 32) := by kernel_rfl
theorem info_parts3 {i : Option TypeInfo} {z : Value} {s b : Nat} (h : i.map (fun i => (i.zero, i.size, i.bytes)) = some (some z, s, b)) : ∃ j, i = some j ∧ j.zero = some z ∧ j.size = s ∧ j.bytes = b := by
  cases i with
  | none => cases h
  | some j =>
    simp only [Option.map_some, Option.some.injEq, Prod.mk.injEq] at h
    exact ⟨j, rfl, h.1, h.2.1, h.2.2⟩
theorem owns_rw {W : World} {B g cap : Nat} {l : List Ed} (h : W.ownsRow B 37 3 (.slice (some ⟨g, 0, none⟩) l.length cap) l.length (cellsE l)) : Rw W B (.slice (some ⟨g, 0, none⟩) l.length cap) l := by
  have hl := h.lt g rfl
  refine .inr ⟨g, cap, rfl, hl.1, hl.2, fun j hj => ?_⟩
  rw [size_flatK] at hj
  have hj' : j < l.length * 3 := by simpa using hj
  rw [Nat.zero_add]
  refine ⟨?_, h.frozenAt j⟩
  rw [h.cellAt j hj', get_flatK _ _ _ _ hj]
  have hi : j / 3 < l.length := by omega
  have hx : l[j / 3]? = some l[j / 3]! := by rw [getElem!_pos l _ hi]; exact List.getElem?_eq_getElem hi
  obtain ⟨a0, a1, a2⟩ := cellsE_at l _ _ hx
  have he : l.toArray[j / 3]! = l[j / 3]! := by rw [getElem!_pos l.toArray _ (by simpa using hi), getElem!_pos l _ hi]; simp
  rw [he]
  have hm : j % 3 = 0 ∨ j % 3 = 1 ∨ j % 3 = 2 := by omega
  rcases hm with hm | hm | hm
  · rw [hm, show j = j / 3 * 3 from by omega, a0, show (j / 3 * 3) / 3 = j / 3 from by omega]; rfl
  · rw [hm, show j = j / 3 * 3 + 1 from by omega, a1, show (j / 3 * 3 + 1) / 3 = j / 3 from by omega]; rfl
  · rw [hm, show j = j / 3 * 3 + 2 from by omega, a2, show (j / 3 * 3 + 2) / 3 = j / 3 from by omega]; rfl
/-- A slice no longer than its room. -/
def capOk : Value → Prop
  | .slice _ n cap => n ≤ cap
  | _ => True
theorem clone_any (w : World) (v : Value) (l : List Ed) (h : Rd w v l) (hn : l.length ≤ 1000000) :
    Calls Try.prog 28 #[v] w fun e w' => ∃ v', e = .returned v' ∧ RowKit.Below w.heap.size w w' ∧ Rw w' w.heap.size v' l ∧ capOk v' := by
  rcases h with ⟨rfl, rfl⟩ | ⟨b, off, cap, rfl, hb, hc⟩
  · exact (AnyE.slices_Clone_nil Try.laysClone 0 0 w).mono fun _ _ ⟨he, hw⟩ => ⟨_, he, by rw [hw]; exact Below.refl _ _, .inl ⟨rfl, rfl⟩, Nat.le_refl 0⟩
  · obtain ⟨i0, hi, hz0, hz1, hz2⟩ := info_parts3 info37
    refine (AnyE.slices_Clone Try.laysClone i0 _ 3 32 hi hz0 hz1 hz2 rfl (by omega) Try.sizeOf37 b off l.length cap (cellsE l) w (cellsE_length l) (by unfold maxLen; omega) (by omega) (fun j u hu => ?_) (cellsE_one l)).mono ?_
    · have hj : j < l.length * 3 := by rw [← cellsE_length]; exact (List.getElem?_eq_some_iff.1 hu).1
      have hi : j / 3 < l.length := by omega
      have hx : l[j / 3]? = some l[j / 3]! := by rw [getElem!_pos l _ hi]; exact List.getElem?_eq_getElem hi
      obtain ⟨a0, a1, a2⟩ := hc _ _ hx
      obtain ⟨c0, c1, c2⟩ := cellsE_at l _ _ hx
      have hm : j % 3 = 0 ∨ j % 3 = 1 ∨ j % 3 = 2 := by omega
      rcases hm with hm | hm | hm
      · rw [show j = j / 3 * 3 from by omega] at hu ⊢
        rw [c0] at hu; rw [a0, ← Option.some.inj hu]
      · rw [show j = j / 3 * 3 + 1 from by omega] at hu ⊢
        rw [c1] at hu; rw [← Nat.add_assoc, a1, ← Option.some.inj hu]
      · rw [show j = j / 3 * 3 + 2 from by omega] at hu ⊢
        rw [c2] at hu; rw [← Nat.add_assoc, a2, ← Option.some.inj hu]
    · rintro e w' ⟨v', rfl, ho, hne, hb2⟩
      refine ⟨v', rfl, hb2, ?_⟩
      rcases ho.2 with ⟨h1, _⟩ | ⟨g, cap', cur, h1, _, _, hle, _⟩
      · exact absurd h1 hne
      · subst h1
        exact ⟨owns_rw ho, hle⟩
end Go.Proofs.Ytinanagjoaaacaa
