/-
  A slice of edits that came in: opened; it reads behind the call as it did before.
-/
import Derived.Deep.Slices
import Derived.Carry
import Derived.Test.YtinanagjoaaacaaW3
namespace Go.Proofs.Ytinanagjoaaacaa
open Go.ChangeShapes Go.WideShapes Go.RowKit Go.Deep

theorem ok_slice {W : World} {v : Value} (h : Value.okWide Try.prog W .any 0 22 v) : v = .slice none 0 0 ∨ ∃ b off len cap, v = .slice (some ⟨b, off, none⟩) len cap ∧ b < W.heap.size := by
  unfold Value.okWide at h
  rw [Try.underlying22] at h
  simp only [Cell.okWide, Cell.ok, Try.underlying22] at h
  cases v <;> simp at h
  rename_i p len cap
  cases p with
  | none =>
    refine .inl ?_
    cases len <;> cases cap <;> simp at h
    rfl
  | some a =>
    obtain ⟨b, off, spot⟩ := a
    simp only [World.has] at h
    obtain ⟨_, _, _, hs, row, cells, hsh, _⟩ := h
    try dsimp only at hs hsh
    subst hs
    refine .inr ⟨b, off, len, cap, rfl, ?_⟩
    unfold World.shape? at hsh
    cases hg : W.heap[b]? with
    | none => rw [hg] at hsh; cases hsh
    | some o => exact (Array.getElem?_eq_some_iff.1 hg).1
theorem cut_one {cs : List Value} {o : Nat} {x : Value} (h : (cs.drop o).take 1 = [x]) : cs[o]? = some x := by
  have := congrArg (fun l => l[0]?) h
  simp only [List.getElem?_take, List.getElem?_drop] at this
  simpa using this
theorem trod_ed {H : Type} {enc : TypeId × Value → H} {W : World} {base : Nat} {spare : Nat → Bool} {held : Bool} {n : Nat} {cs : List Value} {x : DataW H × List MemPlace} (h : DataW.trod enc Try.prog W base spare held n 37 cs = some x) :
    ∃ fr to0 tx, cs = [.int .i64 fr, .int .i64 to0, .string tx] ∧ to0 ≤ 9223372036854775807 := by
  obtain ⟨f0, f1, h37, t0, o0, t1, o1⟩ : ∃ f0 f1, Try.prog.underlying 37 = some (.struct #[f0, f1]) ∧ f0.type = 35 ∧ f0.offset = 0 ∧ f1.type = 9 ∧ f1.offset = 2 := ⟨_, _, Try.underlying37, rfl, rfl, rfl, rfl⟩
  obtain ⟨g0, g1, h35, s0, q0, s1, q1⟩ : ∃ f0 f1, Try.prog.underlying 35 = some (.struct #[f0, f1]) ∧ f0.type = 3 ∧ f0.offset = 0 ∧ f1.type = 3 ∧ f1.offset = 1 := ⟨_, _, Try.underlying35, rfl, rfl, rfl, rfl⟩
  have c37 : Try.prog.cellsOf 37 = 3 := by kernel_rfl
  have c35 : Try.prog.cellsOf 35 = 2 := by kernel_rfl
  have c9 : Try.prog.cellsOf 9 = 1 := by kernel_rfl
  have c3 : Try.prog.cellsOf 3 = 1 := by kernel_rfl
  obtain ⟨y0, y1, m, _, hl, h0, h1⟩ := trod_struct2 h37 h
  rw [t0, o0, c35] at h0
  rw [t1, o1, c9] at h1
  rw [c37] at hl
  obtain ⟨z0, z1, m', _, _, k0, k1⟩ := trod_struct2 h35 h0
  rw [s0, q0, c3] at k0
  rw [s1, q1, c3] at k1
  obtain ⟨fr, e0, _, _⟩ := DataW.trod_int Try.underlying3 k0
  obtain ⟨t, e1, _, w1⟩ := DataW.trod_int Try.underlying3 k1
  obtain ⟨tx, e2, _, _⟩ := DataW.trod_string Try.underlying9 h1
  match cs, hl with
  | [a, b, c], _ =>
    simp at e0 e1 e2
    subst e0 e1 e2
    refine ⟨fr, t, tx, rfl, ?_⟩
    simp [Lit.wf] at w1
    omega
/-- A slice of edits that came in reads as a list. -/
theorem open_eds {H : Type} {enc : TypeId × Value → H} {W : World} {v : Value} {d : DataW H} {p : List MemPlace} (hok : Value.okWide Try.prog W .any 0 22 v) (h : DataW.Trod enc Try.prog W 0 (fun _ => true) true 22 v d p) :
    ∃ l : List Ed, Rd W v l ∧ ∀ x, x ∈ l → x.to ≤ 9223372036854775807 := by
  have c37 : Try.prog.cellsOf 37 = 3 := by kernel_rfl
  rcases ok_slice hok with rfl | ⟨b, off, len, cap, rfl, hb⟩
  · exact ⟨[], .inl ⟨rfl, rfl⟩, fun x hx => by cases hx⟩
  · obtain ⟨fuel, hf⟩ := h
    rcases open_slice Try.underlying22 hf with ⟨h0, _⟩ | ⟨a, len', cap', m, n, D, Pl, hv, _, hl, _, hm, _, hx⟩
    · simp [Value.cells] at h0
    · simp [Value.cells] at hv
      obtain ⟨rfl, rfl, rfl⟩ := hv
      rw [if_pos rfl] at hm
      subst hm
      have hall : ∀ i, i < len → ∃ x : Ed, (W.cell? ⟨b, off + i * 3, none⟩ = some (.int .i64 x.fr) ∧ W.cell? ⟨b, off + i * 3 + 1, none⟩ = some (.int .i64 x.to) ∧ W.cell? ⟨b, off + i * 3 + 2, none⟩ = some (.string x.tx)) ∧ x.to ≤ 9223372036854775807 := by
        intro i hi
        obtain ⟨cs', h1, h2⟩ := hx i (by omega)
        rw [c37] at h1
        obtain ⟨fr, t, tx, rfl, hw⟩ := trod_ed h2
        obtain ⟨_, _, hc⟩ := World.cells?_some h1
        have q0 := hc 0 (by omega)
        have q1 := hc 1 (by omega)
        have q2 := hc 2 (by omega)
        rw [add_plain, add_plain] at q0 q1 q2
        exact ⟨⟨fr, t, tx, 0⟩, ⟨q0, q1, q2⟩, hw⟩
      obtain ⟨f, hf2⟩ := choose_lt hall
      refine ⟨(List.range len).map f, .inr ⟨b, off, _, by rw [List.length_map, List.length_range], hb, fun i x hi => ?_⟩, fun x hx2 => ?_⟩
      · rw [List.getElem?_map, Option.map_eq_some_iff] at hi
        obtain ⟨j, hj, rfl⟩ := hi
        have hlt := (List.getElem?_eq_some_iff.1 hj).1
        rw [List.length_range] at hlt
        rw [List.getElem?_range hlt] at hj
        obtain rfl := Option.some.inj hj
        exact (hf2 i hlt).1
      · obtain ⟨j, hj, rfl⟩ := List.mem_map.1 hx2
        exact (hf2 j (List.mem_range.1 hj)).2
end Go.Proofs.Ytinanagjoaaacaa
