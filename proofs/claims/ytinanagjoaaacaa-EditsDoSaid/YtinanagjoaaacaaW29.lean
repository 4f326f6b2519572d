/-
  The document's Back: a walk.
-/
import Derived.Deep.RegionHeld
import Derived.Test.YtinanagjoaaacaaW28
namespace Go.Proofs.Ytinanagjoaaacaa
open Go.RowKit Go.Shelf Go.Lib Go.Sort

theorem bkL_at {t : ByteArray} {s : List Ed} {k : Nat} {x : Ed} (h : s[k]? = some x) : (bkL t s)[k]? = some (bkE t (dN (s.take k), x)) := by
  unfold bkL mvL
  rw [List.getElem?_map, mvF_at, h]
  simp

theorem owns_cap {W : World} {H n k c m : Nat} {p : Option Addr} {xs : List Value} (h : W.ownsRow H 37 3 (.slice p k c) n xs) (hm : m ≤ k := by exact Nat.le_refl _) : m ≤ c := by
  rcases h.2 with ⟨h4, h5⟩ | ⟨g, cap', cur, h4, h5, h6, h7, _⟩
  · simp only [Value.slice.injEq] at h4
    obtain ⟨rfl, rfl, rfl⟩ := h4
    exact hm
  · simp only [Value.slice.injEq] at h4
    obtain ⟨rfl, rfl, rfl⟩ := h4
    exact Nat.le_trans hm h7
/-- At an append, at a step of a region that draws its order. -/
theorem step_app2 {ops : Array Oper} {o : Oper} {a : Act} {K : Act → World → Prop} {Q : Exit → Act → World → Prop} {E : Prop} {W : World} (hgd : o.guard = none) (s x : Operand) (hty : o.type = 22)
    (ho : o.op = .call { callee := .builtin .append, args := #[s, x], argTypes := #[22, 22] }) (H : Nat) (hH : H ≤ W.heap.size) (v u : Value) (l r lr : List Ed) (m : Nat) (hs : a.eval s = v) (hx : a.eval x = u) (he : l ++ r = lr) (hm : lr.length = m) (hown : W.ownsRow H 37 3 v l.length (cellsE l)) (hr : Rd W u r) (hn : m ≤ 1000000)
    (h : ∀ p cap W', W'.ownsRow H 37 3 (.slice p m cap) lr.length (cellsE lr) → RowKit.Below H W W' → K (a.put o.dst (.slice p m cap)) W') :
    if Region.wanted o (yielded ops a.tmps) = true then Oper.wp Try.prog o a W K Q else E := by
  have hw : Region.wanted o (yielded ops a.tmps) = true := by simp [Region.wanted, hgd]
  rw [if_pos hw]
  subst he hm
  obtain ⟨p, cap, W', h1, h2, h3⟩ := app_run W H hH v u l r hown hr (by rw [← List.length_append]; exact hn)
  rw [← hty] at h1
  unfold Oper.wp execOp
  simp only [ho, resolve, invoke, builtin, Sem.run_bind, Sem.run_pure, Result.andThen_ok, List.map_toArray, List.map_cons, List.map_nil, hs, hx, hty] at h1 ⊢
  rw [h1]
  exact h p cap W' h2 h3

set_option maxRecDepth 100000 in
set_option maxHeartbeats 4000000 in
theorem rback_any (t : ByteArray) (w : World) (v : Value) (l : List Ed) (h : Rd w v l) (hn : l.length ≤ 100) (hbig : (l.length + 1) * t.size + txS l ≤ 1099511627776) :
    Calls Try.prog 18 #[.string t, v] w fun e w' => RowKit.Below w.heap.size w w' ∧ ∃ v', e = .returned (.tuple #[v', .int .i64 (rowE t.size l)]) ∧ Rd w' v' (backS t l) := by
  have c := rrow_any t w v l h hn
  clear h
  by_cases h0 : rowE t.size l = 0
  · have hS : rowS t.size l = srt l := if_pos h0
    have hB : backS t l = bkL t (srt l) := if_pos h0
    rw [hB]
    rw [h0, hS] at c
    rw [h0]
    obtain ⟨hs0, hmax⟩ := rowE_ok h0
    have HF := Lib.hid (srt_fit hs0)
    have HM := Lib.hid hmax
    have ht40 : t.size ≤ 1099511627776 := by
      have h1 : 1 * t.size ≤ (l.length + 1) * t.size := Nat.mul_le_mul_right _ (by omega)
      omega
    have HTX : Hid (txS (srt l) ≤ 1099511627776) := by show _ ≤ _; rw [txS_srt]; omega
    have HLN : Hid ((srt l).length = l.length) := srt_length l
    obtain ⟨s, hs⟩ : ∃ s, srt l = s := ⟨_, rfl⟩
    obtain ⟨N, hN⟩ : ∃ N, l.length = N := ⟨_, rfl⟩
    rw [hs] at c HF HM HTX HLN ⊢
    rw [hN] at HLN hn
    have HLB : Hid ((bkL t s).length = N) := by show _ = _; unfold bkL mvL; rw [List.length_map, mvF_length, HLN.out]
    clear h0 hS hB hs0 hmax hs hN hbig
    go_enter Try.func18, Try.ntmps18
    go_wp2_with (fail)
    refine c.mono ?_
    rintro e w1 ⟨hb1, v', rfl, hr⟩
    clear c
    obtain ⟨p, cap, rfl, hsh⟩ := hr.shape
    have HSH := Lib.hid hsh
    rw [HLN.out]
    have HB1 := Lib.hid hb1
    obtain ⟨H, hH⟩ : ∃ H, w1.heap.size = H := ⟨_, rfl⟩
    have HH := Lib.hid hH
    clear hr hsh hb1 hH
    go_wp2
    go_loopw [8, 9, 10] (fun ov mv iv wq => ∃ (k cp : Nat) (q : Option Addr), ov = .slice q k cp ∧ mv = .int .i64 (dN (s.take k)) ∧ iv = .int .i64 k ∧ k ≤ N ∧ k ≤ cp ∧ Hid (wq.ownsRow H 37 3 (.slice q k cp) ((bkL t s).take k).length (cellsE ((bkL t s).take k))) ∧ Hid (RowKit.Below H w1 wq) ∧ Hid (H ≤ wq.heap.size))
      (fun _ _ iv _ => N - (intOf iv).toNat)
    case atStart => exact ⟨0, 0, none, rfl, by simp [dN], rfl, Nat.zero_le _, Nat.le_refl _, World.ownsRow_nil _ _ _ _, RowKit.Below.refl _ _, Nat.le_of_eq HH.out.symm⟩
    case round =>
      obtain ⟨k, cp, q, rfl, rfl, rfl, hk, hkc, hown, hb2, hHq⟩ := hrel
      by_cases hlt : k < N
      · have hltz : (k : Int) < (N : Int) := by omega
        obtain ⟨x, hx⟩ : ∃ x, s[k]? = some x := ⟨_, List.getElem?_eq_getElem (by rw [HLN.out]; exact hlt)⟩
        have hm := List.mem_of_getElem? hx
        have hf1 := HF.out.1 x hm
        have hi1 := HM.out x hm
        have ht1 := txS_mem hm
        have ht2 := HTX.out
        obtain ⟨g, off, rfl, hg, c0, c1, c2⟩ := HSH.out k x hx
        rw [HH.out] at hg
        have hint : ∀ x, x ∈ s → x.to ≤ 9223372036854775807 := fun y hy => by have := HM.out y hy; omega
        have hb0 := dN_bounds HF.out hint k (by rw [HLN.out]; omega)
        have hb9 := dN_bounds HF.out hint (k + 1) (by rw [HLN.out]; omega)
        have hfd := (fit_dN HF.out k x hx).1
        have hdN := dN_take hx
        have hbk := bkL_at (t := t) hx
        obtain ⟨xf, xt, xx, xg⟩ := x
        dsimp only at hf1 hi1 ht1 hfd c0 c1 c2
        simp only [dE] at hdN
        obtain ⟨f, rfl⟩ : ∃ f : Nat, xf = (f : Int) := ⟨xf.toNat, by omega⟩
        obtain ⟨z, rfl⟩ : ∃ z : Nat, xt = (z : Int) := ⟨xt.toNat, by omega⟩
        obtain ⟨m, hmm⟩ : ∃ m, dN (s.take k) = m := ⟨_, rfl⟩
        rw [hmm] at hb0 hfd hdN hbk ⊢
        have hbk2 : (bkL t s).take (k + 1) = (bkL t s).take k ++ [⟨(f : Int) + m, (f : Int) + m + (xx.size : Int), t.extract f z, 0⟩] := take_snoc hbk
        have d0 := (hb2.out.cell (p := ⟨g, off + k * 3, none⟩) hg).trans c0
        have d1 := (hb2.out.cell (p := ⟨g, off + k * 3 + 1, none⟩) hg).trans c1
        have d2 := (hb2.out.cell (p := ⟨g, off + k * 3 + 2, none⟩) hg).trans c2
        have hw0 : IntKind.i64.wrap ((f : Int) + m) = (f : Int) + m := by rw [IntKind.wrap_i64]; omega
        have hw1 : IntKind.i64.wrap ((f : Int) + m + (xx.size : Int)) = (f : Int) + m + (xx.size : Int) := by rw [IntKind.wrap_i64]; omega
        have hz1 : (f : Int) ≤ (z : Int) := by omega
        have hz2 : (z : Int) ≤ (t.size : Int) := by omega
        have hz3 : z ≤ t.size := by omega
        have hz4 : f ≤ z := by omega
        have hw3 : IntKind.i64.wrap (m + (xx.size : Int)) = m + (xx.size : Int) := by rw [IntKind.wrap_i64]; omega
        have hw4 : IntKind.i64.wrap ((z : Int) - (f : Int)) = (z : Int) - (f : Int) := by rw [IntKind.wrap_i64]; omega
        have hw5 : IntKind.i64.wrap (m + (xx.size : Int) - ((z : Int) - (f : Int))) = m + (xx.size : Int) - ((z : Int) - (f : Int)) := by rw [IntKind.wrap_i64]; omega
        have HM1 : Hid (dN (s.take (k + 1)) = m + (xx.size : Int) - ((z : Int) - (f : Int))) := by show _ = _; omega
        obtain ⟨e1, he1⟩ : ∃ e, t.extract f z = e := ⟨_, rfl⟩
        rw [he1] at hbk2
        obtain ⟨T, hT⟩ : ∃ T, (bkL t s).take k = T := ⟨_, rfl⟩
        have HTL : Hid (((bkL t s).take (k + 1)).length = k + 1) := by show _ = _; have := HLB.out; rw [List.length_take]; omega
        rw [hT] at hown hbk2
        rw [hbk2] at HTL
        have HBK := Lib.hid hbk2
        have HG := Lib.hid hg
        have HC := Lib.hid (And.intro c0 (And.intro c1 c2))
        have ha3 : k + 1 ≤ 1000000 := by omega
        clear hx hm hf1 hi1 ht1 ht2 hg c0 c1 c2 hb0 hb9 hfd hdN hbk hmm hT hbk2 hint
        go_wp2_with fail
        refine wp_region_held (S := fun W' => W'.cell? ⟨g, off + k * 3, none⟩ = some (.int .i64 (f : Int)) ∧ W'.cell? ⟨g, off + k * 3 + 1, none⟩ = some (.int .i64 (z : Int)) ∧ W'.cell? ⟨g, off + k * 3 + 2, none⟩ = some (.string xx)) (by kernel_rfl) ?_
        -- TAKES
        refine wpAnyH_take (i := 0) (oi := ⟨some 35, (.move (.tmp 8)), _, _, _, none⟩) (v := .slice q k cp) rfl (by kernel_rfl) (by kernel_rfl) (by kernel_rfl) (fun _ _ _ h => h) (Or.inl ⟨by rfl, ?_⟩) ⟨d0, d1, d2⟩ ?_
        · rintro w ⟨hq0, hq1, hq2⟩
          go_simp <;> try (rw [IntKind.wrap_i64]; omega)
        simp only [Act.put, List.setIfInBounds_toArray, List.set_cons_zero, List.set_cons_succ]
        refine wpAnyH_take (i := 1) (oi := ⟨some 36, (.move (.tmp 11)), _, _, _, none⟩) (v := .int .i64 ((f : Int) + m)) rfl (by kernel_rfl) (by kernel_rfl) (by kernel_rfl) (fun _ _ _ h => h) (Or.inl ⟨by rfl, ?_⟩) ⟨d0, d1, d2⟩ ?_
        · rintro w ⟨hq0, hq1, hq2⟩
          go_simp <;> try (rw [IntKind.wrap_i64]; omega)
        simp only [Act.put, List.setIfInBounds_toArray, List.set_cons_zero, List.set_cons_succ]
        refine wpAnyH_take (i := 2) (oi := ⟨some 37, (.move (.tmp 11)), _, _, _, none⟩) (v := .int .i64 ((f : Int) + m)) rfl (by kernel_rfl) (by kernel_rfl) (by kernel_rfl) (fun _ _ _ h => h) (Or.inl ⟨by rfl, ?_⟩) ⟨d0, d1, d2⟩ ?_
        · rintro w ⟨hq0, hq1, hq2⟩
          go_simp <;> try (rw [IntKind.wrap_i64]; omega)
        simp only [Act.put, List.setIfInBounds_toArray, List.set_cons_zero, List.set_cons_succ]
        refine wpAnyH_take (i := 3) (oi := ⟨some 38, (.move (.tmp 6)), _, _, _, none⟩) (v := .slice (some ⟨g, off, none⟩) N cap) rfl (by kernel_rfl) (by kernel_rfl) (by kernel_rfl) (fun _ _ _ h => h) (Or.inl ⟨by rfl, ?_⟩) ⟨d0, d1, d2⟩ ?_
        · rintro w ⟨hq0, hq1, hq2⟩
          go_simp <;> try (rw [IntKind.wrap_i64]; omega)
        simp only [Act.put, List.setIfInBounds_toArray, List.set_cons_zero, List.set_cons_succ]
        refine wpAnyH_take (i := 4) (oi := ⟨some 39, (.move (.tmp 10)), _, _, _, none⟩) (v := .int .i64 (k : Int)) rfl (by kernel_rfl) (by kernel_rfl) (by kernel_rfl) (fun _ _ _ h => h) (Or.inl ⟨by rfl, ?_⟩) ⟨d0, d1, d2⟩ ?_
        · rintro w ⟨hq0, hq1, hq2⟩
          go_simp <;> try (rw [IntKind.wrap_i64]; omega)
        simp only [Act.put, List.setIfInBounds_toArray, List.set_cons_zero, List.set_cons_succ]
        refine wpAnyH_take (i := 5) (oi := ⟨some 40, (.indexAddr 22 (.tmp 38) (.tmp 39)), _, _, _, none⟩) (v := .pointer (some ⟨g, off + k * 3, none⟩)) rfl (by kernel_rfl) (by kernel_rfl) (by kernel_rfl) (fun _ _ _ h => h) (Or.inl ⟨by rfl, ?_⟩) ⟨d0, d1, d2⟩ ?_
        · rintro w ⟨hq0, hq1, hq2⟩
          go_simp <;> try (rw [IntKind.wrap_i64]; omega)
        simp only [Act.put, List.setIfInBounds_toArray, List.set_cons_zero, List.set_cons_succ]
        refine wpAnyH_take (i := 6) (oi := ⟨some 41, (.fieldAddr 37 (.tmp 40) 1), _, _, _, none⟩) (v := .pointer (some ⟨g, off + k * 3 + 2, none⟩)) rfl (by kernel_rfl) (by kernel_rfl) (by kernel_rfl) (fun _ _ _ h => h) (Or.inl ⟨by rfl, ?_⟩) ⟨d0, d1, d2⟩ ?_
        · rintro w ⟨hq0, hq1, hq2⟩
          go_simp <;> try (rw [IntKind.wrap_i64]; omega)
        simp only [Act.put, List.setIfInBounds_toArray, List.set_cons_zero, List.set_cons_succ]
        refine wpAnyH_take (i := 7) (oi := ⟨some 42, (.load 9 (.tmp 41)), _, _, _, none⟩) (v := .string xx) rfl (by kernel_rfl) (by kernel_rfl) (by kernel_rfl) (fun _ _ _ h => h) (Or.inl ⟨by rfl, ?_⟩) ⟨d0, d1, d2⟩ ?_
        · rintro w ⟨hq0, hq1, hq2⟩
          go_simp <;> try (rw [IntKind.wrap_i64]; omega)
        simp only [Act.put, List.setIfInBounds_toArray, List.set_cons_zero, List.set_cons_succ]
        refine wpAnyH_take (i := 8) (oi := ⟨some 43, (.call { callee := .builtin .len, args := #[.tmp 42], argTypes := #[9] }), _, _, _, none⟩) (v := .int .i64 (xx.size : Int)) rfl (by kernel_rfl) (by kernel_rfl) (by kernel_rfl) (fun _ _ _ h => h) (Or.inl ⟨by rfl, ?_⟩) ⟨d0, d1, d2⟩ ?_
        · rintro w ⟨hq0, hq1, hq2⟩
          go_simp <;> try (rw [IntKind.wrap_i64]; omega)
        simp only [Act.put, List.setIfInBounds_toArray, List.set_cons_zero, List.set_cons_succ]
        refine wpAnyH_take (i := 9) (oi := ⟨some 44, (.binOp .add 3 (.tmp 37) (.tmp 43) 3), _, _, _, none⟩) (v := .int .i64 ((f : Int) + m + (xx.size : Int))) rfl (by kernel_rfl) (by kernel_rfl) (by kernel_rfl) (fun _ _ _ h => h) (Or.inl ⟨by rfl, ?_⟩) ⟨d0, d1, d2⟩ ?_
        · rintro w ⟨hq0, hq1, hq2⟩
          go_simp <;> try (rw [IntKind.wrap_i64]; omega)
        simp only [Act.put, List.setIfInBounds_toArray, List.set_cons_zero, List.set_cons_succ]
        refine wpAnyH_take (i := 10) (oi := ⟨some 45, (.build 35 #[(0, .tmp 36), (1, .tmp 44)]), _, _, _, none⟩) (v := .agg #[.int .i64 ((f : Int) + m), .int .i64 ((f : Int) + m + (xx.size : Int))]) rfl (by kernel_rfl) (by kernel_rfl) (by kernel_rfl) (fun _ _ _ h => h) (Or.inl ⟨by rfl, ?_⟩) ⟨d0, d1, d2⟩ ?_
        · rintro w ⟨hq0, hq1, hq2⟩
          go_simp <;> try (rw [IntKind.wrap_i64]; omega)
        simp only [Act.put, List.setIfInBounds_toArray, List.set_cons_zero, List.set_cons_succ]
        refine wpAnyH_take (i := 11) (oi := ⟨some 46, (.move (.tmp 0)), _, _, _, none⟩) (v := .string t) rfl (by kernel_rfl) (by kernel_rfl) (by kernel_rfl) (fun _ _ _ h => h) (Or.inl ⟨by rfl, ?_⟩) ⟨d0, d1, d2⟩ ?_
        · rintro w ⟨hq0, hq1, hq2⟩
          go_simp <;> try (rw [IntKind.wrap_i64]; omega)
        simp only [Act.put, List.setIfInBounds_toArray, List.set_cons_zero, List.set_cons_succ]
        refine wpAnyH_take (i := 12) (oi := ⟨some 47, (.move (.tmp 6)), _, _, _, none⟩) (v := .slice (some ⟨g, off, none⟩) N cap) rfl (by kernel_rfl) (by kernel_rfl) (by kernel_rfl) (fun _ _ _ h => h) (Or.inl ⟨by rfl, ?_⟩) ⟨d0, d1, d2⟩ ?_
        · rintro w ⟨hq0, hq1, hq2⟩
          go_simp <;> try (rw [IntKind.wrap_i64]; omega)
        simp only [Act.put, List.setIfInBounds_toArray, List.set_cons_zero, List.set_cons_succ]
        refine wpAnyH_take (i := 13) (oi := ⟨some 48, (.move (.tmp 10)), _, _, _, none⟩) (v := .int .i64 (k : Int)) rfl (by kernel_rfl) (by kernel_rfl) (by kernel_rfl) (fun _ _ _ h => h) (Or.inl ⟨by rfl, ?_⟩) ⟨d0, d1, d2⟩ ?_
        · rintro w ⟨hq0, hq1, hq2⟩
          go_simp <;> try (rw [IntKind.wrap_i64]; omega)
        simp only [Act.put, List.setIfInBounds_toArray, List.set_cons_zero, List.set_cons_succ]
        refine wpAnyH_take (i := 14) (oi := ⟨some 49, (.indexAddr 22 (.tmp 47) (.tmp 48)), _, _, _, none⟩) (v := .pointer (some ⟨g, off + k * 3, none⟩)) rfl (by kernel_rfl) (by kernel_rfl) (by kernel_rfl) (fun _ _ _ h => h) (Or.inl ⟨by rfl, ?_⟩) ⟨d0, d1, d2⟩ ?_
        · rintro w ⟨hq0, hq1, hq2⟩
          go_simp <;> try (rw [IntKind.wrap_i64]; omega)
        simp only [Act.put, List.setIfInBounds_toArray, List.set_cons_zero, List.set_cons_succ]
        refine wpAnyH_take (i := 15) (oi := ⟨some 50, (.fieldAddr 37 (.tmp 49) 0), _, _, _, none⟩) (v := .pointer (some ⟨g, off + k * 3, none⟩)) rfl (by kernel_rfl) (by kernel_rfl) (by kernel_rfl) (fun _ _ _ h => h) (Or.inl ⟨by rfl, ?_⟩) ⟨d0, d1, d2⟩ ?_
        · rintro w ⟨hq0, hq1, hq2⟩
          go_simp <;> try (rw [IntKind.wrap_i64]; omega)
        simp only [Act.put, List.setIfInBounds_toArray, List.set_cons_zero, List.set_cons_succ]
        refine wpAnyH_take (i := 16) (oi := ⟨some 51, (.fieldAddr 35 (.tmp 50) 0), _, _, _, none⟩) (v := .pointer (some ⟨g, off + k * 3, none⟩)) rfl (by kernel_rfl) (by kernel_rfl) (by kernel_rfl) (fun _ _ _ h => h) (Or.inl ⟨by rfl, ?_⟩) ⟨d0, d1, d2⟩ ?_
        · rintro w ⟨hq0, hq1, hq2⟩
          go_simp <;> try (rw [IntKind.wrap_i64]; omega)
        simp only [Act.put, List.setIfInBounds_toArray, List.set_cons_zero, List.set_cons_succ]
        refine wpAnyH_take (i := 17) (oi := ⟨some 52, (.load 3 (.tmp 51)), _, _, _, none⟩) (v := .int .i64 (f : Int)) rfl (by kernel_rfl) (by kernel_rfl) (by kernel_rfl) (fun _ _ _ h => h) (Or.inl ⟨by rfl, ?_⟩) ⟨d0, d1, d2⟩ ?_
        · rintro w ⟨hq0, hq1, hq2⟩
          go_simp <;> try (rw [IntKind.wrap_i64]; omega)
        simp only [Act.put, List.setIfInBounds_toArray, List.set_cons_zero, List.set_cons_succ]
        refine wpAnyH_take (i := 18) (oi := ⟨some 53, (.move (.tmp 6)), _, _, _, none⟩) (v := .slice (some ⟨g, off, none⟩) N cap) rfl (by kernel_rfl) (by kernel_rfl) (by kernel_rfl) (fun _ _ _ h => h) (Or.inl ⟨by rfl, ?_⟩) ⟨d0, d1, d2⟩ ?_
        · rintro w ⟨hq0, hq1, hq2⟩
          go_simp <;> try (rw [IntKind.wrap_i64]; omega)
        simp only [Act.put, List.setIfInBounds_toArray, List.set_cons_zero, List.set_cons_succ]
        refine wpAnyH_take (i := 19) (oi := ⟨some 54, (.move (.tmp 10)), _, _, _, none⟩) (v := .int .i64 (k : Int)) rfl (by kernel_rfl) (by kernel_rfl) (by kernel_rfl) (fun _ _ _ h => h) (Or.inl ⟨by rfl, ?_⟩) ⟨d0, d1, d2⟩ ?_
        · rintro w ⟨hq0, hq1, hq2⟩
          go_simp <;> try (rw [IntKind.wrap_i64]; omega)
        simp only [Act.put, List.setIfInBounds_toArray, List.set_cons_zero, List.set_cons_succ]
        refine wpAnyH_take (i := 20) (oi := ⟨some 55, (.indexAddr 22 (.tmp 53) (.tmp 54)), _, _, _, none⟩) (v := .pointer (some ⟨g, off + k * 3, none⟩)) rfl (by kernel_rfl) (by kernel_rfl) (by kernel_rfl) (fun _ _ _ h => h) (Or.inl ⟨by rfl, ?_⟩) ⟨d0, d1, d2⟩ ?_
        · rintro w ⟨hq0, hq1, hq2⟩
          go_simp <;> try (rw [IntKind.wrap_i64]; omega)
        simp only [Act.put, List.setIfInBounds_toArray, List.set_cons_zero, List.set_cons_succ]
        refine wpAnyH_take (i := 21) (oi := ⟨some 56, (.fieldAddr 37 (.tmp 55) 0), _, _, _, none⟩) (v := .pointer (some ⟨g, off + k * 3, none⟩)) rfl (by kernel_rfl) (by kernel_rfl) (by kernel_rfl) (fun _ _ _ h => h) (Or.inl ⟨by rfl, ?_⟩) ⟨d0, d1, d2⟩ ?_
        · rintro w ⟨hq0, hq1, hq2⟩
          go_simp <;> try (rw [IntKind.wrap_i64]; omega)
        simp only [Act.put, List.setIfInBounds_toArray, List.set_cons_zero, List.set_cons_succ]
        refine wpAnyH_take (i := 22) (oi := ⟨some 57, (.fieldAddr 35 (.tmp 56) 1), _, _, _, none⟩) (v := .pointer (some ⟨g, off + k * 3 + 1, none⟩)) rfl (by kernel_rfl) (by kernel_rfl) (by kernel_rfl) (fun _ _ _ h => h) (Or.inl ⟨by rfl, ?_⟩) ⟨d0, d1, d2⟩ ?_
        · rintro w ⟨hq0, hq1, hq2⟩
          go_simp <;> try (rw [IntKind.wrap_i64]; omega)
        simp only [Act.put, List.setIfInBounds_toArray, List.set_cons_zero, List.set_cons_succ]
        refine wpAnyH_take (i := 23) (oi := ⟨some 58, (.load 3 (.tmp 57)), _, _, _, none⟩) (v := .int .i64 (z : Int)) rfl (by kernel_rfl) (by kernel_rfl) (by kernel_rfl) (fun _ _ _ h => h) (Or.inl ⟨by rfl, ?_⟩) ⟨d0, d1, d2⟩ ?_
        · rintro w ⟨hq0, hq1, hq2⟩
          go_simp <;> try (rw [IntKind.wrap_i64]; omega)
        simp only [Act.put, List.setIfInBounds_toArray, List.set_cons_zero, List.set_cons_succ]
        refine wpAnyH_take (i := 24) (oi := ⟨some 59, (.slice 9 (.tmp 46) (some (.tmp 52)) (some (.tmp 58)) none), _, _, _, none⟩) (v := .string e1) rfl (by kernel_rfl) (by kernel_rfl) (by kernel_rfl) (fun _ _ _ h => h) (Or.inl ⟨by rfl, ?_⟩) ⟨d0, d1, d2⟩ ?_
        · rintro w ⟨hq0, hq1, hq2⟩
          go_simp <;> try (rw [IntKind.wrap_i64]; omega)
        simp only [Act.put, List.setIfInBounds_toArray, List.set_cons_zero, List.set_cons_succ]
        refine wpAnyH_take (i := 25) (oi := ⟨some 60, (.build 37 #[(0, .tmp 45), (1, .tmp 59)]), _, _, _, none⟩) (v := .agg #[.int .i64 ((f : Int) + m), .int .i64 ((f : Int) + m + (xx.size : Int)), .string e1]) rfl (by kernel_rfl) (by kernel_rfl) (by kernel_rfl) (fun _ _ _ h => h) (Or.inl ⟨by rfl, ?_⟩) ⟨d0, d1, d2⟩ ?_
        · rintro w ⟨hq0, hq1, hq2⟩
          go_simp <;> try (rw [IntKind.wrap_i64]; omega)
        simp only [Act.put, List.setIfInBounds_toArray, List.set_cons_zero, List.set_cons_succ]
        -- TAKEN
        have hE : cellsE [(⟨(f : Int) + m, (f : Int) + m + (xx.size : Int), e1, 0⟩ : Ed)] = [.int .i64 ((f : Int) + m), .int .i64 ((f : Int) + m + (xx.size : Int)), .string e1] := by simp [cellsE, enc]
        have hr1 := lit_rd wr.drew [⟨(f : Int) + m, (f : Int) + m + (xx.size : Int), e1, 0⟩]
        rw [hE] at hr1
        have hX1 : RowKit.Below H w1 (wr.drew.alloc (.cells #[.int .i64 ((f : Int) + m), .int .i64 ((f : Int) + m + (xx.size : Int)), .string e1] 37)) := RowKit.Below.alloc (below_drewN hb2.out 1) hHq.out _
        have hown1 := World.ownsRow.alloc (w := wr.drew) hown.out (.cells #[.int .i64 ((f : Int) + m), .int .i64 ((f : Int) + m + (xx.size : Int)), .string e1] 37)
        have hs1 : H ≤ (wr.drew.alloc (.cells #[.int .i64 ((f : Int) + m), .int .i64 ((f : Int) + m + (xx.size : Int)), .string e1] 37)).heap.size := by
          have := hHq.out
          rw [World.size_alloc]
          show H ≤ wr.heap.size + 1
          omega
        have x0 := (hX1.cell (p := ⟨g, off + k * 3, none⟩) HG.out).trans HC.out.1
        have x1 := (hX1.cell (p := ⟨g, off + k * 3 + 1, none⟩) HG.out).trans HC.out.2.1
        have x2 := (hX1.cell (p := ⟨g, off + k * 3 + 2, none⟩) HG.out).trans HC.out.2.2
        refine wpAnyH_ready (rs := [26]) (by kernel_rfl) (by simp) ?_
        refine AllReadyH.cons (o := ⟨some 61, .buildSlice 22 1 #[(0, .tmp 60)], 22, _, _, none⟩) rfl (fun K hK => ?_) AllReadyH.nil
        go_simp
        refine hK.out _ _ ⟨x0, x1, x2⟩ (fun _ => ?_)
        clear hK K
        refine wpAnyH_ready (rs := [27]) (by kernel_rfl) (by simp) ?_
        refine AllReadyH.cons (o := ⟨some 62, .call { callee := .builtin .append, args := #[.tmp 35, .tmp 61], argTypes := #[22, 22] }, 22, _, _, none⟩) rfl (fun K hK => ?_) AllReadyH.nil
        refine step_app2 rfl (.tmp 35) (.tmp 61) rfl rfl H hs1 _ _ T [⟨(f : Int) + m, (f : Int) + m + (xx.size : Int), e1, 0⟩] _ (k + 1) rfl rfl rfl HTL.out hown1 hr1 ha3 ?_
        intro q2 cp2 X2 hown2 hbX2
        have hB2 := hX1.trans hbX2
        have y0 := (hB2.cell (p := ⟨g, off + k * 3, none⟩) HG.out).trans HC.out.1
        have y1 := (hB2.cell (p := ⟨g, off + k * 3 + 1, none⟩) HG.out).trans HC.out.2.1
        have y2 := (hB2.cell (p := ⟨g, off + k * 3 + 2, none⟩) HG.out).trans HC.out.2.2
        refine hK.out _ _ ⟨y0, y1, y2⟩ (fun _ => ?_)
        clear hK K
        simp only [Act.put, List.setIfInBounds_toArray, List.set_cons_zero, List.set_cons_succ]
        refine wpAnyH_ready (rs := [28]) (by kernel_rfl) (by simp) ?_
        refine AllReadyH.cons (o := ⟨some 8, .assign (.tmp 62), 22, _, _, none⟩) rfl (fun K hK => ?_) AllReadyH.nil
        go_simp
        refine hK.out _ _ ⟨y0, y1, y2⟩ (fun _ => ?_)
        clear hK K
        refine wpAnyH_done (by kernel_rfl) ?_ _
        have HS2 : Hid (H ≤ X2.heap.size) := Nat.le_trans hs1 hbX2.size
        have HB2 := Lib.hid hB2
        rw [← HBK.out] at hown2
        have HO2 := Lib.hid hown2
        have hc2 : k + 1 ≤ cp2 := by
          have h1 := owns_cap hown2
          exact h1
        clear d0 d1 d2 x0 x1 x2 hs1 hr1 hX1 hown1 hE hbX2 hB2 hown2 hown hb2 hHq
        go_wp2_with fail
        go_quiet (fail)
        go_wp2
        go_roundw
        case rel => exact ⟨k + 1, cp2, q2, rfl, by rw [HM1.out], by go_num, by omega, hc2, HO2.out, below_drewN HB2.out _, HS2.out⟩
        case measure => simp [intOf]; omega
      · have hltz : ¬ ((k : Int) < (N : Int)) := by omega
        have hkN : N = k := by omega
        have HR : Hid (Rd wr (.slice q k cp) (bkL t s)) := by
          have h1 := hown.out
          rw [List.take_of_length_le (by rw [HLB.out]; omega)] at h1
          exact (owns_rd h1).1
        clear hlt hown
        go_wp2
        go_ret2
        exact ⟨HB1.out.trans (hb2.out.mono (by have h1 := HB1.out.size; have h2 := HH.out; omega)), .slice q k cp, rfl, HR.out⟩
  · have hB : backS t l = [] := if_neg h0
    rw [hB]
    obtain ⟨E, hE⟩ : ∃ E, rowE t.size l = E := ⟨_, rfl⟩
    rw [hE] at c h0 ⊢
    have h0' : (E == 0) = false := eqF h0
    have h0'' : (E != 0) = true := bneT h0
    clear hE h0 hB hbig
    go_enter Try.func18, Try.ntmps18
    go_wp2_with (fail)
    refine c.mono ?_
    rintro e w1 ⟨hb, v', rfl, hw⟩
    clear c
    have HB := Lib.hid hb
    clear hw hb
    go_wp2
    go_ret2
    exact ⟨HB.out, .slice none 0 0, rfl, .inl ⟨rfl, rfl⟩⟩
end Go.Proofs.Ytinanagjoaaacaa
