/-
  The document's Sort: a walk.
-/
import Derived.Test.YtinanagjoaaacaaW24
namespace Go.Proofs.Ytinanagjoaaacaa
open Go.RowKit Go.Shelf Go.Lib Go.Sort

theorem below_grow {H : Nat} {a W : World} (h : RowKit.Below H a W) (hH : H ≤ W.heap.size) (n : Nat) (os : Array Obj) : RowKit.Below H a (grow (W.drewN n) os) := by
  refine ⟨h.os, h.tape, h.output, ?_, fun k hk => ?_⟩
  · have := size_grow (W.drewN n) os
    have h2 := h.size
    show a.heap.size ≤ (grow (W.drewN n) os).heap.size
    rw [this]
    show a.heap.size ≤ W.heap.size + os.size
    omega
  · have : (grow (W.drewN n) os).heap[k]? = W.heap[k]? := by
      show (W.heap ++ os)[k]? = _
      exact Array.getElem?_append_left (by omega)
    rw [this]
    exact h.block k hk
theorem rd_tag {W : World} {v : Value} {l : List Ed} (h : Rd W v l) : Rd W v (tagL l) := by
  rcases h with ⟨rfl, rfl⟩ | ⟨b, off, cap, rfl, hb, hc⟩
  · exact .inl ⟨rfl, rfl⟩
  · refine .inr ⟨b, off, cap, by rw [tagL_length], hb, fun i x hi => ?_⟩
    rw [tagL_at, Option.map_eq_some_iff] at hi
    obtain ⟨y, hy, rfl⟩ := hi
    exact hc i y hy
theorem rd_take {W : World} {g off n cap : Nat} {l : List Ed} (h : Rd W (.slice (some ⟨g, off, none⟩) n cap) l) (a cap' : Nat) (ha : a ≤ l.length) : Rd W (.slice (some ⟨g, off, none⟩) a cap') (l.take a) := by
  rcases h with ⟨h, _⟩ | ⟨b, off', cap, h, hb, hc⟩
  · cases h
  · simp only [Value.slice.injEq, Option.some.injEq, Addr.mk.injEq, and_true] at h
    obtain ⟨⟨rfl, rfl⟩, rfl, rfl⟩ := h
    refine .inr ⟨g, off, cap', by rw [List.length_take, Nat.min_eq_left ha], hb, fun i x hi => ?_⟩
    rw [List.getElem?_take] at hi
    split at hi
    · exact hc i x hi
    · cases hi
theorem rd_drop {W : World} {g off n cap : Nat} {l : List Ed} (h : Rd W (.slice (some ⟨g, off, none⟩) n cap) l) (a cap' : Nat) : Rd W (.slice (some ⟨g, off + a * 3, none⟩) (n - a) cap') (l.drop a) := by
  rcases h with ⟨h, _⟩ | ⟨b, off', cap, h, hb, hc⟩
  · cases h
  · simp only [Value.slice.injEq, Option.some.injEq, Addr.mk.injEq, and_true] at h
    obtain ⟨⟨rfl, rfl⟩, rfl, rfl⟩ := h
    refine .inr ⟨g, off + a * 3, cap', by rw [List.length_drop], hb, fun i x hi => ?_⟩
    rw [List.getElem?_drop] at hi
    have := hc (a + i) x hi
    rw [show off + (a + i) * 3 = off + a * 3 + i * 3 from by omega] at this
    exact this
theorem rd_none {W : World} {g off n cap : Nat} {l : List Ed} (h : Rd W (.slice (some ⟨g, off, none⟩) n cap) l) (cap' : Nat) : Rd W (.slice (some ⟨g, off, none⟩) 0 cap') [] := by
  rcases h with ⟨h, _⟩ | ⟨b, off', cap, h, hb, hc⟩
  · cases h
  · simp only [Value.slice.injEq, Option.some.injEq, Addr.mk.injEq, and_true] at h
    obtain ⟨⟨rfl, rfl⟩, rfl, rfl⟩ := h
    exact .inr ⟨g, off, cap', rfl, hb, fun i x hi => by simp at hi⟩

/-- A load of a whole edit, wherever the world has grown to. -/
theorem ld_ed {W : World} {g o : Nat} {x : Ed} (z : Nat) (hz : 3 = z) (hg : g < W.heap.size) (h0 : W.cell? ⟨g, o, none⟩ = some (.int .i64 x.fr)) (h1 : W.cell? ⟨g, o + 1, none⟩ = some (.int .i64 x.to)) (h2 : W.cell? ⟨g, o + 2, none⟩ = some (.string x.tx)) (n : Nat) (os : Array Obj) :
    Sem.run Try.prog (loadCellsFrom ⟨g, o, none⟩ 0 z #[]) (grow (W.drewN n) os) = .ok (enc x).toArray (grow (W.drewN n) os) := by
  subst hz
  refine run_loadCellsFrom_list Try.prog _ _ _ 3 rfl fun j v hj => ?_
  have hadd : (⟨g, o, none⟩ : Addr).add j = ⟨g, o + j, none⟩ := by unfold Addr.add; split <;> simp_all
  rw [hadd]
  match j, hj with
  | 0, hj => rw [show v = .int .i64 x.fr from (Option.some.inj hj).symm]; exact cell_grown hg h0 n os
  | 1, hj => rw [show v = .int .i64 x.to from (Option.some.inj hj).symm]; exact cell_grown hg h1 n os
  | 2, hj => rw [show v = .string x.tx from (Option.some.inj hj).symm]; exact cell_grown hg h2 n os
  | j + 3, hj => simp [enc] at hj

/-- At an append, in a walk; the lengths under names of their own. -/
theorem wpList_app2 {ops : Array Oper} {rest : List Oper} {o : Oper} {a : Act} {Q : Exit → Act → World → Prop} {W : World} (hgd : o.guard = none) (s x : Operand) (hty : o.type = 22)
    (ho : o.op = .call { callee := .builtin .append, args := #[s, x], argTypes := #[22, 22] }) (H : Nat) (hH : H ≤ W.heap.size) (v u : Value) (l r lr : List Ed) (m : Nat) (hs : a.eval s = v) (hx : a.eval x = u) (he : l ++ r = lr) (hm : lr.length = m) (hown : W.ownsRow H 37 3 v l.length (cellsE l)) (hr : Rd W u r) (hn : m ≤ 1000000)
    (h : ∀ p cap W', W'.ownsRow H 37 3 (.slice p m cap) lr.length (cellsE lr) → RowKit.Below H W W' → wpList Try.prog ops Q rest (a.put o.dst (.slice p m cap)) W') : wpList Try.prog ops Q (o :: rest) a W := by
  subst he hm
  exact wpList_app hgd s x hty ho H hH v u l r hs hx hown hr (by rw [← List.length_append]; exact hn) h

set_option maxRecDepth 100000 in
set_option maxHeartbeats 8000000 in
theorem rsort_any (w : World) (v : Value) (l : List Ed) (h : Rd w v l) (hn : l.length ≤ 100) :
    Calls Try.prog 14 #[v] w fun e w' => RowKit.Below w.heap.size w w' ∧ ∃ v', e = .returned (.tuple #[v', .int .i64 (sortE l)]) ∧ Rd w' v' (sortS l) := by
  obtain ⟨p0, cap0, rfl, hsh⟩ := (rd_tag h).shape
  have hll : (tagL l).length = l.length := tagL_length l
  have HLL := Lib.hid hll
  have HSH := Lib.hid hsh
  have HE : Hid (sortE l = if (tagL l).any badE = true then 1 else if inOrdB (rsF (tagL l) (tagL l).length) = true then 0 else 63) := by
    show _ = _
    rw [any_tag, rsF_srt]; rfl
  have HS : Hid (sortS l = if sortE l = 0 then rsF (tagL l) (tagL l).length else []) := by
    show _ = _
    rw [rsF_srt]; rfl
  have hnz : (tagL l).length ≤ 100 := by rw [hll]; exact hn
  obtain ⟨E, hE⟩ : ∃ E, sortE l = E := ⟨_, rfl⟩
  rw [hE] at HE HS ⊢
  obtain ⟨L, hL⟩ : ∃ L, tagL l = L := ⟨_, rfl⟩
  obtain ⟨S, hS⟩ : ∃ S, sortS l = S := ⟨_, rfl⟩
  rw [hS] at HS ⊢
  rw [hL] at HSH HE HS hnz ⊢
  obtain ⟨N, hN⟩ : ∃ N, L.length = N := ⟨_, rfl⟩
  have HN := Lib.hid hN
  rw [hN] at HE HS hnz ⊢
  obtain ⟨H0, hH0⟩ : ∃ H, w.heap.size = H := ⟨_, rfl⟩
  have HH0 := Lib.hid hH0
  rw [hH0] at HSH ⊢
  clear hsh h hll HLL hE hL hS hN hH0 hn
  have mixed : Try.prog.follows .mixedOrders = true := by kernel_rfl
  go_enter Try.func14, Try.ntmps14
  go_wp2
  go_loopw [4, 5] (fun ov iv wr => ∃ (k : Nat) (p : Option Addr) (cap : Nat), ov = .slice p k cap ∧ iv = .int .i64 k ∧ k ≤ N ∧ k ≤ cap ∧ Hid (Rd wr (.slice p k cap) (rsF L k)) ∧ Hid (RowKit.Below H0 w wr) ∧ Hid ((L.take k).any badE = false))
    (fun _ iv _ => N - (RowKit.intOf iv).toNat)
  case atStart => exact ⟨0, none, 0, rfl, rfl, Nat.zero_le _, Nat.le_refl _, .inl ⟨rfl, rfl⟩, RowKit.Below.refl _ _, by show _ = _; simp⟩
  case round =>
    obtain ⟨k, p, cap, rfl, rfl, hk, hkc, hRd, hbl, hgood⟩ := hrel
    by_cases hlt : k < N
    · have hz : (k : Int) < (N : Int) := by omega
      obtain ⟨x, hx⟩ : ∃ x, L[k]? = some x := ⟨_, List.getElem?_eq_getElem (by rw [HN.out]; exact hlt)⟩
      obtain ⟨g, off, rfl, hg, c0, c1, c2⟩ := HSH.out k x hx
      have d0 := (hbl.out.cell (p := ⟨g, off + k * 3, none⟩) hg).trans c0
      have d1 := (hbl.out.cell (p := ⟨g, off + k * 3 + 1, none⟩) hg).trans c1
      have HX := Lib.hid hx
      have HG := Lib.hid hg
      have HC := Lib.hid (And.intro c0 (And.intro c1 c2))
      have HTK : Hid ((L.take (k + 1)).any badE = badE x) := by
        show _ = _
        rw [take_snoc hx, List.any_append, hgood.out]; simp
      clear hx hg c0 c1 c2 hlt
      obtain ⟨xf, xt, xx, xg⟩ := x
      dsimp only at d0 d1
      by_cases hb : badE ⟨xf, xt, xx, xg⟩ = true
      · have HE1 : Hid (E = 1) := by
          show _ = _
          have h1 : L.any badE = true := by
            rw [List.any_eq_true]
            exact ⟨_, List.mem_of_getElem? HX.out, hb⟩
          rw [HE.out, if_pos h1]
        have HS1 : Hid (S = []) := by
          show _ = _
          rw [HS.out, HE1.out, if_neg (by omega)]
        by_cases hf : xf < 0
        · have hd : decide (xf < 0) = true := decide_eq_true hf
          clear hb hf
          go_wp2
          go_quiet (fail)
          go_wp2
          go_ret2
          exact ⟨below_drewN hbl.out _, .slice none 0 0, by rw [HE1.out]; rfl, by rw [HS1.out]; exact .inl ⟨rfl, rfl⟩⟩
        · have hd : decide (xf < 0) = false := decide_eq_false hf
          have hd2 : decide (xt < xf) = true := by unfold badE at hb; rw [hd] at hb; simpa using hb
          clear hb hf
          go_wp2
          go_quiet (fail)
          go_wp2
          go_ret2
          exact ⟨below_drewN hbl.out _, .slice none 0 0, by rw [HE1.out]; rfl, by rw [HS1.out]; exact .inl ⟨rfl, rfl⟩⟩
      · have hb' : badE ⟨xf, xt, xx, xg⟩ = false := by simpa using hb
        have hd : decide (xf < 0) = false := by unfold badE at hb'; rw [Bool.or_eq_false_iff] at hb'; exact hb'.1
        have hd2 : decide (xt < xf) = false := by unfold badE at hb'; rw [Bool.or_eq_false_iff] at hb'; exact hb'.2
        have HTK2 : Hid ((L.take (k + 1)).any badE = false) := by show _ = _; rw [HTK.out]; exact hb'
        clear hb hb' HTK
        go_wp2
        go_quiet (fail)
        go_wp2
        have hRd1 := hRd.out.below (below_drewN (RowKit.Below.refl _ wr) nq) (Nat.le_refl _)
        have hbl1 := below_drewN hbl.out nq
        obtain ⟨W1, hW1⟩ : ∃ W, wr.drewN nq = W := ⟨_, rfl⟩
        rw [hW1] at hRd1 hbl1 ⊢
        have HRd1 := Lib.hid hRd1
        have HB1 := Lib.hid hbl1
        have HLR : Hid ((rsF L k).length = k) := rsF_length (by rw [HN.out]; exact hk)
        have HSH1 := Lib.hid (show ∀ i y, (rsF L k)[i]? = some y → ∃ g off, p = some ⟨g, off, none⟩ ∧ g < W1.heap.size ∧ W1.cell? ⟨g, off + i * 3, none⟩ = some (.int .i64 y.fr) ∧ W1.cell? ⟨g, off + i * 3 + 1, none⟩ = some (.int .i64 y.to) ∧ W1.cell? ⟨g, off + i * 3 + 2, none⟩ = some (.string y.tx) from by
          obtain ⟨p', cap', hv, hh⟩ := hRd1.shape
          simp only [Value.slice.injEq] at hv
          obtain ⟨rfl, _, _⟩ := hv
          exact hh)
        have HX1 := Lib.hid (show W1.cell? ⟨g, off + k * 3, none⟩ = some (.int .i64 xf) ∧ W1.cell? ⟨g, off + k * 3 + 1, none⟩ = some (.int .i64 xt) ∧ W1.cell? ⟨g, off + k * 3 + 2, none⟩ = some (.string xx) from
          ⟨(hbl1.cell (p := ⟨g, off + k * 3, none⟩) HG.out).trans HC.out.1, (hbl1.cell (p := ⟨g, off + k * 3 + 1, none⟩) HG.out).trans HC.out.2.1, (hbl1.cell (p := ⟨g, off + k * 3 + 2, none⟩) HG.out).trans HC.out.2.2⟩)
        have HG1 : Hid (g < W1.heap.size) := by
          show _ < _
          have h1 := hbl1.size
          have h2 := HG.out
          have h3 := HH0.out
          omega
        clear hRd1 hbl1 hW1 hRd hbl d0 d1 HC
        go_loopw [6] (fun av wq => ∃ a : Nat, av = .int .i64 a ∧ a ≤ k ∧ Hid (posR ⟨xf, xt, xx, xg⟩ (rsF L k) a = posR ⟨xf, xt, xx, xg⟩ (rsF L k) k) ∧ Hid (RowKit.Below W1.heap.size W1 wq)) (fun av _ => (RowKit.intOf av).toNat)
        case atStart => exact ⟨k, rfl, Nat.le_refl _, rfl, RowKit.Below.refl _ _⟩
        case round =>
          obtain ⟨a, rfl, hak, hpos, hb2⟩ := hrel
          go_upto_region 8 with fail
          go_cut [52] from 39 to 52 (fun gv wx => ∃ gb : Bool, gv = .bool gb ∧ Hid (gb = true ↔ 0 < a ∧ key ⟨xf, xt, xx, xg⟩ < key (rsF L k)[a - 1]!) ∧ Hid (RowKit.Below W1.heap.size W1 wx))
          case first =>
            have hsz2 := hb2.out.size
            have hgw : g < wr.heap.size := Nat.lt_of_lt_of_le HG1.out hsz2
            have HBG : Hid (∀ n os, RowKit.Below W1.heap.size W1 (grow (wr.drewN n) os)) := fun n os => below_grow hb2.out hsz2 n os
            by_cases ha0 : a = 0
            · subst ha0
              rw [show ((0 : Nat) : Int) = 0 from rfl]
              have HBD : Hid (RowKit.Below W1.heap.size W1 wr.drew) := below_drewN hb2.out 1
              clear hb2 hsz2 hgw HBG
              go_big_region_o
              all_goals go_wp2
              go_meet
              exact ⟨false, rfl, ⟨fun h => (Bool.false_ne_true h).elim, fun h => by omega⟩, HBD.out⟩
            · have hda : decide ((0 : Int) < (a : Int)) = true := decide_eq_true (by omega)
              have hda2 : decide (0 < a) = true := decide_eq_true (by omega)
              obtain ⟨z, hz⟩ : ∃ z : Nat, 3 = z := ⟨3, rfl⟩
              have z37 : ∀ w, (Go.sizeOf 37).run Try.prog w = .ok z w := by rw [← hz]; exact Try.sizeOf37
              have u22 := run_underlying Try.underlying22
              have a37 := Try.isAgg37
              obtain ⟨b, hab⟩ : ∃ b : Nat, (a : Int) - 1 = (b : Int) := ⟨a - 1, by omega⟩
              obtain ⟨y, hy⟩ : ∃ y, (rsF L k)[b]? = some y := ⟨_, List.getElem?_eq_getElem (by rw [HLR.out]; omega)⟩
              obtain ⟨g', off', rfl, hg', y0, y1, y2⟩ := HSH1.out b y hy
              have hgw' : g' < wr.heap.size := Nat.lt_of_lt_of_le hg' hsz2
              have l1 := ld_ed (W := wr) (x := ⟨xf, xt, xx, xg⟩) z hz hgw ((hb2.out.cell (p := ⟨g, off + k * 3, none⟩) HG1.out).trans HX1.out.1) ((hb2.out.cell (p := ⟨g, off + k * 3 + 1, none⟩) HG1.out).trans HX1.out.2.1) ((hb2.out.cell (p := ⟨g, off + k * 3 + 2, none⟩) HG1.out).trans HX1.out.2.2)
              have l2 := ld_ed (W := wr) (x := y) z hz hgw' ((hb2.out.cell (p := ⟨g', off' + b * 3, none⟩) hg').trans y0) ((hb2.out.cell (p := ⟨g', off' + b * 3 + 1, none⟩) hg').trans y1) ((hb2.out.cell (p := ⟨g', off' + b * 3 + 2, none⟩) hg').trans y2)
              rw [show off + k * 3 = off + k * z from by rw [hz]] at l1
              rw [show off' + b * 3 = off' + b * z from by rw [hz]] at l2
              have hyy : (rsF L k)[a - 1]! = y := by
                rw [show a - 1 = b from by omega, getElem!_pos (rsF L k) b (List.getElem?_eq_some_iff.1 hy).1]
                exact (List.getElem?_eq_some_iff.1 hy).2
              have hkey := ahead_key ⟨xf, xt, xx, xg⟩ y
              have ca : ∀ (n : Nat) (os : Array Obj), Calls Try.prog 33 #[.agg (enc ⟨xf, xt, xx, xg⟩).toArray, .agg (enc y).toArray] (grow (wr.drewN n) os) fun e w' => e = .returned (.bool (aheadB ⟨xf, xt, xx, xg⟩ y)) ∧ ∃ q os', w' = grow ((grow (wr.drewN n) os).drewN q) os' := fun n os => (ahead_any ⟨xf, xt, xx, xg⟩ y (grow (wr.drewN n) os)).mono fun _ _ ⟨he, hw⟩ =>
                ⟨he, 0, #[.cells #[.int .i64 xf, .int .i64 xt, .string xx] 37, .cells #[.int .i64 y.fr, .int .i64 y.to, .string y.tx] 37], by rw [hw, alloc_eq_grow, alloc_eq_grow, grow_grow]; rfl⟩
              obtain ⟨gb, hgb⟩ : ∃ gb, aheadB ⟨xf, xt, xx, xg⟩ y = gb := ⟨_, rfl⟩
              rw [hgb] at ca hkey
              have HK : Hid (gb = true ↔ 0 < a ∧ key ⟨xf, xt, xx, xg⟩ < key (rsF L k)[a - 1]!) := by
                rw [hyy, hkey, decide_eq_true_eq]
                exact ⟨fun h => ⟨by omega, h⟩, fun h => h.2⟩
              have n1 : (enc ⟨xf, xt, xx, xg⟩).length = z := hz
              have n2 : (enc y).length = z := hz
              generalize enc ⟨xf, xt, xx, xg⟩ = ch at l1 ca n1
              generalize enc y = cb at l2 ca n2
              have wb : IntKind.i64.wrap (b : Int) = (b : Int) := by rw [IntKind.wrap_i64]; omega
              have zb : (0 : Int) ≤ (b : Int) := by omega
              have eb : ((b : Int)).toNat = b := by omega
              have zk : (b : Int) < (k : Int) := by omega
              clear ha0 hb2 hsz2 hgw hgw' hyy hkey hgb hy y0 y1 y2 hg' hz
              go_quiet_grown (first | (go_at_call 33; refine Calls.grown_of (ca _ _)))
              go_wp2
              go_meet
              exact ⟨gb, rfl, HK, HBG.out _ _⟩
          case rest =>
            obtain ⟨gb, rfl, hgb, hbw⟩ := hcut
            cases gb with
            | true =>
              have hka := hgb.out.1 rfl
              have hpos2 : Hid (posR ⟨xf, xt, xx, xg⟩ (rsF L k) (a - 1) = posR ⟨xf, xt, xx, xg⟩ (rsF L k) k) := by
                show _ = _
                rw [← hpos.out]
                obtain ⟨c, rfl⟩ : ∃ c, a = c + 1 := ⟨a - 1, by omega⟩
                rw [Nat.add_sub_cancel] at hka ⊢
                rw [posR, if_pos hka.2]
              have ha1 := hka.1
              clear hka hgb hpos
              go_wp2
              go_roundw
              case rel => exact ⟨a - 1, by go_num, by omega, hpos2, hbw⟩
              case measure => simp [RowKit.intOf]; omega
            | false =>
              have hpa : Hid (posR ⟨xf, xt, xx, xg⟩ (rsF L k) k = a) := by
                show _ = _
                rw [← hpos.out]
                cases a with
                | zero => rfl
                | succ c =>
                  rw [posR, if_neg]
                  intro hlt
                  have := hgb.out.2 ⟨by omega, by rw [Nat.add_sub_cancel]; exact hlt⟩
                  cases this
              clear hgb hpos
              go_upto_region 10 with fail
              have hR2 := HRd1.out.below hbw.out (Nat.le_refl _)
              have hgw : g < wc.heap.size := Nat.lt_of_lt_of_le HG1.out hbw.out.size
              have e0 := (hbw.out.cell (p := ⟨g, off + k * 3, none⟩) HG1.out).trans HX1.out.1
              have e1 := (hbw.out.cell (p := ⟨g, off + k * 3 + 1, none⟩) HG1.out).trans HX1.out.2.1
              have e2 := (hbw.out.cell (p := ⟨g, off + k * 3 + 2, none⟩) HG1.out).trans HX1.out.2.2
              have hbw0 : RowKit.Below H0 w wc := HB1.out.trans (hbw.out.mono (by have h1 := HB1.out.size; have h2 := HH0.out; omega))
              obtain ⟨H, hH⟩ : ∃ H, wc.heap.size = H := ⟨_, rfl⟩
              have hH0 : H0 ≤ H := by have h1 := hbw0.size; have h2 := HH0.out; omega
              have hown0 := World.ownsRow_made (base := H) (e := 37) (size := 3) wc #[] 0 (by omega) (by decide) rfl
              have hX0 : RowKit.Below H wc (wc.alloc (.cells #[] 37)) := by rw [← hH]; exact RowKit.Below.alloc (RowKit.Below.refl _ _) (Nat.le_refl _) _
              have hs0 : H ≤ (wc.alloc (.cells #[] 37)).heap.size := by rw [← hH]; exact hX0.size
              obtain ⟨T, hT⟩ : ∃ T, (rsF L k).take a = T := ⟨_, rfl⟩
              obtain ⟨D, hD⟩ : ∃ D, (rsF L k).drop a = D := ⟨_, rfl⟩
              have HTA : Hid (T.length = a) := by show _ = _; have := HLR.out; rw [← hT, List.length_take]; omega
              have HDA : Hid (D.length = k - a) := by show _ = _; have := HLR.out; rw [← hD, List.length_drop]; omega
              have HTX : Hid ((T ++ [(⟨xf, xt, xx, xg⟩ : Ed)]).length = a + 1) := by show _ = _; have := HTA.out; rw [List.length_append]; simp; omega
              have HTD : Hid ((T ++ [(⟨xf, xt, xx, xg⟩ : Ed)]) ++ D = rsF L (k + 1)) := by
                show _ = _
                rw [rsF_step HX.out]
                unfold insR
                rw [HLR.out, hpa.out, hT, hD]
              have HL1 : Hid ((rsF L (k + 1)).length = k + 1) := by
                show _ = _
                rw [← HTD.out, List.length_append, HTX.out, HDA.out]; omega
              have ha1 : a ≤ 1000000 := by omega
              have ha2 : a + 1 ≤ 1000000 := by omega
              have ha3 : k + 1 ≤ 1000000 := by omega
              have HT0 : Hid (∀ g' off', p = some ⟨g', off', none⟩ → ∀ cp, Rd wc (.slice p a cp) T) := by
                rintro g' off' rfl cp
                rw [← hT]
                exact rd_take hR2 a cp (by have := HLR.out; omega)
              have HN0 : Hid (p = none → T = [] ∧ D = [] ∧ k = 0 ∧ cap = 0 ∧ a = 0) := by
                rintro rfl
                rcases hR2 with ⟨h0, h1⟩ | ⟨_, _, _, h0, _⟩
                · simp only [Value.slice.injEq] at h0
                  obtain ⟨_, h2, h3⟩ := h0
                  rw [h1] at hT hD
                  exact ⟨by rw [← hT]; simp, by rw [← hD]; simp, h2, h3, by omega⟩
                · cases h0
              have HP0 : Hid (∀ q, p = some q → ∃ g' off', q = ⟨g', off', none⟩) := by
                rintro q rfl
                rcases hR2 with ⟨h0, h1⟩ | ⟨g', off', _, h0, _⟩
                · cases h0
                · simp only [Value.slice.injEq, Option.some.injEq] at h0
                  exact ⟨g', off', h0.1⟩
              have HD0 : Hid (∀ g' off', p = some ⟨g', off', none⟩ → ∀ cp, Rd wc (.slice (some ⟨g', off' + a * 3, none⟩) (k - a) cp) D) := by
                rintro g' off' rfl cp
                rw [← hD]
                exact rd_drop hR2 a cp
              have HD1 : Hid (∀ g' off', p = some ⟨g', off', none⟩ → a = cap → Rd wc (.slice (some ⟨g', off', none⟩) 0 0) D ∧ k = a) := by
                rintro g' off' rfl hac
                have h1 : D = [] := List.eq_nil_of_length_eq_zero (by have := HDA.out; omega)
                rw [h1]
                exact ⟨rd_none hR2 0, by omega⟩
              have HE0 : Hid (wc.cell? ⟨g, off + k * 3, none⟩ = some (.int .i64 xf) ∧ wc.cell? ⟨g, off + k * 3 + 1, none⟩ = some (.int .i64 xt) ∧ wc.cell? ⟨g, off + k * 3 + 2, none⟩ = some (.string xx)) := ⟨e0, e1, e2⟩
              have HH1 := Lib.hid hH
              have HHS : Hid (wc.heap.size ≤ H) := by show _ ≤ _; omega
              have HGH : Hid (g < H) := by show _ < _; omega
              have HX0 := Lib.hid hX0
              have HBW0 := Lib.hid hbw0
              have HH00 := Lib.hid hH0
              have HWS := Lib.hid hs0
              clear hH hT hD e0 e1 e2 hgw hbw0 hX0 hR2 hH0 hbw hpa
              cases p with
              | none =>
                obtain ⟨rfl, rfl, rfl, rfl, rfl⟩ := HN0.out rfl
                have hr0 : Rd (wc.alloc (.cells #[] 37)) (.slice none 0 0) [] := .inl ⟨rfl, rfl⟩
                rw [show ((0 : Nat) : Int) = 0 from rfl]
                go_upto_region 11 with (refine wpList_app2 rfl (.tmp 55) (.tmp 58) rfl rfl H hs0 _ _ [] [] [] 0 rfl rfl rfl rfl hown0 hr0 ha1 ?_; intro p1 cap1 X1 hown1 hbX1)
                have HB11 := Lib.hid (HX0.out.trans hbX1)
                have e0 := (HB11.out.cell (p := ⟨g, off + 0 * 3, none⟩) HGH.out).trans HE0.out.1
                have e1 := (HB11.out.cell (p := ⟨g, off + 0 * 3 + 1, none⟩) HGH.out).trans HE0.out.2.1
                have e2 := (HB11.out.cell (p := ⟨g, off + 0 * 3 + 2, none⟩) HGH.out).trans HE0.out.2.2
                rw [Nat.zero_mul, Nat.add_zero] at e0 e1 e2
                have hs1 : H ≤ (X1.alloc (.cells (cellsE [⟨xf, xt, xx, xg⟩]).toArray 37)).heap.size := by
                  have h1 := (RowKit.Below.alloc hbX1 (Nat.le_trans HWS.out hbX1.size) (.cells (cellsE [⟨xf, xt, xx, xg⟩]).toArray 37)).size
                  exact Nat.le_trans HWS.out h1
                have hown1' := hown1.alloc (.cells (cellsE [⟨xf, xt, xx, xg⟩]).toArray 37)
                have hr1 := lit_rd X1 [⟨xf, xt, xx, xg⟩]
                have HBX1 := Lib.hid (RowKit.Below.alloc HB11.out (Nat.le_trans HWS.out hbX1.size) (.cells (cellsE [⟨xf, xt, xx, xg⟩]).toArray 37))
                clear hbX1 hown0 hr0 hs0 hown1
                go_upto_region 12 with (refine wpList_app2 rfl (.tmp 60) (.tmp 65) rfl rfl H hs1 _ _ [] [⟨xf, xt, xx, xg⟩] _ (0 + 1) rfl rfl rfl HTX.out hown1' hr1 ha2 ?_; intro p2 cap2 X2 hown2 hbX2)
                have HXX := Lib.hid (HBX1.out.trans hbX2)
                have hs2 : H ≤ X2.heap.size := Nat.le_trans hs1 hbX2.size
                clear hs1 hr1 hown1' e0 e1 e2
                have hr2 : Rd X2 (.slice none 0 0) [] := .inl ⟨rfl, rfl⟩
                go_wp2_with (refine wpList_app2 rfl (.tmp 67) (.tmp 70) rfl rfl H hs2 _ _ _ [] _ (0 + 1) rfl rfl HTD.out HL1.out hown2 hr2 ha3 ?_; intro p3 cap3 X3 hown3 hbX3)
                have hR3 := owns_rd hown3
                have HB3 := Lib.hid (HBW0.out.trans ((HXX.out.trans hbX3).mono HH00.out))
                have HR3 := Lib.hid hR3.1
                have hc3 := hR3.2.2
                clear hR3 hown3 hbX3 hown2 hr2 hs2
                go_roundw
                case rel => exact ⟨0 + 1, p3, cap3, rfl, by go_num, by omega, hc3, HR3, HB3, HTK2⟩
                case measure => simp [RowKit.intOf]; omega
              | some q =>
                obtain ⟨g', off', rfl⟩ := HP0.out q rfl
                have hr0 := (HT0.out g' off' rfl cap).below HX0.out HHS.out
                have hz1 : (a : Int) ≤ (cap : Int) := by omega
                have hz2 : a ≤ cap := by omega
                have hz3 : (a : Int) ≤ (k : Int) := by omega
                go_upto_region 11 with (refine wpList_app2 rfl (.tmp 55) (.tmp 58) rfl rfl H hs0 _ _ [] T T a rfl rfl rfl HTA.out hown0 hr0 ha1 ?_; intro p1 cap1 X1 hown1 hbX1)
                have HB11 := Lib.hid (HX0.out.trans hbX1)
                have e0 := (HB11.out.cell (p := ⟨g, off + k * 3, none⟩) HGH.out).trans HE0.out.1
                have e1 := (HB11.out.cell (p := ⟨g, off + k * 3 + 1, none⟩) HGH.out).trans HE0.out.2.1
                have e2 := (HB11.out.cell (p := ⟨g, off + k * 3 + 2, none⟩) HGH.out).trans HE0.out.2.2
                have hs1 : H ≤ (X1.alloc (.cells (cellsE [⟨xf, xt, xx, xg⟩]).toArray 37)).heap.size := by
                  have h1 := (RowKit.Below.alloc hbX1 (Nat.le_trans HWS.out hbX1.size) (.cells (cellsE [⟨xf, xt, xx, xg⟩]).toArray 37)).size
                  exact Nat.le_trans HWS.out h1
                have hown1' := hown1.alloc (.cells (cellsE [⟨xf, xt, xx, xg⟩]).toArray 37)
                have hr1 := lit_rd X1 [⟨xf, xt, xx, xg⟩]
                have HBX1 := Lib.hid (RowKit.Below.alloc HB11.out (Nat.le_trans HWS.out hbX1.size) (.cells (cellsE [⟨xf, xt, xx, xg⟩]).toArray 37))
                clear hbX1 hown0 hr0 hs0 hown1
                go_upto_region 12 with (refine wpList_app2 rfl (.tmp 60) (.tmp 65) rfl rfl H hs1 _ _ T [⟨xf, xt, xx, xg⟩] _ (a + 1) rfl rfl rfl HTX.out hown1' hr1 ha2 ?_; intro p2 cap2 X2 hown2 hbX2)
                have HXX := Lib.hid (HBX1.out.trans hbX2)
                have hs2 : H ≤ X2.heap.size := Nat.le_trans hs1 hbX2.size
                clear hs1 hr1 hown1' e0 e1 e2
                by_cases hac : a = cap
                · have HAC := Lib.hid hac
                  obtain ⟨hr2, hka⟩ := HD1.out g' off' rfl hac
                  have hr2 := hr2.below HXX.out HHS.out
                  obtain rfl := hka
                  obtain rfl := hac
                  go_wp2_with (refine wpList_app2 rfl (.tmp 67) (.tmp 70) rfl rfl H hs2 _ _ _ D _ (k + 1) rfl rfl HTD.out HL1.out hown2 hr2 ha3 ?_; intro p3 cap3 X3 hown3 hbX3)
                  have hR3 := owns_rd hown3
                  have HB3 := Lib.hid (HBW0.out.trans ((HXX.out.trans hbX3).mono HH00.out))
                  have HR3 := Lib.hid hR3.1
                  have hc3 := hR3.2.2
                  clear hR3 hown3 hbX3 hown2 hr2 hs2
                  go_roundw
                  case rel => exact ⟨k + 1, p3, cap3, rfl, by go_num, by omega, hc3, HR3, HB3, HTK2⟩
                  case measure => simp [RowKit.intOf]; omega
                · have hr2 := (HD0.out g' off' rfl (cap - a)).below HXX.out HHS.out
                  go_wp2_with (refine wpList_app2 rfl (.tmp 67) (.tmp 70) rfl rfl H hs2 _ _ _ D _ (k + 1) rfl rfl HTD.out HL1.out hown2 hr2 ha3 ?_; intro p3 cap3 X3 hown3 hbX3)
                  have hR3 := owns_rd hown3
                  have HB3 := Lib.hid (HBW0.out.trans ((HXX.out.trans hbX3).mono HH00.out))
                  have HR3 := Lib.hid hR3.1
                  have hc3 := hR3.2.2
                  clear hR3 hown3 hbX3 hown2 hr2 hs2
                  go_roundw
                  case rel => exact ⟨k + 1, p3, cap3, rfl, by go_num, by omega, hc3, HR3, HB3, HTK2⟩
                  case measure => simp [RowKit.intOf]; omega
    · have hkN : N = k := by omega
      subst hkN
      have HLN : Hid ((rsF L N).length = N) := rsF_length (by rw [HN.out]; exact Nat.le_refl _)
      have HE1 : Hid (E = if inOrdB (rsF L N) = true then 0 else 63) := by
        show _ = _
        have h1 := hgood.out
        rw [← HN.out, List.take_length] at h1
        rw [HE.out, if_neg (by rw [h1]; simp)]
      have HSH2 : Hid (∀ i y, (rsF L N)[i]? = some y → ∃ g off, p = some ⟨g, off, none⟩ ∧ g < wr.heap.size ∧ wr.cell? ⟨g, off + i * 3, none⟩ = some (.int .i64 y.fr) ∧ wr.cell? ⟨g, off + i * 3 + 1, none⟩ = some (.int .i64 y.to) ∧ wr.cell? ⟨g, off + i * 3 + 2, none⟩ = some (.string y.tx)) := by
        obtain ⟨p', cap', hv, hh⟩ := hRd.out.shape
        simp only [Value.slice.injEq] at hv
        obtain ⟨rfl, _, _⟩ := hv
        exact hh
      obtain ⟨R, hR⟩ : ∃ R, rsF L N = R := ⟨_, rfl⟩
      rw [hR] at HLN HE1 HSH2 hRd HS
      clear hR HE hgood HSH hlt hk
      go_wp2
      go_loopw [8] (fun iv wq => ∃ m : Nat, iv = .int .i64 ((m : Int) + 1) ∧ m ≤ N ∧ Hid (∀ (i : Nat) (x y : Ed), i < m → R[i]? = some x → R[i + 1]? = some y → x.to ≤ y.fr) ∧ Hid (RowKit.Below wr.heap.size wr wq)) (fun iv _ => N + 1 - (intOf iv).toNat)
      case atStart => exact ⟨0, rfl, Nat.zero_le _, fun i x y h0 => by omega, RowKit.Below.refl _ _⟩
      case round =>
        obtain ⟨m, rfl, hm, hord, hb2⟩ := hrel
        by_cases hlt : m + 1 < N
        · obtain ⟨x, hx⟩ : ∃ x, R[m]? = some x := ⟨_, List.getElem?_eq_getElem (by rw [HLN.out]; omega)⟩
          obtain ⟨y, hy⟩ : ∃ y, R[m + 1]? = some y := ⟨_, List.getElem?_eq_getElem (by rw [HLN.out]; omega)⟩
          obtain ⟨g, off, rfl, hg, c0, c1, c2⟩ := HSH2.out m x hx
          obtain ⟨g', off', he, hg', y0, y1, y2⟩ := HSH2.out (m + 1) y hy
          simp only [Option.some.injEq, Addr.mk.injEq, and_true] at he
          obtain ⟨rfl, rfl⟩ := he
          have x1 := (hb2.out.cell (p := ⟨g, off + m * 3 + 1, none⟩) hg).trans c1
          have y0 := (hb2.out.cell (p := ⟨g, off + (m + 1) * 3, none⟩) hg).trans y0
          have hwp : IntKind.i64.wrap (m : Int) = (m : Int) := by rw [IntKind.wrap_i64]; omega
          have jz : (m : Int) + 1 < (N : Int) := by omega
          have jz1 : (m : Int) < (N : Int) := by omega
          have p0 : (0 : Int) ≤ (m : Int) + 1 := by omega
          have e0 : ((m : Int) + 1).toNat = m + 1 := by omega
          have HX := Lib.hid hx
          have HY := Lib.hid hy
          clear hx hy hlt hg hg' c0 c1 c2 y1 y2
          by_cases hxy : y.fr < x.to
          · have hd : decide (y.fr < x.to) = true := by simpa using hxy
            have HNo : Hid (E = 63) := by
              show _ = _
              rw [HE1.out, if_neg]
              intro ho
              have := (inOrdB_iff _).1 ho m x y HX.out HY.out
              omega
            have HS1 : Hid (S = []) := by
              show _ = _
              rw [HS.out, HNo.out, if_neg (by omega)]
            clear hxy
            go_wp2
            go_quiet (fail)
            go_wp2
            go_ret2
            exact ⟨hbl.out.trans ((below_drewN hb2.out _).mono (by have h1 := hbl.out.size; have h2 := HH0.out; omega)), .slice none 0 0, by rw [HNo.out]; rfl, by rw [HS1.out]; exact .inl ⟨rfl, rfl⟩⟩
          · have hd : decide (y.fr < x.to) = false := by simpa using hxy
            have HO : Hid (∀ (i : Nat) (x y : Ed), i < m + 1 → R[i]? = some x → R[i + 1]? = some y → x.to ≤ y.fr) := by
              intro i x' y' hi hx' hy'
              rcases Nat.lt_or_ge i m with h5 | h5
              · exact hord.out i x' y' h5 hx' hy'
              · obtain rfl : i = m := by omega
                obtain rfl := Option.some.inj (HX.out.symm.trans hx')
                obtain rfl := Option.some.inj (HY.out.symm.trans hy')
                omega
            clear hxy
            go_wp2
            go_quiet (fail)
            go_wp2
            go_roundw
            case rel => exact ⟨m + 1, by go_num, by omega, HO, below_drewN hb2.out _⟩
            case measure => simp [intOf]; omega
        · have hltz : ¬ ((m : Int) + 1 < (N : Int)) := by omega
          have HE2 : Hid (E = 0) := by
            show _ = _
            rw [HE1.out, if_pos]
            rw [inOrdB_iff]
            intro i x y hx hy
            have h6 := (List.getElem?_eq_some_iff.1 hy).1
            rw [HLN.out] at h6
            exact hord.out i x y (by omega) hx hy
          have HS2 : Hid (S = R) := by
            show _ = _
            rw [HS.out, HE2.out, if_pos rfl]
          clear hlt
          go_wp2
          go_ret2
          exact ⟨hbl.out.trans (hb2.out.mono (by have h1 := hbl.out.size; have h2 := HH0.out; omega)), .slice p N cap, by rw [HE2.out]; rfl, by rw [HS2.out]; exact hRd.out.below hb2.out (Nat.le_refl _)⟩
end Go.Proofs.Ytinanagjoaaacaa
