/-
  edits.Back: a walk.
-/
import Derived.Deep.RegionHeld
import Derived.BigRegionIn
import Derived.Deep.AppendLies
import Derived.OwnWalk
import Derived.Test.YtinanagjoaaacaaW6
namespace Go.Proofs.Ytinanagjoaaacaa
open Go.RowKit Go.Shelf Go.Lib Go.Sort
attribute [local go_sem] Oper.semAt_some

/-! ### A region that draws its order, within a round -/
theorem wpIn_of_wp {P : Program} {l n : Nat} {o : Oper} {a : Act} {w : World} {K : Act → World → Prop} {Q : Exit → Act → World → Prop}
    (hd : ∀ c, o.op ≠ .defer c) (h : o.wp P a w K Q) : o.wpIn (Fence.wide.inRound l) n P a w K Q := by
  refine ⟨fun _ _ => trivial, ?_⟩
  unfold Oper.wp at h
  rw [show (Fence.wide.inRound l).round = some l from rfl, Oper.semAt_some l _ _ hd]
  cases hr : (execOp a.eval o).run P w with
  | ok x w' =>
    rw [hr] at h
    cases x with
    | value v => exact h
    | skip => exact h
    | defer d => exact h
    | enter f args =>
      refine ⟨fun hx => (by cases hx), ?_⟩
      exact (CallsIn.inRound l (callsIn_wide.2 h)).mono fun e w'' he => by cases e <;> exact he
    | row r args =>
      refine ⟨fun hx => (by cases hx), fun c cs _ => ?_⟩
      obtain ⟨v, w'', h1, h2⟩ := h c cs
      exact ⟨v, w'', h1, stepsIn_wide.2 h2⟩
    | _ => exact h.elim
  | halt x w' =>
    rw [hr] at h
    cases x with
    | panic v => exact h
    | _ => exact h.elim
theorem wpAnyIn_of_wpAny {P : Program} {l n : Nat} {md : Region.Mode} {ops : Array Oper} {Q : Exit → Act → World → Prop}
    (hd : ∀ (i : Nat) (o : Oper), ops[i]? = some o → ∀ c, o.op ≠ .defer c) (hno : ∀ a w, ¬ Q .outgrown a w) :
    ∀ (fuel : Nat) (listed : Array Bool) (a : Act) (w : World), wpAny P md ops Q fuel listed a w → wpAnyIn (Fence.wide.inRound l) n P md ops Q fuel listed a w
  | 0, _, _, _, h => h
  | fuel + 1, listed, a, w, h => by
    refine ⟨h.1, fun i hi => ?_⟩
    have h2 := h.2 i hi
    unfold wpOp at h2
    unfold wpOpIn
    cases ho : ops[i]? with
    | none =>
      rw [ho] at h2
      exact wpAnyIn_of_wpAny hd hno fuel _ _ _ h2
    | some o =>
      rw [ho] at h2
      dsimp only at h2 ⊢
      by_cases hw : Region.wanted o (yielded ops a.tmps) = true
      · rw [if_pos hw] at h2 ⊢
        rcases h2 with h2 | ⟨_, a', w', hx⟩
        · exact wpIn_of_wp (hd i o ho) (Oper.wp_mono (fun a' w' h3 => wpAnyIn_of_wpAny hd hno fuel _ _ _ h3) h2)
        · exact absurd hx (hno a' w')
      · rw [if_neg hw] at h2 ⊢
        exact ⟨fun _ _ => trivial, wpAnyIn_of_wpAny hd hno fuel _ _ _ h2⟩
def noDefer (ops : Array Oper) : Bool := ops.toList.all fun o => match o.op with | .defer _ => false | _ => true
theorem noDefer_spec {ops : Array Oper} (h : noDefer ops = true) (i : Nat) (o : Oper) (ho : ops[i]? = some o) (c : Call) : o.op ≠ .defer c := by
  intro hx
  unfold noDefer at h
  rw [List.all_eq_true] at h
  have := h o (by rw [← Array.getElem?_toList] at ho; exact List.mem_of_getElem? ho)
  rw [hx] at this
  simp at this
theorem region_round {P : Program} {l n id : Nat} {ops : Array Oper} {Q : Exit → Act → World → Prop} {a : Act} {w : World} (S : World → Prop)
    (hm : P.follows .mixedOrders = true) (hd : noDefer ops = true) (hno : ∀ a w, ¬ Q .outgrown a w)
    (h : wpAnyH P .any ops Q S ops.size (Array.replicate ops.size false) a w.drew) : (Code.region id ops true).wpIn (Fence.wide.inRound l) n P Q a w :=
  wpIn_region_any hm (wpAnyIn_of_wpAny (noDefer_spec hd) hno _ _ _ _ (wpAny_of_held _ _ _ _ h))

theorem cell_alloc_l {W : World} {c : Addr} {v : Value} (o : Obj) (h : W.cell? c = some v) : (W.alloc o).cell? c = some v := cell_kept h (World.grownBy_alloc W o none) (fun r e => by cases e)
theorem frozen_alloc_l {W : World} {c : Addr} {v : Value} (o : Obj) (h : W.cell? c = some v) (hf : W.frozen? c = false) : (W.alloc o).frozen? c = false := (frozen_kept h (World.grownBy_alloc W o none) (fun r e => by cases e)).trans hf
theorem own_row {W : World} {b e size n : Nat} {v : Value} {xs : List Value} (h : W.ownsRow b e size v n xs) : ∀ k, v.ownBlock = some k → b ≤ k ∧ ∃ o, W.heap[k]? = some o ∧ o.isCells = true := by
  intro k hk
  rcases h.2 with ⟨rfl, _⟩ | ⟨g, cap, cur, rfl, hb, hg, _⟩
  · cases hk
  · obtain rfl : g = k := by simpa [Value.ownBlock] using hk
    exact ⟨hb, _, hg, rfl⟩
theorem ownsRow_low {W : World} {b c e size n : Nat} {v : Value} {xs : List Value} (h : W.ownsRow b e size v n xs) (hc : c ≤ b) : W.ownsRow c e size v n xs := by
  refine ⟨h.1, ?_⟩
  rcases h.2 with h | ⟨g, cap, cur, h1, h3, h2⟩
  · exact .inl h
  · exact .inr ⟨g, cap, cur, h1, Nat.le_trans hc h3, h2⟩
theorem grown_setCell_l (w : World) (a : Addr) (u : Value) : w.grownBy (w.setCell a u) (some a.block) :=
  ⟨rfl, rfl, rfl, by simp, fun k _ hk => heap_setCell_other w a k u (fun e => hk (by rw [e]))⟩
theorem keepsFrom_row {W W' : World} {row : Option Nat} (h : W.grownBy W' row) (hr : ∀ k, row = some k → ∃ o, W.heap[k]? = some o ∧ o.isCells = true) (B : Nat) : KeepsFrom B W W' :=
  ⟨h.size, fun k o _ hk hc => (h.block k (Array.getElem?_eq_some_iff.1 hk).1 (fun e => by
    obtain ⟨o', ho', hc'⟩ := hr k e.symm
    rw [hk] at ho'; cases ho'; rw [hc] at hc'; cases hc')).trans hk⟩
/-- What the body's append and store keep. -/
theorem kpE_append {b : Nat} {A B : World} {v : Value} (hg : A.grownBy B v.ownBlock) (hv : A.cell? ⟨b, 0, none⟩ = some v) {u' : Value} (hu' : B.cell? ⟨b, 0, none⟩ = some u') {g cap n : Nat} (hgl : g < B.heap.size) (hnew : v.ownBlock = some g ∨ A.heap.size ≤ g) :
    KpE b A (B.setCell ⟨b, 0, none⟩ (.slice (some ⟨g, 0, none⟩) n cap)) := fun hr => by
  have hbl := World.block_lt_of_cell? A ⟨b, 0, none⟩ hv
  have e1 : rowOf b A = v.ownBlock := by unfold rowOf; rw [hv]; rfl
  have e2 : ∀ r, rowOf b (B.setCell ⟨b, 0, none⟩ (.slice (some ⟨g, 0, none⟩) n cap)) = some r → r = g := fun r h => by
    unfold rowOf at h
    rw [World.cell?_setCell_same _ _ _ hu'] at h
    simpa [Value.ownBlock] using h.symm
  refine ⟨fun r h => ?_, by simpa using hg.size, fun k o hk ho hc hkr => ?_⟩
  · rw [e2 r h]; simpa using hgl
  · have hkl := (Array.getElem?_eq_some_iff.1 ho).1
    rw [e1] at hkr
    refine ⟨?_, fun h => ?_⟩
    · rw [heap_setCell_other _ _ _ _ hk, hg.block k hkl (fun e => hkr e.symm)]
      exact ho
    · have := e2 k h
      subst this
      rcases hnew with h1 | h1
      · exact hkr h1
      · omega

theorem moved_any (w : World) (p : Option Addr) (n cap : Nat) : Calls Try.prog 35 #[.slice p n cap] w fun e w' => e = .returned (.func (.func 40) #[] #[.pointer (some ⟨w.heap.size, 0, none⟩)]) ∧ w' = w.alloc (.cells #[.slice p n cap] 22) := by
  go_enter Try.func35, Try.ntmps35
  go_wp2
  go_ret
  exact ⟨rfl, rfl⟩

/-- Rounds of which something is known. -/
abbrev Rnd (P : Int × Ed → Prop) := { y : Int × Ed // P y }
theorem mov_stops (P : Int × Ed → Prop) (n : Nat) (hn : 1 ≤ n) (Bs b g off cap : Nat) (p : Option Addr) (s : List Ed) (hP : ∀ y, y ∈ mvL s → P y) (hs : Small s) (hsl : s.length ≤ 1000000) (w : World)
    (hBs : w.cell? ⟨Bs, 0, none⟩ = some (.slice p s.length cap)) (hb : b < w.heap.size) (hgb : g ≠ b) (hrow : ∀ r, rowOf b w = some r → r < w.heap.size)
    (hp : s ≠ [] → p = some ⟨g, off, none⟩) (hgr : rowOf b w ≠ some g) (og : s ≠ [] → ∃ o, w.heap[g]? = some o ∧ o.isCells = true)
    (hc : ∀ (k : Nat) (x : Ed), s[k]? = some x → w.cell? ⟨g, off + k * 3, none⟩ = some (.int .i64 x.fr) ∧ w.cell? ⟨g, off + k * 3 + 1, none⟩ = some (.int .i64 x.to) ∧ w.cell? ⟨g, off + k * 3 + 2, none⟩ = some (.string x.tx)) :
    SeqStopsK Fence.wide n Try.prog 40 #[.pointer (some ⟨Bs, 0, none⟩)] (fun y : Rnd P => encM y.val) (KpE b) (fun ys => ys.map Subtype.val = mvL s) (fun pre => pre.map Subtype.val <+: mvL s) s.length w := fun l J Jx W hW hJ _ hY h0 => by
  have hBl : Bs < w.heap.size := World.block_lt_of_cell? w ⟨Bs, 0, none⟩ hBs
  have hr : rowOf b W = rowOf b w := rowOf_block (hW.block b hb)
  have hgl : s ≠ [] → g < w.heap.size := fun h => by
    obtain ⟨o, ho, _⟩ := og h
    exact (Array.getElem?_eq_some_iff.1 ho).1
  refine (mov_in n hn l Bs b g off cap p s hs hsl (fun pre W => ∃ ys : List (Rnd P), ys.map Subtype.val = pre ∧ J ys W) (fun pre W => ∃ ys : List (Rnd P), ys.map Subtype.val = pre ∧ Jx ys W) W
    (fun pre W o ⟨ys, h1, h2⟩ => ⟨ys, h1, hJ ys W _ none h2 (World.grownBy_alloc W o none) (fun _ e => by cases e)⟩) (fun pre x W1 ⟨ys, h1, h2⟩ h3 h4 => ?_) ((hW.cell (p := ⟨Bs, 0, none⟩) hBl).trans hBs) ⟨[], rfl, h0⟩ (Nat.lt_of_lt_of_le hb hW.size) hgb (fun r h => ?_) hp (by rw [hr]; exact hgr) (fun h => ?_) (fun k x hx => ?_)).mono ?_
  · have hx : P x := hP x (h4.subset (by simp))
    refine (hY ys ⟨x, hx⟩ W1 h2 (by rw [← h1] at h3; simpa using h3)).mono ?_
    rintro e w' (⟨a1, a2, a3⟩ | ⟨a1, a2⟩)
    · exact .inl ⟨a1, ⟨_, by simp [h1], a2⟩, a3⟩
    · exact .inr ⟨a1, _, by simp [h1], a2⟩
  · rw [hr] at h
    exact Nat.lt_of_lt_of_le (hrow r h) hW.size
  · obtain ⟨o, ho, hc⟩ := og h
    exact ⟨o, (hW.block g (hgl h)).trans ho, hc⟩
  · have hne : s ≠ [] := fun e => by rw [e] at hx; simp at hx
    obtain ⟨c0, c1, c2⟩ := hc k x hx
    exact ⟨(hW.cell (hgl hne)).trans c0, (hW.cell (hgl hne)).trans c1, (hW.cell (hgl hne)).trans c2⟩
  · rintro e w' ⟨h1, ⟨_, rfl, ys, h2, h3⟩ | ⟨pre, hp, ys, h2, h3⟩⟩
    · exact ⟨h1, .inl ⟨ys, h2, h3⟩⟩
    · exact ⟨h1, (Or.inr ⟨ys, (by show List.map Subtype.val ys <+: mvL s; rw [h2]; exact hp), h3⟩)⟩

theorem cell_new3 (W : World) (a b c : Value) (t : TypeId) : (W.alloc (.cells #[a, b, c] t)).cell? ⟨W.heap.size, 0, none⟩ = some a ∧ (W.alloc (.cells #[a, b, c] t)).cell? ⟨W.heap.size, 1, none⟩ = some b ∧ (W.alloc (.cells #[a, b, c] t)).cell? ⟨W.heap.size, 2, none⟩ = some c := ⟨by simp, by simp, by simp⟩
/-! ### Back -/
def bkE (t : ByteArray) (y : Int × Ed) : Ed := ⟨y.2.fr + y.1, y.2.fr + y.1 + y.2.tx.size, t.extract y.2.fr.toNat y.2.to.toNat, 0⟩
def bkL (t : ByteArray) (s : List Ed) : List Ed := (mvL s).map (bkE t)
def backS (t : ByteArray) (l : List Ed) : List Ed := if rowE t.size l = 0 then bkL t (srt l) else []
/-- The row of 'out' under way, in variable b. -/
def BkI {P : Int × Ed → Prop} (t : ByteArray) (b bt B : Nat) (pre : List (Rnd P)) (W : World) : Prop :=
  W.cell? ⟨bt, 0, none⟩ = some (.string t) ∧ B ≤ W.heap.size ∧ ∃ v, (W.cell? ⟨b, 0, none⟩ = some v ∧ W.frozen? ⟨b, 0, none⟩ = false) ∧ W.ownsRow B 37 3 v pre.length (cellsE (pre.map fun y => bkE t y.val))
theorem BkI_own {P : Int × Ed → Prop} (t : ByteArray) (b bt B : Nat) : Own (BkI (P := P) t b bt B) := by
  rintro pre X Y row ⟨h0, h1, v, ⟨h3, h4⟩, h5⟩ hg hr
  refine ⟨cell_kept h0 hg hr, Nat.le_trans h1 hg.size, v, ⟨cell_kept h3 hg hr, (frozen_kept h3 hg hr).trans h4⟩, h5.kept hg ?_⟩
  rcases h5.2 with ⟨rfl, _⟩ | ⟨g, cap, cur, rfl, _, hgb, _⟩
  · exact .inl rfl
  · refine .inr fun e' => ?_
    obtain ⟨o, ho, hc⟩ := hr g (by simpa [Value.ownBlock] using e'.symm)
    rw [hgb] at ho; cases ho; cases hc

/-- What Back knows of a round. -/
def PB (t : ByteArray) (y : Int × Ed) : Prop := 0 ≤ y.2.fr ∧ y.2.fr ≤ y.2.to ∧ y.2.to ≤ (t.size : Int) ∧ 0 ≤ y.2.fr + y.1 ∧ y.2.fr + y.1 ≤ 2199023255552 ∧ y.2.tx.size ≤ 1099511627776
theorem mv_mem {s : List Ed} {y : Int × Ed} (h : y ∈ mvL s) : ∃ k, s[k]? = some y.2 ∧ y.1 = dN (s.take k) := by
  obtain ⟨k, hk⟩ := List.getElem?_of_mem h
  rw [mvL, mvF_at, Option.map_eq_some_iff] at hk
  obtain ⟨x, hx, he⟩ := hk
  exact ⟨k, by rw [hx, ← he], by rw [← he]; simp⟩
theorem txS_mem {s : List Ed} {x : Ed} (h : x ∈ s) : x.tx.size ≤ txS s := by
  induction s with
  | nil => cases h
  | cons a r ih =>
    rw [txS_cons]
    rcases List.mem_cons.1 h with rfl | h
    · omega
    · have := ih h; omega
theorem fit_small {s : List Ed} (h : Fit s) (hi : ∀ x, x ∈ s → x.to ≤ 9223372036854775807) (ht : txS s ≤ 1099511627776) : Small s where
  ok k x hx := by
    have hm := List.mem_of_getElem? hx
    have h1 := h.1 x hm
    have h2 := hi x hm
    have h3 := txS_mem hm
    omega
  sum k hk := by
    have := dN_bounds h hi k hk
    omega
theorem fit_PB {t : ByteArray} {s : List Ed} (h : Fit s) (hi : ∀ x, x ∈ s → x.to ≤ (t.size : Int)) (ht : txS s ≤ 1099511627776) (hts : t.size ≤ 1099511627776) : ∀ y, y ∈ mvL s → PB t y := by
  intro y hy
  obtain ⟨k, hk, he⟩ := mv_mem hy
  have hm := List.mem_of_getElem? hk
  have h1 := h.1 _ hm
  have h2 := hi _ hm
  have h3 := txS_mem hm
  have h4 := (fit_dN h k _ hk).1
  have h5 := dN_le h k
  have h6 := txS_take s k
  rw [← he] at h4 h5
  exact ⟨h1.1, h1.2, h2, by omega, by omega, by omega⟩

set_option maxRecDepth 100000 in
set_option maxHeartbeats 4000000 in
theorem back_ok (t : ByteArray) (w : World) (v : Value) (l : List Ed) (h : Rd w v l) (hn : l.length ≤ 100) (hbig : (l.length + 1) * t.size + txS l ≤ 1099511627776) (hE : rowE t.size l = 0) :
    Calls Try.prog 17 #[.string t, v] w fun e w' => RowKit.Below w.heap.size w w' ∧ ∃ v', e = .returned (.tuple #[v', .int .i64 0]) ∧ Rw w' w.heap.size v' (bkL t (srt l)) := by
  have hbw : RowKit.Below w.heap.size w (w.alloc (.cells #[.string t] 9)) := (RowKit.Below.refl _ w).alloc (Nat.le_refl _) _
  have c := row_e t (w.alloc (.cells #[.string t] 9)) v l (h.below hbw (Nat.le_refl _)) hn
  refine (callsIn_wide (n := 3)).1 ?_
  clear h
  obtain ⟨hf, hmax⟩ := rowE_ok hE
  have hfit := srt_fit hf
  have htx := txS_srt l
  have hln := srt_length l
  have hS : rowS t.size l = srt l := if_pos hE
  unfold RowPost at c
  rw [hE, hS] at c
  obtain ⟨s, hs⟩ : ∃ s, srt l = s := ⟨_, rfl⟩
  rw [hs] at c hfit hmax htx hln ⊢
  clear hE hS hf hs
  obtain ⟨B0, hB0⟩ : ∃ b, w.heap.size = b := ⟨_, rfl⟩
  have HB0 := Lib.hid hB0
  have HBW := Lib.hid hbw
  clear hB0 hbw
  refine callsIn_of_wp_marks Try.func17 rfl trivial ?_ rfl
  simp only [Try.ntmps17, List.size_toArray, List.length_cons, List.length_nil, Nat.reduceAdd, Nat.reduceSub, Array.replicate_succ, Array.replicate_zero, List.push_toArray, List.append_toArray, List.nil_append, List.cons_append]
  gi_wp2_with (first | (refine ⟨trivial, ?_⟩; gi_at_call 23; refine (callsIn_wide.2 c).mono ?_; rintro e w1 ⟨hb1, v', rfl, hw⟩; clear c; obtain ⟨p, cap, rfl⟩ : ∃ p cap, v' = .slice p s.length cap := (by rcases hw with ⟨rfl, rfl⟩ | ⟨g, cap, rfl, _⟩; exact ⟨_, _, rfl⟩; exact ⟨_, _, rfl⟩)) | (refine ⟨trivial, ?_⟩; gi_at_call 35; refine (callsIn_wide.2 (moved_any _ _ _ _)).mono ?_; rintro e w' ⟨rfl, rfl⟩))
  obtain ⟨N, hN⟩ : ∃ N, l.length = N := ⟨_, rfl⟩
  obtain ⟨B1, hB1⟩ : ∃ B, w1.heap.size = B := ⟨_, rfl⟩
  have hts : t.size ≤ 1099511627776 := by
    have : 1 * t.size ≤ (l.length + 1) * t.size := Nat.mul_le_mul_right _ (by omega)
    omega
  have htxs : txS s ≤ 1099511627776 := by omega
  have hb10 : B0 + 1 ≤ B1 := by
    have := hb1.size
    rw [← HB0.out, ← hB1]
    simpa using this
  obtain ⟨W0, hW0⟩ : ∃ W0, ((w1.alloc (.cells #[.slice none 0 0] 22)).alloc (.cells #[.slice p l.length cap] 22)) = W0 := ⟨_, rfl⟩
  have hs0 : W0.heap.size = B1 + 2 := by rw [← hW0, ← hB1]; simp
  have hB01 : RowKit.Below B0 w w1 := by
    rw [← HB0.out]
    exact HBW.out.trans (hb1.mono (by simp))
  have hbl : RowKit.Below B0 w W0 := by
    rw [← hW0]
    exact (hB01.alloc (by omega) _).alloc (by simp; omega) _
  have ht0 : w1.cell? ⟨B0, 0, none⟩ = some (.string t) := by
    rw [hb1.cell (p := ⟨B0, 0, none⟩) (by show B0 < _; rw [World.size_alloc, HB0.out]; omega), ← HB0.out]
    simp
  have ht1 : W0.cell? ⟨B0, 0, none⟩ = some (.string t) := by rw [← hW0]; exact cell_alloc_l _ (cell_alloc_l _ ht0)
  have ho1 : W0.cell? ⟨B1, 0, none⟩ = some (.slice none 0 0) ∧ W0.frozen? ⟨B1, 0, none⟩ = false := by
    have a1 : (w1.alloc (.cells #[.slice none 0 0] 22)).cell? ⟨B1, 0, none⟩ = some (.slice none 0 0) := by rw [← hB1]; simp
    have a2 : (w1.alloc (.cells #[.slice none 0 0] 22)).frozen? ⟨B1, 0, none⟩ = false := by rw [← hB1]; simp
    rw [← hW0]
    exact ⟨cell_alloc_l _ a1, frozen_alloc_l _ a1 a2⟩
  have hbs : W0.cell? ⟨B1 + 1, 0, none⟩ = some (.slice p s.length cap) := by
    rw [← hW0, ← hB1, hln]
    simp
  have hbw0 : RowKit.Below w1.heap.size w1 W0 := by rw [← hW0]; exact ((RowKit.Below.refl _ w1).alloc (Nat.le_refl _) _).alloc (by simp) _
  have hro : rowOf B1 W0 = none := by unfold rowOf; rw [ho1.1]; rfl
  have hI0 : BkI (P := PB t) t B1 B0 (B1 + 2) [] W0 := ⟨ht1, by omega, _, ho1, World.ownsRow_nil _ _ _ _⟩
  have hseq : SeqStopsK Fence.wide 2 Try.prog 40 #[.pointer (some ⟨B1 + 1, 0, none⟩)] (fun y : Rnd (PB t) => encM y.val) (KpE B1) (fun ys => ys.map Subtype.val = mvL s) (fun pre => pre.map Subtype.val <+: mvL s) s.length W0 := by
    have hsm := fit_small hfit (fun x hx => by have := hmax x hx; omega) htxs
    rcases hw with ⟨_, hx⟩ | ⟨g, cap', he, hg1, hg2, hg3⟩
    · exact mov_stops (PB t) 2 (by omega) (B1 + 1) B1 (B1 + 5) 0 cap p s (fit_PB hfit hmax htxs hts) hsm (by omega) W0 hbs (by omega) (by omega) (fun r h => by rw [hro] at h; cases h) (fun h => absurd hx h) (by rw [hro]; simp) (fun h => absurd hx h) (fun k x h => by rw [hx] at h; simp at h)
    · simp only [Value.slice.injEq] at he
      have hc := holds_rd hg3
      have hgl : g < B1 := by omega
      refine mov_stops (PB t) 2 (by omega) (B1 + 1) B1 g 0 cap p s (fit_PB hfit hmax htxs hts) hsm (by omega) W0 hbs (by omega) (by omega) (fun r h => by rw [hro] at h; cases h) (fun _ => he.1) (by rw [hro]; simp) (fun h => ?_) (fun k x h => ?_)
      · obtain ⟨x, hx⟩ : ∃ x, s[0]? = some x := ⟨_, List.getElem?_eq_getElem (List.length_pos_iff.2 h)⟩
        have h1 := (hc 0 x hx).1
        obtain ⟨o, ho⟩ : ∃ o, W0.heap[g]? = some o := ⟨_, Array.getElem?_eq_getElem (by omega)⟩
        refine ⟨o, ho, ?_⟩
        have h2 : W0.cell? ⟨g, 0 + 0 * 3, none⟩ = some (.int .i64 x.fr) := (hbw0.cell (p := ⟨g, 0 + 0 * 3, none⟩) hg2).trans h1
        simp only [World.cell?, ho] at h2
        cases o <;> first | rfl | simp at h2
      · obtain ⟨c0, c1, c2⟩ := hc k x h
        exact ⟨(hbw0.cell (p := ⟨g, _, none⟩) hg2).trans c0, (hbw0.cell (p := ⟨g, _, none⟩) hg2).trans c1, (hbw0.cell (p := ⟨g, _, none⟩) hg2).trans c2⟩
  rw [hW0, hN, hB1, HB0.out]
  clear hb1 hw hB1 hW0 hbw0 hbs hro hfit hmax htx ht0 ht1 ho1
  refine wpIn_rangeFunc_ownH rfl (by omega) (gf := 40) (lb := #[.pointer (some ⟨B1 + 1, 0, none⟩)]) rfl trivial (enters_of Try.func40 (by kernel_rfl) rfl)
    hseq kpE_t (kpE_b (by omega)) (Below.refl _ _) (fun _ => rfl)
    (fun pre W => BkI t B1 B0 (B1 + 2) pre W ∧ RowKit.Below B0 w W)
    (fun _ _ _ => False)
    (OwnFrom.and (Own.from (BkI_own t B1 B0 (B1 + 2)) _) (ownFrom_below (by rw [HB0.out]; exact Nat.le_refl _) (by omega)))
    (fun _ _ _ _ _ hs _ _ => hs)
    ⟨hI0, hbl⟩
    (fun x a' W => ∃ Bx, B1 + 1 < Bx ∧ (∃ u, W.cell? ⟨B1, 0, none⟩ = some u ∧ u.ownBlock ≠ some Bx) ∧ (W.cell? ⟨Bx, 0, none⟩ = some (.int .i64 x.val.2.fr) ∧ W.cell? ⟨Bx, 1, none⟩ = some (.int .i64 x.val.2.to) ∧ W.cell? ⟨Bx, 2, none⟩ = some (.string x.val.2.tx)) ∧ a' = { tmps := #[.string t, v, .pointer (some ⟨B0, 0, none⟩), undef, .slice none 0 0, .int .i64 0, .slice p N cap, .int .i64 0, .pointer (some ⟨B1, 0, none⟩), .int .i64 x.val.1, .pointer (some ⟨Bx, 0, none⟩), undef, .tuple #[.slice p N cap, .int .i64 0], .string t, v, .tuple #[.slice p N cap, .int .i64 0], .slice p N cap, .int .i64 0, .int .i64 0, .bool false, undef, .slice p N cap, .func (.func 40) #[] #[.pointer (some ⟨B1 + 1, 0, none⟩)], .int .i64 x.val.1, .agg #[.int .i64 x.val.2.fr, .int .i64 x.val.2.to, .string x.val.2.tx], undef, undef, undef, undef, undef, undef, undef, undef, undef, undef, undef, undef, undef, undef, undef, undef, undef, undef, undef, undef, undef, undef, undef, undef, undef], defers := [] })
    (fun x a' _ X Y row hs hg hr => by obtain ⟨Bx, h1, ⟨u, hu, hv⟩, ⟨h2, h3, h4⟩, h5⟩ := hs; exact ⟨Bx, h1, ⟨u, cell_kept hu hg (fun r e => (hr r e).2), hv⟩, ⟨cell_kept h2 hg (fun r e => (hr r e).2), cell_kept h3 hg (fun r e => (hr r e).2), cell_kept h4 hg (fun r e => (hr r e).2)⟩, h5⟩)
    ?assign ?body ?done ?stop
  case assign =>
    rintro l pre x W K ⟨hN, hBw⟩ hK
    obtain ⟨n0, n1, u, ⟨n3, n4⟩, n5⟩ := hN
    have lb1 := World.block_lt_of_cell? W ⟨B1, 0, none⟩ n3
    dsimp only at lb1
    simp only [encM]
    gi_wp2
    refine hK _ _ ((KeepsOthers.alloc _ _).from _) (kpE_alloc lb1 _) ⟨BkI_own t B1 B0 (B1 + 2) pre W _ none ⟨n0, n1, u, ⟨n3, n4⟩, n5⟩ (World.grownBy_alloc _ _ _) (fun _ h => by cases h), hBw.alloc (by have := hBw.size; rw [HB0.out] at this; exact this) _⟩ ⟨W.heap.size, by omega, ⟨u, cell_alloc_l _ n3, fun e => by have := (n5.lt _ e).2; omega⟩, cell_new3 W _ _ _ 37, rfl⟩
  case body =>
    rintro l pre ⟨⟨m, xf, xt, xx, xg⟩, hx⟩ a' W hl ⟨r, hr⟩ ⟨⟨n0, nb, n2, ⟨n3, n4⟩, n5⟩, hBw⟩ ⟨Bx, hBx, ⟨u, hu, huv⟩, ⟨c0, c1, c2⟩, rfl⟩ hlt
    obtain rfl : n2 = u := by rw [n3] at hu; exact Option.some.inj hu
    obtain ⟨p1, p2, p3, p4, p5, p6⟩ := hx
    dsimp only at p1 p2 p3 p4 p5 p6 c0 c1 c2
    obtain ⟨f, rfl⟩ : ∃ f : Nat, xf = (f : Int) := ⟨xf.toNat, by omega⟩
    obtain ⟨z, rfl⟩ : ∃ z : Nat, xt = (z : Int) := ⟨xt.toNat, by omega⟩
    have HL := Lib.hid hl
    have HRr := Lib.hid hr
    have HBw := Lib.hid hBw
    clear hl hr hBw hu
    gi_wp2
    refine region_round (fun W' => W'.cell? ⟨B0, 0, none⟩ = some (.string t) ∧ W'.cell? ⟨Bx, 0, none⟩ = some (.int .i64 (f : Int)) ∧ W'.cell? ⟨Bx, 1, none⟩ = some (.int .i64 (z : Int)) ∧ W'.cell? ⟨Bx, 2, none⟩ = some (.string xx)) (by kernel_rfl) (by kernel_rfl) (fun _ _ h => h) ?_
    refine wpAnyH_take (i := 1) (oi := ⟨some 31, (.move (.tmp 11)), _, _, _, none⟩) (v := .int .i64 ((f : Int) + m)) rfl (by kernel_rfl) (by kernel_rfl) (by kernel_rfl) (fun _ _ _ h => h) (Or.inl ⟨by rfl, ?_⟩) ⟨n0, c0, c1, c2⟩ ?_
    · rintro w ⟨hq0, hq1, hq2, hq3⟩
      go_simp <;> try (rw [IntKind.wrap_i64]; omega)
    simp only [Act.put, List.setIfInBounds_toArray, List.set_cons_zero, List.set_cons_succ]
    refine wpAnyH_take (i := 2) (oi := ⟨some 32, (.move (.tmp 11)), _, _, _, none⟩) (v := .int .i64 ((f : Int) + m)) rfl (by kernel_rfl) (by kernel_rfl) (by kernel_rfl) (fun _ _ _ h => h) (Or.inl ⟨by rfl, ?_⟩) ⟨n0, c0, c1, c2⟩ ?_
    · rintro w ⟨hq0, hq1, hq2, hq3⟩
      go_simp <;> try (rw [IntKind.wrap_i64]; omega)
    simp only [Act.put, List.setIfInBounds_toArray, List.set_cons_zero, List.set_cons_succ]
    refine wpAnyH_take (i := 3) (oi := ⟨some 33, (.fieldAddr 37 (.tmp 10) 1), _, _, _, none⟩) (v := .pointer (some ⟨Bx, 2, none⟩)) rfl (by kernel_rfl) (by kernel_rfl) (by kernel_rfl) (fun _ _ _ h => h) (Or.inl ⟨by rfl, ?_⟩) ⟨n0, c0, c1, c2⟩ ?_
    · rintro w ⟨hq0, hq1, hq2, hq3⟩
      go_simp <;> try (rw [IntKind.wrap_i64]; omega)
    simp only [Act.put, List.setIfInBounds_toArray, List.set_cons_zero, List.set_cons_succ]
    refine wpAnyH_take (i := 4) (oi := ⟨some 34, (.load 9 (.tmp 33)), _, _, _, none⟩) (v := .string xx) rfl (by kernel_rfl) (by kernel_rfl) (by kernel_rfl) (fun _ _ _ h => h) (Or.inl ⟨by rfl, ?_⟩) ⟨n0, c0, c1, c2⟩ ?_
    · rintro w ⟨hq0, hq1, hq2, hq3⟩
      go_simp <;> try (rw [IntKind.wrap_i64]; omega)
    simp only [Act.put, List.setIfInBounds_toArray, List.set_cons_zero, List.set_cons_succ]
    refine wpAnyH_take (i := 5) (oi := ⟨some 35, (.call { callee := .builtin .len, args := #[.tmp 34], argTypes := #[9] }), _, _, _, none⟩) (v := .int .i64 (xx.size : Int)) rfl (by kernel_rfl) (by kernel_rfl) (by kernel_rfl) (fun _ _ _ h => h) (Or.inl ⟨by rfl, ?_⟩) ⟨n0, c0, c1, c2⟩ ?_
    · rintro w ⟨hq0, hq1, hq2, hq3⟩
      go_simp <;> try (rw [IntKind.wrap_i64]; omega)
    simp only [Act.put, List.setIfInBounds_toArray, List.set_cons_zero, List.set_cons_succ]
    refine wpAnyH_take (i := 6) (oi := ⟨some 36, (.binOp .add 3 (.tmp 32) (.tmp 35) 3), _, _, _, none⟩) (v := .int .i64 ((f : Int) + m + (xx.size : Int))) rfl (by kernel_rfl) (by kernel_rfl) (by kernel_rfl) (fun _ _ _ h => h) (Or.inl ⟨by rfl, ?_⟩) ⟨n0, c0, c1, c2⟩ ?_
    · rintro w ⟨hq0, hq1, hq2, hq3⟩
      go_simp <;> try (rw [IntKind.wrap_i64]; omega)
    simp only [Act.put, List.setIfInBounds_toArray, List.set_cons_zero, List.set_cons_succ]
    refine wpAnyH_take (i := 7) (oi := ⟨some 37, (.build 35 #[(0, .tmp 31), (1, .tmp 36)]), _, _, _, none⟩) (v := .agg #[.int .i64 ((f : Int) + m), .int .i64 ((f : Int) + m + (xx.size : Int))]) rfl (by kernel_rfl) (by kernel_rfl) (by kernel_rfl) (fun _ _ _ h => h) (Or.inl ⟨by rfl, ?_⟩) ⟨n0, c0, c1, c2⟩ ?_
    · rintro w ⟨hq0, hq1, hq2, hq3⟩
      go_simp <;> try (rw [IntKind.wrap_i64]; omega)
    simp only [Act.put, List.setIfInBounds_toArray, List.set_cons_zero, List.set_cons_succ]
    refine wpAnyH_take (i := 8) (oi := ⟨some 38, (.load 9 (.tmp 2)), _, _, _, none⟩) (v := .string t) rfl (by kernel_rfl) (by kernel_rfl) (by kernel_rfl) (fun _ _ _ h => h) (Or.inl ⟨by rfl, ?_⟩) ⟨n0, c0, c1, c2⟩ ?_
    · rintro w ⟨hq0, hq1, hq2, hq3⟩
      go_simp <;> try (rw [IntKind.wrap_i64]; omega)
    simp only [Act.put, List.setIfInBounds_toArray, List.set_cons_zero, List.set_cons_succ]
    refine wpAnyH_take (i := 9) (oi := ⟨some 39, (.fieldAddr 37 (.tmp 10) 0), _, _, _, none⟩) (v := .pointer (some ⟨Bx, 0, none⟩)) rfl (by kernel_rfl) (by kernel_rfl) (by kernel_rfl) (fun _ _ _ h => h) (Or.inl ⟨by rfl, ?_⟩) ⟨n0, c0, c1, c2⟩ ?_
    · rintro w ⟨hq0, hq1, hq2, hq3⟩
      go_simp <;> try (rw [IntKind.wrap_i64]; omega)
    simp only [Act.put, List.setIfInBounds_toArray, List.set_cons_zero, List.set_cons_succ]
    refine wpAnyH_take (i := 10) (oi := ⟨some 40, (.fieldAddr 35 (.tmp 39) 0), _, _, _, none⟩) (v := .pointer (some ⟨Bx, 0, none⟩)) rfl (by kernel_rfl) (by kernel_rfl) (by kernel_rfl) (fun _ _ _ h => h) (Or.inl ⟨by rfl, ?_⟩) ⟨n0, c0, c1, c2⟩ ?_
    · rintro w ⟨hq0, hq1, hq2, hq3⟩
      go_simp <;> try (rw [IntKind.wrap_i64]; omega)
    simp only [Act.put, List.setIfInBounds_toArray, List.set_cons_zero, List.set_cons_succ]
    refine wpAnyH_take (i := 11) (oi := ⟨some 41, (.load 3 (.tmp 40)), _, _, _, none⟩) (v := .int .i64 (f : Int)) rfl (by kernel_rfl) (by kernel_rfl) (by kernel_rfl) (fun _ _ _ h => h) (Or.inl ⟨by rfl, ?_⟩) ⟨n0, c0, c1, c2⟩ ?_
    · rintro w ⟨hq0, hq1, hq2, hq3⟩
      go_simp <;> try (rw [IntKind.wrap_i64]; omega)
    simp only [Act.put, List.setIfInBounds_toArray, List.set_cons_zero, List.set_cons_succ]
    refine wpAnyH_take (i := 12) (oi := ⟨some 42, (.fieldAddr 37 (.tmp 10) 0), _, _, _, none⟩) (v := .pointer (some ⟨Bx, 0, none⟩)) rfl (by kernel_rfl) (by kernel_rfl) (by kernel_rfl) (fun _ _ _ h => h) (Or.inl ⟨by rfl, ?_⟩) ⟨n0, c0, c1, c2⟩ ?_
    · rintro w ⟨hq0, hq1, hq2, hq3⟩
      go_simp <;> try (rw [IntKind.wrap_i64]; omega)
    simp only [Act.put, List.setIfInBounds_toArray, List.set_cons_zero, List.set_cons_succ]
    refine wpAnyH_take (i := 13) (oi := ⟨some 43, (.fieldAddr 35 (.tmp 42) 1), _, _, _, none⟩) (v := .pointer (some ⟨Bx, 1, none⟩)) rfl (by kernel_rfl) (by kernel_rfl) (by kernel_rfl) (fun _ _ _ h => h) (Or.inl ⟨by rfl, ?_⟩) ⟨n0, c0, c1, c2⟩ ?_
    · rintro w ⟨hq0, hq1, hq2, hq3⟩
      go_simp <;> try (rw [IntKind.wrap_i64]; omega)
    simp only [Act.put, List.setIfInBounds_toArray, List.set_cons_zero, List.set_cons_succ]
    refine wpAnyH_take (i := 14) (oi := ⟨some 44, (.load 3 (.tmp 43)), _, _, _, none⟩) (v := .int .i64 (z : Int)) rfl (by kernel_rfl) (by kernel_rfl) (by kernel_rfl) (fun _ _ _ h => h) (Or.inl ⟨by rfl, ?_⟩) ⟨n0, c0, c1, c2⟩ ?_
    · rintro w ⟨hq0, hq1, hq2, hq3⟩
      go_simp <;> try (rw [IntKind.wrap_i64]; omega)
    simp only [Act.put, List.setIfInBounds_toArray, List.set_cons_zero, List.set_cons_succ]
    refine wpAnyH_take (i := 15) (oi := ⟨some 45, (.slice 9 (.tmp 38) (some (.tmp 41)) (some (.tmp 44)) none), _, _, _, none⟩) (v := .string (t.extract f z)) rfl (by kernel_rfl) (by kernel_rfl) (by kernel_rfl) (fun _ _ _ h => h) (Or.inl ⟨by rfl, ?_⟩) ⟨n0, c0, c1, c2⟩ ?_
    · rintro w ⟨hq0, hq1, hq2, hq3⟩
      go_simp <;> try (rw [IntKind.wrap_i64]; omega)
    simp only [Act.put, List.setIfInBounds_toArray, List.set_cons_zero, List.set_cons_succ]
    refine wpAnyH_take (i := 16) (oi := ⟨some 46, (.build 37 #[(0, .tmp 37), (1, .tmp 45)]), _, _, _, none⟩) (v := .agg #[.int .i64 ((f : Int) + m), .int .i64 ((f : Int) + m + (xx.size : Int)), .string (t.extract f z)]) rfl (by kernel_rfl) (by kernel_rfl) (by kernel_rfl) (fun _ _ _ h => h) (Or.inl ⟨by rfl, ?_⟩) ⟨n0, c0, c1, c2⟩ ?_
    · rintro w ⟨hq0, hq1, hq2, hq3⟩
      go_simp <;> try (rw [IntKind.wrap_i64]; omega)
    simp only [Act.put, List.setIfInBounds_toArray, List.set_cons_zero, List.set_cons_succ]
    obtain ⟨E, hE⟩ : ∃ E : Ed, bkE t (m, { fr := (f : Int), «to» := (z : Int), tx := xx, tag := xg }) = E := ⟨_, rfl⟩
    have hEn : enc E = [.int .i64 ((f : Int) + m), .int .i64 ((f : Int) + m + (xx.size : Int)), .string (t.extract f z)] := by rw [← hE]; simp [bkE, enc]
    obtain ⟨W1, hW1⟩ : ∃ W1, W.drew.alloc (.cells #[.int .i64 ((f : Int) + m), .int .i64 ((f : Int) + m + (xx.size : Int)), .string (t.extract f z)] 37) = W1 := ⟨_, rfl⟩
    have g1 : W.grownBy W1 none := by rw [← hW1]; exact World.grownBy.trans (b := W.drew) ⟨rfl, rfl, rfl, Nat.le_refl _, fun _ _ _ => rfl⟩ (World.grownBy_alloc W.drew _ none)
    have s1 : W1.heap.size = W.heap.size + 1 := by rw [← hW1]; simp
    have n0a : W1.cell? ⟨B0, 0, none⟩ = some (.string t) := cell_kept n0 g1 (fun _ h => by cases h)
    have n3d : W.drew.cell? ⟨B1, 0, none⟩ = some n2 := n3
    have n3a : W1.cell? ⟨B1, 0, none⟩ = some n2 := cell_kept n3 g1 (fun _ h => by cases h)
    have n4a : W1.frozen? ⟨B1, 0, none⟩ = false := (frozen_kept n3 g1 (fun _ h => by cases h)).trans n4
    have c0a : W1.cell? ⟨Bx, 0, none⟩ = some (.int .i64 (f : Int)) := cell_kept c0 g1 (fun _ h => by cases h)
    have c1a : W1.cell? ⟨Bx, 1, none⟩ = some (.int .i64 (z : Int)) := cell_kept c1 g1 (fun _ h => by cases h)
    have c2a : W1.cell? ⟨Bx, 2, none⟩ = some (.string xx) := cell_kept c2 g1 (fun _ h => by cases h)
    have hnew : W1.heap[W.heap.size]? = some (.cells #[.int .i64 ((f : Int) + m), .int .i64 ((f : Int) + m + (xx.size : Int)), .string (t.extract f z)] 37 (0, 0)) := by rw [← hW1]; exact World.alloc_heap_new W.drew _
    have n5a : W1.ownsRow (B1 + 2) 37 3 n2 pre.length (cellsE (pre.map fun y => bkE t y.val)) := by rw [← hW1]; exact World.ownsRow.alloc (w := W.drew) n5 _
    have hsl : s.length ≤ 100 := by rw [hln]; exact hn
    obtain ⟨i0, hi, hz0, hz1, hz2⟩ := info_parts3 info37
    refine wpAnyH_ready (rs := [0, 17]) (by kernel_rfl) (by simp) ?_
    refine AllReadyH.cons (o := ⟨some 30, .load 22 (.tmp 8), 22, _, _, none⟩) rfl (fun K hK => ?_) (AllReadyH.cons (o := ⟨some 47, .buildSlice 22 1 #[(0, .tmp 46)], 22, _, _, none⟩) rfl (fun K hK => ?_) AllReadyH.nil)
    · go_simp
      refine hK.out _ _ ⟨n0, c0, c1, c2⟩ (fun _ => ?_)
      clear hK K
      refine wpAnyH_ready (rs := [17]) (by kernel_rfl) (by simp) ?_
      refine AllReadyH.cons (o := ⟨some 47, .buildSlice 22 1 #[(0, .tmp 46)], 22, _, _, none⟩) rfl (fun K hK => ?_) AllReadyH.nil
      go_simp
      refine hK.out _ _ ⟨n0a, c0a, c1a, c2a⟩ (fun _ => ?_)
      clear hK K
      refine wpAnyH_ready (rs := [18]) (by kernel_rfl) (by simp) ?_
      refine AllReadyH.cons (o := ⟨some 48, .call { callee := .builtin .append, args := #[.tmp 30, .tmp 47], argTypes := #[22, 22] }, 22, _, _, none⟩) rfl (fun K hK => ?_) AllReadyH.nil
      refine step_append_lies W1 rfl (.tmp 30) (.tmp 47) 22 rfl (B1 + 2) 37 i0 _ 3 32 (by kernel_rfl) hi hz0 hz1 hz2 rfl (by omega) n2 pre.length _ rfl n5a ⟨W.heap.size, 0, none⟩ 1 1 [.int .i64 ((f : Int) + m), .int .i64 ((f : Int) + m + (xx.size : Int)), .string (t.extract f z)] rfl rfl (World.news_of_block hnew) (by rw [← hEn]; exact enc_one E) (by omega) (by simp only [maxLen]; omega) (by omega) (by omega) _ rfl ?_
      intro g cap W2 o2 g2 at2 lt2
      have hrow : ∀ k, n2.ownBlock = some k → B1 + 2 ≤ k ∧ ∃ o, W1.heap[k]? = some o ∧ o.isCells = true := own_row n5a
      have n0b : W2.cell? ⟨B0, 0, none⟩ = some (.string t) := g2.cell n0a (fun e => by have := (hrow B0 e.symm).1; omega)
      have n3b : W2.cell? ⟨B1, 0, none⟩ = some n2 := g2.cell n3a (fun e => by have := (hrow B1 e.symm).1; omega)
      have n4b : W2.frozen? ⟨B1, 0, none⟩ = false := (g2.frozen_far ⟨B1, 0, none⟩ (by show B1 < W1.heap.size; omega) (fun e => by have := (hrow B1 e.symm).1; omega)).trans n4a
      have c0b : W2.cell? ⟨Bx, 0, none⟩ = some (.int .i64 (f : Int)) ∧ W2.cell? ⟨Bx, 1, none⟩ = some (.int .i64 (z : Int)) ∧ W2.cell? ⟨Bx, 2, none⟩ = some (.string xx) :=
        ⟨g2.cell c0a (fun e => huv e.symm), g2.cell c1a (fun e => huv e.symm), g2.cell c2a (fun e => huv e.symm)⟩
      refine hK.out _ _ ⟨n0b, c0b⟩ (fun _ => ?_)
      clear hK K
      simp only [Act.put, List.setIfInBounds_toArray, List.set_cons_zero, List.set_cons_succ]
      refine wpAnyH_ready (rs := [19]) (by kernel_rfl) (by simp) ?_
      refine AllReadyH.cons (o := ⟨none, .store 22 (.tmp 8) (.tmp 48), 0, _, _, none⟩) rfl (fun K hK => ?_) AllReadyH.nil
      go_simp
      have lg : B1 + 2 ≤ g ∧ g < W2.heap.size := o2.lt g rfl
      have gs := grown_setCell_l W2 ⟨B1, 0, none⟩ (.slice (some ⟨g, 0, none⟩) (pre.length + 1) cap)
      refine hK.out _ _ ⟨(World.cell?_setCell_far _ _ _ _ (by show B1 ≠ B0; omega)).trans n0b, (World.cell?_setCell_far _ _ _ _ (by show B1 ≠ Bx; omega)).trans c0b.1, (World.cell?_setCell_far _ _ _ _ (by show B1 ≠ Bx; omega)).trans c0b.2.1, (World.cell?_setCell_far _ _ _ _ (by show B1 ≠ Bx; omega)).trans c0b.2.2⟩ (fun _ => ?_)
      refine wpAnyH_done (by kernel_rfl) ?_ _
      have kf : KeepsFrom W0.heap.size W (W2.setCell ⟨B1, 0, none⟩ (.slice (some ⟨g, 0, none⟩) (pre.length + 1) cap)) :=
        ((keepsFrom_row g1 (fun _ h => by cases h) _).trans (keepsFrom_row g2 (fun k hk => (hrow k hk).2) _)).trans (KeepsFrom.of_grownBy gs (fun j hj => by cases hj; show B1 < _; omega))
      have hB0w : B0 ≤ W.heap.size := by omega
      have bw : RowKit.Below B0 W (W2.setCell ⟨B1, 0, none⟩ (.slice (some ⟨g, 0, none⟩) (pre.length + 1) cap)) :=
        (((RowKit.Below.refl _ W).grown g1 hB0w (fun _ h => by cases h)).grown g2 (by omega) (fun k hk => by have := (hrow k hk).1; omega)).setCell (by show B0 ≤ B1; omega) _
      have kp : KpE B1 W (W2.setCell ⟨B1, 0, none⟩ (.slice (some ⟨g, 0, none⟩) (pre.length + 1) cap)) :=
        kpE_t (by rw [← hW1]; exact kpE_alloc (W := W.drew) (by show B1 < W.heap.size; omega) _) (kpE_append g2 n3a n3b lt2 (at2.elim .inl (fun h => .inr (by omega))))
      refine ⟨kf, kp, ⟨(World.cell?_setCell_far _ _ _ _ (by show B1 ≠ B0; omega)).trans n0b, by have := gs.size; have := g2.size; omega, _, ⟨World.cell?_setCell_same _ _ _ n3b, by rw [World.frozen?_setCell]; exact n4b⟩, ?_⟩, HBw.out.trans bw⟩
      rw [List.map_append, List.map_singleton, show ∀ a b : List Ed, cellsE (a ++ b) = cellsE a ++ cellsE b from fun a b => by simp [cellsE], List.length_append]
      refine World.ownsRow.kept (w := W2) ?_ gs (.inr (fun e => by simp [Value.ownBlock] at e; omega))
      have : cellsE [bkE t (m, { fr := (f : Int), «to» := (z : Int), tx := xx, tag := xg })] = [.int .i64 ((f : Int) + m), .int .i64 ((f : Int) + m + (xx.size : Int)), .string (t.extract f z)] := by
        rw [hE, ← hEn]; simp [cellsE]
      rw [this]
      exact o2
    · go_simp
      refine hK.out _ _ ⟨n0a, c0a, c1a, c2a⟩ (fun _ => ?_)
      clear hK K
      refine wpAnyH_ready (rs := [0]) (by kernel_rfl) (by simp) ?_
      refine AllReadyH.cons (o := ⟨some 30, .load 22 (.tmp 8), 22, _, _, none⟩) rfl (fun K hK => ?_) AllReadyH.nil
      go_simp
      refine hK.out _ _ ⟨n0a, c0a, c1a, c2a⟩ (fun _ => ?_)
      clear hK K
      refine wpAnyH_ready (rs := [18]) (by kernel_rfl) (by simp) ?_
      refine AllReadyH.cons (o := ⟨some 48, .call { callee := .builtin .append, args := #[.tmp 30, .tmp 47], argTypes := #[22, 22] }, 22, _, _, none⟩) rfl (fun K hK => ?_) AllReadyH.nil
      refine step_append_lies W1 rfl (.tmp 30) (.tmp 47) 22 rfl (B1 + 2) 37 i0 _ 3 32 (by kernel_rfl) hi hz0 hz1 hz2 rfl (by omega) n2 pre.length _ rfl n5a ⟨W.heap.size, 0, none⟩ 1 1 [.int .i64 ((f : Int) + m), .int .i64 ((f : Int) + m + (xx.size : Int)), .string (t.extract f z)] rfl rfl (World.news_of_block hnew) (by rw [← hEn]; exact enc_one E) (by omega) (by simp only [maxLen]; omega) (by omega) (by omega) _ rfl ?_
      intro g cap W2 o2 g2 at2 lt2
      have hrow : ∀ k, n2.ownBlock = some k → B1 + 2 ≤ k ∧ ∃ o, W1.heap[k]? = some o ∧ o.isCells = true := own_row n5a
      have n0b : W2.cell? ⟨B0, 0, none⟩ = some (.string t) := g2.cell n0a (fun e => by have := (hrow B0 e.symm).1; omega)
      have n3b : W2.cell? ⟨B1, 0, none⟩ = some n2 := g2.cell n3a (fun e => by have := (hrow B1 e.symm).1; omega)
      have n4b : W2.frozen? ⟨B1, 0, none⟩ = false := (g2.frozen_far ⟨B1, 0, none⟩ (by show B1 < W1.heap.size; omega) (fun e => by have := (hrow B1 e.symm).1; omega)).trans n4a
      have c0b : W2.cell? ⟨Bx, 0, none⟩ = some (.int .i64 (f : Int)) ∧ W2.cell? ⟨Bx, 1, none⟩ = some (.int .i64 (z : Int)) ∧ W2.cell? ⟨Bx, 2, none⟩ = some (.string xx) :=
        ⟨g2.cell c0a (fun e => huv e.symm), g2.cell c1a (fun e => huv e.symm), g2.cell c2a (fun e => huv e.symm)⟩
      refine hK.out _ _ ⟨n0b, c0b⟩ (fun _ => ?_)
      clear hK K
      simp only [Act.put, List.setIfInBounds_toArray, List.set_cons_zero, List.set_cons_succ]
      refine wpAnyH_ready (rs := [19]) (by kernel_rfl) (by simp) ?_
      refine AllReadyH.cons (o := ⟨none, .store 22 (.tmp 8) (.tmp 48), 0, _, _, none⟩) rfl (fun K hK => ?_) AllReadyH.nil
      go_simp
      have lg : B1 + 2 ≤ g ∧ g < W2.heap.size := o2.lt g rfl
      have gs := grown_setCell_l W2 ⟨B1, 0, none⟩ (.slice (some ⟨g, 0, none⟩) (pre.length + 1) cap)
      refine hK.out _ _ ⟨(World.cell?_setCell_far _ _ _ _ (by show B1 ≠ B0; omega)).trans n0b, (World.cell?_setCell_far _ _ _ _ (by show B1 ≠ Bx; omega)).trans c0b.1, (World.cell?_setCell_far _ _ _ _ (by show B1 ≠ Bx; omega)).trans c0b.2.1, (World.cell?_setCell_far _ _ _ _ (by show B1 ≠ Bx; omega)).trans c0b.2.2⟩ (fun _ => ?_)
      refine wpAnyH_done (by kernel_rfl) ?_ _
      have kf : KeepsFrom W0.heap.size W (W2.setCell ⟨B1, 0, none⟩ (.slice (some ⟨g, 0, none⟩) (pre.length + 1) cap)) :=
        ((keepsFrom_row g1 (fun _ h => by cases h) _).trans (keepsFrom_row g2 (fun k hk => (hrow k hk).2) _)).trans (KeepsFrom.of_grownBy gs (fun j hj => by cases hj; show B1 < _; omega))
      have hB0w : B0 ≤ W.heap.size := by omega
      have bw : RowKit.Below B0 W (W2.setCell ⟨B1, 0, none⟩ (.slice (some ⟨g, 0, none⟩) (pre.length + 1) cap)) :=
        (((RowKit.Below.refl _ W).grown g1 hB0w (fun _ h => by cases h)).grown g2 (by omega) (fun k hk => by have := (hrow k hk).1; omega)).setCell (by show B0 ≤ B1; omega) _
      have kp : KpE B1 W (W2.setCell ⟨B1, 0, none⟩ (.slice (some ⟨g, 0, none⟩) (pre.length + 1) cap)) :=
        kpE_t (by rw [← hW1]; exact kpE_alloc (W := W.drew) (by show B1 < W.heap.size; omega) _) (kpE_append g2 n3a n3b lt2 (at2.elim .inl (fun h => .inr (by omega))))
      refine ⟨kf, kp, ⟨(World.cell?_setCell_far _ _ _ _ (by show B1 ≠ B0; omega)).trans n0b, by have := gs.size; have := g2.size; omega, _, ⟨World.cell?_setCell_same _ _ _ n3b, by rw [World.frozen?_setCell]; exact n4b⟩, ?_⟩, HBw.out.trans bw⟩
      rw [List.map_append, List.map_singleton, show ∀ a b : List Ed, cellsE (a ++ b) = cellsE a ++ cellsE b from fun a b => by simp [cellsE], List.length_append]
      refine World.ownsRow.kept (w := W2) ?_ gs (.inr (fun e => by simp [Value.ownBlock] at e; omega))
      have : cellsE [bkE t (m, { fr := (f : Int), «to» := (z : Int), tx := xx, tag := xg })] = [.int .i64 ((f : Int) + m), .int .i64 ((f : Int) + m + (xx.size : Int)), .string (t.extract f z)] := by
        rw [hE, ← hEn]; simp [cellsE]
      rw [this]
      exact o2
  case done =>
    rintro D ys W hD hys ⟨⟨n0, nb, n2, ⟨n3, n4⟩, n5⟩, hBw⟩ hK
    have hys' : ys.map Subtype.val = mvL s := hys
    have hmap : ys.map (fun y => bkE t y.val) = bkL t s := by
      unfold bkL
      rw [← hys', List.map_map]; rfl
    have hlen : ys.length = (bkL t s).length := by rw [← hmap, List.length_map]
    rw [hmap, hlen] at n5
    obtain ⟨q, qc, rfl⟩ : ∃ q qc, n2 = .slice q (bkL t s).length qc := by
      rcases n5.2 with ⟨rfl, h1⟩ | ⟨g, cap', cur, rfl, _⟩
      · rw [h1]; exact ⟨_, _, rfl⟩
      · exact ⟨_, _, rfl⟩
    have HN5 := Lib.hid n5
    clear n5 hys hys' hmap hlen
    gi_wp2
    have gD := grownBy_putObj' W D (.deferred none)
    have rD : ∀ r, some D = some r → ∃ o, W.heap[r]? = some o ∧ o.isCells = false := fun r hr => by cases hr; exact ⟨_, hK, rfl⟩
    refine ⟨by simp, .inl ⟨_, _, rfl, run_takeDeferred hK, ?_⟩⟩
    refine ⟨.tuple #[.slice q (bkL t s).length qc, .int .i64 0], by simp [results, Try.f17, go_sem], ?_, _, rfl, ?_⟩
    · rw [HB0.out]
      exact hBw.trans (belowK_b (w := w) (by rw [HB0.out]; exact Nat.le_refl _) W D _ _ (by rw [HB0.out]; omega) hK rfl rfl)
    · have ho : (W.putObj D (.deferred none)).ownsRow (B1 + 2) 37 3 (.slice q (bkL t s).length qc) (bkL t s).length (cellsE (bkL t s)) := HN5.out.kept gD (by
        rcases HN5.out.2 with ⟨h1, _⟩ | ⟨g, cap', cur, h1, _, hgb, _⟩
        · exact .inl (by rw [h1]; rfl)
        · refine .inr fun e => ?_
          rw [h1] at e
          have e' : g = D := by simpa [Value.ownBlock] using e
          rw [e', hK] at hgb; cases hgb)
      rcases ho.2 with ⟨h1, h2⟩ | ⟨g, cap', cur, h1, _⟩
      · refine .inl ⟨h1, List.eq_nil_of_length_eq_zero h2⟩
      · rw [h1] at ho ⊢
        rw [HB0.out]
        exact (owns_rw ho).low (by omega)
  case stop =>
    rintro D c pre W _ _ h _
    exact h.elim
end Go.Proofs.Ytinanagjoaaacaa
