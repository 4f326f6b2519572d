/-
  EditsNames: a walk. By gennames.py.
-/
import Derived.Test.YtinanagjoaaacaaLx
namespace Go.Proofs.Ytinanagjoaaacaa
open Go.RowKit Go.Shelf Go.Lib Go.Sort

def nl1 : List Ed := [⟨1, 1, ⟨#[120]⟩, 0⟩, ⟨1, 1, ⟨#[121]⟩, 0⟩]
def nl2 : List Ed := [⟨0, 2, ⟨#[]⟩, 0⟩, ⟨1, 3, ⟨#[]⟩, 0⟩]
def nl3 : List Ed := [⟨3, 5, ⟨#[]⟩, 0⟩]
def nl4 : List Ed := [⟨-1, 0, ⟨#[]⟩, 0⟩]
def nl5 : List Ed := [⟨2, 1, ⟨#[]⟩, 0⟩]
def nl7 : List Ed := [⟨1, 3, ⟨#[88]⟩, 0⟩, ⟨1, 1, ⟨#[121]⟩, 0⟩, ⟨3, 3, ⟨#[122]⟩, 0⟩]
def nl8 : List Ed := [⟨1, 3, ⟨#[88, 89, 90]⟩, 0⟩]
def nl13 : List Ed := [⟨0, 1, ⟨#[]⟩, 0⟩, ⟨0, 1, ⟨#[]⟩, 0⟩]
def ns1 : List Ed := [⟨1, 1, ⟨#[120]⟩, 0⟩, ⟨1, 1, ⟨#[121]⟩, 1⟩]
theorem nsrt1 : srt nl1 = ns1 := (srt_uniq (l := nl1) (s := ns1) (List.Perm.refl _) (by decide +kernel)).symm
def ns2 : List Ed := [⟨0, 2, ⟨#[]⟩, 0⟩, ⟨1, 3, ⟨#[]⟩, 1⟩]
theorem nsrt2 : srt nl2 = ns2 := (srt_uniq (l := nl2) (s := ns2) (List.Perm.refl _) (by decide +kernel)).symm
def ns3 : List Ed := [⟨3, 5, ⟨#[]⟩, 0⟩]
theorem nsrt3 : srt nl3 = ns3 := (srt_uniq (l := nl3) (s := ns3) (List.Perm.refl _) (by decide +kernel)).symm
def ns7 : List Ed := [⟨1, 1, ⟨#[121]⟩, 1⟩, ⟨1, 3, ⟨#[88]⟩, 0⟩, ⟨3, 3, ⟨#[122]⟩, 2⟩]
theorem nsrt7 : srt nl7 = ns7 := (srt_uniq (l := nl7) (s := ns7) (List.Perm.swap _ _ _) (by decide +kernel)).symm
def ns8 : List Ed := [⟨1, 3, ⟨#[88, 89, 90]⟩, 0⟩]
theorem nsrt8 : srt nl8 = ns8 := (srt_uniq (l := nl8) (s := ns8) (List.Perm.refl _) (by decide +kernel)).symm
def ns13 : List Ed := [⟨0, 1, ⟨#[]⟩, 0⟩, ⟨0, 1, ⟨#[]⟩, 1⟩]
theorem nsrt13 : srt nl13 = ns13 := (srt_uniq (l := nl13) (s := ns13) (List.Perm.refl _) (by decide +kernel)).symm
theorem nrow1 : rowE (⟨#[97, 98, 99, 100]⟩ : ByteArray).size nl1 = 0 := by rw [rowE_of nsrt1]; kernel_rfl
theorem ndo1 : doS ⟨#[97, 98, 99, 100]⟩ nl1 = ⟨#[97, 120, 121, 98, 99, 100]⟩ := by rw [doS_of nsrt1 nrow1]; kernel_rfl
theorem nrow2 : rowE (⟨#[97, 98, 99, 100]⟩ : ByteArray).size nl2 = 63 := by rw [rowE_of nsrt2]; kernel_rfl
theorem ndo2 : doS ⟨#[97, 98, 99, 100]⟩ nl2 = ⟨#[]⟩ := by unfold doS; rw [nrow2, if_neg (by omega)]
theorem nrow3 : rowE (⟨#[97, 98, 99, 100]⟩ : ByteArray).size nl3 = 1 := by rw [rowE_of nsrt3]; kernel_rfl
theorem ndo3 : doS ⟨#[97, 98, 99, 100]⟩ nl3 = ⟨#[]⟩ := by unfold doS; rw [nrow3, if_neg (by omega)]
theorem nrow7 : rowE (⟨#[97, 98, 99, 100]⟩ : ByteArray).size nl7 = 0 := by rw [rowE_of nsrt7]; kernel_rfl
theorem ndo7 : doS ⟨#[97, 98, 99, 100]⟩ nl7 = ⟨#[97, 121, 88, 122, 100]⟩ := by rw [doS_of nsrt7 nrow7]; kernel_rfl
theorem nrow13 : rowE (⟨#[97]⟩ : ByteArray).size nl13 = 63 := by rw [rowE_of nsrt13]; kernel_rfl
theorem ndo13 : doS ⟨#[97]⟩ nl13 = ⟨#[]⟩ := by unfold doS; rw [nrow13, if_neg (by omega)]
theorem nbad4 : sortE nl4 = 1 := by unfold sortE; rw [if_pos (by decide)]
theorem nbad5 : sortE nl5 = 1 := by unfold sortE; rw [if_pos (by decide)]
theorem nmove6 : moveE (-1) [] = 1 ∧ moveV (-1) [] = 0 := by
  have hs : srt [] = [] := List.eq_nil_of_length_eq_zero (by rw [srt_length]; rfl)
  have h : sortE [] = 0 := by rw [sortE_of hs]; kernel_rfl
  have h2 : moveE (-1) [] = 1 := by unfold moveE; rw [h]; rfl
  exact ⟨h2, by unfold moveV; rw [h2]; rfl⟩
theorem nmove8 : moveE 2 nl8 = 0 ∧ moveV 2 nl8 = 1 := by
  have h : sortE nl8 = 0 := by rw [sortE_of nsrt8]; kernel_rfl
  have h2 : moveE 2 nl8 = 0 := by unfold moveE; rw [h]; rfl
  exact ⟨h2, by rw [moveV_of nsrt8 h2]; kernel_rfl⟩
theorem ndf9 : IsDf ⟨#[97, 98, 99]⟩ ⟨#[97, 120, 99]⟩ ⟨1, 2, ⟨#[120]⟩, 0⟩ :=
  ⟨1, 1, 1, 1, ⟨by decide, by decide, by decide, by decide⟩, by decide, ⟨by decide, by decide, by decide⟩, by decide, by kernel_rfl⟩
theorem ndf10 : IsDf ⟨#[97, 97]⟩ ⟨#[97]⟩ ⟨1, 2, ⟨#[]⟩, 0⟩ :=
  ⟨1, 0, 1, 0, ⟨by decide, by decide, by decide, by decide⟩, by decide, ⟨by decide, by decide, by decide⟩, by decide, by kernel_rfl⟩
theorem ndf11 : IsDf ⟨#[195, 169]⟩ ⟨#[195, 168]⟩ ⟨0, 2, ⟨#[195, 168]⟩, 0⟩ :=
  ⟨1, 0, 0, 0, ⟨by decide, by decide, by decide, by decide⟩, by decide, ⟨by decide, by decide, by decide⟩, by decide, by kernel_rfl⟩
theorem ndf12 : IsDf ⟨#[120, 195, 169]⟩ ⟨#[120, 227, 169]⟩ ⟨1, 3, ⟨#[227, 169]⟩, 0⟩ :=
  ⟨1, 1, 1, 0, ⟨by decide, by decide, by decide, by decide⟩, by decide, ⟨by decide, by decide, by decide⟩, by decide, by kernel_rfl⟩
theorem diff_x (a b : ByteArray) (x : Ed) (h : IsDf a b x) (hab : a ≠ b) (ha : a.size ≤ 1099511627776) (hb : b.size ≤ 1099511627776) (w : World) :
    Calls Try.prog 13 #[.string a, .string b] w fun e w' => ∃ g cap, e = .returned (.slice (some ⟨g, 0, none⟩) 1 cap) ∧ RowKit.Below w.heap.size w w' ∧ Rd w' (.slice (some ⟨g, 0, none⟩) 1 cap) [x] := by
  refine (diff_any a b w hab ha hb).mono ?_
  rintro e w' ⟨v, y, rfl, h1, h2, h3⟩
  obtain rfl := df_uniq h h3
  have h4 := h2.rd
  rcases h2 with ⟨_, h⟩ | ⟨g, cap, rfl, _⟩
  · cases h
  · exact ⟨g, cap, rfl, h1, h4⟩
/-- The worlds that keep all of w. -/
structure Bel (w : World) where
  val : World
  ok : RowKit.Below w.heap.size w val
instance (w : World) : Nonempty (Bel w) := ⟨⟨w, RowKit.Below.refl _ _⟩⟩
theorem region_bel {id : Nat} {Q : Exit → Act → World → Prop} {a : Act} {w : World} {l : List Oper} (hm : Try.prog.follows .mixedOrders = true) (hB : Region.lexB .any l.toArray = true)
    (h : wpQuiet Try.prog l.toArray (fun w' => ∃ k : Bel w, w' = k.val) (fun a' => ∀ w', (∃ k : Bel w, w' = k.val) → Q .normal a' w') l a) : (Code.region id l.toArray true).wp Try.prog Q a w :=
  wp_region_quiet (C := fun w' => ∃ k : Bel w, w' = k.val) hm hB ⟨⟨_, below_drewN (RowKit.Below.refl _ w) 1⟩, rfl⟩ (by simpa using h)
theorem bel_of {w : World} {k : Bel w} {f : Nat} {args : Array Value} {v : Value} (h : Calls Try.prog f args k.val fun e w' => e = .returned v ∧ RowKit.Below k.val.heap.size k.val w') :
    Calls Try.prog f args k.val fun e w'' => e = .returned v ∧ ∃ k' : Bel w, w'' = k'.val :=
  h.mono fun _ _ ⟨he, hb⟩ => ⟨he, ⟨_, k.ok.trans (hb.mono k.ok.size)⟩, rfl⟩
theorem edit_b (f t : Int) (x : ByteArray) (w : World) : Calls Try.prog 22 #[.int .i64 f, .int .i64 t, .string x] w fun e w' => e = .returned (.agg #[.int .i64 f, .int .i64 t, .string x]) ∧ RowKit.Below w.heap.size w w' :=
  (edit_any f t x w).mono fun _ _ ⟨he, o, hw⟩ => ⟨he, by rw [hw]; exact (RowKit.Below.refl _ _).alloc (Nat.le_refl _) _⟩
theorem dsame_b (a : ByteArray) (w : World) : Calls Try.prog 13 #[.string a, .string a] w fun e w' => e = .returned (.slice none 0 0) ∧ RowKit.Below w.heap.size w w' :=
  (diff_same a w).mono fun _ _ ⟨he, hw⟩ => ⟨he, by rw [hw]; exact RowKit.Below.refl _ _⟩
theorem rd_bel {W : World} {g cap : Nat} {x : Ed} (h : Rd W (.slice (some ⟨g, 0, none⟩) 1 cap) [x]) : (∀ k : Bel W, k.val.cell? ⟨g, 0, none⟩ = some (.int .i64 x.fr)) ∧ (∀ k : Bel W, k.val.cell? ⟨g, 1, none⟩ = some (.int .i64 x.to)) ∧ (∀ k : Bel W, k.val.cell? ⟨g, 2, none⟩ = some (.string x.tx)) := by
  rcases h with ⟨h, _⟩ | ⟨b, off, c, h1, hb, h3⟩
  · cases h
  · simp only [Value.slice.injEq, Option.some.injEq, Addr.mk.injEq] at h1
    obtain ⟨⟨rfl, rfl, _⟩, _⟩ := h1
    have h4 := h3 0 x rfl
    simp only [Nat.zero_mul, Nat.add_zero, Nat.zero_add] at h4
    exact ⟨fun k => (k.ok.cell (p := ⟨g, 0, none⟩) hb).trans h4.1, fun k => (k.ok.cell (p := ⟨g, 1, none⟩) hb).trans h4.2.1, fun k => (k.ok.cell (p := ⟨g, 2, none⟩) hb).trans h4.2.2⟩
theorem rd_one {W : World} {g cap : Nat} {x : Ed} (h : Rd W (.slice (some ⟨g, 0, none⟩) 1 cap) [x]) : W.cell? ⟨g, 0, none⟩ = some (.int .i64 x.fr) ∧ W.cell? ⟨g, 1, none⟩ = some (.int .i64 x.to) ∧ W.cell? ⟨g, 2, none⟩ = some (.string x.tx) := by
  rcases h with ⟨h, _⟩ | ⟨b, off, c, h1, _, h3⟩
  · cases h
  · simp only [Value.slice.injEq, Option.some.injEq, Addr.mk.injEq] at h1
    obtain ⟨⟨rfl, rfl, _⟩, _⟩ := h1
    simpa using h3 0 x rfl
set_option maxRecDepth 100000 in
set_option maxHeartbeats 16000000 in
theorem names_any (w : World) : Calls Try.prog 7 #[] w fun e w' => e = .returned (.bool true) ∧ RowKit.Below w.heap.size w w' := by
  have h37 := guard37
  have HK0 : Hid (RowKit.Below w.heap.size w w) := RowKit.Below.refl _ _
  go_enter Try.func7, Try.ntmps7
  go_wp2_with (fail)
  refine (edit_any 1 1 _ _).mono ?_
  rintro e e1 ⟨rfl, o1, rfl⟩
  go_wp2_with (fail)
  refine (edit_any 1 1 _ _).mono ?_
  rintro e e2 ⟨rfl, o2, rfl⟩
  obtain ⟨W3, hW3⟩ : ∃ W, ((w.alloc o1).alloc o2) = W := ⟨_, rfl⟩
  have kA3 : RowKit.Below w.heap.size w W3 := by
    rw [← hW3]
    exact (((RowKit.Below.refl w.heap.size w).alloc (by simp <;> omega) o1).alloc (by simp <;> omega) o2)
  rw [hW3]
  clear hW3
  have hr3 := lit_rd W3 nl1
  have k3 := kA3.alloc kA3.size (.cells (cellsE nl1).toArray 37)
  obtain ⟨V3, hV3⟩ : ∃ W, W3.alloc (.cells (cellsE nl1).toArray 37) = W := ⟨_, rfl⟩
  rw [hV3] at hr3 k3
  have HV3 := Lib.hid hV3
  have HRL := Lib.hid hr3
  clear hV3 hr3 kA3
  have HK4 : Hid (RowKit.Below w.heap.size w V3) := HK0.out.trans (k3.mono HK0.out.size)
  clear k3
  go_wp2_with (fail)
  rw [show W3.alloc (.cells #[.int .i64 1, .int .i64 1, .string ⟨#[120]⟩, .int .i64 1, .int .i64 1, .string ⟨#[121]⟩] 37) = V3 from HV3.out]
  have c := do_e ⟨#[97, 98, 99, 100]⟩ V3 _ nl1 HRL.out (by decide) (by decide +kernel)
  rw [ndo1, nrow1] at c
  refine c.mono ?_
  rintro e w5 ⟨rfl, hb5⟩
  clear c HRL
  have HK6 : Hid (RowKit.Below w.heap.size w w5) := HK4.out.trans (hb5.mono HK4.out.size)
  clear hb5
  go_wp2_with (fail)
  refine (edit_any 0 2 _ _).mono ?_
  rintro e e7 ⟨rfl, o7, rfl⟩
  go_wp2_with (fail)
  refine (edit_any 1 3 _ _).mono ?_
  rintro e e8 ⟨rfl, o8, rfl⟩
  obtain ⟨W9, hW9⟩ : ∃ W, ((w5.alloc o7).alloc o8) = W := ⟨_, rfl⟩
  have kA9 : RowKit.Below w5.heap.size w5 W9 := by
    rw [← hW9]
    exact (((RowKit.Below.refl w5.heap.size w5).alloc (by simp <;> omega) o7).alloc (by simp <;> omega) o8)
  rw [hW9]
  clear hW9
  have hr9 := lit_rd W9 nl2
  have k9 := kA9.alloc kA9.size (.cells (cellsE nl2).toArray 37)
  obtain ⟨V9, hV9⟩ : ∃ W, W9.alloc (.cells (cellsE nl2).toArray 37) = W := ⟨_, rfl⟩
  rw [hV9] at hr9 k9
  have HV9 := Lib.hid hV9
  have HRL := Lib.hid hr9
  clear hV9 hr9 kA9
  have HK10 : Hid (RowKit.Below w.heap.size w V9) := HK6.out.trans (k9.mono HK6.out.size)
  clear k9
  go_wp2_with (fail)
  rw [show W9.alloc (.cells #[.int .i64 0, .int .i64 2, .string ⟨#[]⟩, .int .i64 1, .int .i64 3, .string ⟨#[]⟩] 37) = V9 from HV9.out]
  have c := do_e ⟨#[97, 98, 99, 100]⟩ V9 _ nl2 HRL.out (by decide) (by decide +kernel)
  rw [ndo2, nrow2] at c
  refine c.mono ?_
  rintro e w11 ⟨rfl, hb11⟩
  clear c HRL
  have HK12 : Hid (RowKit.Below w.heap.size w w11) := HK10.out.trans (hb11.mono HK10.out.size)
  clear hb11
  go_wp2_with (fail)
  refine (edit_any 3 5 _ _).mono ?_
  rintro e e13 ⟨rfl, o13, rfl⟩
  obtain ⟨W14, hW14⟩ : ∃ W, (w11.alloc o13) = W := ⟨_, rfl⟩
  have kA14 : RowKit.Below w11.heap.size w11 W14 := by
    rw [← hW14]
    exact ((RowKit.Below.refl w11.heap.size w11).alloc (by simp <;> omega) o13)
  rw [hW14]
  clear hW14
  have hr14 := lit_rd W14 nl3
  have k14 := kA14.alloc kA14.size (.cells (cellsE nl3).toArray 37)
  obtain ⟨V14, hV14⟩ : ∃ W, W14.alloc (.cells (cellsE nl3).toArray 37) = W := ⟨_, rfl⟩
  rw [hV14] at hr14 k14
  have HV14 := Lib.hid hV14
  have HRL := Lib.hid hr14
  clear hV14 hr14 kA14
  have HK15 : Hid (RowKit.Below w.heap.size w V14) := HK12.out.trans (k14.mono HK12.out.size)
  clear k14
  go_wp2_with (fail)
  rw [show W14.alloc (.cells #[.int .i64 3, .int .i64 5, .string ⟨#[]⟩] 37) = V14 from HV14.out]
  have c := do_e ⟨#[97, 98, 99, 100]⟩ V14 _ nl3 HRL.out (by decide) (by decide +kernel)
  rw [ndo3, nrow3] at c
  refine c.mono ?_
  rintro e w16 ⟨rfl, hb16⟩
  clear c HRL
  have HK17 : Hid (RowKit.Below w.heap.size w w16) := HK15.out.trans (hb16.mono HK15.out.size)
  clear hb16
  go_wp2_with (fail)
  refine (edit_any (-1) 0 _ _).mono ?_
  rintro e e18 ⟨rfl, o18, rfl⟩
  obtain ⟨W19, hW19⟩ : ∃ W, (w16.alloc o18) = W := ⟨_, rfl⟩
  have kA19 : RowKit.Below w16.heap.size w16 W19 := by
    rw [← hW19]
    exact ((RowKit.Below.refl w16.heap.size w16).alloc (by simp <;> omega) o18)
  rw [hW19]
  clear hW19
  have hr19 := lit_rd W19 nl4
  have k19 := kA19.alloc kA19.size (.cells (cellsE nl4).toArray 37)
  obtain ⟨V19, hV19⟩ : ∃ W, W19.alloc (.cells (cellsE nl4).toArray 37) = W := ⟨_, rfl⟩
  rw [hV19] at hr19 k19
  have HV19 := Lib.hid hV19
  have HRL := Lib.hid hr19
  clear hV19 hr19 kA19
  have HK20 : Hid (RowKit.Below w.heap.size w V19) := HK17.out.trans (k19.mono HK17.out.size)
  clear k19
  go_wp2_with (fail)
  rw [show W19.alloc (.cells #[.int .i64 (-1), .int .i64 0, .string ⟨#[]⟩] 37) = V19 from HV19.out]
  have c := sort_e V19 _ nl4 HRL.out (by decide)
  rw [nbad4] at c
  refine c.mono ?_
  rintro e w21 ⟨hb21, v21, rfl, hw21⟩
  clear c HRL hw21
  have HK22 : Hid (RowKit.Below w.heap.size w w21) := HK20.out.trans (hb21.mono HK20.out.size)
  clear hb21
  go_wp2_with (fail)
  refine (edit_any 2 1 _ _).mono ?_
  rintro e e23 ⟨rfl, o23, rfl⟩
  obtain ⟨W24, hW24⟩ : ∃ W, (w21.alloc o23) = W := ⟨_, rfl⟩
  have kA24 : RowKit.Below w21.heap.size w21 W24 := by
    rw [← hW24]
    exact ((RowKit.Below.refl w21.heap.size w21).alloc (by simp <;> omega) o23)
  rw [hW24]
  clear hW24
  have hr24 := lit_rd W24 nl5
  have k24 := kA24.alloc kA24.size (.cells (cellsE nl5).toArray 37)
  obtain ⟨V24, hV24⟩ : ∃ W, W24.alloc (.cells (cellsE nl5).toArray 37) = W := ⟨_, rfl⟩
  rw [hV24] at hr24 k24
  have HV24 := Lib.hid hV24
  have HRL := Lib.hid hr24
  clear hV24 hr24 kA24
  have HK25 : Hid (RowKit.Below w.heap.size w V24) := HK22.out.trans (k24.mono HK22.out.size)
  clear k24
  go_wp2_with (fail)
  rw [show W24.alloc (.cells #[.int .i64 2, .int .i64 1, .string ⟨#[]⟩] 37) = V24 from HV24.out]
  have c := sort_e V24 _ nl5 HRL.out (by decide)
  rw [nbad5] at c
  refine c.mono ?_
  rintro e w26 ⟨hb26, v26, rfl, hw26⟩
  clear c HRL hw26
  have HK27 : Hid (RowKit.Below w.heap.size w w26) := HK25.out.trans (hb26.mono HK25.out.size)
  clear hb26
  go_wp2_with (fail)
  have c := move_e (-1) w26 (.slice none 0 0) [] (.inl ⟨rfl, rfl⟩) (by decide) (by simp) (by decide) (by omega)
  unfold MovePost at c
  rw [nmove6.1, nmove6.2] at c
  refine c.mono ?_
  rintro e w28 ⟨rfl, hb28⟩
  clear c
  have HK29 : Hid (RowKit.Below w.heap.size w w28) := HK27.out.trans (hb28.mono HK27.out.size)
  clear hb28
  go_wp2_with (fail)
  refine (edit_any 1 3 _ _).mono ?_
  rintro e e30 ⟨rfl, o30, rfl⟩
  go_wp2_with (fail)
  refine (edit_any 1 1 _ _).mono ?_
  rintro e e31 ⟨rfl, o31, rfl⟩
  go_wp2_with (fail)
  refine (edit_any 3 3 _ _).mono ?_
  rintro e e32 ⟨rfl, o32, rfl⟩
  obtain ⟨W33, hW33⟩ : ∃ W, (((w28.alloc o30).alloc o31).alloc o32) = W := ⟨_, rfl⟩
  have kA33 : RowKit.Below w28.heap.size w28 W33 := by
    rw [← hW33]
    exact ((((RowKit.Below.refl w28.heap.size w28).alloc (by simp <;> omega) o30).alloc (by simp <;> omega) o31).alloc (by simp <;> omega) o32)
  rw [hW33]
  clear hW33
  have hr33 := lit_rd W33 nl7
  have k33 := kA33.alloc kA33.size (.cells (cellsE nl7).toArray 37)
  obtain ⟨V33, hV33⟩ : ∃ W, W33.alloc (.cells (cellsE nl7).toArray 37) = W := ⟨_, rfl⟩
  rw [hV33] at hr33 k33
  have HV33 := Lib.hid hV33
  have HRL := Lib.hid hr33
  clear hV33 hr33 kA33
  have HK34 : Hid (RowKit.Below w.heap.size w V33) := HK29.out.trans (k33.mono HK29.out.size)
  clear k33
  go_wp2_with (fail)
  rw [show W33.alloc (.cells #[.int .i64 1, .int .i64 3, .string ⟨#[88]⟩, .int .i64 1, .int .i64 1, .string ⟨#[121]⟩, .int .i64 3, .int .i64 3, .string ⟨#[122]⟩] 37) = V33 from HV33.out]
  have c := do_e ⟨#[97, 98, 99, 100]⟩ V33 _ nl7 HRL.out (by decide) (by decide +kernel)
  rw [ndo7, nrow7] at c
  refine c.mono ?_
  rintro e w35 ⟨rfl, hb35⟩
  clear c HRL
  have HK36 : Hid (RowKit.Below w.heap.size w w35) := HK34.out.trans (hb35.mono HK34.out.size)
  clear hb35
  go_wp2_with (fail)
  refine (edit_any 1 3 _ _).mono ?_
  rintro e e37 ⟨rfl, o37, rfl⟩
  obtain ⟨W38, hW38⟩ : ∃ W, (w35.alloc o37) = W := ⟨_, rfl⟩
  have kA38 : RowKit.Below w35.heap.size w35 W38 := by
    rw [← hW38]
    exact ((RowKit.Below.refl w35.heap.size w35).alloc (by simp <;> omega) o37)
  rw [hW38]
  clear hW38
  have hr38 := lit_rd W38 nl8
  have k38 := kA38.alloc kA38.size (.cells (cellsE nl8).toArray 37)
  obtain ⟨V38, hV38⟩ : ∃ W, W38.alloc (.cells (cellsE nl8).toArray 37) = W := ⟨_, rfl⟩
  rw [hV38] at hr38 k38
  have HV38 := Lib.hid hV38
  have HRL := Lib.hid hr38
  clear hV38 hr38 kA38
  have HK39 : Hid (RowKit.Below w.heap.size w V38) := HK36.out.trans (k38.mono HK36.out.size)
  clear k38
  go_wp2_with (fail)
  rw [show W38.alloc (.cells #[.int .i64 1, .int .i64 3, .string ⟨#[88, 89, 90]⟩] 37) = V38 from HV38.out]
  have c := move_e 2 V38 _ nl8 HRL.out (by decide) (by simp [nl8]) (by decide +kernel) (by omega)
  unfold MovePost at c
  rw [nmove8.1, nmove8.2] at c
  refine c.mono ?_
  rintro e w40 ⟨rfl, hb40⟩
  clear c HRL
  have HK41 : Hid (RowKit.Below w.heap.size w w40) := HK39.out.trans (hb40.mono HK39.out.size)
  clear hb40
  go_wp2_with (fail)
  refine (diff_x ⟨#[97, 98, 99]⟩ ⟨#[97, 120, 99]⟩ _ ndf9 (by decide) (by decide) (by decide) w40).mono ?_
  rintro e w42 ⟨g9, cap9, rfl, hb42, hr42⟩
  have HR9 := Lib.hid hr42
  clear hr42
  have HK43 : Hid (RowKit.Below w.heap.size w w42) := HK41.out.trans (hb42.mono HK41.out.size)
  clear hb42
  go_wp2_with (fail)
  refine (diff_x ⟨#[97, 97]⟩ ⟨#[97]⟩ _ ndf10 (by decide) (by decide) (by decide) w42).mono ?_
  rintro e w44 ⟨g10, cap10, rfl, hb44, hr44⟩
  have HR10 := Lib.hid hr44
  clear hr44
  have HK45 : Hid (RowKit.Below w.heap.size w w44) := HK43.out.trans (hb44.mono HK43.out.size)
  have HR9_45 := Lib.hid (HR9.out.below hb44 (Nat.le_refl _))
  clear hb44 HR9
  go_wp2_with (fail)
  refine (diff_x ⟨#[195, 169]⟩ ⟨#[195, 168]⟩ _ ndf11 (by decide) (by decide) (by decide) w44).mono ?_
  rintro e w46 ⟨g11, cap11, rfl, hb46, hr46⟩
  have HR11 := Lib.hid hr46
  clear hr46
  have HK47 : Hid (RowKit.Below w.heap.size w w46) := HK45.out.trans (hb46.mono HK45.out.size)
  have HR9_47 := Lib.hid (HR9_45.out.below hb46 (Nat.le_refl _))
  have HR10_47 := Lib.hid (HR10.out.below hb46 (Nat.le_refl _))
  clear hb46 HR9_45 HR10
  go_wp2_with (fail)
  refine (diff_x ⟨#[120, 195, 169]⟩ ⟨#[120, 227, 169]⟩ _ ndf12 (by decide) (by decide) (by decide) w46).mono ?_
  rintro e w48 ⟨g12, cap12, rfl, hb48, hr48⟩
  have HR12 := Lib.hid hr48
  clear hr48
  have HK49 : Hid (RowKit.Below w.heap.size w w48) := HK47.out.trans (hb48.mono HK47.out.size)
  have HR9_49 := Lib.hid (HR9_47.out.below hb48 (Nat.le_refl _))
  have HR10_49 := Lib.hid (HR10_47.out.below hb48 (Nat.le_refl _))
  have HR11_49 := Lib.hid (HR11.out.below hb48 (Nat.le_refl _))
  clear hb48 HR9_47 HR10_47 HR11
  go_wp2_with (fail)
  refine (edit_any 0 1 _ _).mono ?_
  rintro e e50 ⟨rfl, o50, rfl⟩
  go_wp2_with (fail)
  refine (edit_any 0 1 _ _).mono ?_
  rintro e e51 ⟨rfl, o51, rfl⟩
  obtain ⟨W52, hW52⟩ : ∃ W, ((w48.alloc o50).alloc o51) = W := ⟨_, rfl⟩
  have kA52 : RowKit.Below w48.heap.size w48 W52 := by
    rw [← hW52]
    exact (((RowKit.Below.refl w48.heap.size w48).alloc (by simp <;> omega) o50).alloc (by simp <;> omega) o51)
  rw [hW52]
  clear hW52
  have hr52 := lit_rd W52 nl13
  have k52 := kA52.alloc kA52.size (.cells (cellsE nl13).toArray 37)
  obtain ⟨V52, hV52⟩ : ∃ W, W52.alloc (.cells (cellsE nl13).toArray 37) = W := ⟨_, rfl⟩
  rw [hV52] at hr52 k52
  have HV52 := Lib.hid hV52
  have HRL := Lib.hid hr52
  clear hV52 hr52 kA52
  have HK53 : Hid (RowKit.Below w.heap.size w V52) := HK49.out.trans (k52.mono HK49.out.size)
  have HR9_53 := Lib.hid (HR9_49.out.below k52 (Nat.le_refl _))
  have HR10_53 := Lib.hid (HR10_49.out.below k52 (Nat.le_refl _))
  have HR11_53 := Lib.hid (HR11_49.out.below k52 (Nat.le_refl _))
  have HR12_53 := Lib.hid (HR12.out.below k52 (Nat.le_refl _))
  clear k52 HR9_49 HR10_49 HR11_49 HR12
  go_wp2_with (fail)
  rw [show W52.alloc (.cells #[.int .i64 0, .int .i64 1, .string ⟨#[]⟩, .int .i64 0, .int .i64 1, .string ⟨#[]⟩] 37) = V52 from HV52.out]
  have c := do_e ⟨#[97]⟩ V52 _ nl13 HRL.out (by decide) (by decide +kernel)
  rw [ndo13, nrow13] at c
  refine c.mono ?_
  rintro e w54 ⟨rfl, hb54⟩
  clear c HRL
  have HK55 : Hid (RowKit.Below w.heap.size w w54) := HK53.out.trans (hb54.mono HK53.out.size)
  have HR9_55 := Lib.hid (HR9_53.out.below hb54 (Nat.le_refl _))
  have HR10_55 := Lib.hid (HR10_53.out.below hb54 (Nat.le_refl _))
  have HR11_55 := Lib.hid (HR11_53.out.below hb54 (Nat.le_refl _))
  have HR12_55 := Lib.hid (HR12_53.out.below hb54 (Nat.le_refl _))
  clear hb54 HR9_53 HR10_53 HR11_53 HR12_53
  obtain ⟨p9a, p9b, p9c⟩ := rd_bel HR9_55.out
  have hq9 := fun w => eql_run ⟨1, 2, ⟨#[120]⟩, 0⟩ ⟨1, 2, ⟨#[120]⟩, 0⟩ w
  rw [show eqE ⟨1, 2, ⟨#[120]⟩, 0⟩ ⟨1, 2, ⟨#[120]⟩, 0⟩ = true from by kernel_rfl] at hq9
  dsimp only at p9a p9b p9c hq9
  obtain ⟨p10a, p10b, p10c⟩ := rd_bel HR10_55.out
  have hq10 := fun w => eql_run ⟨1, 2, ⟨#[]⟩, 0⟩ ⟨1, 2, ⟨#[]⟩, 0⟩ w
  rw [show eqE ⟨1, 2, ⟨#[]⟩, 0⟩ ⟨1, 2, ⟨#[]⟩, 0⟩ = true from by kernel_rfl] at hq10
  dsimp only at p10a p10b p10c hq10
  obtain ⟨p11a, p11b, p11c⟩ := rd_bel HR11_55.out
  have hq11 := fun w => eql_run ⟨0, 2, ⟨#[195, 168]⟩, 0⟩ ⟨0, 2, ⟨#[195, 168]⟩, 0⟩ w
  rw [show eqE ⟨0, 2, ⟨#[195, 168]⟩, 0⟩ ⟨0, 2, ⟨#[195, 168]⟩, 0⟩ = true from by kernel_rfl] at hq11
  dsimp only at p11a p11b p11c hq11
  obtain ⟨p12a, p12b, p12c⟩ := rd_bel HR12_55.out
  have hq12 := fun w => eql_run ⟨1, 3, ⟨#[227, 169]⟩, 0⟩ ⟨1, 3, ⟨#[227, 169]⟩, 0⟩ w
  rw [show eqE ⟨1, 3, ⟨#[227, 169]⟩, 0⟩ ⟨1, 3, ⟨#[227, 169]⟩, 0⟩ = true from by kernel_rfl] at hq12
  dsimp only at p12a p12b p12c hq12
  clear HR9_55 HR10_55 HR11_55 HR12_55
  go_wp2_with (fail)
  simp only [List.append_eq, List.cons_append, List.nil_append]
  refine region_bel (by kernel_rfl) (lexB_of (by kernel_rfl) (by kernel_rfl)) ?_
  repeat (go_big_quiet_step (first | (go_at_call 22; exact bel_of (edit_b _ _ _ _)) | (go_at_call 13; exact bel_of (dsame_b _ _)) | (go_at_call 10; exact bel_of (awake_any _))))
  refine wpQuiet_nil ?_
  rintro wz ⟨k, rfl⟩
  go_wp2
  go_ret
  exact ⟨rfl, HK55.out.trans (k.ok.mono HK55.out.size)⟩
end Go.Proofs.Ytinanagjoaaacaa
