/-
  edits.Sort: a walk (fewer than twenty edits).
-/
import Derived.Laws.EntriesVeiled
import Derived.Test.YtinanagjoaaacaaW3
namespace Go.Proofs.Ytinanagjoaaacaa
open Go.RowKit Go.Shelf Go.Lib Go.Sort

/-- No edit begins ahead of the end of the one before. -/
def InOrd (s : List Ed) : Prop := ∀ (i : Nat) (x y : Ed), s[i]? = some x → s[i + 1]? = some y → x.to ≤ y.fr
theorem tag_get (l : List Ed) (i : Nat) (h : i < l.length) : (tagL l).toArray[i]! = ⟨l[i]!.fr, l[i]!.to, l[i]!.tx, i⟩ := by
  have h1 : (tagL l).toArray[i]? = some ⟨l[i]!.fr, l[i]!.to, l[i]!.tx, i⟩ := by
    rw [List.getElem?_toArray, tagL_at, List.getElem?_eq_getElem h, getElem!_pos l i h]; rfl
  rw [getElem!_def, h1]
theorem holds_tag {W : World} {g off : Nat} {l : List Ed} (h : HoldsK enc 3 W g off l.toArray) : HoldsK enc 3 W g off (tagL l).toArray := by
  intro j hj
  rw [size_flatK] at hj
  have hsz : (tagL l).toArray.size = l.length := by rw [List.size_toArray, tagL_length]
  rw [hsz] at hj
  have hi : j / 3 < l.length := by omega
  have := h j (by rw [size_flatK, List.size_toArray]; exact hj)
  rw [get_flatK _ _ _ _ (by rw [List.size_toArray]; exact hj)] at this
  rw [get_flatK _ _ _ _ (by rw [hsz]; exact hj), tag_get l _ hi]
  have he : l.toArray[j / 3]! = l[j / 3]! := by rw [getElem!_pos l.toArray _ (by simpa using hi), getElem!_pos l _ hi]; simp
  rw [he] at this
  exact this
theorem tag_up (l : List Ed) : TagUp (tagL l).toArray := by
  intro p q _ hpq hq
  rw [List.size_toArray, tagL_length] at hq
  rw [tag_get l p (by omega), tag_get l q hq]
  exact hpq
theorem srt_of {l : List Ed} {d' : Array Ed} (hp : PermIn 0 (tagL l).toArray.size (tagL l).toArray d') (hs : SortedIn ltE 0 (tagL l).toArray.size d') : d' = (srt l).toArray := by
  have hsz : d'.size = (tagL l).length := by rw [hp.1, List.size_toArray]
  have hperm : d'.toList.Perm (tagL l) := by
    have h := hp.2.2
    rw [show (tagL l).toArray.size = d'.size from hp.1.symm, Array.extract_size] at h
    rw [hp.1, Array.extract_size] at h
    exact h
  rw [← srt_uniq hperm ?_]
  rw [List.pairwise_iff_getElem]
  intro i j hi hj hij
  have := hs i j (Nat.zero_le _) hij (by rw [List.size_toArray, ← hsz]; simpa using hj)
  rw [ltE_false] at this
  rw [getElem!_pos d' i (by simpa using hi), getElem!_pos d' j (by simpa using hj)] at this
  simpa using this

theorem Rw.drewN {W : World} {B : Nat} {v : Value} {l : List Ed} (h : Rw W B v l) (q : Nat) : Rw (W.drewN q) B v l := by
  rcases h with h | ⟨g, cap, h1, h2, h3, h4⟩
  · exact .inl h
  · exact .inr ⟨g, cap, h1, h2, h3, h4⟩
theorem below_drewN {B : Nat} {a w : World} (h : RowKit.Below B a w) (n : Nat) : RowKit.Below B a (w.drewN n) := ⟨h.os, h.tape, h.output, h.size, h.block⟩
set_option maxRecDepth 100000 in
set_option maxHeartbeats 1000000 in
theorem sort_bad (w : World) (v : Value) (l : List Ed) (h : Rd w v l) (hn : l.length ≤ 1000000) (hb : l.any badE = true) :
    Calls Try.prog 12 #[v] w fun e w' => e = .returned (.tuple #[.slice none 0 0, .int .i64 1]) ∧ RowKit.Below w.heap.size w w' := by
  have c := contains_any w v l h hn
  rw [hb] at c
  clear h hb
  go_enter Try.func12, Try.ntmps12
  go_wp2_with (go_at_call 26; refine c.mono ?_; rintro e w1 ⟨rfl, hb1⟩; clear c)
  go_ret2
  exact ⟨rfl, hb1⟩

/-- What Sort answers where no edit is refused by itself. -/
def SortPost (w : World) (l : List Ed) (e : Ending) (w' : World) : Prop :=
  RowKit.Below w.heap.size w w' ∧ ((InOrd (srt l) ∧ ∃ v, e = .returned (.tuple #[v, .int .i64 0]) ∧ Rw w' w.heap.size v (srt l) ∧ capOk v) ∨ (¬ InOrd (srt l) ∧ e = .returned (.tuple #[.slice none 0 0, .int .i64 63])))
theorem srt_nil : srt [] = [] := List.eq_nil_of_length_eq_zero (srt_length [])

set_option maxRecDepth 100000 in
set_option maxHeartbeats 4000000 in
theorem sort_go (w : World) (v : Value) (l : List Ed) (h : Rd w v l) (hn : l.length ≤ 100) (hb : l.any badE = false) :
    Calls Try.prog 12 #[v] w (SortPost w l) := by
  have c := contains_any w v l h (by omega)
  rw [hb] at c
  have HV := Lib.hid h
  have HP : Hid (∀ (e : Ending) (w' : World), RowKit.Below w.heap.size w w' → ((InOrd (srt l) ∧ ∃ v, e = .returned (.tuple #[v, .int .i64 0]) ∧ Rw w' w.heap.size v (srt l) ∧ capOk v) ∨ (¬ InOrd (srt l) ∧ e = .returned (.tuple #[.slice none 0 0, .int .i64 63]))) → SortPost w l e w') := fun e w' h1 h2 => ⟨h1, h2⟩
  clear h hb
  go_enter Try.func12, Try.ntmps12
  go_wp2_with (fail)
  refine c.mono ?_
  rintro e w1 ⟨rfl, hb1⟩
  clear c
  have c28 := clone_any w1 v l (HV.out.below hb1 (Nat.le_refl _)) (by omega)
  clear HV
  go_wp2_with (fail)
  refine c28.mono ?_
  rintro e w2 ⟨v', rfl, hb2, hRw, hcap⟩
  clear c28
  have k2 := hb1.trans (hb2.mono hb1.size)
  rcases hRw with ⟨rfl, rfl⟩ | ⟨g, cap, rfl, hg, hgl, hH⟩
  · have cs := fun (f : Value) (W : World) => stable_nil 0 f W
    go_wp2_with (go_at_call 30; refine (cs _ _).mono ?_; rintro e w3 ⟨rfl, rfl⟩; clear cs)
    refine wp_loop_rounds 1 ?_
    rw [rounds_succ]
    go_wp2
    go_ret2
    refine HP.out _ _ ((k2.alloc k2.size _)) (.inl ⟨?_, _, rfl, .inl ⟨rfl, srt_nil⟩, Nat.le_refl 0⟩)
    intro i x y hx
    rw [srt_nil] at hx
    simp at hx
  · have HCAP := Lib.hid hcap
    clear hcap
    have hH2 := holds_tag hH
    have hsz : (tagL l).toArray.size = l.length := by rw [List.size_toArray, tagL_length]
    obtain ⟨W3, hW3⟩ : ∃ W, w2.alloc (.cells #[.func (.func 29) #[] #[]] 55) = W := ⟨_, rfl⟩
    obtain ⟨B3, hB3⟩ : ∃ b, w2.heap.size = b := ⟨_, rfl⟩
    have hl3 : B3 < W3.heap.size := by rw [← hW3, ← hB3]; simp
    have hgl3 : g < W3.heap.size := by rw [← hB3] at hl3; omega
    have hH3 : HoldsK enc 3 W3 g 0 (tagL l).toArray := by rw [← hW3, alloc_eq_grow]; exact holdsK_grow enc 3 w2 _ g 0 _ hgl hH2
    have hc3 : W3.cell? ⟨B3, 0, none⟩ = some (.func (.func 29) #[] #[]) := by rw [← hW3, ← hB3]; simp
    have cs := sortStable_any (tagL l).toArray B3 cap g 0 W3 hH3 hgl3 (by omega) hl3 hc3 (tag_up l) (by omega)
    have k3 : RowKit.Below w.heap.size w W3 := by rw [← hW3]; exact k2.alloc k2.size _
    have hg' : w.heap.size ≤ g := Nat.le_trans hb1.size hg
    have hpost : ∀ d' n os, PermIn 0 (tagL l).toArray.size (tagL l).toArray d' → SortedIn ltE 0 (tagL l).toArray.size d' →
        Rw (sortWorldK enc 3 W3 g 0 n d' os) w.heap.size (.slice (some ⟨g, 0, none⟩) l.length cap) (srt l) ∧ RowKit.Below w.heap.size w (sortWorldK enc 3 W3 g 0 n d' os) ∧
          (∀ i x, (srt l)[i]? = some x → (sortWorldK enc 3 W3 g 0 n d' os).cell? ⟨g, i * 3, none⟩ = some (.int .i64 x.fr) ∧ (sortWorldK enc 3 W3 g 0 n d' os).cell? ⟨g, i * 3 + 1, none⟩ = some (.int .i64 x.to)) := by
      intro d' n os h1 h2
      have hd := srt_of h1 h2
      have hsz' : d'.size = (tagL l).toArray.size := h1.1
      have hHd : HoldsK enc 3 (sortWorldK enc 3 W3 g 0 n d' os) g 0 (srt l).toArray := by
        rw [← hd]
        exact holdsK_sortWorldK_c enc 3 W3 g 0 _ d' n os hH3 hgl3 hsz'
      refine ⟨.inr ⟨g, cap, by rw [srt_length], hg', ?_, hHd⟩, k3.trans (below_sort hg' k3.size 0 n d' os), fun i x hx => ?_⟩
      · have := size_sortWorldK_c enc 3 W3 g 0 n d' os
        omega
      · obtain ⟨a0, a1, _⟩ := holds_rd hHd i x hx
        rw [Nat.zero_add] at a0 a1
        exact ⟨a0, a1⟩
    rw [hsz] at cs
    simp only [hsz] at hpost
    have HPO := Lib.hid hpost
    have HW3 := Lib.hid hW3
    have HB3 := Lib.hid hB3
    clear hpost hH hH2 hH3 hsz hc3 hW3 hB3 k2 hb1 hb2 hgl hl3 hgl3 k3
    go_wp2_with (fail)
    rw [HW3.out, HB3.out]
    refine cs.mono ?_
    rintro e w4 ⟨rfl, d', n, os, h1, h2, rfl⟩
    clear cs
    obtain ⟨hRw, kW, hRd⟩ := HPO.out d' n os h1 h2
    obtain ⟨W4, hW4⟩ : ∃ W, sortWorldK enc 3 W3 g 0 n d' os = W := ⟨_, rfl⟩
    rw [hW4] at hRw kW ⊢
    simp only [hW4] at hRd
    have HRw := Lib.hid hRw
    have HRd : Hid (∀ i x, (srt l)[i]? = some x → W4.cell? ⟨g, i * 3, none⟩ = some (.int .i64 x.fr) ∧ W4.cell? ⟨g, i * 3 + 1, none⟩ = some (.int .i64 x.to)) := hRd
    have HL : Hid ((srt l).length = l.length) := srt_length l
    clear hRw hRd h1 h2 hW4 HPO HW3
    have hnz : (l.length : Int) ≤ 100 := by omega
    go_wp2_with (fail)
    go_loopw [6] (fun iv wr => ∃ (m q : Nat), iv = .int .i64 ((m : Int) + 1) ∧ m ≤ l.length ∧ Hid (∀ (i : Nat) (x y : Ed), i < m → (srt l)[i]? = some x → (srt l)[i + 1]? = some y → x.to ≤ y.fr) ∧ wr = W4.drewN q) (fun iv _ => l.length + 1 - (intOf iv).toNat)
    case atStart => exact ⟨0, 0, rfl, Nat.zero_le _, fun i x y h0 => by omega, rfl⟩
    case round =>
      obtain ⟨m, q, rfl, hm, hord, rfl⟩ := hrel
      by_cases hlt : m + 1 < l.length
      · obtain ⟨x, hx⟩ : ∃ x, (srt l)[m]? = some x := ⟨_, List.getElem?_eq_getElem (by rw [HL.out]; omega)⟩
        obtain ⟨y, hy⟩ : ∃ y, (srt l)[m + 1]? = some y := ⟨_, List.getElem?_eq_getElem (by rw [HL.out]; omega)⟩
        have x1 : (W4.drewN q).cell? ⟨g, m * 3 + 1, none⟩ = some (.int .i64 x.to) := (HRd.out m x hx).2
        have y0 : (W4.drewN q).cell? ⟨g, (m + 1) * 3, none⟩ = some (.int .i64 y.fr) := (HRd.out (m + 1) y hy).1
        have hwp : IntKind.i64.wrap (m : Int) = (m : Int) := by rw [IntKind.wrap_i64]; omega
        have jz : (m : Int) + 1 < (l.length : Int) := by omega
        have jz1 : (m : Int) < (l.length : Int) := by omega
        have p0 : (0 : Int) ≤ (m : Int) + 1 := by omega
        have e0 : ((m : Int) + 1).toNat = m + 1 := by omega
        have HX := Lib.hid hx
        have HY := Lib.hid hy
        obtain ⟨wq, hwq⟩ : ∃ W, W4.drewN q = W := ⟨_, rfl⟩
        rw [hwq] at x1 y0 ⊢
        have HQ := Lib.hid hwq
        clear hx hy hlt hwq
        by_cases hxy : y.fr < x.to
        · have hd : decide (y.fr < x.to) = true := by simpa using hxy
          have HNo : Hid (¬ InOrd (srt l)) := fun ho => by
            have := ho m x y HX.out HY.out
            omega
          clear hxy
          go_wp2
          go_quiet (fail)
          go_wp2
          go_ret2
          exact HP.out _ _ (below_drewN (HQ.out ▸ below_drewN kW q) _) (.inr ⟨HNo.out, rfl⟩)
        · have hd : decide (y.fr < x.to) = false := by simpa using hxy
          have HO : Hid (∀ (i : Nat) (x y : Ed), i < m + 1 → (srt l)[i]? = some x → (srt l)[i + 1]? = some y → x.to ≤ y.fr) := by
            intro i x' y' hi hx' hy'
            rcases Nat.lt_or_ge i m with h5 | h5
            · exact hord.out i x' y' h5 hx' hy'
            · obtain rfl : i = m := by omega
              obtain rfl := Option.some.inj (HX.out.symm.trans hx')
              obtain rfl := Option.some.inj (HY.out.symm.trans hy')
              omega
          clear hxy
          go_wp2
          go_quiet (fail)
          go_wp2
          go_roundw
          case rel => exact ⟨m + 1, q + nq, by go_num, by omega, HO, by rw [← HQ.out, World.drewN_drewN]⟩
          case measure => simp [intOf]; omega
      · have hltz : ¬ ((m : Int) + 1 < (l.length : Int)) := by omega
        have HOk : Hid (InOrd (srt l)) := by
          intro i x y hx hy
          have h6 := (List.getElem?_eq_some_iff.1 hy).1
          rw [HL.out] at h6
          exact hord.out i x y (by omega) hx hy
        clear hlt
        go_wp2
        go_ret2
        exact HP.out _ _ (below_drewN kW q) (.inl ⟨HOk.out, _, rfl, HRw.out.drewN q, HCAP.out⟩)
end Go.Proofs.Ytinanagjoaaacaa
