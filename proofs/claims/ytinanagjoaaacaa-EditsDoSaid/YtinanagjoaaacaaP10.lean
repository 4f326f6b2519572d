/-
  Plain: the stable sort's blocks.
-/
import Derived.Test.YtinanagjoaaacaaP9
namespace Go.Proofs.Ytinanagjoaaacaa
open Go.Sort

theorem dvd_gap {n p a : Nat} (h1 : n ∣ p) (h2 : n ∣ a) (h3 : p < a) : p + n ≤ a := by
  obtain ⟨i, rfl⟩ := h1
  obtain ⟨j, rfl⟩ := h2
  have : i < j := Nat.lt_of_mul_lt_mul_left h3
  have := Nat.mul_le_mul_left n (show i + 1 ≤ j from this)
  rw [Nat.mul_add, Nat.mul_one] at this
  exact this
/-- All ahead of c were handed in ahead of all from c on. -/
def Sep (c : Nat) (d : Array Ed) : Prop := ∀ x y, x < c → c ≤ y → y < d.size → d[x]!.tag < d[y]!.tag
theorem sep_perm {p e c : Nat} {d d' : Array Ed} (h : PermIn p e d d') (he : e ≤ d.size) (hc : c ≤ p ∨ e ≤ c) (hs : Sep c d) : Sep c d' := by
  intro x y hx hy hyd
  rw [h.1] at hyd
  rcases hc with hc | hc
  · rw [h.2.1 x (.inl (by omega))]
    by_cases h1 : p ≤ y ∧ y < e
    · exact permIn_all d d' p e (fun z => d[x]!.tag < z.tag) he h (fun i q1 q2 => hs x i hx (by omega) (by omega)) y h1.1 h1.2
    · rw [h.2.1 y (by omega)]
      exact hs x y hx hy hyd
  · rw [h.2.1 y (.inr (by omega))]
    by_cases h1 : p ≤ x ∧ x < e
    · exact permIn_all d d' p e (fun z => z.tag < d[y]!.tag) he h (fun i q1 q2 => hs i y (by omega) hy hyd) x h1.1 h1.2
    · rw [h.2.1 x (by omega)]
      exact hs x y hx hy hyd
theorem sorted_out {p e q r : Nat} {d d' : Array Ed} (h : PermIn p e d d') (ho : r ≤ p ∨ e ≤ q) (hs : SortedIn ltE q r d) : SortedIn ltE q r d' :=
  sorted_eq (fun k h1 h2 => h.2.1 k (by omega)) hs
/-- Every block of B is sorted. -/
structure Done (B : Nat) (d0 dk : Array Ed) : Prop where
  perm : PermIn 0 d0.size d0 dk
  sep : ∀ c, B ∣ c → Sep c dk
  srt : ∀ p, B ∣ p → SortedIn ltE p (min (p + B) d0.size) dk
/-- The insertion sorts have come to a. -/
structure First (a : Nat) (d0 dk : Array Ed) : Prop where
  perm : PermIn 0 d0.size d0 dk
  eq : ∀ x, a ≤ x → dk[x]! = d0[x]!
  sep : ∀ c, 20 ∣ c → Sep c dk
  srt : ∀ p, 20 ∣ p → p < a → SortedIn ltE p (min (p + 20) d0.size) dk
theorem first_start {d : Array Ed} (h : ∀ p q, 0 ≤ p → p < q → q < d.size → d[p]!.tag < d[q]!.tag) : First 0 d d :=
  ⟨permIn_refl _ _ _, fun _ _ => rfl, fun c _ x y h1 h2 h3 => h x y (Nat.zero_le _) (by omega) h3, fun p _ h1 => by omega⟩
theorem first_up {a : Nat} {d0 dk : Array Ed} (F : First a d0 dk) (h : ∀ p q, 0 ≤ p → p < q → q < d0.size → d0[p]!.tag < d0[q]!.tag) {b : Nat} (hb : b ≤ d0.size) : ∀ p q, a ≤ p → p < q → q < b → dk[p]!.tag < dk[q]!.tag := by
  intro p q h1 h2 h3
  rw [F.eq p h1, F.eq q (by omega)]
  exact h p q (Nat.zero_le _) h2 (by omega)
theorem first_step {a : Nat} {d0 dk dk' : Array Ed} (F : First a d0 dk) (ha : 20 ∣ a) (hb : a + 20 ≤ d0.size) (hp : PermIn a (a + 20) dk dk') (hs : SortedIn ltE a (a + 20) dk') : First (a + 20) d0 dk' := by
  have hz := F.perm.1
  refine ⟨permIn_trans _ _ _ 0 d0.size F.perm (permIn_mono _ _ a (a + 20) 0 d0.size (Nat.zero_le _) hb (by omega) hp), fun x hx => ?_, fun c hc => ?_, fun p h1 h2 => ?_⟩
  · rw [hp.2.1 x (.inr hx), F.eq x (by omega)]
  · exact sep_perm hp (by omega) (by omega) (F.sep c hc)
  · by_cases hpa : p = a
    · subst hpa
      rw [Nat.min_eq_left hb]
      exact hs
    · exact sorted_out hp (.inl (by omega)) (F.srt p h1 (by omega))
theorem first_last {a : Nat} {d0 dk dk' : Array Ed} (F : First a d0 dk) (ha : 20 ∣ a) (had : a ≤ d0.size) (hb : d0.size < a + 20) (hp : PermIn a d0.size dk dk') (hs : SortedIn ltE a d0.size dk') : Done 20 d0 dk' := by
  have hz := F.perm.1
  refine ⟨permIn_trans _ _ _ 0 d0.size F.perm (permIn_mono _ _ a d0.size 0 d0.size (Nat.zero_le _) (Nat.le_refl _) (by omega) hp), fun c hc => ?_, fun p h1 => ?_⟩
  · exact sep_perm hp (by omega) (by omega) (F.sep c hc)
  · by_cases hpa : p = a
    · subst hpa
      rw [Nat.min_eq_right (by omega)]
      exact hs
    · by_cases hlt : p < a
      · exact sorted_out hp (.inl (by omega)) (F.srt p h1 hlt)
      · exact fun i j q1 q2 q3 => by omega
/-- The merging of the blocks of B has come to a. -/
structure Pass (B a : Nat) (d0 dk : Array Ed) : Prop where
  perm : PermIn 0 d0.size d0 dk
  sepB : ∀ c, B ∣ c → a ≤ c → Sep c dk
  sep2 : ∀ c, 2 * B ∣ c → Sep c dk
  lo : ∀ p, 2 * B ∣ p → p < a → SortedIn ltE p (min (p + 2 * B) d0.size) dk
  hi : ∀ p, B ∣ p → a ≤ p → SortedIn ltE p (min (p + B) d0.size) dk
theorem dvd_two {B c : Nat} (h : 2 * B ∣ c) : B ∣ c := Nat.dvd_trans (Nat.dvd_mul_left B 2) h
theorem pass_start {B : Nat} {d0 dk : Array Ed} (h : Done B d0 dk) : Pass B 0 d0 dk :=
  ⟨h.perm, fun c hc _ => h.sep c hc, fun c hc => h.sep c (dvd_two hc), fun p _ q => by omega, fun p hp _ => h.srt p hp⟩
theorem pass_halves {B a e : Nat} {d0 dk : Array Ed} (F : Pass B a d0 dk) (hB : 0 < B) (ha : 2 * B ∣ a) (he : e = min (a + 2 * B) d0.size) (h : a + B < e) : Halves a (a + B) e dk := by
  have hz := F.perm.1
  have hd : B ∣ a + B := Nat.dvd_add (dvd_two ha) (Nat.dvd_refl B)
  have h1 := F.hi a (dvd_two ha) (Nat.le_refl _)
  have h2 := F.hi (a + B) hd (by omega)
  rw [Nat.min_eq_left (by omega)] at h1
  rw [show min (a + B + B) d0.size = e from by omega] at h2
  exact ⟨by omega, h, by omega, h1, h2, fun x y q1 q2 q3 q4 => F.sepB (a + B) hd (by omega) x y q2 q3 (by omega)⟩
theorem pass_step {B a : Nat} {d0 dk dk' : Array Ed} (F : Pass B a d0 dk) (hB : 0 < B) (ha : 2 * B ∣ a) (hb : a + 2 * B ≤ d0.size) (hp : PermIn a (a + 2 * B) dk dk') (hs : SortedIn ltE a (a + 2 * B) dk') : Pass B (a + 2 * B) d0 dk' := by
  have hz := F.perm.1
  refine ⟨permIn_trans _ _ _ 0 d0.size F.perm (permIn_mono _ _ a (a + 2 * B) 0 d0.size (Nat.zero_le _) hb (by omega) hp), fun c hc h1 => ?_, fun c hc => ?_, fun p h1 h2 => ?_, fun p h1 h2 => ?_⟩
  · exact sep_perm hp (by omega) (.inr h1) (F.sepB c hc (by omega))
  · refine sep_perm hp (by omega) ?_ (F.sep2 c hc)
    by_cases hlt : c ≤ a
    · exact .inl hlt
    · exact .inr (dvd_gap ha hc (by omega))
  · by_cases hpa : p = a
    · subst hpa
      rw [Nat.min_eq_left hb]
      exact hs
    · by_cases hlt : p < a
      · have := dvd_gap h1 ha hlt
        exact sorted_out hp (.inl (by omega)) (F.lo p h1 hlt)
      · have := dvd_gap ha h1 (by omega)
        omega
  · exact sorted_out hp (.inr h2) (F.hi p h1 (by omega))
theorem pass_last {B a : Nat} {d0 dk dk' : Array Ed} (F : Pass B a d0 dk) (hB : 0 < B) (ha : 2 * B ∣ a) (had : a ≤ d0.size) (hb : d0.size < a + 2 * B) (hp : PermIn a d0.size dk dk') (hs : SortedIn ltE a d0.size dk') : Done (2 * B) d0 dk' := by
  have hz := F.perm.1
  refine ⟨permIn_trans _ _ _ 0 d0.size F.perm (permIn_mono _ _ a d0.size 0 d0.size (Nat.zero_le _) (Nat.le_refl _) (by omega) hp), fun c hc => ?_, fun p h1 => ?_⟩
  · refine sep_perm hp (by omega) ?_ (F.sep2 c hc)
    by_cases hlt : c ≤ a
    · exact .inl hlt
    · have := dvd_gap ha hc (by omega)
      exact .inr (by omega)
  · by_cases hpa : p = a
    · subst hpa
      rw [Nat.min_eq_right (by omega)]
      exact hs
    · by_cases hlt : p < a
      · have := dvd_gap h1 ha hlt
        exact sorted_out hp (.inl (by omega)) (F.lo p h1 hlt)
      · have := dvd_gap ha h1 (by omega)
        exact fun i j q1 q2 q3 => by omega
/-- One block alone is left: it is sorted. -/
theorem pass_one {B a : Nat} {d0 dk : Array Ed} (F : Pass B a d0 dk) (ha : 2 * B ∣ a) (h : d0.size ≤ a + B) : SortedIn ltE a d0.size dk := by
  have h1 := F.hi a (dvd_two ha) (Nat.le_refl _)
  rw [Nat.min_eq_right h] at h1
  exact h1
theorem done_all {B : Nat} {d0 dk : Array Ed} (h : Done B d0 dk) (hB : d0.size ≤ B) : SortedIn ltE 0 d0.size dk := by
  have := h.srt 0 (Nat.dvd_zero B)
  rw [Nat.zero_add, Nat.min_eq_right hB] at this
  exact this
end Go.Proofs.Ytinanagjoaaacaa
