/-
  Plain: the merging's general case.
-/
import Derived.Test.YtinanagjoaaacaaP8
namespace Go.Proofs.Ytinanagjoaaacaa
open Go.Sort

/-- Where the search for the cut begins. -/
structure Mid (a m b mid lo hi : Nat) : Prop where
  a2 : a + 2 ≤ m
  b2 : m + 2 ≤ b
  md : mid = (a + b) / 2
  cs : (mid < m ∧ lo + b = mid + m ∧ hi = mid) ∨ (m ≤ mid ∧ lo = a ∧ hi = m)
theorem Mid.in {a m b mid lo hi : Nat} (h : Mid a m b mid lo hi) {c : Nat} (h1 : lo ≤ c) (h2 : c < hi) : a ≤ c ∧ c < m ∧ m + c < mid + m ∧ mid + m ≤ b + c := by
  have h3 := h.a2
  have h4 := h.b2
  have h5 := h.md
  rcases h.cs with ⟨p, q, r⟩ | ⟨p, q, r⟩
  · omega
  · omega
theorem gen_cut {a m b mid lo hi s e : Nat} {d : Array Ed} (H : Halves a m b d) (M : Mid a m b mid lo hi) (h1 : lo ≤ s) (h2 : s ≤ hi) (he : e + s = mid + m)
    (i1 : s = lo ∨ ltE d[e]! d[s - 1]! = false) (i2 : s = hi ∨ ltE d[e - 1]! d[s]! = true) : Cut a s m e b d := by
  have h3 := M.a2
  have h4 := M.b2
  have h5 := M.md
  have h6 := M.cs
  refine ⟨by omega, by omega, by omega, by omega, fun x y p q r t => ?_, fun x y p q r t => ?_⟩
  · rcases i1 with i1 | i1
    · omega
    · have k1 : x = s - 1 ∨ leE d[x]! d[s - 1]! = true := by
        by_cases hx : x = s - 1
        · exact .inl hx
        · exact .inr ((ltE_false _ _).1 (H.l x (s - 1) p (by omega) (by omega)))
      have k2 : y = e ∨ leE d[e]! d[y]! = true := by
        by_cases hy : y = e
        · exact .inl hy
        · exact .inr ((ltE_false _ _).1 (H.r e y (by omega) (by omega) t))
      rw [ltE_false, leE_iff] at i1 ⊢
      rw [leE_iff] at k1 k2
      rcases k1 with k1 | k1
      · subst k1
        rcases k2 with k2 | k2
        · subst k2; exact i1
        · omega
      · rcases k2 with k2 | k2
        · subst k2; omega
        · omega
  · rcases i2 with i2 | i2
    · omega
    · have k1 : x = s ∨ leE d[s]! d[x]! = true := by
        by_cases hx : x = s
        · exact .inl hx
        · exact .inr ((ltE_false _ _).1 (H.l s x (by omega) (by omega) q))
      have k2 : y = e - 1 ∨ leE d[y]! d[e - 1]! = true := by
        by_cases hy : y = e - 1
        · exact .inl hy
        · exact .inr ((ltE_false _ _).1 (H.r y (e - 1) r (by omega) (by omega)))
      rw [ltE_iff] at i2
      rw [ltE_false, leE_iff]
      rw [leE_iff] at k1 k2
      rcases k1 with k1 | k1
      · subst k1
        rcases k2 with k2 | k2
        · subst k2; omega
        · omega
      · rcases k2 with k2 | k2
        · subst k2; omega
        · omega
/-- What the inner mergings are handed, what they hand back. -/
structure Mrg (a m b : Nat) (d d' : Array Ed) : Prop where
  perm : PermIn a b d d'
  sort : SortedIn ltE a b d'
theorem sorted_eq {p q : Nat} {d d' : Array Ed} (h : ∀ k, p ≤ k → k < q → d'[k]! = d[k]!) (hs : SortedIn ltE p q d) : SortedIn ltE p q d' := fun i j h1 h2 h3 => by
  rw [h i h1 (by omega), h j (by omega) h3]
  exact hs i j h1 h2 h3
theorem gen_left {a s m e b : Nat} {d d1 : Array Ed} (H : Halves a m b d) (hc : Cut a s m e b d) (hr : RotIs s m e d d1) (h1 : a < s) (h2 : s < s + (e - m)) : Halves a s (s + (e - m)) d1 := by
  obtain ⟨⟨s1, s2, s3, s4⟩, hx⟩ := cut_done hc hr H.l H.r
  have c1 := hc.h1
  have c2 := hc.h2
  have c3 := hc.h3
  have c4 := hc.h4
  have hb := H.h3
  refine ⟨h1, h2, by rw [hr.size]; omega, s1, s2, fun x y p q r t => ?_⟩
  have ex := hr.get x
  have ey := hr.get y
  rw [if_neg (by omega), if_neg (by omega)] at ex
  rw [if_pos (by omega)] at ey
  rw [ex, ey]
  exact H.tag _ _ p (by omega) (by omega) (by omega)
theorem gen_right {a s m e b : Nat} {d d1 d2 : Array Ed} (H : Halves a m b d) (hc : Cut a s m e b d) (hr : RotIs s m e d d1) (hp : PermIn a (s + (e - m)) d1 d2) (h1 : s + (e - m) < e) (h2 : e < b) : Halves (s + (e - m)) e b d2 := by
  obtain ⟨⟨s1, s2, s3, s4⟩, hx⟩ := cut_done hc hr H.l H.r
  have c1 := hc.h1
  have c2 := hc.h2
  have c3 := hc.h3
  have c4 := hc.h4
  have hb := H.h3
  have hk : ∀ k, s + (e - m) ≤ k → d2[k]! = d1[k]! := fun k h => hp.2.1 k (.inr h)
  refine ⟨h1, h2, by rw [hp.1, hr.size]; exact hb, sorted_eq (fun k p _ => hk k p) s3, sorted_eq (fun k p _ => hk k (by omega)) s4, fun x y p q r t => ?_⟩
  rw [hk x p, hk y (by omega)]
  have ex := hr.get x
  have ey := hr.get y
  rw [if_neg (by omega), if_pos (by omega)] at ex
  rw [if_neg (by omega), if_neg (by omega)] at ey
  rw [ex, ey]
  exact H.tag _ _ (by omega) (by omega) (by omega) t
theorem gen_done {a s m e b : Nat} {d d1 d2 d3 : Array Ed} (H : Halves a m b d) (hc : Cut a s m e b d) (hr : RotIs s m e d d1) (hp : PermIn a b d d1) (m1 : PermIn a (s + (e - m)) d1 d2) (o1 : SortedIn ltE a (s + (e - m)) d2) (m2 : PermIn (s + (e - m)) b d2 d3) (o2 : SortedIn ltE (s + (e - m)) b d3) : PermIn a b d d3 ∧ SortedIn ltE a b d3 := by
  obtain ⟨_, hx⟩ := cut_done hc hr H.l H.r
  have c1 := hc.h1
  have c2 := hc.h2
  have c3 := hc.h3
  have c4 := hc.h4
  have hb := H.h3
  have z1 := hr.size
  have z2 := m1.1
  obtain ⟨q, hq⟩ : ∃ q, s + (e - m) = q := ⟨_, rfl⟩
  have hqa : a ≤ q := by omega
  have hqb : q ≤ b := by omega
  rw [hq] at hx m1 o1 m2 o2
  have hlow : ∀ k, k < q → d3[k]! = d2[k]! := fun k h => m2.2.1 k (.inl h)
  have hup : ∀ k, q ≤ k → d2[k]! = d1[k]! := fun k h => m1.2.1 k (.inr h)
  refine ⟨permIn_trans _ _ _ a b hp (permIn_trans _ _ _ a b (permIn_mono _ _ a q a b (Nat.le_refl _) hqb (by omega) m1) (permIn_mono _ _ q b a b hqa (Nat.le_refl _) (by omega) m2)), join_sorted (sorted_eq (fun k _ h => hlow k h) o1) o2 (fun x y p t u v => ?_)⟩
  rw [hlow x t]
  refine permIn_all d2 d3 q b (fun z => ltE z d2[x]! = false) (by omega) m2 (fun k h1 h2 => ?_) y u v
  rw [hup k h1]
  exact permIn_all d1 d2 a q (fun z => ltE d1[k]! z = false) (by omega) m1 (fun k2 h3 h4 => hx k2 k h3 h4 h1 h2) x p t
end Go.Proofs.Ytinanagjoaaacaa
