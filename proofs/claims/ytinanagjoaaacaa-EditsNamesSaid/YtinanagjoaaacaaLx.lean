/-
  A region whose operations may come up in the order of the text: the check, by numbers alone (no row of marks to be carried).
-/
import Derived.Test.YtinanagjoaaacaaW14
namespace Go.Proofs.Ytinanagjoaaacaa

def stepN (md : Region.Mode) (ops : Array Oper) (k : Nat) : Bool :=
  match ops[k]? with
  | none => false
  | some oi => oi.after.all (fun e => !Region.binds md e || Nat.blt e.on k) && (List.range ops.size).all fun j => Nat.ble j k || match ops[j]? with
      | some oj => oj.after.any (fun e => Region.binds md e && e.on == k) || oi.apart ops oj
      | none => true
def Marks (n k : Nat) (listed : Array Bool) : Prop := listed.size = n ∧ ∀ i d, i < n → listed.getD i d = decide (i < k)
theorem marks_step {n k : Nat} {listed : Array Bool} (h : Marks n k listed) : Marks n (k + 1) (listed.setIfInBounds k true) := by
  refine ⟨by simpa using h.1, fun i d hi => ?_⟩
  have h2 := h.2 i d hi
  have hs : i < listed.size := by rw [h.1]; exact hi
  simp only [Array.getD_eq_getD_getElem?] at h2 ⊢
  rw [Array.getElem?_setIfInBounds]
  by_cases hik : k = i
  · subst hik
    rw [if_pos rfl, if_pos hs]
    simp
  · rw [if_neg hik, h2]
    by_cases h3 : i < k
    · rw [decide_eq_true h3, decide_eq_true (by omega)]
    · rw [decide_eq_false h3, decide_eq_false (by omega)]
theorem lexFrom_of {md : Region.Mode} {ops : Array Oper} : ∀ (fuel k : Nat) (listed : Array Bool), k + fuel = ops.size → Marks ops.size k listed → (∀ i, i < ops.size → stepN md ops i = true) → Region.lexFrom md ops fuel k listed = true
  | 0, k, listed, hk, hm, _ => by
    unfold Region.lexFrom Region.ready
    rw [List.isEmpty_iff, List.filter_eq_nil_iff]
    intro i hi
    rw [List.mem_range] at hi
    rw [hm.2 i true hi, decide_eq_true (by omega)]
    simp
  | fuel + 1, k, listed, hk, hm, hs => by
    have hkn : k < ops.size := by omega
    have h := hs k hkn
    obtain ⟨oi, ho⟩ : ∃ o, ops[k]? = some o := ⟨_, Array.getElem?_eq_getElem hkn⟩
    unfold stepN at h
    rw [ho] at h
    simp only [Bool.and_eq_true] at h
    obtain ⟨h1, h2⟩ := h
    unfold Region.lexFrom
    rw [lexFrom_of fuel (k + 1) _ (by omega) (marks_step hm) hs, Bool.and_true, Bool.and_eq_true]
    constructor
    · unfold Region.ready
      rw [List.contains_iff_mem, List.mem_filter]
      refine ⟨List.mem_range.2 hkn, ?_⟩
      rw [hm.2 k true hkn, decide_eq_false (by omega), ho]
      simp only [Bool.not_false, Bool.true_and, Option.map_some, Option.getD_some]
      rw [Array.all_eq_true_iff_forall_mem] at h1 ⊢
      intro e he
      have := h1 e he
      rw [Bool.or_eq_true] at this ⊢
      rcases this with h3 | h3
      · exact .inl h3
      · have h4 : e.on < k := Nat.blt_eq ▸ h3
        exact .inr (by rw [hm.2 e.on false (by omega), decide_eq_true h4])
    · unfold Region.free
      rw [ho]
      dsimp only
      rw [List.all_eq_true] at h2 ⊢
      intro j hj
      have h3 := h2 j hj
      rw [List.mem_range] at hj
      rw [Bool.or_eq_true] at h3
      rw [Bool.or_eq_true, Bool.or_eq_true]
      rcases h3 with h3 | h3
      · have h4 : j ≤ k := Nat.ble_eq ▸ h3
        refine .inl ?_
        rcases Nat.lt_or_ge j k with h5 | h5
        · exact .inr (by rw [hm.2 j true hj, decide_eq_true h5])
        · exact .inl (beq_iff_eq.2 (by omega))
      · exact .inr h3
theorem lexB_of {md : Region.Mode} {ops : Array Oper} (h1 : Region.noSelect ops = true) (h2 : (List.range ops.size).all (stepN md ops) = true) : Region.lexB md ops = true := by
  unfold Region.lexB
  rw [h1, Bool.true_and]
  refine lexFrom_of ops.size 0 _ (by omega) ⟨by simp, fun i d hi => ?_⟩ (fun i hi => List.all_eq_true.1 h2 i (List.mem_range.2 hi))
  simp [hi]
end Go.Proofs.Ytinanagjoaaacaa
