/-
  slices.SortStableFunc at edits.
-/
import Derived.Test.YtinanagjoaaacaaW20
namespace Go.Proofs.Ytinanagjoaaacaa
open Go.RowKit Go.Shelf Go.Lib Go.Sort

abbrev TagUp (d : Array Ed) : Prop := ∀ p q, 0 ≤ p → p < q → q < d.size → d[p]!.tag < d[q]!.tag
abbrev cmpF (c : Nat) : Value := .func (.func 31) #[] #[.pointer (some ⟨c, 0, none⟩)]

theorem stable_any (d : Array Ed) (c cap blk off : Nat) (w : World) (hH : HoldsK enc 3 w blk off d) (hblk : blk < w.heap.size) (hcb : c ≠ blk) (hcl : c < w.heap.size)
    (hc : w.cell? ⟨c, 0, none⟩ = some (.func (.func 29) #[] #[])) (htag : TagUp d) (hn : d.size ≤ 1000000) :
    Calls Try.prog 39 #[.slice (some ⟨blk, off, none⟩) d.size cap, .int .i64 d.size, cmpF c] w fun e w' =>
      e = .returned (.tuple #[]) ∧ ∃ d' n os, PermIn 0 d.size d d' ∧ SortedIn ltE 0 d.size d' ∧ w' = sortWorldK enc 3 w blk off n d' os := by
  refine (st_k 3 Try.sizeOf37 w blk off cap c d ⟨enc_len, enc_one, hH, hblk⟩ (cmp_lays c blk off d.size w hcb hcl hc) hn htag).mono ?_
  rintro e w' ⟨he, d', h1, h2, n, os, hw⟩
  exact ⟨he, d', n, os, h1, h2, hw⟩

set_option maxRecDepth 100000 in
set_option maxHeartbeats 1000000 in
theorem sortStable_any (d : Array Ed) (c cap blk off : Nat) (w : World) (hH : HoldsK enc 3 w blk off d) (hblk : blk < w.heap.size) (hcb : c ≠ blk) (hcl : c < w.heap.size)
    (hc : w.cell? ⟨c, 0, none⟩ = some (.func (.func 29) #[] #[])) (htag : TagUp d) (hn : d.size ≤ 1000000) :
    Calls Try.prog 30 #[.slice (some ⟨blk, off, none⟩) d.size cap, cmpF c] w fun e w' =>
      e = .returned (.tuple #[]) ∧ ∃ d' n os, PermIn 0 d.size d d' ∧ SortedIn ltE 0 d.size d' ∧ w' = sortWorldK enc 3 w blk off n d' os := by
  have h := stable_any d c cap blk off w hH hblk hcb hcl hc htag hn
  clear hH htag hc
  go_enter Try.func30, Try.ntmps30
  go_wp2_with (go_at_call 39; refine h.mono ?_; rintro e w1 ⟨rfl, d', n, os, h1, h2, rfl⟩)
  go_end0
  exact ⟨rfl, d', n, os, h1, h2, rfl⟩

set_option maxRecDepth 100000 in
set_option maxHeartbeats 1000000 in
theorem stable_nil (cap : Nat) (f : Value) (w : World) :
    Calls Try.prog 30 #[.slice none 0 cap, f] w fun e w' => e = .returned (.tuple #[]) ∧ w' = w := by
  have h42 : Calls Try.prog 42 #[.slice none 0 cap, .int .i64 0, .int .i64 0, f] w fun e w' => e = .returned (.tuple #[]) ∧ w' = w := by
    go_enter Try.func42, Try.ntmps42
    go_wp2
    refine wp_loop_rounds 1 ?_
    rw [rounds_succ]
    go_wp2
    go_end0
    exact ⟨rfl, rfl⟩
  have h39 : Calls Try.prog 39 #[.slice none 0 cap, .int .i64 0, f] w fun e w' => e = .returned (.tuple #[]) ∧ w' = w := by
    go_enter Try.func39, Try.ntmps39
    go_wp2
    refine wp_loop_rounds 1 ?_
    rw [rounds_succ]
    go_wp2_with (go_at_call 42; refine h42.mono ?_; rintro e w1 ⟨rfl, rfl⟩)
    refine wp_loop_rounds 1 ?_
    rw [rounds_succ]
    go_wp2
    go_end0
    exact ⟨rfl, rfl⟩
  go_enter Try.func30, Try.ntmps30
  go_wp2_with (go_at_call 39; refine h39.mono ?_; rintro e w1 ⟨rfl, rfl⟩)
  go_end0
  exact ⟨rfl, rfl⟩
end Go.Proofs.Ytinanagjoaaacaa
