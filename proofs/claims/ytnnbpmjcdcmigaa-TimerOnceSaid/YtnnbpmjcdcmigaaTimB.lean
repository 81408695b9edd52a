/- The timer: contract of New. -/
import Derived.Test.YtnnbpmjcdcmigaaTim
namespace Go.Proofs.Ytnnbpmjcdcmigaa.Line
open Go.RowKit HeapLaw

theorem new_any (w : World) : Calls Try.prog 6 #[] w fun e w' => ∃ t r, e = .returned (.pointer (some ⟨t, 0, none⟩)) ∧ Ln w' t r (.slice none 0 0) [] (fun _ => none) 0 ∧ Below w.heap.size w w' ∧ w.heap.size ≤ t ∧ w.heap.size ≤ r := by
  have hmm := @run_makeMap Try.prog
  go_enter Try.func6, Try.ntmps6
  go_wp2_with fail
  go_ret
  refine ⟨_, w.heap.size, rfl, ⟨?_, Own.nil _ _, (MapIs.made _ w).alloc _, (Stm.made w).kept (F := none_) ((Kept.refl _ _).alloc _) (fun h => h), by simp⟩, ((Below.refl _ _).alloc (Nat.le_refl _) _).alloc (by simp) _, by simp, Nat.le_refl _⟩
  have := Blk.new (w.alloc (.map #[] 0)) 54 #[.slice none 0 0, .map (some w.heap.size)]
  simpa using this
end Go.Proofs.Ytnnbpmjcdcmigaa.Line
