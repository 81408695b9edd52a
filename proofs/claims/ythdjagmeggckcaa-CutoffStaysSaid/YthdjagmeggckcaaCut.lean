/- Contracts of cutoff.Come, cutoff.Gone, and of the reference's Come and Gone. -/
import Derived.Test.YthdjagmeggckcaaRows
import Derived.WalkKit
import Derived.BigQuiet
import Derived.Deep.QuietTactic
import Derived.WalkLawsBesides
namespace Go.Proofs.Ythdjagmeggckcaa.Cut
open Go.RowKit

def come (top lender : Int) (over : Bool) : Int :=
  if over = false then 1 else if 0 < lender then min top lender else top
def gone (top level : Int) (over empty : Bool) : Int :=
  if level ≤ top ∧ (over = true ∨ empty = true) then 9 else top

theorem come_any (top lender : Int) (over : Bool) (w : World) :
    Calls Try.prog 9 #[.int .i64 top, .int .i64 lender, .bool over] w fun e w' => e = .returned (.int .i64 (come top lender over)) ∧ w = w' := by
  cases over with
  | false =>
    go_enter Try.func9, Try.ntmps9
    go_wp2
    go_ret
    exact ⟨rfl, rfl⟩
  | true =>
    by_cases h : 0 < lender
    · have h' : decide (0 < lender) = true := by simpa using h
      go_enter Try.func9, Try.ntmps9
      go_wp2
      all_goals (go_ret; exact ⟨congrArg (fun n => Ending.returned (.int .i64 n)) (by unfold come; simp; try omega), rfl⟩)
    · have h' : decide (0 < lender) = false := by simpa using h
      go_enter Try.func9, Try.ntmps9
      go_wp2
      all_goals (go_ret; exact ⟨congrArg (fun n => Ending.returned (.int .i64 n)) (by unfold come; simp; try omega), rfl⟩)

theorem gone_any (top level : Int) (over empty : Bool) (w : World) :
    Calls Try.prog 10 #[.int .i64 top, .int .i64 level, .bool over, .bool empty] w fun e w' => e = .returned (.int .i64 (gone top level over empty)) ∧ w = w' := by
  by_cases h : level ≤ top
  · have h' : decide (level ≤ top) = true := by simpa using h
    cases over <;> cases empty <;>
    · go_enter Try.func10, Try.ntmps10
      go_wp2
      go_ret
      exact ⟨by simp [gone, h], rfl⟩
  · have h' : decide (level ≤ top) = false := by simpa using h
    go_enter Try.func10, Try.ntmps10
    go_wp2
    go_ret
    exact ⟨congrArg (fun n => Ending.returned (.int .i64 n)) (by unfold gone; rw [if_neg (by omega)]), rfl⟩

theorem lives_any (w : World) : Calls Try.prog 11 #[] w fun e w' => e = .returned (.bool true) ∧ w = w' := by
  go_enter Try.func11, Try.ntmps11
  go_wp2_with (first | (go_at_call 9; refine (come_any _ _ _ _).mono ?_; rintro e w' ⟨rfl, rfl⟩) | (go_at_call 10; refine (gone_any _ _ _ _ _).mono ?_; rintro e w' ⟨rfl, rfl⟩))
  go_ret
  exact ⟨rfl, rfl⟩
end Go.Proofs.Ythdjagmeggckcaa.Cut
