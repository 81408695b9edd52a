/- Contracts of cutoff.Come, cutoff.Gone, and of the reference's Come and Gone. -/
import Derived.Test.YthdjagmeggckcaaArg
import Derived.WalkKit
import Derived.BigQuiet
import Derived.Deep.QuietTactic
import Derived.WalkLawsBesides
namespace Go.Proofs.Ythdjagmeggckcaa.Cut
open Go.RowKit

def come (top lender : Int) (over : Bool) : Int :=
  if over = false then 1 else if 0 < lender then min top lender else top
def gone (top level : Int) (over empty : Bool) : Int :=
  if level ≤ top ∧ (over = true ∨ empty = true) then 9 else top

theorem come_any (top lender : Int) (over : Bool) (w : World) :
    Calls Try.prog 9 #[.int .i64 top, .int .i64 lender, .bool over] w fun e w' => e = .returned (.int .i64 (come top lender over)) ∧ w = w' := by
  cases over with
  | false =>
    go_enter Try.func9, Try.ntmps9
    go_wp2
    go_ret
    exact ⟨rfl, rfl⟩
  | true =>
    by_cases h : 0 < lender
    · have h' : decide (0 < lender) = true := by simpa using h
      go_enter Try.func9, Try.ntmps9
      go_wp2
      all_goals (go_ret; exact ⟨congrArg (fun n => Ending.returned (.int .i64 n)) (by unfold come; simp; try omega), rfl⟩)
    · have h' : decide (0 < lender) = false := by simpa using h
      go_enter Try.func9, Try.ntmps9
      go_wp2
      all_goals (go_ret; exact ⟨congrArg (fun n => Ending.returned (.int .i64 n)) (by unfold come; simp; try omega), rfl⟩)

theorem gone_any (top level : Int) (over empty : Bool) (w : World) :
    Calls Try.prog 10 #[.int .i64 top, .int .i64 level, .bool over, .bool empty] w fun e w' => e = .returned (.int .i64 (gone top level over empty)) ∧ w = w' := by
  by_cases h : level ≤ top
  · have h' : decide (level ≤ top) = true := by simpa using h
    cases over <;> cases empty <;>
    · go_enter Try.func10, Try.ntmps10
      go_wp2
      go_ret
      exact ⟨by simp [gone, h], rfl⟩
  · have h' : decide (level ≤ top) = false := by simpa using h
    go_enter Try.func10, Try.ntmps10
    go_wp2
    go_ret
    exact ⟨congrArg (fun n => Ending.returned (.int .i64 n)) (by unfold gone; rw [if_neg (by omega)]), rfl⟩

theorem rcome_any (top lender : Int) (over : Bool) (w : World) :
    Calls Try.prog 12 #[.int .i64 top, .int .i64 lender, .bool over] w fun e w' => e = .returned (.int .i64 (come top lender over)) ∧ w = w' := by
  cases over with
  | false =>
    go_enter Try.func12, Try.ntmps12
    go_wp2
    go_ret
    exact ⟨rfl, rfl⟩
  | true =>
    by_cases h : lender ≤ 0
    · have h' : decide (lender ≤ 0) = true := by simpa using h
      go_enter Try.func12, Try.ntmps12
      go_wp2
      go_ret
      exact ⟨congrArg (fun n => Ending.returned (.int .i64 n)) (by unfold come; simp; omega), rfl⟩
    · have h' : decide (lender ≤ 0) = false := by simpa using h
      by_cases h2 : top ≤ lender
      · have h2' : decide (top ≤ lender) = true := by simpa using h2
        go_enter Try.func12, Try.ntmps12
        go_wp2
        go_ret
        exact ⟨congrArg (fun n => Ending.returned (.int .i64 n)) (by unfold come; simp; omega), rfl⟩
      · have h2' : decide (top ≤ lender) = false := by simpa using h2
        go_enter Try.func12, Try.ntmps12
        go_wp2
        go_ret
        exact ⟨congrArg (fun n => Ending.returned (.int .i64 n)) (by unfold come; simp; omega), rfl⟩

theorem rgone_any (top level : Int) (over empty : Bool) (w : World) :
    Calls Try.prog 13 #[.int .i64 top, .int .i64 level, .bool over, .bool empty] w fun e w' => e = .returned (.int .i64 (gone top level over empty)) ∧ w = w' := by
  by_cases h : top < level
  · have h' : decide (top < level) = true := by simpa using h
    go_enter Try.func13, Try.ntmps13
    go_wp2
    go_ret
    exact ⟨congrArg (fun n => Ending.returned (.int .i64 n)) (by unfold gone; rw [if_neg (by omega)]), rfl⟩
  · have h' : decide (top < level) = false := by simpa using h
    cases over <;> cases empty <;>
    · go_enter Try.func13, Try.ntmps13
      go_wp2
      go_ret
      exact ⟨congrArg (fun n => Ending.returned (.int .i64 n)) (by unfold gone; simp; try omega), rfl⟩

/-- An event, and its four cells. -/
structure Ev where
  kind : Int
  level : Int
  over : Bool
  empty : Bool
def Ev.enc (x : Ev) : List Value := [.int .i64 x.kind, .int .i64 x.level, .bool x.over, .bool x.empty]

theorem cells23 : Try.prog.cellsOf 23 = 4 := by kernel_rfl
theorem cells3 : Try.prog.cellsOf 3 = 1 := by kernel_rfl
theorem cells4 : Try.prog.cellsOf 4 = 1 := by kernel_rfl
theorem ev_dec {W : World} {cs : List Value} (h : Rd Try.prog W 23 cs) : ∃ x : Ev, x.enc = cs := by
  have hl := h.length Try.underlying23 cells23
  match cs, hl with
  | [a, b, c, d], _ =>
    have f0 : Rd Try.prog W 3 [a] := h.field Try.underlying23 0 rfl rfl rfl cells3
    have f1 : Rd Try.prog W 3 [b] := h.field Try.underlying23 1 rfl rfl rfl cells3
    have f2 : Rd Try.prog W 4 [c] := h.field Try.underlying23 2 rfl rfl rfl cells4
    have f3 : Rd Try.prog W 4 [d] := h.field Try.underlying23 3 rfl rfl rfl cells4
    obtain ⟨k, e0, _⟩ := f0.int Try.underlying3
    obtain ⟨l, e1, _⟩ := f1.int Try.underlying3
    obtain ⟨o, e2⟩ := f2.bool Try.underlying4
    obtain ⟨em, e3⟩ := f3.bool Try.underlying4
    simp only [List.cons.injEq, and_true] at e0 e1 e2 e3
    subst e0 e1 e2 e3
    exact ⟨⟨k, l, o, em⟩, rfl⟩

theorem lives_any (w : World) : Calls Try.prog 11 #[] w fun e w' => e = .returned (.bool true) ∧ w = w' := by
  go_enter Try.func11, Try.ntmps11
  go_wp2_with (first | (go_at_call 9; refine (come_any _ _ _ _).mono ?_; rintro e w' ⟨rfl, rfl⟩) | (go_at_call 10; refine (gone_any _ _ _ _ _).mono ?_; rintro e w' ⟨rfl, rfl⟩))
  go_ret
  exact ⟨rfl, rfl⟩
end Go.Proofs.Ythdjagmeggckcaa.Cut
