/- The timer: contract of Next. -/
import Derived.Test.YtnnbpmjcdcmigaaTimD
import Derived.Deep.QuietTactic
namespace Go.Proofs.Ytnnbpmjcdcmigaa.Line
open Go.RowKit HeapLaw

section
variable {w w' : World} {t r n : Nat} {v : Value} {l : List E} {f : Int → Option Value}
set_option maxHeartbeats 1000000 in
theorem next_some {a : E} (h : Ln w t r v l f n) (ha : l[0]? = some a) : Calls Try.prog 16 #[.pointer (some ⟨t, 0, none⟩)] w fun e w' => e = .returned (.tuple #[.int .i64 a.id, .int .i64 a.at_, .bool true]) ∧ Below w.heap.size w w' := by
  obtain ⟨g, c, rfl, hg, _, q0, q1⟩ := row_at h ha
  have p0 := h.bx.cell 0
  have lt := h.bx.lt
  have i1 : (0 : Int) < (l.length : Int) := by have := (List.getElem?_eq_some_iff.1 ha).1; omega
  have t1 : ((l.length : Int) == 0) = false := beq_eq_false_iff_ne.2 (by omega)
  simp only [List.getElem?_toArray, List.getElem?_cons_zero, Nat.zero_mul] at p0 q0 q1
  rw [Nat.zero_add] at q1
  have C := Lib.hid (tlen_any h)
  clear h ha
  go_enter Try.func16, Try.ntmps16
  go_wp2_with fail
  refine C.out.mono ?_
  rintro e w1 ⟨rfl, rfl⟩
  go_wp2_with fail
  go_quiet (fail)
  go_wp2_with fail
  go_ret3
  exact ⟨rfl, below_drewN ((Below.refl _ _).alloc (Nat.le_refl _) _) _⟩
end
end Go.Proofs.Ytnnbpmjcdcmigaa.Line
