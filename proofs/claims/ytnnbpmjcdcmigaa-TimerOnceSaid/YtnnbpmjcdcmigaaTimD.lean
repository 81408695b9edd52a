/- The timer: contract of At. -/
import Derived.Test.YtnnbpmjcdcmigaaTimC
namespace Go.Proofs.Ytnnbpmjcdcmigaa.Line
open Go.RowKit HeapLaw

section
variable {w w' : World} {t r n : Nat} {v : Value} {l : List E} {f : Int → Option Value}
theorem at_none (h : Ln w t r v l f n) {id : Int} (hf : f id = none) : Calls Try.prog 15 #[.pointer (some ⟨t, 0, none⟩), .int .i64 id] w fun e w' => e = .returned (.tuple #[.int .i64 0, .bool false]) ∧ w = w' := by
  have p1 := h.bx.cell 1
  have lt := h.bx.lt
  simp only [List.getElem?_toArray, List.getElem?_cons_zero, List.getElem?_cons_succ] at p1
  have HM := Lib.hid h.map
  have HF := Lib.hid hf
  clear h hf
  go_enter Try.func15, Try.ntmps15
  go_wp2_with (refine wpList_look rfl (.tmp 15) (.tmp 16) true rfl intK Try.underlying49 (zero3 _) HM.out id rfl rfl ?_; rw [HF.out])
  go_ret2
  exact ⟨rfl, rfl⟩
theorem at_yes {i : Nat} {a : E} (h : Ln w t r v l f n) (hp : Place l f) (ha : l[i]? = some a) : Calls Try.prog 15 #[.pointer (some ⟨t, 0, none⟩), .int .i64 a.id] w fun e w' => e = .returned (.tuple #[.int .i64 a.at_, .bool true]) ∧ w = w' := by
  obtain ⟨g, c, rfl, hg, _, q0, q1⟩ := row_at h ha
  have p0 := h.bx.cell 0
  have p1 := h.bx.cell 1
  have lt := h.bx.lt
  have i0 : (0 : Int) ≤ (i : Int) := by omega
  have i1 : (i : Int) < (l.length : Int) := by have := (List.getElem?_eq_some_iff.1 ha).1; omega
  simp only [List.getElem?_toArray, List.getElem?_cons_zero, List.getElem?_cons_succ] at p0 p1
  have HM := Lib.hid h.map
  have HF := Lib.hid (hp.1 i a ha)
  clear h hp ha
  go_enter Try.func15, Try.ntmps15
  go_wp2_with (refine wpList_look rfl (.tmp 15) (.tmp 16) true rfl intK Try.underlying49 (zero3 _) HM.out a.id rfl rfl ?_; rw [HF.out])
  go_ret2
  exact ⟨rfl, rfl⟩
end
end Go.Proofs.Ytnnbpmjcdcmigaa.Line
