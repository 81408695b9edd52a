/- The timer: contract of Stop. -/
import Derived.Test.YtnnbpmjcdcmigaaTimB
namespace Go.Proofs.Ytnnbpmjcdcmigaa.Line
open Go.RowKit HeapLaw

section
variable {w w' : World} {t r n : Nat} {v : Value} {l : List E} {f : Int → Option Value}
theorem zero3 (w : World) : (zeroValue 3).run Try.prog w = .ok (.int .i64 0) w := by kernel_rfl
theorem stop_none (h : Ln w t r v l f n) {id : Int} (hf : f id = none) : Calls Try.prog 11 #[.pointer (some ⟨t, 0, none⟩), .int .i64 id] w fun e w' => e = .returned (.bool false) ∧ w = w' := by
  have p1 := h.bx.cell 1
  have lt := h.bx.lt
  simp only [List.getElem?_toArray, List.getElem?_cons_zero, List.getElem?_cons_succ] at p1
  have HM := Lib.hid h.map
  have HF := Lib.hid hf
  clear h hf
  go_enter Try.func11, Try.ntmps11
  go_wp2_with (refine wpList_look rfl (.tmp 14) (.tmp 15) true rfl intK Try.underlying49 (zero3 _) HM.out id rfl rfl ?_; rw [HF.out])
  go_ret
  exact ⟨rfl, rfl⟩
theorem stop_yes {m i : Nat} {a : E} (h : Ln w t r v l f n) (hp : Place l f) (hl : l.length = m + 1) (hH : Heap (m + 1) l) (ha : l[i]? = some a) :
    Calls Try.prog 11 #[.pointer (some ⟨t, 0, none⟩), .int .i64 a.id] w fun e w' => e = .returned (.bool true) ∧ ∃ l', (l' ++ [a]).Perm l ∧ After w t r v l' w' := by
  have p1 := h.bx.cell 1
  have lt := h.bx.lt
  simp only [List.getElem?_toArray, List.getElem?_cons_zero, List.getElem?_cons_succ] at p1
  have HM := Lib.hid h.map
  have HF := Lib.hid (hp.1 i a ha)
  have HC := Lib.hid (rem_any h hp hl hH ha)
  clear h hp hl hH ha
  go_enter Try.func11, Try.ntmps11
  go_wp2_with (refine wpList_look rfl (.tmp 14) (.tmp 15) true rfl intK Try.underlying49 (zero3 _) HM.out a.id rfl rfl ?_; rw [HF.out])
  refine HC.out.mono ?_
  rintro e w1 ⟨rfl, hR⟩
  have HR := Lib.hid hR
  clear HC hR p1 lt
  go_wp2_with fail
  go_ret
  exact ⟨rfl, HR.out⟩
end
end Go.Proofs.Ytnnbpmjcdcmigaa.Line
