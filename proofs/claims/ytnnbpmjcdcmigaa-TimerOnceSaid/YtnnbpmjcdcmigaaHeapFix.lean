/- heap.Fix: its contract. -/
import Derived.Test.YtnnbpmjcdcmigaaHeapDown
namespace Go.Proofs.Ytnnbpmjcdcmigaa.Line
open Go.RowKit HeapLaw

section
variable {w w' : World} {t r n N : Nat} {v : Value} {l : List E} {f : Int → Option Value}
theorem Moved.trans {w1 w2 : World} {l1 l2 : List E} (h : Moved w t r v l n N l1 w1) (k : Moved w1 t r v l1 n N l2 w2) : Moved w t r v l n N l2 w2 := by
  obtain ⟨f1, _, _, a3, a4, a5⟩ := h
  obtain ⟨f2, b1, b2, b3, b4, b5⟩ := k
  exact ⟨f2, b1, b2, b3.trans a3, fun q hq => (b4 q hq).trans (a4 q hq), a5.trans b5⟩
theorem Moved.len {l1 : List E} (h : Moved w t r v l n N l1 w') : l1.length = l.length := by
  obtain ⟨_, _, _, a3, _⟩ := h
  exact a3.length_eq

set_option maxRecDepth 100000 in
set_option maxHeartbeats 1000000 in
theorem fix_any (h : Ln w t r v l f n) (hp : Place l f) {i : Nat} (hi : i < l.length) (hD : Down l.length l i false) :
    Calls Try.prog 18 #[.iface 58 (.pointer (some ⟨t, 0, none⟩)), .int .i64 (i : Int)] w fun e w' => e = .returned (.tuple #[]) ∧ ∃ l', Moved w t r v l n l.length l' w' ∧ Heap l.length l' := by
  have HC := Lib.hid (len_any h)
  have HC2 := Lib.hid (down_any h hp (Nat.le_of_lt hi) (Nat.le_refl _) hD)
  have hm1 := len_m t
  have HI := Lib.hid hi
  clear h hp hD hi
  go_enter Try.func18, Try.ntmps18
  go_wp2_with fail
  refine HC.out.mono ?_
  rintro e w1 ⟨rfl, rfl⟩
  go_wp2_with fail
  refine HC2.out.mono ?_
  rintro e w2 ⟨m, l', rfl, hM, h1, h2⟩
  have HM := Lib.hid hM
  have H1 := Lib.hid h1
  have H2 := Lib.hid h2
  clear hM h1 h2 HC HC2
  cases m with
  | true =>
    go_wp2_with fail
    refine bodyPost_end (results_none rfl _ _ _) rfl ?_
    exact ⟨rfl, l', HM.out, H1.out (by trivial)⟩
  | false =>
    obtain ⟨f', a1, a2, a3, a4, a5⟩ := HM.out
    have hll := a3.length_eq
    have HC3 := Lib.hid (up_any (N := l.length) a1 a2 HI.out (by omega) (H2.out rfl))
    clear a1 a2 a3 a4 a5 hll
    go_wp2_with fail
    refine HC3.out.mono ?_
    rintro e w3 ⟨rfl, l2, hM2, hH⟩
    have HM2 := Lib.hid hM2
    have HH := Lib.hid hH
    clear hM2 hH HC3
    go_wp2_with fail
    refine bodyPost_end (results_none rfl _ _ _) rfl ?_
    exact ⟨rfl, l2, HM.out.trans HM2.out, HH.out⟩
end
end Go.Proofs.Ytnnbpmjcdcmigaa.Line
