/- heap.Remove: its contract. -/
import Derived.Test.YtnnbpmjcdcmigaaHeapPush
namespace Go.Proofs.Ytnnbpmjcdcmigaa.Line
open Go.RowKit HeapLaw

section
variable {w w' : World} {t r n N m i : Nat} {v : Value} {l : List E} {a b e : E} {f : Int → Option Value}
theorem down_remove (h : Heap (m + 1) l) (hi : i < m) (ha : l[i]? = some a) : Down m (sw l i m a b) i false := by
  refine ⟨fun k h0 hk hki hpk => ?_, fun k h0 hk hpk hi0 => ?_, fun h => by cases h⟩
  · have hp := par_lt h0
    intro x y hx hy
    rw [sw_at hpk (by omega)] at hx
    rw [sw_at hki (by omega)] at hy
    exact h k h0 (by omega) x y hx hy
  · have hp := par_lt h0
    have hpi := par_lt hi0
    intro x y hx hy
    rw [sw_at (by omega) (by omega)] at hx
    rw [sw_at (by omega) (by omega)] at hy
    exact le_trans (h i hi0 (by omega) x a hx ha) (h k h0 (by omega) a y (by rw [hpk]; exact ha) hy)
theorem split_last (hl : l.length = m + 1) (hm : l[m]? = some a) : l = l.take m ++ [a] := by
  obtain ⟨h1, h2⟩ := List.getElem?_eq_some_iff.1 hm
  conv => lhs; rw [← List.take_append_drop m l]
  rw [List.drop_eq_getElem_cons h1, h2, List.drop_of_length_le (by omega)]
theorem heap_take (h : Heap m l) (hl : m ≤ l.length) : Heap (l.take m).length (l.take m) := by
  rw [List.length_take, Nat.min_eq_left hl]
  intro k h0 hk x y hx hy
  have hp := par_lt h0
  rw [List.getElem?_take, if_pos (by omega)] at hx
  rw [List.getElem?_take, if_pos hk] at hy
  exact h k h0 hk x y hx hy

/-- The last step: the end is taken off. -/
theorem rem_pop {w1 : World} {l2 : List E} {f2 : Int → Option Value} {n2 : Nat} (hl : l.length = m + 1) (h2 : l2.Perm l) (hm : l2[m]? = some a) (hH : Heap m l2) (hL : Ln w1 t r v l2 f2 n2) (hP : Place l2 f2) (hK : Kept (fun j => j = r ∨ v.ownBlock = some j) w w1) :
    Calls Try.prog 41 #[.pointer (some ⟨t, 0, none⟩)] w1 fun en w' => en = .returned (.iface 56 (.agg #[.int .i64 a.id, .int .i64 a.at_])) ∧ ∃ l', (l' ++ [a]).Perm l ∧ After w t r v l' w' := by
  have hl2 : l2.length = m + 1 := by rw [h2.length_eq, hl]
  have hs := split_last hl2 hm
  have hH' := heap_take hH (by omega)
  rw [hs] at hL hP
  refine (pop_any hL hP).mono ?_
  rintro en w' ⟨he, v', f', n', k1, k2, k3, k4⟩
  refine ⟨he, l2.take m, by rw [← hs]; exact h2, v', f', n', k1, k2, hH', ?_⟩
  have q1 : Kept (fun j => j = t ∨ j = r ∨ v.ownBlock = some j) w w1 := hK.mono (fun _ _ h => .inr h)
  exact ⟨q1.trans' k3 (fun j h => .inl (h.elim .inl (fun h => .inr (.inl h)))), .inl k4⟩
end
end Go.Proofs.Ytnnbpmjcdcmigaa.Line
