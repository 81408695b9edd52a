/- The timer's line: what Push and Pop do to the map and to the row. -/
import Derived.Test.YtnnbpmjcdcmigaaHeapFix
namespace Go.Proofs.Ytnnbpmjcdcmigaa.Line
open Go.RowKit HeapLaw Go.MapKept

section
variable {w w' : World} {t r n N : Nat} {v : Value} {l : List E} {f : Int → Option Value}
theorem int_keys (h : MapIs (Value.int .i64) w r f n) {es : Array MapEntry} {clock : Nat} (hb : w.heap[r]? = some (.map es clock)) : ∀ x ∈ es.toList, IsKey (.int .i64) x.key := by
  obtain ⟨es', clock', hb', hk, _⟩ := h
  rw [hb] at hb'
  injection hb' with hb'
  injection hb' with e1 e2
  subst e1 e2
  intro x hx
  obtain ⟨i, hi⟩ := List.getElem?_of_mem hx
  obtain ⟨k, hk⟩ := hk i x (by simpa using hi)
  rw [hk]
  rfl
theorem stm_put (h : MapIs (Value.int .i64) w r f n) (hs : Stm w r) {k : Int} {u : Value} (hrun : (Instr.mapUpdate 49 (.map (some r)) (.int .i64 k) u).run Try.prog w = .ok () w') : Stm w' r := by
  obtain ⟨es, clock, hb, hst⟩ := hs
  obtain ⟨es', clock', h1, h2, _⟩ := mapUpdate_keeps (d := .int .i64) Try.underlying49 Try.underlying3 hb hst (int_keys h hb) (show IsKey (.int .i64) (.int .i64 k) from rfl) hrun
  exact ⟨es', clock', h1, h2⟩
theorem stm_del (h : MapIs (Value.int .i64) w r f n) (hs : Stm w r) {k : Int} {u : Value} {ty : TypeId} (hrun : (Builtin.delete_ #[49, 3] ty #[.map (some r), .int .i64 k]).run Try.prog w = .ok u w') : Stm w' r := by
  obtain ⟨es, clock, hb, hst⟩ := hs
  obtain ⟨es', clock', h1, h2, _⟩ := delete_keeps (d := .int .i64) Try.underlying49 Try.underlying3 hb hst (int_keys h hb) (show IsKey (.int .i64) (.int .i64 k) from rfl) hrun
  exact ⟨es', clock', h1, h2⟩

/-- One entry more. -/
theorem Place.push (h : Place l f) {e : E} (hnew : ∀ x ∈ l, x.id ≠ e.id) : Place (l ++ [e]) (upd f e.id (some (.int .i64 (l.length : Int)))) := by
  refine ⟨fun i x hi => ?_, fun d hd => ?_⟩
  · unfold upd
    by_cases hil : i < l.length
    · rw [List.getElem?_append_left hil] at hi
      rw [if_neg (hnew x (List.mem_of_getElem? hi))]
      exact h.1 i x hi
    · rw [List.getElem?_append_right (by omega)] at hi
      have : i - l.length = 0 := by
        have := (List.getElem?_eq_some_iff.1 hi).1
        simp at this
        omega
      rw [this] at hi
      simp at hi
      subst hi
      rw [if_pos rfl, show i = l.length by omega]
  · unfold upd
    rw [if_neg (Ne.symm (hd e (by simp)))]
    exact h.2 d fun x hx => hd x (by simp [hx])
/-- The last entry less. -/
theorem Place.pop {m : List E} {e : E} (h : Place (m ++ [e]) f) : Place m (upd f e.id none) := by
  have hlast : (m ++ [e])[m.length]? = some e := by simp
  have hne : ∀ (i : Nat) (x : E), m[i]? = some x → x.id ≠ e.id := fun i x hi he => by
    have hil := (List.getElem?_eq_some_iff.1 hi).1
    have := h.inj (i := i) (k := m.length) (by rw [List.getElem?_append_left hil]; exact hi) hlast he
    omega
  refine ⟨fun i x hi => ?_, fun d hd => ?_⟩
  · unfold upd
    rw [if_neg (hne i x hi)]
    exact h.1 i x (by rw [List.getElem?_append_left (List.getElem?_eq_some_iff.1 hi).1]; exact hi)
  · unfold upd
    split
    · rfl
    · rename_i hde
      exact h.2 d fun x hx => by
        rcases List.mem_append.1 hx with hx | hx
        · exact hd x hx
        · simp at hx; subst hx; exact Ne.symm hde

/-- The row without its last. -/
theorem own_pop {g c : Nat} {m : List E} {e : E} (h : Own w 0 56 2 E.enc (.slice (some ⟨g, 0, none⟩) (m ++ [e]).length c) (m ++ [e])) : Own w 0 56 2 E.enc (.slice (some ⟨g, 0, none⟩) m.length c) m := by
  obtain ⟨h1, h2⟩ := h
  rcases h2 with ⟨hv, _⟩ | ⟨g', cap, cur, hv, hg, hh, hnc, hcm, hcs, hx⟩
  · cases hv
  · injection hv with e1 e2 e3
    injection e1 with e1
    injection e1 with e1
    subst e1 e3
    rw [List.length_append, List.length_singleton] at hnc hx
    refine ⟨flat_length enc_len _, .inr ⟨g, c, cur, rfl, hg, hh, by omega, hcm, hcs, ?_⟩⟩
    have := congrArg (List.take (m.length * 2)) hx
    rw [List.take_take, Nat.min_eq_left (by omega), List.flatMap_append, List.take_append_of_le_length (by rw [flat_length enc_len]; exact Nat.le_refl _), show List.take (m.length * 2) (List.flatMap E.enc m) = List.flatMap E.enc m from List.take_of_length_le (by rw [flat_length enc_len]; exact Nat.le_refl _)] at this
    exact this

/-- A new entry in a row of its own. -/
theorem sl_new (w : World) (e : E) : Sl (w.alloc (.cells #[.int .i64 e.id, .int .i64 e.at_] 56)) 56 2 E.enc (.slice (some ⟨w.heap.size, 0, none⟩) 1 1) [e] := by
  refine ⟨_, 1, rfl, by simp, by unfold maxLen; omega, fun _ => ⟨w.heap.size, 0, _, (0, 0), rfl, heap_alloc_new w _, fun k x hk j u hu => ?_⟩⟩
  have hk0 : k = 0 := by have := (List.getElem?_eq_some_iff.1 hk).1; simp at this; exact this
  subst hk0
  simp at hk
  subst hk
  rw [(Blk.new w 56 #[.int .i64 e.id, .int .i64 e.at_]).cell, ← hu]
  simp [E.enc]
end
end Go.Proofs.Ytnnbpmjcdcmigaa.Line
