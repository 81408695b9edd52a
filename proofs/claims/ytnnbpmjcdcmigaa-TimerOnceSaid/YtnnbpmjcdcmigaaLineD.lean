/- The timer's line: contract of Pop. -/
import Derived.Test.YtnnbpmjcdcmigaaLineC
namespace Go.Proofs.Ytnnbpmjcdcmigaa.Line
open Go.RowKit HeapLaw Go.MapKept

section
variable {w w' : World} {t r n N : Nat} {v : Value} {m : List E} {e : E} {f : Int → Option Value}
def PoppedL (w : World) (t r : Nat) (v : Value) (m : List E) (e : E) (en : Ending) (w' : World) : Prop :=
  en = .returned (.iface 56 (.agg #[.int .i64 e.id, .int .i64 e.at_])) ∧ ∃ v' f' n', Ln w' t r v' m f' n' ∧ Place m f' ∧ Kept (fun j => j = t ∨ j = r) w w' ∧ v'.ownBlock = v.ownBlock

theorem pop_mem {g c : Nat} (h : Ln w t r (.slice (some ⟨g, 0, none⟩) (m ++ [e]).length c) (m ++ [e]) f n) :
    ∀ W2, W2 = (w.setCell ⟨t, 0, none⟩ (.slice (some ⟨g, 0, none⟩) m.length c)).alloc (.cells #[.int .i64 e.id, .int .i64 e.at_] 56) →
      Ln W2 t r (.slice (some ⟨g, 0, none⟩) m.length c) m f n ∧ Blk W2 w.heap.size 56 #[.int .i64 e.id, .int .i64 e.at_] ∧ Kept (fun j => j = t) w W2 := by
  rintro W2 rfl
  have K1 : Kept (fun j => j = t) w (w.setCell ⟨t, 0, none⟩ (.slice (some ⟨g, 0, none⟩) m.length c)) := Kept.setCell (F := fun j => j = t) (p := ⟨t, 0, none⟩) (Kept.refl _ _) (.inl rfl) _
  have hrt := h.map.ne_cells h.bx
  refine ⟨⟨?_, ((own_pop h.row).kept K1 (Off.one h.bx (by decide))).alloc _, (h.map.kept K1 hrt).alloc _, (h.stm.kept K1 hrt).kept (F := none_) ((Kept.refl _ _).alloc _) (fun h => h), by have := h.len; rw [List.length_append, List.length_singleton] at this; omega⟩, ?_, K1.alloc _⟩
  · have := (h.bx.set_ 0 (.slice (some ⟨g, 0, none⟩) m.length c)).alloc (.cells #[.int .i64 e.id, .int .i64 e.at_] 56)
    simpa using this
  · have := Blk.new (w.setCell ⟨t, 0, none⟩ (.slice (some ⟨g, 0, none⟩) m.length c)) 56 #[.int .i64 e.id, .int .i64 e.at_]
    simpa using this
theorem popped_end {g c : Nat} {W2 W4 : World} (K2 : Kept (fun j => j = t) w W2) (L2 : Ln W2 t r (.slice (some ⟨g, 0, none⟩) m.length c) m f n) (hP : Place (m ++ [e]) f) {n' : Nat} (hM : MapIs (Value.int .i64) W4 r (upd f e.id none) n') (hS : Stm W4 r) (hK : Kept (fun j => j = r) W2 W4) :
    PoppedL w t r (.slice (some ⟨g, 0, none⟩) (m ++ [e]).length c) m e (.returned (.iface 56 (.agg #[.int .i64 e.id, .int .i64 e.at_]))) W4 :=
  ⟨rfl, _, _, _, ⟨L2.bx.kept hK (Ne.symm (L2.map.ne_cells L2.bx)), L2.row.kept hK (off_map L2.map 56), hM, hS, L2.len⟩, hP.pop,
    by
      have k1 : Kept (fun j => j = t ∨ j = r) w W2 := K2.mono (fun j _ hj => .inl hj)
      exact k1.trans' hK (fun j hj => .inl (.inr hj)), rfl⟩

set_option maxRecDepth 100000 in
set_option maxHeartbeats 1000000 in
theorem pop_any (h : Ln w t r v (m ++ [e]) f n) (hp : Place (m ++ [e]) f) : Calls Try.prog 41 #[.pointer (some ⟨t, 0, none⟩)] w (PoppedL w t r v m e) := by
  have hlast : (m ++ [e])[m.length]? = some e := by simp
  obtain ⟨g, c, rfl, hg, hgt, q0, q1⟩ := row_at h hlast
  obtain ⟨g', c', cur, e', hB, _, hsz⟩ := row_blk h hlast
  have hcap := (h.row.sl enc_len).len
  obtain ⟨hc0, hc1, hc2⟩ := hcap
  rw [List.length_append, List.length_singleton] at hc1
  have p0 := h.bx.cell 0
  have p1 := h.bx.cell 1
  simp only [List.getElem?_toArray, List.getElem?_cons_zero, List.getElem?_cons_succ, List.length_append, List.length_singleton] at p0 p1
  have lt := h.bx.lt
  have fr := h.bx.frozen
  have i0 : (0 : Int) ≤ (m.length : Int) := by omega
  have i1 : (m.length : Int) < (m.length : Int) + 1 := by omega
  have i2 : (m.length : Int) ≤ (c : Int) := by omega
  have hlen := h.len
  rw [List.length_append, List.length_singleton] at hlen
  unfold maxLen at hc2
  have H := Lib.hid h
  have HP := Lib.hid hp
  have HB := Lib.hid hB
  clear h hp hB hsz hlast e' hc0
  go_enter Try.func41, Try.ntmps41
  go_wp2_with fail
  generalize hW : World.alloc _ _ = W2
  obtain ⟨L2, B2, K2⟩ := pop_mem H.out W2 hW.symm
  have hlt2 := Nat.lt_of_lt_of_le lt K2.size
  have M3 : MapIs (Value.int .i64) W2.drew r f n := L2.map.drew
  obtain ⟨W4, hrun, m4, k4⟩ := M3.run_del intK Try.underlying49 e.id 0
  have s4 := stm_del M3 L2.stm hrun
  have HE := Lib.hid (popped_end K2 L2 HP.out m4 s4 ((Kept.refl _ _).drew.trans k4))
  have b4 := (B2.kept ((Kept.refl (fun j => j = r) W2).drew.trans k4) (Ne.symm (L2.map.ne_cells B2)))
  have c0 := b4.cell 0
  have c1 := b4.cell 1
  have d0 := B2.cell 0
  have d1 := B2.cell 1
  have lb4 := b4.lt
  have lb2 := B2.lt
  have z1 := L2.bx.cell 1
  simp only [List.getElem?_toArray, List.getElem?_cons_zero, List.getElem?_cons_succ] at c0 c1 d0 d1 z1
  clear q0 q1 p0 p1 fr hW L2 B2 K2 M3 m4 k4 s4 b4 H HP HB
  refine wp_region_tail 6 (by kernel_rfl) (by kernel_rfl) fun W3 e3 => ?_
  subst e3
  simp only [List.take_succ_cons, List.take_zero, List.drop_succ_cons, List.drop_zero]
  repeat still_step
  refine wpStill_nil ?_
  go_wp2_with fail
  go_ret
  exact HE.out
end
end Go.Proofs.Ytnnbpmjcdcmigaa.Line
