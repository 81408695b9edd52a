/- The timer's line: contract of Push. -/
import Derived.Test.YtnnbpmjcdcmigaaLineD
import Derived.Deep.RegionLaw
namespace Go.Proofs.Ytnnbpmjcdcmigaa.Line
open Go.RowKit HeapLaw Go.MapKept

section
variable {w w' : World} {t r n N : Nat} {v : Value} {l : List E} {e : E} {f : Int → Option Value}
def PushedL (w : World) (t r : Nat) (v : Value) (l : List E) (e : E) (w' : World) : Prop :=
  ∃ v' f' n', Ln w' t r v' (l ++ [e]) f' n' ∧ Place (l ++ [e]) f' ∧ Kept (fun j => j = t ∨ j = r ∨ v.ownBlock = some j) w w' ∧ (v'.ownBlock = v.ownBlock ∨ ∃ g, v'.ownBlock = some g ∧ w.heap.size ≤ g)

theorem info56 : (Try.prog.info? 56).map (fun i => (i.zero, i.size, i.bytes)) = some (some (.agg #[.int .i64 0, .int .i64 0]), 2, 16) := by kernel_rfl
theorem info_parts' {P : Program} {t : TypeId} {z : Value} {s b : Nat} (h : (P.info? t).map (fun i => (i.zero, i.size, i.bytes)) = some (some z, s, b)) : ∃ i, P.info? t = some i ∧ i.zero = some z ∧ i.size = s ∧ i.bytes = b := by
  cases hi : P.info? t with
  | none => rw [hi] at h; cases h
  | some i => rw [hi] at h; simp at h; exact ⟨i, rfl, h.1, h.2.1, h.2.2⟩
theorem ent_one (e : E) : ∀ u ∈ E.enc e, u.oneCell' = true := by simp [E.enc, Value.oneCell']
theorem new_cell_ent (w : World) (g : Nat) (hg : w.heap.size = g) (e : E) : ∀ j u, (E.enc e)[j]? = some u → (w.alloc (.cells #[.int .i64 e.id, .int .i64 e.at_] 56)).cell? ⟨g, j, none⟩ = some u := by
  subst hg
  intro j u hu
  rw [(Blk.new w 56 #[.int .i64 e.id, .int .i64 e.at_]).cell j, ← hu]
  exact List.getElem?_toArray
theorem push_end {A : Option Addr} {c n3 : Nat} {W3 w5 : World} {f3 : Int → Option Value} {v1 : Value} (L3 : Ln W3 t r (.slice A l.length c) l f3 n3) (hown : Own w5 0 56 2 E.enc v1 (l ++ [e]))
    (hgrow : (W3.drew.alloc (.cells #[.int .i64 e.id, .int .i64 e.at_] 56)).grownBy w5 (Value.ownBlock (.slice A l.length c))) (hlen : l.length < 199) :
    Blk w5 t 54 #[.slice A l.length c, .map (some r)] ∧ Ln (w5.setCell ⟨t, 0, none⟩ v1) t r v1 (l ++ [e]) f3 n3 ∧ Kept (fun j => j = t ∨ Value.ownBlock (.slice A l.length c) = some j) W3 (w5.setCell ⟨t, 0, none⟩ v1) := by
  have hW : Own (W3.drew.alloc (.cells #[.int .i64 e.id, .int .i64 e.at_] 56)) 0 56 2 E.enc (.slice A l.length c) l := L3.row.drew.alloc _
  have B5 : Blk w5 t 54 #[.slice A l.length c, .map (some r)] := hW.grown_blk hgrow (L3.bx.drew.alloc _) (by decide)
  have kg : Kept (fun j => Value.ownBlock (.slice A l.length c) = some j) W3 w5 :=
    (((Kept.refl none_ W3).drew.alloc (.cells #[.int .i64 e.id, .int .i64 e.at_] 56)).mono (G := fun j => Value.ownBlock (.slice A l.length c) = some j) (fun _ _ h => h.elim)).trans' (Kept.grown (F := fun i => Value.ownBlock (.slice A l.length c) = some i) hgrow (fun q hq => .inl hq)) (fun i h => .inl h)
  have hr : ¬ (Value.ownBlock (.slice A l.length c) = some r) := by
    obtain ⟨_, h2⟩ := L3.row
    rcases h2 with ⟨hv, _⟩ | ⟨g, cap, cur, hv, _, hh, _⟩
    · rw [hv]; simp [Value.ownBlock]
    · rw [hv]
      intro hq
      simp [Value.ownBlock] at hq
      subst hq
      obtain ⟨es, clock, hb, _⟩ := L3.map
      rw [hh] at hb
      cases hb
  have hrt := L3.map.ne_cells L3.bx
  have k1 : Kept (fun j => j = t ∨ Value.ownBlock (.slice A l.length c) = some j) W3 w5 := kg.mono (fun _ _ h => .inr h)
  have k2 : Kept (fun j => j = t ∨ Value.ownBlock (.slice A l.length c) = some j) W3 (w5.setCell ⟨t, 0, none⟩ v1) := Kept.setCell (p := ⟨t, 0, none⟩) k1 (.inl (.inl rfl)) v1
  refine ⟨B5, ⟨by simpa using B5.set_ 0 v1, hown.far (p := ⟨t, 0, none⟩) B5 (by decide) v1, (L3.map.kept kg hr).far (p := ⟨t, 0, none⟩) hrt v1, L3.stm.kept k2 (fun h => h.elim hrt hr), by simp; omega⟩, k2⟩
theorem assert_m (x : Value) (w : World) : (Instr.typeAssert (.iface 56 x) 20 56 false).run Try.prog w = .ok x w := by kernel_rfl

set_option maxRecDepth 100000 in
set_option maxHeartbeats 1000000 in
theorem push_any (h : Ln w t r v l f n) (hp : Place l f) (hnew : ∀ x ∈ l, x.id ≠ e.id) (hl : l.length < 199) :
    Calls Try.prog 42 #[.pointer (some ⟨t, 0, none⟩), .iface 56 (.agg #[.int .i64 e.id, .int .i64 e.at_])] w fun en w' => en = .returned (.tuple #[]) ∧ PushedL w t r v l e w' := by
  obtain ⟨A, c, rfl⟩ := h.row.form
  have W1K : Kept none_ w (w.alloc (.cells #[.int .i64 e.id, .int .i64 e.at_] 56)) := (Kept.refl _ _).alloc _
  have L1 := h.ext W1K
  have B1 := Blk.new w 56 #[.int .i64 e.id, .int .i64 e.at_]
  have M1 : MapIs (Value.int .i64) (w.alloc (.cells #[.int .i64 e.id, .int .i64 e.at_] 56)).drew r f n := L1.map.drew
  obtain ⟨W3, hrun, m3, k3⟩ := M1.run_put intK Try.underlying49 e.id (.int .i64 (l.length : Int))
  have s3 := stm_put M1 L1.stm hrun
  have k3' : Kept (fun j => j = r) (w.alloc (.cells #[.int .i64 e.id, .int .i64 e.at_] 56)) W3 := (Kept.refl _ _).drew.trans k3
  have hrt := h.map.ne_cells h.bx
  have L3 : Ln W3 t r (.slice A l.length c) l (upd f e.id (some (.int .i64 (l.length : Int)))) _ := ⟨L1.bx.kept k3' (Ne.symm hrt), L1.row.kept k3' (off_map L1.map 56), m3, s3, L1.len⟩
  have B3 := B1.kept k3' (Ne.symm (L1.map.ne_cells B1))
  have p0 := L1.bx.cell 0
  have p1 := L1.bx.cell 1
  have d0 := B1.cell 0
  have d1 := B1.cell 1
  have x0 := L3.bx.cell 0
  have y0 := B3.cell 0
  have y1 := B3.cell 1
  have fr := L3.bx.frozen
  have lt := L1.bx.lt
  have lt3 := L3.bx.lt
  have lb := B1.lt
  have lb3 := B3.lt
  simp only [List.getElem?_toArray, List.getElem?_cons_zero, List.getElem?_cons_succ] at p0 p1 d0 d1 x0 y0 y1
  have HL3 := Lib.hid L3
  have HP := Lib.hid hp
  have HN := Lib.hid hnew
  have HB3 := Lib.hid B3
  have HK := Lib.hid (W1K.mono (G := fun j => j = r) (fun _ _ h => h.elim) |>.trans k3')
  clear h hp hnew L1 B1 M1 m3 k3 s3 k3' hrt L3 B3 W1K
  have hta := assert_m (.agg #[.int .i64 e.id, .int .i64 e.at_])
  generalize hW : World.alloc w _ = W1 at *
  go_enter Try.func42, Try.ntmps42
  go_wp2_with fail
  refine wp_region_tail 11 (by kernel_rfl) (by kernel_rfl) fun W2 e2 => ?_
  subst e2
  simp only [List.take_succ_cons, List.take_zero, List.drop_succ_cons, List.drop_zero]
  repeat still_step
  refine wpStill_nil ?_
  go_wp2_with fail
  obtain ⟨j0, hj, hy0, hy1, hy2⟩ := info_parts' info56
  clear p0 p1 d0 d1 lt lb hrun hW hta
  go_region_law (refine step_append_sl _ (by rfl) (.tmp 22) (.tmp 24) 50 (by rfl) 0 56 j0 (.agg #[.int .i64 0, .int .i64 0]) 2 16 Try.underlying50 hj hy0 hy1 hy2 rfl (by decide) enc_len ent_one (.slice A l.length c) l (by rfl) (HL3.out.row.alloc _).drew _ [e] (by rfl) (sl_new W3 e).drew (by unfold maxLen; simp; omega) (by simp; omega) (Nat.zero_le _) ?_; intro v1 w5 hown hgrow hat; have HPE := Lib.hid (push_end HL3.out hown hgrow hl); have HAT := Lib.hid hat; obtain ⟨A1, n1, c1, rfl⟩ := hown.form'; have b0 := HPE.out.1.cell 0; have fr5 := HPE.out.1.frozen; have lt5 := HPE.out.1.lt; simp only [List.getElem?_toArray, List.getElem?_cons_zero] at b0; clear hown hgrow hat)
  all_goals
    have HL6 := Lib.hid HPE.out.2.1
    have HK6 := Lib.hid HPE.out.2.2
    clear HPE
    go_wp2_with fail
    refine bodyPost_end (results_none rfl _ _ _) rfl ?_
    refine ⟨rfl, _, _, _, HL6.out, HP.out.push HN.out, ?_, ?_⟩
    · have k1 : Kept (fun j => j = t ∨ j = r ∨ Value.ownBlock (.slice A l.length c) = some j) w W3 := HK.out.mono (fun _ _ h => .inr (.inl h))
      exact k1.trans' HK6.out (fun j h => .inl (h.elim .inl (fun h => .inr (.inr h))))
    · rcases HAT.out with h | h
      · exact .inl h
      · exact .inr ⟨_, h, by have := HK.out.size; simp; omega⟩
end
end Go.Proofs.Ytnnbpmjcdcmigaa.Line
