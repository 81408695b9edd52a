/- The timer: contract of Set. -/
import Derived.Test.YtnnbpmjcdcmigaaTimE
import Derived.Test.YtnnbpmjcdcmigaaTimLaw
namespace Go.Proofs.Ytnnbpmjcdcmigaa.Line
open Go.RowKit HeapLaw

section
variable {w w' : World} {t r n : Nat} {v : Value} {l : List E} {f : Int → Option Value}
theorem flat_set1 {k : Nat} {a : E} (ha : l[k]? = some a) (at_ : Int) : (l.set k ⟨a.id, at_⟩).flatMap E.enc = ((l.flatMap E.enc).set (k * 2 + 1) (.int .i64 at_) : List Value) := by
  have hk := (List.getElem?_eq_some_iff.1 ha).1
  have h0 := flat_get enc_len l k a ha 0 (.int .i64 a.id) rfl
  rcases flat_set l k ⟨a.id, at_⟩ with h | h
  · rw [h]
    congr 1
    obtain ⟨h1, h2⟩ := List.getElem?_eq_some_iff.1 h0
    simp only [Nat.add_zero] at h1 h2
    rw [← h2]
    exact List.set_getElem_self h1
  · omega
theorem own_set1 {g c : Nat} (h : Own w 0 56 2 E.enc (.slice (some ⟨g, 0, none⟩) l.length c) l) {k : Nat} {a : E} (ha : l[k]? = some a) (at_ : Int) :
    Own (w.setCell ⟨g, k * 2 + 1, none⟩ (.int .i64 at_)) 0 56 2 E.enc (.slice (some ⟨g, 0, none⟩) l.length c) (l.set k ⟨a.id, at_⟩) := by
  obtain ⟨h1, h2⟩ := h
  rcases h2 with ⟨hv, _⟩ | ⟨g', cap, cur, hv, hg, hh, hnc, hcm, hcs, hx⟩
  · cases hv
  · injection hv with e1 e2 e3
    injection e1 with e1
    injection e1 with e1
    subst e1 e3
    have hB : Blk w g 56 cur := hh
    have hB2 := hB.set_ (k * 2 + 1) (.int .i64 at_)
    refine ⟨flat_length enc_len _, .inr ⟨g, c, _, by simp, hg, hB2, by simpa using hnc, hcm, by simpa using hcs, ?_⟩⟩
    rw [flat_set1 ha, ← hx, List.length_set, Array.toList_setIfInBounds, List.take_set]
theorem down_set {i : Nat} {a : E} (h : Heap l.length l) (ha : l[i]? = some a) (e : E) : Down (l.set i e).length (l.set i e) i false := by
  have hi := (List.getElem?_eq_some_iff.1 ha).1
  rw [List.length_set]
  refine ⟨fun k h0 hk hki hpk => ?_, fun k h0 hk hpk hi0 => ?_, fun h => by cases h⟩
  · intro x y hx hy
    rw [List.getElem?_set_ne (Ne.symm hpk)] at hx
    rw [List.getElem?_set_ne (Ne.symm hki)] at hy
    exact h k h0 hk x y hx hy
  · have hp := par_lt h0
    have hpi := par_lt hi0
    intro x y hx hy
    rw [List.getElem?_set_ne (by omega)] at hx
    rw [List.getElem?_set_ne (by omega)] at hy
    exact le_trans (h i hi0 hi x a hx ha) (h k h0 hk a y (by rw [hpk]; exact ha) hy)
theorem place_set {i : Nat} {a : E} (h : Place l f) (ha : l[i]? = some a) (at_ : Int) : Place (l.set i ⟨a.id, at_⟩) f := by
  have hi := (List.getElem?_eq_some_iff.1 ha).1
  refine ⟨fun k x hx => ?_, fun d hd => ?_⟩
  · by_cases hk : i = k
    · subst hk
      rw [List.getElem?_set_self hi] at hx
      injection hx with hx
      subst hx
      exact h.1 i a ha
    · rw [List.getElem?_set_ne hk] at hx
      exact h.1 k x hx
  · refine h.2 d fun x hx => ?_
    obtain ⟨k, hk, rfl⟩ := List.getElem_of_mem hx
    by_cases hik : i = k
    · subst hik
      have := hd ⟨a.id, at_⟩ (List.mem_of_getElem? (List.getElem?_set_self hi))
      have e : a = l[i] := by rw [List.getElem?_eq_getElem hk] at ha; injection ha with ha; exact ha.symm
      rw [← e]
      exact this
    · exact hd _ (List.mem_of_getElem? (i := k) (by rw [List.getElem?_set_ne hik]; exact List.getElem?_eq_getElem hk))
theorem set_mem {g c i : Nat} {a : E} (h : Ln w t r (.slice (some ⟨g, 0, none⟩) l.length c) l f n) (ha : l[i]? = some a) (at_ : Int) :
    Ln (w.setCell ⟨g, i * 2 + 1, none⟩ (.int .i64 at_)) t r (.slice (some ⟨g, 0, none⟩) l.length c) (l.set i ⟨a.id, at_⟩) f n ∧ Kept (fun j => j = g) w (w.setCell ⟨g, i * 2 + 1, none⟩ (.int .i64 at_)) := by
  obtain ⟨g', c', cur, e, hB, hgt, _⟩ := row_blk h ha
  injection e with e
  injection e with e
  injection e with e
  subst e
  have K : Kept (fun j => j = g) w (w.setCell ⟨g, i * 2 + 1, none⟩ (.int .i64 at_)) := Kept.setCell (F := fun j => j = g) (p := ⟨g, i * 2 + 1, none⟩) (Kept.refl _ _) (.inl rfl) _
  have hrg : r ≠ g := h.map.ne_cells hB
  exact ⟨⟨h.bx.kept K (Ne.symm hgt), own_set1 h.row ha at_, h.map.kept K hrg, h.stm.kept K hrg, by simpa using h.len⟩, K⟩

set_option maxRecDepth 100000 in
set_option maxHeartbeats 1000000 in
theorem set_old {i : Nat} {a : E} (h : Ln w t r v l f n) (hp : Place l f) (hH : Heap l.length l) (ha : l[i]? = some a) (at_ : Int) :
    Calls Try.prog 8 #[.pointer (some ⟨t, 0, none⟩), .int .i64 a.id, .int .i64 at_] w fun e w' => e = .returned (.tuple #[]) ∧ ∃ l', l'.Perm (l.set i ⟨a.id, at_⟩) ∧ After w t r v l' w' := by
  obtain ⟨g, c, rfl, hg, _, q0, q1⟩ := row_at h ha
  obtain ⟨_, _, cur, e, hB, _⟩ := row_blk h ha
  injection e with e
  injection e with e
  injection e with e
  subst e
  have p0 := h.bx.cell 0
  have p1 := h.bx.cell 1
  have lt := h.bx.lt
  have fr := hB.frozen
  have i0 : (0 : Int) ≤ (i : Int) := by omega
  have i1 : (i : Int) < (l.length : Int) := by have := (List.getElem?_eq_some_iff.1 ha).1; omega
  simp only [List.getElem?_toArray, List.getElem?_cons_zero, List.getElem?_cons_succ] at p0 p1
  have HM := Lib.hid h.map
  have HF := Lib.hid (hp.1 i a ha)
  obtain ⟨L1, K1⟩ := set_mem h ha at_
  have C := fix_any L1 (place_set hp ha at_) (i := i) (by simpa using (List.getElem?_eq_some_iff.1 ha).1) (down_set hH ha _)
  have HC := Lib.hid C
  have HK := Lib.hid K1
  clear h hp hH ha hB L1 K1 C
  go_enter Try.func8, Try.ntmps8
  go_wp2_with (refine wpList_look rfl (.tmp 15) (.tmp 16) true rfl intK Try.underlying49 (zero3 _) HM.out a.id rfl rfl ?_; rw [HF.out])
  refine HC.out.mono ?_
  rintro e w2 ⟨rfl, l', ⟨f', a1, a2, a3, a4, a5⟩, hH'⟩
  have hR : After w t r (.slice (some ⟨g, 0, none⟩) l.length c) l' w2 := ⟨_, f', _, a1, a2, by rw [a3.length_eq]; exact hH', HK.out.mono (G := fun j => j = t ∨ j = r ∨ Value.ownBlock (.slice (some ⟨g, 0, none⟩) l.length c) = some j) (fun j _ e => .inr (.inr (by rw [e]; rfl))) |>.trans' a5 (fun j e => .inl (.inr e)), .inl rfl⟩
  have HR := Lib.hid hR
  have HPM := Lib.hid a3
  clear hR a1 a2 a3 a4 a5 hH' HC
  go_wp2_with fail
  refine bodyPost_ret (results_none rfl _ _ _) rfl ?_
  exact ⟨rfl, l', HPM.out, HR.out⟩

set_option maxRecDepth 100000 in
set_option maxHeartbeats 1000000 in
theorem set_new {id : Int} (h : Ln w t r v l f n) (hp : Place l f) (hH : Heap l.length l) (hnew : ∀ x ∈ l, x.id ≠ id) (hl : l.length < 199) (at_ : Int) :
    Calls Try.prog 8 #[.pointer (some ⟨t, 0, none⟩), .int .i64 id, .int .i64 at_] w fun e w' => e = .returned (.tuple #[]) ∧ ∃ l', l'.Perm (l ++ [⟨id, at_⟩]) ∧ After w t r v l' w' := by
  have p1 := h.bx.cell 1
  have lt := h.bx.lt
  simp only [List.getElem?_toArray, List.getElem?_cons_zero, List.getElem?_cons_succ] at p1
  have HM := Lib.hid h.map
  have HF := Lib.hid (hp.2 id hnew)
  have h' := h.ext ((Kept.refl none_ w).alloc (.cells #[.int .i64 id, .int .i64 at_] 56))
  have B := Blk.new w 56 #[.int .i64 id, .int .i64 at_]
  have HC := Lib.hid (hpush_any (e := ⟨id, at_⟩) h hp hH hnew hl)
  clear h h' hp hH hnew B
  go_enter Try.func8, Try.ntmps8
  go_wp2_with (refine wpList_look rfl (.tmp 15) (.tmp 16) true rfl intK Try.underlying49 (zero3 _) HM.out id rfl rfl ?_; rw [HF.out])
  refine HC.out.mono ?_
  rintro e w1 ⟨rfl, hR⟩
  have HR := Lib.hid hR
  clear HC hR p1 lt
  go_wp2_with fail
  refine bodyPost_end (results_none rfl _ _ _) rfl ?_
  exact ⟨rfl, HR.out⟩
end
end Go.Proofs.Ytnnbpmjcdcmigaa.Line
