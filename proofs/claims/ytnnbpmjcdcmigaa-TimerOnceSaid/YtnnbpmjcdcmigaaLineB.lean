/- The timer's line: contract of Swap. -/
import Derived.Test.YtnnbpmjcdcmigaaLine
namespace Go.Proofs.Ytnnbpmjcdcmigaa.Line
open Go.RowKit

section
variable {w w' : World} {t r n : Nat} {v : Value} {l : List E} {f : Int → Option Value} {F : Nat → Prop}
theorem row_blk (h : Ln w t r v l f n) {i : Nat} {a : E} (hi : l[i]? = some a) : ∃ g c cur, v = .slice (some ⟨g, 0, none⟩) l.length c ∧ Blk w g 56 cur ∧ g ≠ t ∧ l.length * 2 ≤ cur.size := by
  obtain ⟨h1, h2⟩ := h.row
  rcases h2 with ⟨rfl, hn⟩ | ⟨g, cap, cur, rfl, _, hh, hnc, hcm, hcs, hx⟩
  · have : l = [] := List.eq_nil_of_length_eq_zero hn
    subst this; simp at hi
  · refine ⟨g, cap, cur, rfl, hh, ?_, by omega⟩
    rintro rfl
    exact Blk.ne_ h.bx (cs' := cur) hh (by decide) rfl

theorem flat_set : ∀ (l : List E) (k : Nat) (e : E), (l.set k e).flatMap E.enc = (((l.flatMap E.enc).set (k * 2) (.int .i64 e.id)).set (k * 2 + 1) (.int .i64 e.at_) : List Value) ∨ l.length ≤ k
  | [], k, e => .inr (by simp)
  | x :: l, 0, e => .inl (by simp [E.enc])
  | x :: l, k + 1, e => by
    rcases flat_set l k e with h | h
    · refine .inl ?_
      rw [List.set_cons_succ, List.flatMap_cons, List.flatMap_cons, h, show (k + 1) * 2 = k * 2 + 2 by omega]
      simp [E.enc]
    · exact .inr (by simp; omega)
/-- An entry of the row written. -/
theorem own_set {g c : Nat} (h : Own w 0 56 2 E.enc (.slice (some ⟨g, 0, none⟩) l.length c) l) {k : Nat} (hk : k < l.length) (e : E) :
    Own ((w.setCell ⟨g, k * 2, none⟩ (.int .i64 e.id)).setCell ⟨g, k * 2 + 1, none⟩ (.int .i64 e.at_)) 0 56 2 E.enc (.slice (some ⟨g, 0, none⟩) l.length c) (l.set k e) := by
  obtain ⟨h1, h2⟩ := h
  rcases h2 with ⟨hv, _⟩ | ⟨g', cap, cur, hv, hg, hh, hnc, hcm, hcs, hx⟩
  · cases hv
  · injection hv with e1 e2 e3
    injection e1 with e1
    injection e1 with e1
    subst e1 e3
    have hB : Blk w g 56 cur := hh
    have hB2 := (hB.set_ (k * 2) (.int .i64 e.id)).set_ (k * 2 + 1) (.int .i64 e.at_)
    refine ⟨flat_length enc_len _, .inr ⟨g, c, _, by simp, hg, hB2, by simpa using hnc, hcm, by simpa using hcs, ?_⟩⟩
    rcases flat_set l k e with hf | hf
    · rw [hf, ← hx, List.length_set, Array.toList_setIfInBounds, Array.toList_setIfInBounds, List.take_set, List.take_set]
    · omega

theorem own_swap {g c : Nat} (h : Own w 0 56 2 E.enc (.slice (some ⟨g, 0, none⟩) l.length c) l) {i k : Nat} (hi : i < l.length) (hk : k < l.length) (a b : E) :
    Own ((((w.setCell ⟨g, i * 2, none⟩ (.int .i64 b.id)).setCell ⟨g, i * 2 + 1, none⟩ (.int .i64 b.at_)).setCell ⟨g, k * 2, none⟩ (.int .i64 a.id)).setCell ⟨g, k * 2 + 1, none⟩ (.int .i64 a.at_)) 0 56 2 E.enc (.slice (some ⟨g, 0, none⟩) l.length c) ((l.set i b).set k a) := by
  have h1 := own_set h hi b
  have h2 : Own ((w.setCell ⟨g, i * 2, none⟩ (.int .i64 b.id)).setCell ⟨g, i * 2 + 1, none⟩ (.int .i64 b.at_)) 0 56 2 E.enc (.slice (some ⟨g, 0, none⟩) (l.set i b).length c) (l.set i b) := by rw [List.length_set]; exact h1
  have h3 := own_set h2 (k := k) (by rw [List.length_set]; exact hk) a
  rw [List.length_set] at h3
  exact h3
end

section
variable {κ : Type} {kv : κ → Value} {w : World} {r n : Nat} {f : κ → Option Value} {P : Program} {kt et mt : TypeId} {ops : Array Oper} {o : Oper} {a : Act} {K : Act → World → Prop} {Q : Exit → Act → World → Prop} {E' : Prop}
theorem step_entry (hgd : o.guard = none) (m x : Operand) (hop : o.op = Op.mapEntry mt m x) (KO : KeyOk P kt kv) (hm : P.underlying mt = some (.map kt et)) (h : MapIs kv w r f n) {k : κ} (hf : (f k).isSome = true)
    (e1 : a.eval m = .map (some r)) (e2 : a.eval x = kv k) (hK : ∀ (v : Value) (b : Nat), StampAt kv w r k b → K (a.put o.dst (.tuple #[v, .int .i64 b])) w) :
    if Region.wanted o (yielded ops a.tmps) = true then Oper.wp P o a w K Q else E' := by
  have hw : Region.wanted o (yielded ops a.tmps) = true := by simp [Region.wanted, hgd]
  rw [if_pos hw]
  obtain ⟨v, hv⟩ := Option.isSome_iff_exists.1 hf
  obtain ⟨b, hrun, hs⟩ := h.run_entry KO hm hv
  unfold Oper.wp
  simp [execOp, hop, e1, e2, hrun, Result.andThen]
  exact hK _ _ hs
theorem step_estore [DecidableEq κ] (hgd : o.guard = none) (m s x : Operand) (hop : o.op = Op.entryStore mt m s x) (KO : KeyOk P kt kv) (hm : P.underlying mt = some (.map kt et)) (h : MapIs kv w r f n) (hst : Stm w r) {k : κ} {b : Nat} (hsa : StampAt kv w r k b) (u : Value)
    (e1 : a.eval m = .map (some r)) (e2 : a.eval s = .int .i64 b) (e3 : a.eval x = u)
    (hK : ∀ w', MapIs kv w' r (upd f k (some u)) n → Stm w' r → Kept (· = r) w w' → (∀ k' b', StampAt kv w r k' b' → StampAt kv w' r k' b') → K (a.put o.dst undef) w') :
    if Region.wanted o (yielded ops a.tmps) = true then Oper.wp P o a w K Q else E' := by
  have hw : Region.wanted o (yielded ops a.tmps) = true := by simp [Region.wanted, hgd]
  rw [if_pos hw]
  obtain ⟨w', hrun, h1, h2, h3, h4⟩ := h.run_estore hst KO hm hsa u
  unfold Oper.wp
  simp [execOp, hop, e1, e2, e3, hrun, Result.andThen]
  exact hK _ h1 h2 h3 h4
theorem upd_some [DecidableEq κ] {k j : κ} {u : Value} (h : (f j).isSome = true) : (upd f k (some u) j).isSome = true := by
  unfold upd
  split
  · rfl
  · exact h
end

theorem intK : KeyOk Try.prog 3 (Value.int .i64) := KeyOk.int Try.underlying3

section
variable {w w' : World} {t r n : Nat} {v : Value} {l : List E} {f : Int → Option Value} {F : Nat → Prop}
theorem kept4 (w : World) (g a b c d : Nat) (u1 u2 u3 u4 : Value) : Kept (fun j => j = g) w ((((w.setCell ⟨g, a, none⟩ u1).setCell ⟨g, b, none⟩ u2).setCell ⟨g, c, none⟩ u3).setCell ⟨g, d, none⟩ u4) := by
  have k1 : Kept (fun j => j = g) w (w.setCell ⟨g, a, none⟩ u1) := Kept.setCell (F := fun j => j = g) (p := ⟨g, a, none⟩) (Kept.refl _ _) (.inl rfl) u1
  have k2 := Kept.setCell (F := fun j => j = g) (p := ⟨g, b, none⟩) k1 (.inl rfl) u2
  have k3 := Kept.setCell (F := fun j => j = g) (p := ⟨g, c, none⟩) k2 (.inl rfl) u3
  exact Kept.setCell (F := fun j => j = g) (p := ⟨g, d, none⟩) k3 (.inl rfl) u4
/-- The row and the header behind Swap's first line. -/
theorem swap_mem {g c : Nat} {cur : Array Value} (h : Ln w t r (.slice (some ⟨g, 0, none⟩) l.length c) l f n) (hB : Blk w g 56 cur) {i k : Nat} {a b : E} (hi : l[i]? = some a) (hk : l[k]? = some b) (hne : i ≠ k) :
    ∀ W2, W2 = ((((w.setCell ⟨g, i * 2, none⟩ (.int .i64 b.id)).setCell ⟨g, i * 2 + 1, none⟩ (.int .i64 b.at_)).setCell ⟨g, k * 2, none⟩ (.int .i64 a.id)).setCell ⟨g, k * 2 + 1, none⟩ (.int .i64 a.at_)) →
      Kept (fun j => j = g) w W2 ∧ Ln W2 t r (.slice (some ⟨g, 0, none⟩) l.length c) ((l.set i b).set k a) f n ∧
      W2.cell? ⟨t, 0, none⟩ = some (.slice (some ⟨g, 0, none⟩) l.length c) ∧ W2.cell? ⟨t, 1, none⟩ = some (.map (some r)) ∧ W2.cell? ⟨g, i * 2, none⟩ = some (.int .i64 b.id) ∧ W2.cell? ⟨g, k * 2, none⟩ = some (.int .i64 a.id) := by
  rintro W2 rfl
  have hil := (List.getElem?_eq_some_iff.1 hi).1
  have hkl := (List.getElem?_eq_some_iff.1 hk).1
  have hgt : g ≠ t := by rintro rfl; exact Blk.ne_ h.bx (cs' := cur) hB (by decide) rfl
  have hrg : r ≠ g := h.map.ne_cells hB
  have hrt : r ≠ t := h.map.ne_cells h.bx
  have K2 : Kept (fun j => j = g) w ((((w.setCell ⟨g, i * 2, none⟩ (.int .i64 b.id)).setCell ⟨g, i * 2 + 1, none⟩ (.int .i64 b.at_)).setCell ⟨g, k * 2, none⟩ (.int .i64 a.id)).setCell ⟨g, k * 2 + 1, none⟩ (.int .i64 a.at_)) :=
    kept4 _ _ _ _ _ _ _ _ _ _
  have L2 : Ln ((((w.setCell ⟨g, i * 2, none⟩ (.int .i64 b.id)).setCell ⟨g, i * 2 + 1, none⟩ (.int .i64 b.at_)).setCell ⟨g, k * 2, none⟩ (.int .i64 a.id)).setCell ⟨g, k * 2 + 1, none⟩ (.int .i64 a.at_)) t r (.slice (some ⟨g, 0, none⟩) l.length c) ((l.set i b).set k a) f n :=
    ⟨h.bx.kept K2 (Ne.symm hgt), own_swap h.row hil hkl a b, h.map.kept K2 hrg, h.stm.kept K2 hrg, by simpa using h.len⟩
  have hi2 : ((l.set i b).set k a)[i]? = some b := by rw [List.getElem?_set_ne (Ne.symm hne), List.getElem?_set_self hil]
  have hk2 : ((l.set i b).set k a)[k]? = some a := List.getElem?_set_self (by simpa using hkl)
  obtain ⟨G, C, e5, _, _, s0, _⟩ := row_at L2 hi2
  injection e5 with e5
  injection e5 with e5
  injection e5 with e5
  subst e5
  obtain ⟨G, C, e5, _, _, s1, _⟩ := row_at L2 hk2
  injection e5 with e5
  injection e5 with e5
  injection e5 with e5
  subst e5
  exact ⟨K2, L2, by simpa using L2.bx.cell 0, by simpa using L2.bx.cell 1, s0, s1⟩

theorem off_map {kv : Int → Value} (h : MapIs kv w r f n) (ty : TypeId) : Off w ty (fun j => j = r) := by
  obtain ⟨es, clock, hb, _⟩ := h
  intro b cs fr hbb e
  subst e
  rw [hb] at hbb
  cases hbb
/-- What Swap leaves. -/
def Swapped (w : World) (t r : Nat) (v : Value) (l' : List E) (f : Int → Option Value) (n : Nat) (a b : E) (i k : Nat) (w' : World) : Prop :=
  ∃ f', Ln w' t r v l' f' n ∧ f' b.id = some (.int .i64 (i : Int)) ∧ f' a.id = some (.int .i64 (k : Int)) ∧ (∀ d, d ≠ a.id → d ≠ b.id → f' d = f d) ∧ Kept (fun j => j = r ∨ v.ownBlock = some j) w w'

theorem swap_end {W2 W3 : World} {g c : Nat} {l' : List E} {a b : E} {i k : Nat} (K2 : Kept (fun j => j = g) w W2) (L2 : Ln W2 t r (.slice (some ⟨g, 0, none⟩) l.length c) l' f n) (hK : Kept (fun j => j = r) W2 W3) (hrt : r ≠ t) (hab : a.id ≠ b.id)
    {f' : Int → Option Value} (hM : MapIs (Value.int .i64) W3 r f' n) (hS : Stm W3 r) (h1 : f' b.id = some (.int .i64 (i : Int))) (h2 : f' a.id = some (.int .i64 (k : Int))) (h3 : ∀ d, d ≠ a.id → d ≠ b.id → f' d = f d) :
    Swapped w t r (.slice (some ⟨g, 0, none⟩) l.length c) l' f n a b i k W3 :=
  ⟨f', ⟨L2.bx.kept hK (Ne.symm hrt), L2.row.kept hK (off_map L2.map 56), hM, hS, L2.len⟩, h1, h2, h3,
    by
      have k1 : Kept (fun j => j = r ∨ Value.ownBlock (.slice (some ⟨g, 0, none⟩) l.length c) = some j) w W2 := K2.mono (fun j _ hj => Or.inr (by rw [hj]; rfl))
      exact k1.trans' hK (fun j hj => .inl (.inl hj))⟩

set_option maxRecDepth 100000 in
set_option maxHeartbeats 1000000 in
theorem swap_any (h : Ln w t r v l f n) {i k : Nat} {a b : E} (hi : l[i]? = some a) (hk : l[k]? = some b) (hne : i ≠ k) (hab : a.id ≠ b.id) (hfa : (f a.id).isSome = true) (hfb : (f b.id).isSome = true) :
    Calls Try.prog 43 #[.pointer (some ⟨t, 0, none⟩), .int .i64 (i : Int), .int .i64 (k : Int)] w fun e w' => e = .returned (.tuple #[]) ∧ Swapped w t r v ((l.set i b).set k a) f n a b i k w' := by
  obtain ⟨g, c, rfl, hg, hgt, q0, q1⟩ := row_at h hi
  obtain ⟨g', c', e, _, _, r0, r1⟩ := row_at h hk
  obtain ⟨g'', c'', cur, e', hB, _, hsz⟩ := row_blk h hi
  injection e with e1 e2 e3
  injection e1 with e1
  injection e1 with e1
  subst e1
  injection e' with e1' e2' e3'
  injection e1' with e1'
  injection e1' with e1'
  subst e1'
  have p0 := h.bx.cell 0
  simp at p0
  have lt := h.bx.lt
  have fr := hB.frozen
  have i0 : (0 : Int) ≤ (i : Int) := by omega
  have i1 : (i : Int) < (l.length : Int) := by have := (List.getElem?_eq_some_iff.1 hi).1; omega
  have k0 : (0 : Int) ≤ (k : Int) := by omega
  have k1 : (k : Int) < (l.length : Int) := by have := (List.getElem?_eq_some_iff.1 hk).1; omega
  have M := Lib.hid (swap_mem h hB hi hk hne)
  have HFA := Lib.hid hfa
  have HFB := Lib.hid hfb
  have HAB := Lib.hid hab
  have HRG := Lib.hid (h.map.ne_cells hB)
  have HRT := Lib.hid (h.map.ne_cells h.bx)
  clear h hi hk e2 e3 e2' e3' hB hsz hfa hfb hab
  go_enter Try.func43, Try.ntmps43
  go_wp2_with fail
  go_region
  clear q0 q1 r0 r1 p0 fr
  generalize hW : World.setCell _ _ _ = W2
  have M2 := M.out W2 hW.symm
  obtain ⟨K2, L2, p0, p1, s0, s1⟩ := M2
  have lt2 := Nat.lt_of_lt_of_le lt K2.size
  have lg2 := Nat.lt_of_lt_of_le hg K2.size
  have M0 : MapIs (Value.int .i64) W2.drew.drew r f n := L2.map.drew.drew
  have T0 : Stm W2.drew.drew r := L2.stm
  obtain ⟨vb, hvb⟩ := Option.isSome_iff_exists.1 HFB.out
  obtain ⟨va, hva⟩ := Option.isSome_iff_exists.1 HFA.out
  obtain ⟨b1, E1, st1⟩ := M0.run_entry intK Try.underlying49 hvb
  obtain ⟨W3, S1, m3, t3, k3, s3⟩ := M0.run_estore T0 intK Try.underlying49 st1 (.int .i64 (i : Int))
  obtain ⟨b2, E2, st2⟩ := m3.run_entry intK Try.underlying49 (k := a.id) (v := va) (by unfold upd; rw [if_neg HAB.out]; exact hva)
  obtain ⟨W4, S2, m4, t4, k4, s4⟩ := m3.run_estore t3 intK Try.underlying49 st2 (.int .i64 (k : Int))
  have k0 : Kept (fun j => j = r) W2 W2.drew.drew := (Kept.refl _ _).drew.drew
  have hK3 := k0.trans k3
  have hK4 := hK3.trans k4
  have HR := Lib.hid (swap_end K2 L2 hK4 HRT.out HAB.out m4 t4 (by unfold upd; rw [if_neg (Ne.symm HAB.out), if_pos rfl]) (by unfold upd; rw [if_pos rfl]) (fun d h1 h2 => by unfold upd; rw [if_neg h1, if_neg h2]))
  clear hW M K2 L2 hg lt M0 T0 m3 t3 k3 s3 m4 t4 k4 s4 st1 st2 hva hvb
  go_wp2_with fail
  go_region_held3 (fun w' => w'.cell? ⟨t, 0, none⟩ = some (.slice (some ⟨g, 0, none⟩) l.length c) ∧ w'.cell? ⟨t, 1, none⟩ = some (.map (some r)) ∧ w'.cell? ⟨g, i * 2, none⟩ = some (.int .i64 b.id) ∧ w'.cell? ⟨g, k * 2, none⟩ = some (.int .i64 a.id))
    (first
      | exact ⟨p0, p1, s0, s1⟩
      | exact ⟨(k0.cell (p := ⟨t, 0, none⟩) lt2 (fun e => HRT.out e.symm)).trans p0, (k0.cell (p := ⟨t, 1, none⟩) lt2 (fun e => HRT.out e.symm)).trans p1, (k0.cell (p := ⟨g, i * 2, none⟩) lg2 (fun e => HRG.out e.symm)).trans s0, (k0.cell (p := ⟨g, k * 2, none⟩) lg2 (fun e => HRG.out e.symm)).trans s1⟩
      | exact ⟨(hK3.cell (p := ⟨t, 0, none⟩) lt2 (fun e => HRT.out e.symm)).trans p0, (hK3.cell (p := ⟨t, 1, none⟩) lt2 (fun e => HRT.out e.symm)).trans p1, (hK3.cell (p := ⟨g, i * 2, none⟩) lg2 (fun e => HRG.out e.symm)).trans s0, (hK3.cell (p := ⟨g, k * 2, none⟩) lg2 (fun e => HRG.out e.symm)).trans s1⟩
      | exact ⟨(hK4.cell (p := ⟨t, 0, none⟩) lt2 (fun e => HRT.out e.symm)).trans p0, (hK4.cell (p := ⟨t, 1, none⟩) lt2 (fun e => HRT.out e.symm)).trans p1, (hK4.cell (p := ⟨g, i * 2, none⟩) lg2 (fun e => HRG.out e.symm)).trans s0, (hK4.cell (p := ⟨g, k * 2, none⟩) lg2 (fun e => HRG.out e.symm)).trans s1⟩
      | go_keep)
    (fail)
  clear E1 E2 S1 S2 k0 hK3 hK4
  go_wp2_with fail
  refine bodyPost_end (results_none rfl _ _ _) rfl ?_
  exact ⟨rfl, HR.out⟩
end
end Go.Proofs.Ytnnbpmjcdcmigaa.Line
