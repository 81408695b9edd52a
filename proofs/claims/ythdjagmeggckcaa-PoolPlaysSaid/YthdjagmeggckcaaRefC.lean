/- The reference's slab: a contract of New. -/
import Derived.Test.YthdjagmeggckcaaRefB
namespace Go.Proofs.Ythdjagmeggckcaa.Ref
open Go.RowKit

def ints (k : Nat) : List Int := (List.range k).map fun i : Nat => (i : Int)
theorem ints_succ (k : Nat) : ints (k + 1) = ints k ++ [(k : Int)] := by simp [ints, List.range_succ]
theorem ints_length (k : Nat) : (ints k).length = k := by simp [ints]
def newRS (n : Nat) : RS := { free := ints n, turns := List.replicate n 0, taken := List.replicate n false }

def NewP (w : World) (x : RS) (e : Ending) (w' : World) : Prop := ∃ v, e = .returned v ∧ Is w' v x ∧ Below w.heap.size w w'

/-- The reference's slab while New fills it: its struct in block B, its rows of the call's own. -/
structure Parts (W : World) (B base : Nat) (f t kk : Value) (lf lt : List Int) (lk : List Bool) : Prop where
  blk : Blk W B 37 #[f, t, kk]
  own0 : Own W base 3 1 eInt f lf
  own1 : Own W base 3 1 eInt t lt
  own2 : Own W base 4 1 eBool kk lk
  ap : f.ownBlock = none ∨ f.ownBlock ≠ t.ownBlock
  size : base ≤ W.heap.size

section
variable {W w1 : World} {B base : Nat} {f t kk f' : Value} {lf lt : List Int} {lk : List Bool} {o : Obj}

theorem Parts.alloc (h : Parts W B base f t kk lf lt lk) (o : Obj) : Parts (W.alloc o) B base f t kk lf lt lk :=
  ⟨h.blk.alloc o, h.own0.alloc o, h.own1.alloc o, h.own2.alloc o, h.ap, by have := h.size; simp; omega⟩

theorem Parts.push0 (h : Parts W B base f t kk lf lt lk) {x : Int} (ho : Own w1 base 3 1 eInt f' (lf ++ [x])) (hg : W.grownBy w1 f.ownBlock) (hat : f'.ownBlock = f.ownBlock ∨ f'.ownBlock = some W.heap.size) :
    Parts (w1.setCell ⟨B, 0, none⟩ f') B base f' t kk (lf ++ [x]) lt lk := by
  have hb1 := h.own0.grown_blk hg h.blk (by decide)
  have h1 := h.own1.grown_own hg (by
    rcases h.ap with e | e
    · rw [e]
      by_cases he : t.ownBlock = none
      · exact .inl he
      · exact .inr he
    · exact .inr (Ne.symm e)) h.own0
  have h2 := h.own2.grown_own hg (h.own2.apart h.own0 (by decide)) h.own0
  refine ⟨by simpa using hb1.set_ 0 f', ho.far (p := ⟨B, 0, none⟩) hb1 (by decide) _, h1.far (p := ⟨B, 0, none⟩) hb1 (by decide) _, h2.far (p := ⟨B, 0, none⟩) hb1 (by decide) _, ?_, by have := h.size; have := hg.size; simp; omega⟩
  rcases hat with e | e
  · rw [e]; exact h.ap
  · right
    rw [e]
    intro e'
    have := (h.own1.lt _ e'.symm).2
    omega

theorem Parts.push1 (h : Parts W B base f t kk lf lt lk) {x : Int} (ho : Own w1 base 3 1 eInt f' (lt ++ [x])) (hg : W.grownBy w1 t.ownBlock) (hat : f'.ownBlock = t.ownBlock ∨ f'.ownBlock = some W.heap.size) :
    Parts (w1.setCell ⟨B, 1, none⟩ f') B base f f' kk lf (lt ++ [x]) lk := by
  have hb1 := h.own1.grown_blk hg h.blk (by decide)
  have h0 := h.own0.grown_own hg h.ap h.own1
  have h2 := h.own2.grown_own hg (h.own2.apart h.own1 (by decide)) h.own1
  refine ⟨by simpa using hb1.set_ 1 f', h0.far (p := ⟨B, 1, none⟩) hb1 (by decide) _, ho.far (p := ⟨B, 1, none⟩) hb1 (by decide) _, h2.far (p := ⟨B, 1, none⟩) hb1 (by decide) _, ?_, by have := h.size; have := hg.size; simp; omega⟩
  rcases hat with e | e
  · rw [e]; exact h.ap
  · by_cases hn : f.ownBlock = none
    · exact .inl hn
    · right
      rw [e]
      intro e'
      have := (h.own0.lt _ e').2
      omega

theorem Parts.push2 (h : Parts W B base f t kk lf lt lk) {x : Bool} (ho : Own w1 base 4 1 eBool f' (lk ++ [x])) (hg : W.grownBy w1 kk.ownBlock) :
    Parts (w1.setCell ⟨B, 2, none⟩ f') B base f t f' lf lt (lk ++ [x]) := by
  have hb1 := h.own2.grown_blk hg h.blk (by decide)
  have h0 := h.own0.grown_own hg (h.own0.apart h.own2 (by decide)) h.own2
  have h1 := h.own1.grown_own hg (h.own1.apart h.own2 (by decide)) h.own2
  exact ⟨by simpa using hb1.set_ 2 f', h0.far (p := ⟨B, 2, none⟩) hb1 (by decide) _, h1.far (p := ⟨B, 2, none⟩) hb1 (by decide) _, ho.far (p := ⟨B, 2, none⟩) hb1 (by decide) _, h.ap, by have := h.size; have := hg.size; simp; omega⟩
end

/-- What holds after k rounds. -/
def Mid (w wr : World) (k : Nat) : Prop :=
  ∃ f t kk, Parts wr (w.heap.size + 1) (w.heap.size + 2) f t kk (ints k) (List.replicate k 0) (List.replicate k false) ∧ (∃ a b c, Blk wr w.heap.size 37 #[a, b, c]) ∧ Below w.heap.size w wr

set_option maxRecDepth 100000 in
set_option maxHeartbeats 2000000 in
theorem new_any (n : Nat) (w : World) (hn : n ≤ 4096) : Calls Try.prog 17 #[.int .i64 n] w (NewP w (newRS n)) := by
  obtain ⟨i0, hi0, hz0, hz1, hz2⟩ := info_parts info3
  obtain ⟨j0, hj0, hy0, hy1, hy2⟩ := info_parts info4
  go_enter Try.func17, Try.ntmps17
  go_wp2
  go_loopw [4] (fun i wr => ∃ k : Nat, k ≤ n ∧ i = .int .i64 k ∧ Mid w wr k) (fun i _ => n - (intOf i).toNat)
  case atStart =>
    refine ⟨0, by omega, rfl, _, _, _, ⟨?_, Own.nil _ _, Own.nil _ _, Own.nil _ _, .inl rfl, by simp⟩, ⟨_, _, _, (Blk.new w 37 _).alloc _⟩, ((Below.refl _ _).alloc (Nat.le_refl _) _).alloc (by simp) _⟩
    have := Blk.new (w.alloc (Obj.cells #[Value.slice none 0 0, Value.slice none 0 0, Value.slice none 0 0] 37)) 37 #[.slice none 0 0, .slice none 0 0, .slice none 0 0]
    simpa using this
  case round =>
    obtain ⟨k, hk, rfl, f, t, kk, hP, ⟨a0, a1, a2, hA⟩, hbl⟩ := hrel
    by_cases hlt : k < n
    · obtain ⟨A, n0, c, rfl⟩ := hP.own0.form'
      obtain ⟨A1, n1, c1, rfl⟩ := hP.own1.form'
      obtain ⟨A2, n2, c2, rfl⟩ := hP.own2.form'
      have e0 := hP.blk.cell 0
      have e1 := hP.blk.cell 1
      have e2 := hP.blk.cell 2
      have f0 := hP.blk.frozen
      have hsz := hP.blk.lt
      simp only [List.getElem?_toArray, List.getElem?_cons_zero, List.getElem?_cons_succ] at e0 e1 e2
      have hs2 := hP.size
      go_wp2_with (first | (at_builtin; refine wpList_append_one _ rfl (.tmp 12) (.tmp 14) 34 rfl (w.heap.size + 2) 3 i0 (.int .i64 0) 1 8 Try.underlying34 hi0 hz0 hz1 hz2 rfl (by decide) (.slice A n0 c) _ rfl (hP.alloc _).own0 wr.heap.size (k : Int) rfl rfl (new_cell_int wr _ 3) (eInt_one _) (by rw [ints_length]; omega) (by unfold maxLen; rw [ints_length]; omega) (by simp; omega) ?_; intro v' w1 hown' hgrow hat; have hP1 := (hP.alloc _).push0 hown' hgrow hat; have hA1 := ((hP.alloc _).own0.grown_blk hgrow (hA.alloc _) (by decide)).far (p := ⟨w.heap.size + 1, 0, none⟩) (by simp) v'; have hB1 := ((hbl.alloc (by omega) _).grown hgrow (by simp; omega) (fun q hq => by have := (hP.own0.lt q hq).1; omega)).setCell (p := ⟨w.heap.size + 1, 0, none⟩) (by simp) v'; have hb1 := (hP.alloc _).own0.grown_blk hgrow (hP.alloc _).blk (by decide); obtain ⟨A', n', c', rfl⟩ := hown'.form'; clear hown' hgrow hat; have d10 := hb1.cell 0; have d11 := hb1.cell 1; have d12 := hb1.cell 2; have d1f := hb1.frozen; simp only [List.getElem?_toArray, List.getElem?_cons_zero, List.getElem?_cons_succ] at d10 d11 d12; have hzz1 : w.heap.size + 1 < w1.heap.size := hb1.lt) | (at_builtin; refine wpList_append_one _ rfl (.tmp 18) (.tmp 19) 34 rfl (w.heap.size + 2) 3 i0 (.int .i64 0) 1 8 Try.underlying34 hi0 hz0 hz1 hz2 rfl (by decide) (.slice A1 n1 c1) _ rfl (hP1.alloc _).own1 w1.heap.size (0 : Int) rfl rfl (new_cell_int' _ _ (by simp) _ 3) (eInt_one _) (by simp; omega) (by unfold maxLen; simp; omega) (by have := hP1.size; simp at this ⊢; omega) ?_; intro v' w2 hown' hgrow hat; have hP2 := (hP1.alloc _).push1 hown' hgrow hat; have hA2 := ((hP1.alloc _).own1.grown_blk hgrow (hA1.alloc _) (by decide)).far (p := ⟨w.heap.size + 1, 1, none⟩) (by simp) v'; have hB2 := ((hB1.alloc (by have := hP1.size; omega) _).grown hgrow (by have := hP1.size; simp at this ⊢; omega) (fun q hq => by have := (hP1.own1.lt q hq).1; omega)).setCell (p := ⟨w.heap.size + 1, 1, none⟩) (by simp) v'; have hb2 := (hP1.alloc _).own1.grown_blk hgrow (hP1.alloc _).blk (by decide); obtain ⟨A'', n'', c'', rfl⟩ := hown'.form'; clear hown' hgrow hat; have d20 := hb2.cell 0; have d21 := hb2.cell 1; have d22 := hb2.cell 2; have d2f := hb2.frozen; simp only [List.getElem?_toArray, List.getElem?_cons_zero, List.getElem?_cons_succ] at d20 d21 d22; have hzz2 : w.heap.size + 1 < w2.heap.size := hb2.lt) | (at_builtin; refine wpList_append_one _ rfl (.tmp 23) (.tmp 24) 35 rfl (w.heap.size + 2) 4 j0 (.bool false) 1 1 Try.underlying35 hj0 hy0 hy1 hy2 rfl (by decide) (.slice A2 n2 c2) _ rfl (hP2.alloc _).own2 w2.heap.size false rfl rfl (new_cell_bool' _ _ (by simp) _ 4) (eBool_one _) (by simp; omega) (by unfold maxLen; simp; omega) (by have := hP2.size; simp at this ⊢; omega) ?_; intro v' w3 hown' hgrow hat; have hP3 := (hP2.alloc _).push2 hown' hgrow; have hA3 := ((hP2.alloc _).own2.grown_blk hgrow (hA2.alloc _) (by decide)).far (p := ⟨w.heap.size + 1, 2, none⟩) (by simp) v'; have hB3 := ((hB2.alloc (by have := hP2.size; omega) _).grown hgrow (by have := hP2.size; simp at this ⊢; omega) (fun q hq => by have := (hP2.own2.lt q hq).1; omega)).setCell (p := ⟨w.heap.size + 1, 2, none⟩) (by simp) v'; have hb3 := (hP2.alloc _).own2.grown_blk hgrow (hP2.alloc _).blk (by decide); obtain ⟨A''', n''', c''', rfl⟩ := hown'.form'; clear hown' hgrow hat; have d30 := hb3.cell 0; have d31 := hb3.cell 1; have d32 := hb3.cell 2; have d3f := hb3.frozen; simp only [List.getElem?_toArray, List.getElem?_cons_zero, List.getElem?_cons_succ] at d30 d31 d32; have hzz3 : w.heap.size + 1 < w3.heap.size := hb3.lt))
      go_roundw
      case rel =>
        have hA3 : ∃ a b c, Blk (w3.setCell ⟨w.heap.size + 1, 2, none⟩ (.slice A''' n''' c''')) w.heap.size 37 #[a, b, c] := ⟨a0, a1, a2, hA3⟩
        exact ⟨k + 1, by omega, by go_num, _, _, _, by simpa [ints_succ, List.replicate_succ'] using hP3, hA3, hB3⟩
      case measure => simp [intOf]; omega
    · obtain rfl : k = n := by omega
      obtain ⟨A, n0, c, rfl⟩ := hP.own0.form'
      obtain ⟨A1, n1, c1, rfl⟩ := hP.own1.form'
      obtain ⟨A2, n2, c2, rfl⟩ := hP.own2.form'
      have e0 := hP.blk.cell 0
      have e1 := hP.blk.cell 1
      have e2 := hP.blk.cell 2
      have g0 := hA.cell 0
      have g1 := hA.cell 1
      have g2 := hA.cell 2
      have g3 := hA.frozen
      simp only [List.getElem?_toArray, List.getElem?_cons_zero, List.getElem?_cons_succ] at e0 e1 e2 g0 g1 g2
      have hsz := hA.lt
      go_wp2_with fail
      refine bodyPost_ret (v := .agg #[.slice A n0 c, .slice A1 n1 c1, .slice A2 n2 c2]) (by simp [results, Try.results17, go_sem, e0, e1, e2, g0, g1, g2]) rfl ?_
      have ho3 : Off wr 3 (fun i => i = w.heap.size) := Off.one hA (by decide)
      have ho4 : Off wr 4 (fun i => i = w.heap.size) := Off.one hA (by decide)
      have K : ∀ u v x, Kept (fun i => i = w.heap.size) wr (((wr.setCell ⟨w.heap.size, 0, none⟩ u).setCell ⟨w.heap.size, 1, none⟩ v).setCell ⟨w.heap.size, 2, none⟩ x) := fun u v x =>
        Kept.setCell (F := fun i => i = w.heap.size) (Kept.setCell (F := fun i => i = w.heap.size) (Kept.setCell (F := fun i => i = w.heap.size) (Kept.refl _ _) (.inl rfl) _) (.inl rfl) _) (.inl rfl) _
      exact ⟨_, rfl, ⟨_, _, _, rfl, (hP.own0.sl eInt_len).kept (K _ _ _) ho3, (hP.own1.sl eInt_len).kept (K _ _ _) ho3, (hP.own2.sl eBool_len).kept (K _ _ _) ho4⟩,
        ((hbl.setCell (Nat.le_refl _) _).setCell (Nat.le_refl _) _).setCell (Nat.le_refl _) _⟩
end Go.Proofs.Ythdjagmeggckcaa.Ref
