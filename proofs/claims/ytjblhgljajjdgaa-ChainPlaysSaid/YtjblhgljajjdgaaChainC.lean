/- The lists: contracts of New out of its bounds, and of Copy. -/
import Derived.Test.YtjblhgljajjdgaaChainB
import Derived.Deep.RegionHeld3
namespace Go.Proofs.Ytjblhgljajjdgaa.Chain
open Go.RowKit

theorem Own.rows {α : Type} {w : World} {base size : Nat} {t : TypeId} {enc : α → List Value} {v : Value} {l : List α} (hsz : ∀ x, (enc x).length = size) (h : Own w base t size enc v l) (hne : l ≠ []) :
    ∃ g c, v = .slice (some ⟨g, 0, none⟩) l.length c ∧ RowsIn w g t size enc l ∧ l.length ≤ c ∧ c ≤ maxLen ∧ base ≤ g := by
  have h' := h
  obtain ⟨h1, h2⟩ := h
  rcases h2 with ⟨_, hn⟩ | ⟨g, cap, cur, rfl, hg, hh, hnc, hcm, hcs, hx⟩
  · exact absurd (List.eq_nil_of_length_eq_zero hn) hne
  · obtain ⟨hr, _⟩ := RowsIn.of_own (l := l) hsz h' rfl
    exact ⟨g, cap, rfl, hr, hnc, hcm, hg⟩
theorem sl_of_rows {α : Type} {w : World} {g c size : Nat} {t : TypeId} {enc : α → List Value} {l : List α} (h : RowsIn w g t size enc l) (hc : l.length ≤ c) (hm : c ≤ maxLen) : Sl w t size enc (.slice (some ⟨g, 0, none⟩) l.length c) l := by
  obtain ⟨arr, hb, hle, hr⟩ := h
  refine ⟨_, c, rfl, hc, hm, fun _ => ⟨g, 0, arr, (0, 0), rfl, hb, fun k x hx j u hu => ?_⟩⟩
  rw [Nat.zero_add, hb.cell]
  exact hr k x hx j u hu
theorem end_len (e : Ends) : (Ends.enc e).length = 3 := rfl
theorem end_one (e : Ends) : ∀ u ∈ Ends.enc e, u.oneCell' = true := by
  intro u hu
  simp [Ends.enc] at hu
  rcases hu with rfl | rfl | rfl <;> rfl

/-- 'append([]T(nil), s...)' at a step of a region that draws its order, s not empty. -/
theorem step_append_nil {α : Type} {enc : α → List Value} {P : Program} {ops : Array Oper} {o : Oper} {a : Act} {w : World} {K : Act → World → Prop} {Q : Exit → Act → World → Prop} {E : Prop} (hgd : o.guard = none) (x : Operand) (t : TypeId)
    (ho : o.op = .call { callee := .builtin .append, args := #[.const (.slice none 0 0), x], argTypes := #[t, t] })
    (e : TypeId) (i : TypeInfo) (z : Value) (size bytes : Nat) (ht : P.underlying t = some (.slice e)) (hi : P.info? e = some i) (hz : i.zero = some z)
    (hsize : i.size = size) (hby : i.bytes = bytes) (hzs : z.cells.size = size) (hsz : 0 < size) (henc : ∀ x, (enc x).length = size) (h1 : ∀ x, ∀ u ∈ enc x, u.oneCell' = true)
    (sv : Value) (m : List α) (hx : a.eval x = sv) (hr : Sl w e size enc sv m) (hne : m ≠ [])
    (h63 : m.length ≤ maxLen) (hbytes : m.length * bytes ≤ 140737488355328)
    (h : ∀ g c w', RowsIn w' g e size enc m → m.length ≤ c → c ≤ maxLen → w.heap.size ≤ g → Kept none_ w w' → K (a.put o.dst (.slice (some ⟨g, 0, none⟩) m.length c)) w') :
    if Region.wanted o (yielded ops a.tmps) = true then Oper.wp P o a w K Q else E := by
  refine step_append_sl w hgd (.const (.slice none 0 0)) x t ho w.heap.size e i z size bytes ht hi hz hsize hby hzs hsz henc h1 (.slice none 0 0) ([] : List α) rfl (Own.nil _ _) sv m hx hr (by simpa using h63) (by simpa using hbytes) (Nat.le_refl _) ?_
  intro v' w' hown hg _
  rw [List.nil_append] at hown
  obtain ⟨g, c, rfl, h2, h3, h4, h5⟩ := Own.rows henc hown hne
  exact h g c w' h2 h3 h4 h5 (Kept.grown hg (fun q hq => by simp [Value.ownBlock] at hq))

theorem new_bad (n m : Int) (w : World) (h : n < 1 ∨ 4096 < n ∨ m < 1 ∨ 256 < m) : Calls Try.prog 5 #[.int .i64 n, .int .i64 m] w fun e w' => e = .returned (.pointer none) ∧ w = w' := by
  have hbad' : (decide (n < 1) || decide (4096 < n) || decide (m < 1) || decide (256 < m)) = true := by simp; omega
  cases t1 : decide (n < 1) <;> cases t2 : decide (4096 < n) <;> cases t3 : decide (m < 1) <;> cases t4 : decide (256 < m)
  all_goals first
  | (rw [t1, t2, t3, t4] at hbad'; cases hbad'; done)
  | (clear h hbad'
     go_enter Try.func5, Try.ntmps5
     go_wp2_with fail
     go_ret
     exact ⟨rfl, rfl⟩)

theorem copy_nil (w : World) : Calls Try.prog 14 #[.pointer none] w fun e w' => e = .returned (.pointer none) ∧ w = w' := by
  go_enter Try.func14, Try.ntmps14
  go_wp2
  go_ret
  exact ⟨rfl, rfl⟩

theorem copy_mk {w w1 : World} {x : Ch} {gA gB gC cA cB cC : Nat} (hA : RowsIn w1 gA 3 1 eInt x.next) (hB : RowsIn w1 gB 3 1 eInt x.where_) (hC : RowsIn w1 gC 55 3 Ends.enc x.lists) (hA1 : x.next.length ≤ cA) (hB1 : x.where_.length ≤ cB) (hC1 : x.lists.length ≤ cC)
    (hA2 : cA ≤ maxLen) (hB2 : cB ≤ maxLen) (hC2 : cC ≤ maxLen) (hAB : gA ≠ gB) (hK : Kept none_ w w1) (hA4 : w.heap.size ≤ gA) (hB4 : w.heap.size ≤ gB) (hC4 : w.heap.size ≤ gC) :
    MadeC w x (.pointer (some ⟨w1.heap.size, 0, none⟩)) (w1.alloc (.cells #[.slice (some ⟨gA, 0, none⟩) x.next.length cA, .slice (some ⟨gB, 0, none⟩) x.where_.length cB, .slice (some ⟨gC, 0, none⟩) x.lists.length cC] 53)) :=
  ⟨_, gA, gB, gC, rfl, ⟨⟨cA, cB, cC, hA1, hB1, hC1, hA2, hB2, hC2, Blk.new _ _ _⟩, hA.alloc _, hB.alloc _, hC.alloc _, hAB⟩, (hK.alloc _).toBelow', hK.size, hA4, hB4, hC4⟩

def CopyP (w : World) (x : Ch) (e : Ending) (w' : World) : Prop := ∃ v, e = .returned v ∧ MadeC w x v w'

set_option maxRecDepth 100000 in
set_option maxHeartbeats 2000000 in
theorem copy_any (c g1 g2 g3 : Nat) (x : Ch) (w : World) (h : Is w c g1 g2 g3 x) (h1 : 1 ≤ x.next.length) (h2 : x.next.length ≤ 4096) (h3 : x.where_.length = x.next.length) (h4 : 1 ≤ x.lists.length) (h5 : x.lists.length ≤ 256) :
    Calls Try.prog 14 #[.pointer (some ⟨c, 0, none⟩)] w (CopyP w x) := by
  obtain ⟨i0, hi0, hz0, hz1, hz2⟩ := info_parts info3
  obtain ⟨j0, hj0, hy0, hy1, hy2⟩ := info_parts info55
  have lt := h.lt.1
  obtain ⟨⟨c1, c2, c3, a1, a2, a3, a4, a5, a6, hb⟩, r1, r2, r3, hne⟩ := h
  have p0 : w.cell? ⟨c, 0, none⟩ = some (.slice (some ⟨g1, 0, none⟩) x.next.length c1) := hb.cell 0
  have p1 : w.cell? ⟨c, 1, none⟩ = some (.slice (some ⟨g2, 0, none⟩) x.where_.length c2) := hb.cell 1
  have p2 : w.cell? ⟨c, 2, none⟩ = some (.slice (some ⟨g3, 0, none⟩) x.lists.length c3) := hb.cell 2
  have HS1 := Lib.hid (fun W (hk : Kept none_ w W) => (sl_of_rows r1 a1 a4).kept hk Off.none_)
  have HS2 := Lib.hid (fun W (hk : Kept none_ w W) => (sl_of_rows r2 a2 a5).kept hk Off.none_)
  have HS3 := Lib.hid (fun W (hk : Kept none_ w W) => (sl_of_rows r3 a3 a6).kept hk Off.none_)
  have e1 : x.next ≠ [] := by rintro e; simp [e] at h1
  have e2 : x.where_ ≠ [] := by rintro e; simp [e] at h3; omega
  have e3 : x.lists ≠ [] := by rintro e; simp [e] at h4
  have E1 := Lib.hid e1
  have E2 := Lib.hid e2
  have E3 := Lib.hid e3
  have H3 := Lib.hid h3
  have hK : Kept none_ w w.drew := (Kept.refl _ _).drew
  clear r1 r2 r3 a1 a2 a3 a4 a5 a6 hb e1 e2 e3 h3 hne
  go_enter Try.func14, Try.ntmps14
  go_upto_region 3 with (fail)
  go_cut [2] (MadeC w x)
  case first =>
    go_region_held3 (fun w' => w'.cell? ⟨c, 0, none⟩ = some (.slice (some ⟨g1, 0, none⟩) x.next.length c1) ∧ w'.cell? ⟨c, 1, none⟩ = some (.slice (some ⟨g2, 0, none⟩) x.where_.length c2) ∧ w'.cell? ⟨c, 2, none⟩ = some (.slice (some ⟨g3, 0, none⟩) x.lists.length c3))
      (first
        | exact ⟨p0, p1, p2⟩
        | exact ⟨(hK.cell (p := ⟨c, 0, none⟩) lt (fun h => h)).trans p0, (hK.cell (p := ⟨c, 1, none⟩) lt (fun h => h)).trans p1, (hK.cell (p := ⟨c, 2, none⟩) lt (fun h => h)).trans p2⟩
        | go_keep)
      (first
        | (refine step_append_nil (by rfl) (.tmp 8) 40 (by rfl) 3 i0 (.int .i64 0) 1 8 Try.underlying40 hi0 hz0 hz1 hz2 rfl (by decide) eInt_len eInt_one _ x.next (by rfl) (HS1.out _ hK) E1.out (by unfold maxLen; omega) (by omega) ?_; intro gA cA w1 hA hA1 hA2 hA3 hk; have hA4 := Nat.le_trans hK.size hA3; have hK := hK.trans hk; (try have hAB : gA ≠ gB := (by have := hB.lt; omega)); (try have hB := hB.kept hk (fun h => h)); (try have hC := hC.kept hk (fun h => h)))
        | (refine step_append_nil (by rfl) (.tmp 13) 40 (by rfl) 3 i0 (.int .i64 0) 1 8 Try.underlying40 hi0 hz0 hz1 hz2 rfl (by decide) eInt_len eInt_one _ x.where_ (by rfl) (HS2.out _ hK) E2.out (by unfold maxLen; rw [H3.out]; omega) (by rw [H3.out]; omega) ?_; intro gB cB w1 hB hB1 hB2 hB3 hk; have hB4 := Nat.le_trans hK.size hB3; have hK := hK.trans hk; (try have hAB : gA ≠ gB := (by have := hA.lt; omega)); (try have hA := hA.kept hk (fun h => h)); (try have hC := hC.kept hk (fun h => h)))
        | (refine step_append_nil (by rfl) (.tmp 18) 51 (by rfl) 55 j0 _ 3 24 Try.underlying51 hj0 hy0 hy1 hy2 rfl (by decide) end_len end_one _ x.lists (by rfl) (HS3.out _ hK) E3.out (by unfold maxLen; omega) (by omega) ?_; intro gC cC w1 hC hC1 hC2 hC3 hk; have hC4 := Nat.le_trans hK.size hC3; have hK := hK.trans hk; (try have hA := hA.kept hk (fun h => h)); (try have hB := hB.kept hk (fun h => h))))
    all_goals go_wp2_with fail
    all_goals go_meet
    all_goals exact copy_mk hA hB hC hA1 hB1 hC1 hA2 hB2 hC2 hAB hK hA4 hB4 hC4
  case rest =>
    go_wp2_with fail
    go_ret
    exact ⟨_, rfl, hcut⟩
end Go.Proofs.Ytjblhgljajjdgaa.Chain
