/- The document's answer for the lists: contract of Join. -/
import Derived.Test.YtjblhgljajjdgaaRefsB
import Derived.Deep.RegionHeld3
import Derived.Deep.DeepCutAuto
import Derived.Deep.CutBlock
namespace Go.Proofs.Ytjblhgljajjdgaa.Refs
open Go.RowKit ChainLaw

section
variable {w : World} {X : Nat → Prop} {v : Value} {L : List (List Nat)}

def BadJoin (L : List (List Nat)) (i j : Int) : Prop := i < 0 ∨ (L.length : Int) ≤ i ∨ j < 0 ∨ (L.length : Int) ≤ j ∨ i = j
def JoinP (w : World) (X : Nat → Prop) (v : Value) (L : List (List Nat)) (i j : Int) (e : Ending) (w' : World) : Prop :=
  Below w.heap.size w w' ∧ ((BadJoin L i j ∧ e = .returned (.tuple #[v, .bool false])) ∨
    (∃ (a b : Nat) (l m : List Nat) (v' : Value), i = a ∧ j = b ∧ a ≠ b ∧ L[a]? = some l ∧ L[b]? = some m ∧ e = .returned (.tuple #[v', .bool true]) ∧ LL w' X v' ((L.set a (l ++ m)).set b [])))

theorem join_bad (h : LL w X v L) (i j : Int) (hb : BadJoin L i j) : Calls Try.prog 12 #[v, .int .i64 i, .int .i64 j] w (JoinP w X v L i j) := by
  obtain ⟨A, c, rfl, hc⟩ := h.form
  have H := Lib.hid h
  have HB := Lib.hid hb
  by_cases hi : i < 0 ∨ (L.length : Int) ≤ i
  · have C := Lib.hid (is_no h hi)
    clear h hb hi
    go_enter Try.func12, Try.ntmps12
    go_wp2_with fail
    refine C.out.mono ?_
    rintro e w1 ⟨rfl, rfl⟩
    go_wp2_with fail
    go_ret2
    exact ⟨Below.refl _ _, .inl ⟨HB.out, rfl⟩⟩
  · obtain ⟨a, rfl⟩ := Int.eq_ofNat_of_zero_le (by omega : 0 ≤ i)
    have ha : a < L.length := by omega
    have C := Lib.hid (is_yes h ha)
    by_cases hj : j < 0 ∨ (L.length : Int) ≤ j
    · have D := Lib.hid (is_no h hj)
      clear h hb hi hj
      go_enter Try.func12, Try.ntmps12
      go_wp2_with fail
      refine C.out.mono ?_
      rintro e w1 ⟨rfl, rfl⟩
      go_wp2_with fail
      refine D.out.mono ?_
      rintro e w1 ⟨rfl, rfl⟩
      go_wp2_with fail
      go_ret2
      exact ⟨Below.refl _ _, .inl ⟨HB.out, rfl⟩⟩
    · have hij : j = (a : Int) := by
        rcases hb with h | h | h | h | h
        · exact absurd h (by omega)
        · exact absurd h (by omega)
        · exact absurd (.inl h) hj
        · exact absurd (.inr h) hj
        · exact h.symm
      subst hij
      have t1 : ((a : Int) == (a : Int)) = true := by simp
      clear h hb hi hj
      go_enter Try.func12, Try.ntmps12
      go_wp2_with fail
      refine C.out.mono ?_
      rintro e w1 ⟨rfl, rfl⟩
      go_wp2_with fail
      refine C.out.mono ?_
      rintro e w1 ⟨rfl, rfl⟩
      go_wp2_with fail
      go_ret2
      exact ⟨Below.refl _ _, .inl ⟨HB.out, rfl⟩⟩

theorem join_end {w w9 w10 w' : World} {a b : Nat} {l m : List Nat} {v' : Value} (k9 : Kept none_ w w9) (b1 : Below w9.heap.size w9 w10) (b2 : Below w10.heap.size w10 w') (hne : a ≠ b) (hl : L[a]? = some l) (hm : L[b]? = some m) (hv : LL w' X v' ((L.set a (l ++ m)).set b [])) :
    JoinP w X v L a b (.returned (.tuple #[v', .bool true])) w' :=
  ⟨k9.toBelow'.trans ((b1.trans (b2.mono b1.size)).mono k9.size), .inr ⟨a, b, l, m, v', rfl, rfl, hne, hl, hm, rfl, hv⟩⟩

theorem app0 {w w8 : World} (hg : (w.drew.alloc (.cells #[] 3)).grownBy w8 (Value.ownBlock (.slice (some ⟨w.heap.size, 0, none⟩) 0 0))) : Kept none_ w w8 :=
  Kept.below (((Below.refl _ w).drew.alloc (Nat.le_refl _) _).trans ((Kept.grown (F := fun i => i = w.heap.size) hg (fun q hq => .inl (by simpa [Value.ownBlock] using hq.symm))).toBelow (fun i hi => Nat.le_of_eq hi.symm) (by simp))) rfl
theorem app1 {α : Type} {w w8 w9 : World} {v : Value} {t : TypeId} {size : Nat} {enc : α → List Value} {l : List α} (hk : Kept none_ w w8) (ho : Own w8 w.heap.size t size enc v l) (hg : w8.grownBy w9 v.ownBlock) : Kept none_ w w9 :=
  hk.trans' (Kept.grown (F := fun i => v.ownBlock = some i) hg (fun q hq => .inl hq)) (fun i hi => .inr (ho.lt i hi).1)

set_option maxRecDepth 100000 in
set_option maxHeartbeats 1000000 in
theorem join_good (h : LL w X v L) (hL : L.length ≤ 8) (hX : ∀ j, X j → j < w.heap.size) (a b : Nat) (l m : List Nat) (hne : a ≠ b) (hl : L[a]? = some l) (hm : L[b]? = some m) (hl30 : l.length ≤ 30) (hm30 : m.length ≤ 30) :
    Calls Try.prog 12 #[v, .int .i64 (a : Int), .int .i64 (b : Int)] w (JoinP w X v L a b) := by
  obtain ⟨i0, hi0, hz0, hz1, hz2⟩ := info_parts Chain.info3
  obtain ⟨A, c, rfl, hc⟩ := h.form
  have ha := (List.getElem?_eq_some_iff.1 hl).1
  have hb := (List.getElem?_eq_some_iff.1 hm).1
  have C := Lib.hid (is_yes h ha)
  have D := Lib.hid (is_yes h hb)
  obtain ⟨bk, off, h1, hA, hbl, q0, hs1⟩ := h.at_ hl
  subst hA
  obtain ⟨bk', off', h2, hA, _, q1, hs2⟩ := h.at_ hm
  injection hA with hA
  injection hA with hA1 hA2
  subst hA1 hA2
  obtain ⟨A1, n1, c1, rfl⟩ := hs1.1.form'
  obtain ⟨A2, n2, c2, rfl⟩ := hs2.1.form'
  have H := Lib.hid h
  have HX := Lib.hid hX
  have HL := Lib.hid hl
  have HM := Lib.hid hm
  have HS1 := Lib.hid hs1
  have HS2 := Lib.hid hs2
  have HNE := Lib.hid hne
  have t1 : ((a : Int) == (b : Int)) = false := by simp; omega
  have k0 : (0 : Int) ≤ (a : Int) := by omega
  have k1 : (a : Int) < (L.length : Int) := by omega
  have k2 : (0 : Int) ≤ (b : Int) := by omega
  have k3 : (b : Int) < (L.length : Int) := by omega
  have hnl : (ns l).length ≤ 30 := by rw [ns_length]; exact hl30
  have hnm : (ns m).length ≤ 30 := by rw [ns_length]; exact hm30
  have hK : Kept none_ w w.drew := (Kept.refl _ _).drew
  clear h hX hl hm hs1 hs2 hne hc
  go_enter Try.func12, Try.ntmps12
  go_wp2_with fail
  refine C.out.mono ?_
  rintro e w1 ⟨rfl, rfl⟩
  go_wp2_with fail
  refine D.out.mono ?_
  rintro e w1 ⟨rfl, rfl⟩
  go_wp2_with fail
  go_region_held3 (fun w' => w'.cell? ⟨bk, off + a, none⟩ = some (.slice A1 n1 c1) ∧ w'.cell? ⟨bk, off + b, none⟩ = some (.slice A2 n2 c2))
    (first
      | exact ⟨q0, q1⟩
      | exact ⟨(hK.cell (p := ⟨bk, off + a, none⟩) hbl (fun h => h)).trans q0, (hK.cell (p := ⟨bk, off + b, none⟩) hbl (fun h => h)).trans q1⟩
      | go_keep)
    (first
      | (refine step_append_sl _ (by rfl) (.tmp 25) (.tmp 29) 40 (by rfl) w.heap.size 3 i0 (.int .i64 0) 1 8 Try.underlying40 hi0 hz0 hz1 hz2 rfl (by decide) eInt_len eInt_one (.slice (some ⟨w.heap.size, 0, none⟩) 0 0) ([] : List Int) (by rfl) (Own.lit0' w.drew w.heap.size w.heap.size (by rfl) (Nat.le_refl _)) _ (ns l) (by rfl) ((HS1.out.ext hK).1.alloc _) (by unfold maxLen; simp; omega) (by simp; omega) (by simp) ?_; intro v8 w8 hown8 hgrow8 hat8; have hK := app0 hgrow8; have hs8 := hK.size; rw [List.nil_append] at hown8; have HO8 := Lib.hid hown8; clear hown8 hgrow8 hat8)
      | (refine step_append_sl _ (by rfl) (.tmp 30) (.tmp 34) 40 (by rfl) w.heap.size 3 i0 (.int .i64 0) 1 8 Try.underlying40 hi0 hz0 hz1 hz2 rfl (by decide) eInt_len eInt_one v8 (ns l) (by rfl) HO8.out _ (ns m) (by rfl) (HS2.out.ext hK).1 (by unfold maxLen; omega) (by omega) hs8 ?_; intro v9 w9 hown9 hgrow9 hat9; have hK := app1 hK HO8.out hgrow9; have HK9 := Lib.hid hK; have hs9 := hK.size; have HO9 := Lib.hid hown9; clear hown9 hgrow9 hat9))
  obtain ⟨A9, n9, c9, rfl⟩ := HO9.out.form'
  have HS9 : Hid (SlX w9 X 3 1 eInt (.slice A9 n9 c9) (ns (l ++ m))) := Lib.hid (by rw [ns_append]; exact own_slx HO9.out eInt_len HX.out)
  have HX9 : Hid (∀ j, X j → j < w9.heap.size) := Lib.hid (fun j hj => Nat.lt_of_lt_of_le (HX.out j hj) hs9)
  have H9 : Hid (LL w9 X (.slice (some ⟨bk, off, none⟩) L.length c) L) := Lib.hid (H.out.ext HK9.out)
  clear hK
  go_wp2_with fail
  refine (with_any (at_ := a) (l := l ++ m) H9.out ha hL HS9.out HX9.out).mono ?_
  rintro e w10 ⟨v10, rfl, h10, b10⟩
  obtain ⟨A10, c10, he, _⟩ := h10.form
  rw [List.length_set] at he
  subst he
  have hb' : b < (L.set a (l ++ m)).length := by rw [List.length_set]; exact hb
  have hL' : (L.set a (l ++ m)).length ≤ 8 := by rw [List.length_set]; exact hL
  have HX10 : Hid (∀ j, X j → j < w10.heap.size) := Lib.hid (fun j hj => Nat.lt_of_lt_of_le (HX9.out j hj) b10.size)
  have D2 := Lib.hid (with_any (at_ := b) (l := []) (hx := .slice none 0 0) h10 hb' hL' (SlX.nil _ _ (Nat.zero_le _)) HX10.out)
  have HB10 := Lib.hid b10
  clear h10 b10 hb' hL'
  go_wp2_with fail
  refine D2.out.mono ?_
  rintro e w11 ⟨v11, rfl, h11, b11⟩
  have HE := Lib.hid (join_end (X := X) (v := .slice (some ⟨bk, off, none⟩) L.length c) HK9.out HB10.out b11 HNE.out HL.out HM.out h11)
  clear h11 b11
  go_wp2_with fail
  go_ret2
  exact HE.out
end
end Go.Proofs.Ytjblhgljajjdgaa.Refs
