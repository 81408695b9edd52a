/- The reference's rows: contracts of Set, Due. -/
import Derived.Test.YtnnbpmjcdcmigaaRefT
namespace Go.Proofs.Ytnnbpmjcdcmigaa.RefT
open Go.RowKit Line HeapLaw TimLaw

theorem rw_cells {w : World} {b off n c k : Nat} {x : List E} {a : E} (h : Rw w (.slice (some ⟨b, off, none⟩) n c) x) (ha : x[k]? = some a) :
    w.cell? ⟨b, off + k * 2, none⟩ = some (.int .i64 a.id) ∧ w.cell? ⟨b, off + k * 2 + 1, none⟩ = some (.int .i64 a.at_) ∧ b < w.heap.size := by
  obtain ⟨b', off', e, hb, _, hc⟩ := h.atN ha
  injection e with e
  injection e with e1 e2
  subst e1 e2
  exact ⟨hc 0 _ rfl, hc 1 _ rfl, hb⟩
theorem insState_next {e : E} {y : List E} {k : Nat} {a : E} (h : y[k]? = some a) : insState e (y.take (k + 1)) = insStep e (insState e (y.take k)) a := by rw [take_next h, insState_snoc]

def SetR (base : Nat) (W : World) (e : E) (y : List E) (m : Nat) (out d i : Value) (wr : World) : Prop :=
  ∃ k : Nat, m + k = y.length ∧ i = .int .i64 k ∧ d = .bool (insState e (y.take k)).1 ∧ Own wr base 45 2 E.enc out (insState e (y.take k)).2 ∧ Below base W wr ∧ base ≤ wr.heap.size

set_option maxRecDepth 100000 in
set_option maxHeartbeats 2000000 in
theorem set_any {w : World} {vx : Value} {x : List E} (h : Rw w vx x) (hl : x.length ≤ 199) (id at_ : Int) : Calls Try.prog 7 #[vx, .int .i64 id, .int .i64 at_] w (Made w (setL x id at_)) := by
  obtain ⟨i0, hi0, hz0, hz1, hz2⟩ := info_parts' info45
  have C := Lib.hid (without_any h (by omega) id)
  have hyl := without_len x id
  have HY : Hid (setL x id at_ = insEnd ⟨id, at_⟩ (insState ⟨id, at_⟩ (TimLaw.without x id))) := Lib.hid (by rw [insState_end]; rfl)
  clear h
  generalize TimLaw.without x id = y at *
  generalize setL x id at_ = z at *
  have hy2 : y.length ≤ 199 := by omega
  clear hyl hl
  go_enter Try.func7, Try.ntmps7
  go_wp2_with fail
  refine C.out.mono ?_
  rintro e w1 ⟨o1, rfl, hoy, hb1⟩
  have hRy : Rw w1 o1 y := hoy.sl enc_len
  obtain ⟨A, c, rfl, hc⟩ := hRy.form
  have HS := Lib.hid hRy
  have HB1 := Lib.hid hb1
  clear hoy hb1 hRy hc C
  go_wp2_with fail
  go_loopg [7, 8, 9] y.length (fun m out d i wr => SetR w1.heap.size w1 ⟨id, at_⟩ y m out d i wr)
  case atStart => exact ⟨0, by omega, rfl, rfl, Own.nil _ _, Below.refl _ _, Nat.le_refl _⟩
  case round =>
    obtain ⟨k, hm, rfl, rfl, ho, hb, hsz⟩ := hrel
    obtain ⟨B, N, c', rfl⟩ := ho.form'
    have HO := Lib.hid ho
    have HB := Lib.hid hb
    clear ho hb
    by_cases hlt : k < y.length
    · obtain ⟨a, ha⟩ : ∃ a, y[k]? = some a := ⟨y[k]'hlt, List.getElem?_eq_getElem hlt⟩
      obtain ⟨b, off, rfl, hbl, _⟩ := (HS.out.below HB.out).atN ha
      obtain ⟨q0, q1, _⟩ := rw_cells (HS.out.below HB.out) ha
      have HA := Lib.hid ha
      have k0 : (0 : Int) ≤ (k : Int) := by omega
      have k1 : (k : Int) < (y.length : Int) := by omega
      have HN := Lib.hid (insState_next (e := ⟨id, at_⟩) ha)
      have hlen := insState_len ⟨id, at_⟩ (y.take k)
      rw [List.length_take] at hlen
      have hlen' : (insState ⟨id, at_⟩ (y.take k)).2.length ≤ 200 := by omega
      have HLEN := Lib.hid hlen'
      clear hlen hlen' ha
      generalize hst : insState ⟨id, at_⟩ (y.take k) = st at *
      obtain ⟨d, out⟩ := st
      clear hst
      simp only at HO HLEN
      cases d with
      | true =>
        go_wp2_with (at_builtin; refine wpList_append_one _ rfl (.tmp 54) (.tmp 59) 26 rfl w1.heap.size 45 i0 (.agg #[.int .i64 0, .int .i64 0]) 2 16 Try.underlying26 hi0 hz0 hz1 hz2 rfl (by decide) (.slice B N c') _ rfl (HO.out.alloc _) wr.heap.size a rfl rfl (new_row wr _ rfl a) (ent_one _) (by have := HLEN.out; omega) (by have := HLEN.out; unfold maxLen; omega) (by simp; omega) ?_; intro v' w2 hown' hgrow hat)
        have hb2 : Below w1.heap.size w1 w2 := (HB.out.alloc HB.out.size _).grown hgrow (by simp; omega) (fun q hq => (HO.out.lt q hq).1)
        have HB2 := Lib.hid hb2
        have HO2 := Lib.hid hown'
        obtain ⟨B', N', c'', rfl⟩ := hown'.form'
        clear hb2 hown' hgrow hat
        go_wp2_with fail
        go_roundg (gk - 1)
        case measure => omega
        case rel => exact ⟨k + 1, by omega, by go_num, by rw [HN.out]; rfl, by rw [HN.out]; exact HO2.out, HB2.out, HB2.out.size⟩
      | false =>
        cases t1 : decide (at_ < a.at_) <;> cases t2 : (at_ == a.at_) <;> cases t3 : decide (id < a.id)
        all_goals
          have hL : lessE ⟨id, at_⟩ a = (decide (at_ < a.at_) || ((at_ == a.at_) && decide (id < a.id))) := by unfold lessE; congr 2
          rw [t1, t2, t3] at hL
          have HL := Lib.hid hL
          clear hL
          first
          | (have hF : lessE ⟨id, at_⟩ a = false := HL.out.trans rfl
             have HF := Lib.hid hF
             clear hF HL
             go_wp2_with (at_builtin; refine wpList_append_one _ rfl (.tmp 54) (.tmp 59) 26 rfl w1.heap.size 45 i0 (.agg #[.int .i64 0, .int .i64 0]) 2 16 Try.underlying26 hi0 hz0 hz1 hz2 rfl (by decide) (.slice B N c') _ rfl (HO.out.alloc _) wr.heap.size a rfl rfl (new_row wr _ rfl a) (ent_one _) (by have := HLEN.out; omega) (by have := HLEN.out; unfold maxLen; omega) (by simp; omega) ?_; intro v' w2 hown' hgrow hat)
             have hb2 : Below w1.heap.size w1 w2 := (HB.out.alloc HB.out.size _).grown hgrow (by simp; omega) (fun q hq => (HO.out.lt q hq).1)
             have HB2 := Lib.hid hb2
             have HO2 := Lib.hid hown'
             obtain ⟨B', N', c'', rfl⟩ := hown'.form'
             clear hb2 hown' hgrow hat
             go_wp2_with fail
             go_roundg (gk - 1)
             case measure => omega
             case rel => exact ⟨k + 1, by omega, by go_num, by rw [HN.out]; unfold insStep; rw [HF.out]; rfl, by rw [HN.out]; unfold insStep; rw [HF.out]; exact HO2.out, HB2.out, HB2.out.size⟩)
          | (have hF : lessE ⟨id, at_⟩ a = true := HL.out.trans rfl
             have HF := Lib.hid hF
             clear hF HL
             go_wp2_with (first
               | (at_builtin; refine wpList_append_one _ rfl (.tmp 48) (.tmp 52) 26 rfl w1.heap.size 45 i0 (.agg #[.int .i64 0, .int .i64 0]) 2 16 Try.underlying26 hi0 hz0 hz1 hz2 rfl (by decide) (.slice B N c') _ rfl (HO.out.alloc _) wr.heap.size ⟨id, at_⟩ rfl rfl (new_row wr _ rfl ⟨id, at_⟩) (ent_one _) (by have := HLEN.out; omega) (by have := HLEN.out; unfold maxLen; omega) (by simp; omega) ?_; intro v' w2 hown' hgrow hat; have hb2 : Below w1.heap.size w1 w2 := (HB.out.alloc HB.out.size _).grown hgrow (by simp; omega) (fun q hq => (HO.out.lt q hq).1); have HB2 := Lib.hid hb2; have HO2 := Lib.hid hown'; have hsz2 := hb2.size; obtain ⟨B', N', c'', rfl⟩ := hown'.form'; clear hb2 hown' hgrow hat q0 q1 hbl; obtain ⟨q0, q1, hbl⟩ := rw_cells (HS.out.below HB2.out) HA.out)
               | (at_builtin; refine wpList_append_one _ rfl (.tmp 54) (.tmp 59) 26 rfl w1.heap.size 45 i0 (.agg #[.int .i64 0, .int .i64 0]) 2 16 Try.underlying26 hi0 hz0 hz1 hz2 rfl (by decide) (.slice B' N' c'') _ rfl (HO2.out.alloc _) w2.heap.size a rfl rfl (new_row w2 _ rfl a) (ent_one _) (by have := HLEN.out; simp; omega) (by have := HLEN.out; unfold maxLen; simp; omega) (by simp; omega) ?_; intro v' w3 hown' hgrow hat))
             have hb3 : Below w1.heap.size w1 w3 := (HB2.out.alloc HB2.out.size _).grown hgrow (by simp; omega) (fun q hq => (HO2.out.lt q hq).1)
             have HB3 := Lib.hid hb3
             have HO3 := Lib.hid hown'
             obtain ⟨B'', N'', c''', rfl⟩ := hown'.form'
             clear hb3 hown' hgrow hat
             go_wp2_with fail
             go_roundg (gk - 1)
             case measure => omega
             case rel => exact ⟨k + 1, by omega, by go_num, by rw [HN.out]; unfold insStep; rw [HF.out]; rfl, by rw [HN.out]; unfold insStep; rw [HF.out]; simpa using HO3.out, HB3.out, HB3.out.size⟩)
    · obtain rfl : k = y.length := by omega
      have HO' : Hid (Own wr w1.heap.size 45 2 E.enc (.slice B N c') (insState ⟨id, at_⟩ y).2) := Lib.hid (by have := HO.out; rwa [List.take_length] at this)
      have hlen := insState_len ⟨id, at_⟩ y
      have hlen' : (insState ⟨id, at_⟩ y).2.length ≤ 200 := by omega
      have HLEN := Lib.hid hlen'
      rw [List.take_length]
      clear hlen hlen' HO
      generalize hst : insState ⟨id, at_⟩ y = st at *
      obtain ⟨d, out⟩ := st
      clear hst
      simp only at HO' HLEN
      have HF : Hid (∀ o wz, Own wz w1.heap.size 45 2 E.enc o z → Below w1.heap.size w1 wz → Made w z (.returned o) wz) := Lib.hid fun o wz h1 h2 =>
        ⟨o, rfl, ⟨h1.1, h1.2.imp (fun h => h) (fun ⟨g, cap, cur, a1, a2, a3⟩ => ⟨g, cap, cur, a1, Nat.le_trans HB1.out.size a2, a3⟩)⟩, HB1.out.trans (h2.mono HB1.out.size)⟩
      cases d with
      | true =>
        have HE : Hid (out = z) := Lib.hid HY.out.symm
        clear HY
        go_wp2_with fail
        go_ret
        exact HF.out _ _ (HE.out ▸ HO'.out) HB.out
      | false =>
        have HE : Hid (out ++ [⟨id, at_⟩] = z) := Lib.hid HY.out.symm
        clear HY
        go_wp2_with (at_builtin; refine wpList_append_one _ rfl (.tmp 63) (.tmp 67) 26 rfl w1.heap.size 45 i0 (.agg #[.int .i64 0, .int .i64 0]) 2 16 Try.underlying26 hi0 hz0 hz1 hz2 rfl (by decide) (.slice B N c') _ rfl (HO'.out.alloc _) wr.heap.size ⟨id, at_⟩ rfl rfl (new_row wr _ rfl ⟨id, at_⟩) (ent_one _) (by have := HLEN.out; omega) (by have := HLEN.out; unfold maxLen; omega) (by simp; omega) ?_; intro v' w2 hown' hgrow hat)
        have hb2 : Below w1.heap.size w1 w2 := (HB.out.alloc HB.out.size _).grown hgrow (by simp; omega) (fun q hq => (HO'.out.lt q hq).1)
        have HB2 := Lib.hid hb2
        have HO2 := Lib.hid hown'
        obtain ⟨B', N', c'', rfl⟩ := hown'.form'
        clear hb2 hown' hgrow hat
        go_wp2_with fail
        go_ret
        exact HF.out _ _ (HE.out ▸ HO2.out) HB2.out

theorem add_row (b off m : Nat) : ((⟨b, off, none⟩ : Addr).add m) = ⟨b, off + m, none⟩ := by by_cases h0 : m = 0 <;> simp [Addr.add, h0]

def DueM (w : World) (x : List E) (now : Int) (e : Ending) (w' : World) : Prop :=
  ∃ o v, e = .returned (.tuple #[o, v]) ∧ Own w' w.heap.size 3 1 eInt o ((TimLaw.due x now).map E.id) ∧ Rw w' v (TimLaw.rest x now) ∧ Below w.heap.size w w'
def DueL (w : World) (x : List E) (now : Int) (m : Nat) (out i : Value) (wr : World) : Prop :=
  ∃ k : Nat, m + k = x.length ∧ i = .int .i64 k ∧ (∀ e ∈ x.take k, e.at_ ≤ now) ∧ Own wr w.heap.size 3 1 eInt out ((x.take k).map E.id) ∧ Below w.heap.size w wr
theorem DueM.mk {w wr : World} {x : List E} {now : Int} {k N C : Nat} {A : Option Addr} {out : Value} (hr : Rw wr (.slice A N C) x) (hk : k ≤ x.length) (h1 : ∀ e ∈ x.take k, e.at_ ≤ now) (h2 : ∀ e, x[k]? = some e → now < e.at_)
    (ho : Own wr w.heap.size 3 1 eInt out ((x.take k).map E.id)) (hb : Below w.heap.size w wr) (n : Nat) :
    DueM w x now (.returned (.tuple #[out, .slice (if C = k then A else A.map (·.add (k * 2))) (N - k) (C - k)])) (wr.drewN n) := by
  obtain ⟨e1, e2⟩ := due_cut (xs := x.take k) (ys := x.drop k) h1 (fun e he => h2 e (by rw [← he, List.head?_drop]))
  rw [List.take_append_drop] at e1 e2
  refine ⟨_, _, rfl, by rw [e1]; exact ho.drewN n, ?_, below_drewN hb n⟩
  rw [e2]
  exact (hr.drop k hk).drewN n

set_option maxRecDepth 100000 in
set_option maxHeartbeats 2000000 in
theorem due_any {w : World} {vx : Value} {x : List E} (h : Rw w vx x) (hl : x.length ≤ 200) (now : Int) : Calls Try.prog 12 #[vx, .int .i64 now] w (DueM w x now) := by
  obtain ⟨i0, hi0, hz0, hz1, hz2⟩ := info_parts' info3
  obtain ⟨A, c, rfl, hc⟩ := h.form
  have hcl : x.length ≤ c := hc.1
  have hcm : c ≤ 9223372036854775807 := hc.2
  have HS := Lib.hid h
  clear h hc
  go_enter Try.func12, Try.ntmps12
  go_wp2_with fail
  go_loopg [6, 7] x.length (fun m out i wr => DueL w x now m out i wr)
  case atStart => exact ⟨0, by omega, rfl, by simp, Own.nil _ _, Below.refl _ _⟩
  case round =>
    obtain ⟨k, hm, rfl, h1, ho, hb⟩ := hrel
    obtain ⟨B, N, c', rfl⟩ := ho.form'
    have k0 : (0 : Int) ≤ (k : Int) := by omega
    by_cases hlt : k < x.length
    · obtain ⟨a, ha⟩ : ∃ a, x[k]? = some a := ⟨x[k]'hlt, List.getElem?_eq_getElem hlt⟩
      obtain ⟨b, off, rfl, hbl, _⟩ := (HS.out.below hb).atN ha
      obtain ⟨q0, q1, _⟩ := rw_cells (HS.out.below hb) ha
      have k1 : (k : Int) < (x.length : Int) := by omega
      by_cases hat : a.at_ ≤ now
      · have t1 : decide (a.at_ ≤ now) = true := by simpa using hat
        have HT := Lib.hid (take_next ha)
        have H1 := Lib.hid h1
        have HA := Lib.hid hat
        have HO := Lib.hid ho
        have HB := Lib.hid hb
        clear ha h1 hat ho hb
        go_wp2_with (at_builtin; refine wpList_append_one _ rfl (.tmp 21) (.tmp 27) 35 rfl w.heap.size 3 i0 (.int .i64 0) 1 8 Try.underlying35 hi0 hz0 hz1 hz2 rfl (by decide) (.slice B N c') _ rfl (HO.out.alloc _) wr.heap.size a.id rfl rfl (new_cell_int wr _ 3) (eInt_one _) (by rw [List.length_map, List.length_take]; omega) (by unfold maxLen; rw [List.length_map, List.length_take]; omega) (by have := HB.out.size; simp; omega) ?_; intro v' w1 hown' hgrow hat)
        have hb1 : Below w.heap.size w w1 := (HB.out.alloc HB.out.size _).grown hgrow (by have := HB.out.size; simp; omega) (fun q hq => (HO.out.lt q hq).1)
        have HB1 := Lib.hid hb1
        have HO1 := Lib.hid hown'
        obtain ⟨B', N', c'', rfl⟩ := hown'.form'
        clear hb1 hown' hgrow hat
        go_wp2_with fail
        go_roundg (gk - 1)
        case measure => omega
        case rel =>
          refine ⟨k + 1, by omega, by go_num, ?_, by rw [HT.out]; simpa using HO1.out, HB1.out⟩
          rw [HT.out]
          intro e he
          rcases List.mem_append.1 he with he | he
          · exact H1.out e he
          · rw [List.mem_singleton.1 he]; exact HA.out
      · have t1 : decide (a.at_ ≤ now) = false := by simpa using hat
        have hM := fun n => DueM.mk (now := now) (HS.out.below hb) (Nat.le_of_lt hlt) h1 (fun e he => by rw [ha] at he; injection he with he; subst he; omega) ho hb n
        clear ha h1 hat ho hb
        by_cases hck : c = k
        · omega
        · simp only [if_neg hck] at hM
          have HM := Lib.hid hM
          clear hM
          go_wp2_with fail
          go_quiet (fail)
          go_wp2_with fail
          go_ret2
          have ha := add_row b off (k * 2)
          have hM := HM.out
          simp only [Option.map_some, ha] at hM
          exact hM _
    · obtain rfl : k = x.length := by omega
      have hM := fun n => DueM.mk (now := now) (HS.out.below hb) (Nat.le_refl _) h1 (fun e he => by rw [List.getElem?_eq_none (Nat.le_refl _)] at he; cases he) ho hb n
      clear h1 ho hb
      by_cases hck : c = x.length
      · subst hck
        simp only [if_true, Nat.sub_self] at hM
        have HM := Lib.hid hM
        clear hM
        go_wp2_with fail
        go_quiet (fail)
        go_wp2_with fail
        go_ret2
        exact HM.out _
      · simp only [if_neg hck, Nat.sub_self] at hM
        have HM := Lib.hid hM
        clear hM
        go_wp2_with fail
        go_quiet (fail)
        go_wp2_with fail
        go_ret2
        exact HM.out _
end Go.Proofs.Ytnnbpmjcdcmigaa.RefT
