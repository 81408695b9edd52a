/- The timer: contract of Due. -/
import Derived.Test.YtnnbpmjcdcmigaaTimG
import Derived.Deep.LoopGhost
namespace Go.Proofs.Ytnnbpmjcdcmigaa.Line
open Go.RowKit HeapLaw TimLaw

section
variable {w w' : World} {t r n : Nat} {v : Value} {l x x' : List E} {f : Int → Option Value} {F : Nat → Prop}
theorem due_cut {xs ys : List E} {now : Int} (h : ∀ e ∈ xs, e.at_ ≤ now) (hy : ∀ e, ys.head? = some e → now < e.at_) : TimLaw.due (xs ++ ys) now = xs ∧ TimLaw.rest (xs ++ ys) now = ys := by
  unfold TimLaw.due TimLaw.rest
  have h1 : ∀ e ∈ xs, TimLaw.early now e = true := fun e he => by simpa [TimLaw.early] using h e he
  rw [List.takeWhile_append_of_pos h1, List.dropWhile_append_of_pos h1]
  cases ys with
  | nil => simp
  | cons b ys =>
    have := hy b rfl
    have hb : TimLaw.early now b = false := by simpa [TimLaw.early] using this
    simp [hb]
theorem info3 : (Try.prog.info? 3).map (fun i => (i.zero, i.size, i.bytes)) = some (some (.int .i64 0), 1, 8) := by kernel_rfl

def DueR (w : World) (t r : Nat) (v : Value) (x : List E) (now : Int) (m : Nat) (out : Value) (wr : World) : Prop :=
  ∃ xs ys, x = xs ++ ys ∧ ys.length = m ∧ (∀ e ∈ xs, e.at_ ≤ now) ∧ Own wr w.heap.size 3 1 eInt out (xs.map E.id) ∧ Aft w t r v ys wr ∧ xs.length + ys.length ≤ 200
def DueP (w : World) (t r : Nat) (v : Value) (x : List E) (now : Int) (e : Ending) (w' : World) : Prop :=
  ∃ o, e = .returned o ∧ Own w' w.heap.size 3 1 eInt o ((TimLaw.due x now).map E.id) ∧ Aft w t r v (TimLaw.rest x now) w'
theorem DueR.done {m : Nat} {out : Value} {wr : World} {xs ys : List E} {now : Int} (hx : x = xs ++ ys) (h1 : ∀ e ∈ xs, e.at_ ≤ now) (h2 : ∀ e, ys.head? = some e → now < e.at_) (ho : Own wr w.heap.size 3 1 eInt out (xs.map E.id)) (ha : Aft w t r v ys wr) : DueP w t r v x now (.returned out) wr := by
  obtain ⟨e1, e2⟩ := due_cut h1 h2
  subst hx
  exact ⟨out, rfl, by rw [e1]; exact ho, by rw [e2]; exact ha⟩

set_option maxRecDepth 100000 in
set_option maxHeartbeats 1000000 in
theorem due_any (h : Tm w t r v x) (now : Int) : Calls Try.prog 14 #[.pointer (some ⟨t, 0, none⟩), .int .i64 now] w (DueP w t r v x now) := by
  obtain ⟨i0, hi0, hz0, hz1, hz2⟩ := info_parts' info3
  have HH := Lib.hid h
  have HL := Lib.hid h.len_le
  clear h
  go_enter Try.func14, Try.ntmps14
  go_wp2_with fail
  go_loopg [5] x.length (fun m out wr => DueR w t r v x now m out wr)
  case atStart => exact ⟨[], x, rfl, rfl, by simp, Own.nil _ _, Aft.start HH.out, by simpa using HL.out⟩
  case round =>
    clear HH HL
    obtain ⟨xs, ys, hx, hm, h1, ho, ha, hl⟩ := hrel
    obtain ⟨v1, hT, hK, hO⟩ := ha
    obtain ⟨A, N, c, rfl⟩ := ho.form'
    have hN := (ho.sl eInt_len).len.1
    cases ys with
    | nil =>
      have HC := Lib.hid (tnext_nil hT)
      have HE : Hid (∀ w1, Below wr.heap.size wr w1 → DueP w t r v x now (.returned (.slice A N c)) w1) := Lib.hid fun w1 hb =>
        DueR.done (m := 0) hx h1 (by simp) (ho.kept (F := none_) (Kept.below hb rfl) Off.none_) (Aft.ext ⟨v1, hT, hK, hO⟩ (Kept.below hb rfl))
      clear hx hm h1 ho hl hT hK hO hN
      go_wp2_with fail
      refine HC.out.mono ?_
      rintro e w1 ⟨rfl, hb⟩
      have HR := Lib.hid (HE.out w1 hb)
      clear HC HE hb
      go_wp2_with fail
      go_ret
      exact HR.out
    | cons b ys =>
      have HC := Lib.hid (tnext_cons hT)
      by_cases hb : b.at_ ≤ now
      · have t1 : decide (now < b.at_) = false := by simpa using hb
        have HE : Hid (∀ w1, Below wr.heap.size wr w1 → Own w1 w.heap.size 3 1 eInt (.slice A N c) (xs.map E.id) ∧ Tm w1 t r v1 (b :: ys) ∧ Kept (Fb t r v) w w1) := Lib.hid fun w1 hb =>
          ⟨ho.kept (F := none_) (Kept.below hb rfl) Off.none_, hT.ext (Kept.below hb rfl), hK.trans' (Kept.below (F := none_) hb rfl) (fun _ h => h.elim)⟩
        have HO := Lib.hid hO
        have HX := Lib.hid hx
        have HM := Lib.hid hm
        have H1 := Lib.hid h1
        have HN := Lib.hid hN
        simp only [List.length_cons] at hl
        have HLL := Lib.hid hl
        clear hx hm h1 ho hl hT hK hO hN
        go_wp2_with fail
        refine HC.out.mono ?_
        rintro e w1 ⟨rfl, hbl⟩
        obtain ⟨hown, hT, hK⟩ := HE.out w1 hbl
        have HOWN := Lib.hid hown
        have HT := Lib.hid hT
        have HK := Lib.hid hK
        clear HC HE hbl hown hT hK hb
        go_wp2_with (at_builtin; refine wpList_append_one _ rfl (.tmp 26) (.tmp 28) 35 rfl w.heap.size 3 i0 (.int .i64 0) 1 8 Try.underlying35 hi0 hz0 hz1 hz2 rfl (by decide) (.slice A N c) _ rfl (HOWN.out.alloc _) w1.heap.size b.id rfl rfl (new_cell_int w1 _ 3) (eInt_one _) (by have := HLL.out; rw [List.length_map]; omega) (by have := HLL.out; unfold maxLen; rw [List.length_map]; omega) (by have := HK.out.size; simp; omega) ?_; intro o1 w2 hown' hgrow hat)
        have hT2 := (HT.out.ext ((Kept.refl none_ w1).alloc (.cells #[.int .i64 b.id] 3))).grown (HOWN.out.alloc _) (by decide) (by decide) hgrow
        have hK2 : Kept (Fb t r v) w w2 := (HK.out.alloc (.cells #[.int .i64 b.id] 3)).trans' (Kept.grown (F := fun j => (Value.slice A N c).ownBlock = some j) hgrow (fun q hq => .inl hq)) (fun q hq => .inr (HOWN.out.lt q hq).1)
        have HC2 := Lib.hid (tstop_head hT2)
        have HO2 := Lib.hid hown'
        have HT2 := Lib.hid hT2
        have HK2 := Lib.hid hK2
        obtain ⟨A', N', c', rfl⟩ := hown'.form'
        clear hT2 hK2 hown' hgrow hat HT HK HOWN
        go_wp2_with fail
        refine HC2.out.mono ?_
        rintro e w3 ⟨rfl, v3, hT3, hK3, hO3⟩
        have hR : DueR w t r v x now (gk - 1) (.slice A' N' c') w3 := by
          refine ⟨xs ++ [b], ys, by rw [HX.out]; simp, by rw [← HM.out]; simp, ?_, ?_, Aft.trans HK2.out HO.out ⟨v3, hT3, hK3, hO3⟩, by have := HLL.out; simp; omega⟩
          · intro e he
            rcases List.mem_append.1 he with he | he
            · exact H1.out e he
            · rw [List.mem_singleton.1 he]; simpa using t1
          · rw [List.map_append]
            exact HT2.out.own HO2.out (by decide) (by decide) hK3
        have HR := Lib.hid hR
        have hg : 0 < gk := by rw [← HM.out]; simp
        clear hR hT3 hK3 hO3 HC2 HT2 HO2 HK2
        go_wp2_with fail
        go_roundg (gk - 1)
        case measure => omega
        case rel => exact HR.out
      · have t1 : decide (now < b.at_) = true := by simp; omega
        have HE : Hid (∀ w1, Below wr.heap.size wr w1 → DueP w t r v x now (.returned (.slice A N c)) w1) := Lib.hid fun w1 hbb =>
          DueR.done (m := 0) hx h1 (by intro e he; simp at he; subst he; omega) (ho.kept (F := none_) (Kept.below hbb rfl) Off.none_) (Aft.ext ⟨v1, hT, hK, hO⟩ (Kept.below hbb rfl))
        clear hx hm h1 ho hl hT hK hO hN hb
        go_wp2_with fail
        refine HC.out.mono ?_
        rintro e w1 ⟨rfl, hb⟩
        have HR := Lib.hid (HE.out w1 hb)
        clear HC HE hb
        go_wp2_with fail
        go_ret
        exact HR.out
end
end Go.Proofs.Ytnnbpmjcdcmigaa.Line
