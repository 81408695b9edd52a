/- The timer in a law's walk; SameInts of equal lists; the laws' example 'lives'. -/
import Derived.Test.YtnnbpmjcdcmigaaRefU
namespace Go.Proofs.Ytnnbpmjcdcmigaa.WTimer
open Go.RowKit Line HeapLaw TimLaw RefT

/-- A timer that the law (begun at w) has made. -/
structure Tb (w wr : World) (t r : Nat) (v : Value) (x : List E) : Prop where
  tm : Tm wr t r v x
  below : Below w.heap.size w wr
  own : ∀ j, Fb t r v j → w.heap.size ≤ j

section
variable {w wr w' : World} {t r : Nat} {v : Value} {x x' : List E}
theorem aft_kept (hA : Aft wr t r v x' w') : Kept (Fb t r v) wr w' := by
  obtain ⟨_, _, h, _⟩ := hA
  exact h
theorem Tb.aft (h : Tb w wr t r v x) (hA : Aft wr t r v x' w') : ∃ v', Tb w w' t r v' x' := by
  obtain ⟨v', h1, h2, h3⟩ := hA
  have hs := h.below.size
  refine ⟨v', h1, h.below.trans (h2.toBelow h.own hs), ?_⟩
  rintro j (hj | hj | hj)
  · exact h.own j (.inl hj)
  · exact h.own j (.inr (.inl hj))
  · rcases h3 with h3 | ⟨g, h3, hg⟩
    · exact h.own j (.inr (.inr (h3 ▸ hj)))
    · rw [h3] at hj
      injection hj with hj
      omega
theorem Tb.ext (h : Tb w wr t r v x) (hk : Kept none_ wr w') : Tb w w' t r v x := ⟨h.tm.ext hk, h.below.trans (hk.toBelow'.mono h.below.size), h.own⟩
theorem Tb.bel (h : Tb w wr t r v x) (hb : Below wr.heap.size wr w') : Tb w w' t r v x := h.ext (Kept.below hb rfl)
/-- What is of another type stays. -/
theorem Tb.sl {α : Type} {ty : TypeId} {size : Nat} {enc : α → List Value} {u : Value} {m : List α} (h : Tb w wr t r v x) (hA : Aft wr t r v x' w') (h1 : 54 ≠ ty) (h2 : 56 ≠ ty) (hs : Sl wr ty size enc u m) : Sl w' ty size enc u m :=
  hs.kept (aft_kept hA) (h.tm.off h1 h2)
theorem Tb.blk {ty : TypeId} {cs : Array Value} {g : Nat} (h : Tb w wr t r v x) (hA : Aft wr t r v x' w') (h1 : 54 ≠ ty) (h2 : 56 ≠ ty) (hs : Blk wr g ty cs) : Blk w' g ty cs :=
  hs.kept (aft_kept hA) (h.tm.off h1 h2 g cs (0, 0) hs)
end

/-- Two slices that hold the same. -/
theorem same_yes (v v' : Value) (l : List Int) (w : World) (h : Sl w 3 1 eInt v l) (h' : Sl w 3 1 eInt v' l) : Calls Try.prog 13 #[v, v'] w fun e w' => e = .returned (.bool true) ∧ Below w.heap.size w w' := by
  obtain ⟨A, c, rfl, hc1, hc2⟩ := h.form
  obtain ⟨A', c', rfl, hc1', hc2'⟩ := h'.form
  unfold maxLen at hc2 hc2'
  have t1 : ((l.length : Int) != (l.length : Int)) = false := by simp
  have H := Lib.hid h
  have H' := Lib.hid h'
  clear h h'
  go_enter Try.func13, Try.ntmps13
  go_wp2_with fail
  go_loopw [5] (fun i wr => ∃ k : Nat, k ≤ l.length ∧ i = .int .i64 k ∧ Below w.heap.size w wr) (fun i _ => l.length - (intOf i).toNat)
  case atStart => exact ⟨0, by omega, rfl, Below.refl _ _⟩
  case round =>
    obtain ⟨k, hk, rfl, hb⟩ := hrel
    have HB := Lib.hid hb
    by_cases hlt : k < l.length
    · obtain ⟨x, hx⟩ : ∃ x, l[k]? = some x := ⟨l[k]'hlt, by simp⟩
      obtain ⟨b1, o1, rfl, lb1, q1⟩ := (H.out.below hb).at1 hx rfl
      obtain ⟨b2, o2, rfl, lb2, q2⟩ := (H'.out.below hb).at1 hx rfl
      have k0 : (0 : Int) ≤ (k : Int) := by omega
      have k1 : (k : Int) < (l.length : Int) := by omega
      have t2 : (x != x) = false := by simp
      clear hx hb
      go_wp2_with fail
      go_quiet (fail)
      go_wp2_with fail
      go_roundw
      case rel => exact ⟨k + 1, by omega, by go_num, below_drewN HB.out _⟩
      case measure => simp [intOf]; omega
    · obtain rfl : k = l.length := by omega
      clear hb
      go_wp2_with fail
      go_ret
      exact ⟨rfl, HB.out⟩

theorem sl_213 (w : World) : Sl (w.alloc (.cells #[.int .i64 2, .int .i64 1, .int .i64 3] 3)) 3 1 eInt (.slice (some ⟨w.heap.size, 0, none⟩) 3 3) [2, 1, 3] := by
  refine ⟨_, 3, rfl, by decide, by decide, fun _ => ⟨w.heap.size, 0, #[.int .i64 2, .int .i64 1, .int .i64 3], (0, 0), rfl, heap_alloc_new w _, fun k x hx j u hu => ?_⟩⟩
  rw [(Blk.new w 3 _).cell]
  match k, hx with
  | 0, hx =>
    injection hx with hx
    subst hx
    match j, hu with
    | 0, hu => exact hu
  | 1, hx =>
    injection hx with hx
    subst hx
    match j, hu with
    | 0, hu => exact hu
  | 2, hx =>
    injection hx with hx
    subst hx
    match j, hu with
    | 0, hu => exact hu

set_option maxRecDepth 100000 in
set_option maxHeartbeats 1000000 in
theorem lives (w : World) : Calls Try.prog 5 #[] w fun e w' => e = .returned (.bool true) ∧ Below w.heap.size w w' := by
  have C := Lib.hid (tnew w)
  go_enter Try.func5, Try.ntmps5
  go_wp2_with fail
  refine C.out.mono ?_
  rintro e w1 ⟨t, r, v, rfl, h1, hb, hF⟩
  have T1 := Lib.hid (Tb.mk h1 hb hF)
  clear C h1 hb hF
  go_wp2_with fail
  refine (tset T1.out.tm (by decide) 1 5).mono ?_
  rintro e w2 ⟨rfl, hA⟩
  obtain ⟨v2, t2⟩ := T1.out.aft hA
  have T2 := Lib.hid t2
  clear t2 hA
  go_wp2_with fail
  refine (tset T2.out.tm (by decide) 2 3).mono ?_
  rintro e w3 ⟨rfl, hA⟩
  obtain ⟨v3, t3⟩ := T2.out.aft hA
  have T3 := Lib.hid t3
  clear t3 hA
  go_wp2_with fail
  refine (tset T3.out.tm (by decide) 3 5).mono ?_
  rintro e w4 ⟨rfl, hA⟩
  obtain ⟨v4, t4⟩ := T3.out.aft hA
  have hx : setL (setL (setL [] 1 5) 2 3) 3 5 = [⟨2, 3⟩, ⟨1, 5⟩, ⟨3, 5⟩] := rfl
  rw [hx] at t4
  have T4 := Lib.hid t4
  clear t4 hA hx
  go_wp2_with fail
  refine (tnext_cons T4.out.tm).mono ?_
  rintro e w5 ⟨rfl, hb⟩
  have T5 := Lib.hid (T4.out.bel hb)
  clear hb
  go_wp2_with fail
  refine (Line.due_any T5.out.tm 5).mono ?_
  rintro e w6 ⟨o, rfl, ho, hA⟩
  obtain ⟨v6, t6⟩ := T5.out.aft hA
  have hd : (TimLaw.due [⟨2, 3⟩, ⟨1, 5⟩, ⟨3, 5⟩] 5).map E.id = [2, 1, 3] := rfl
  rw [hd] at ho
  have HO := Lib.hid (ho.sl eInt_len)
  have T6 := Lib.hid t6
  obtain ⟨A, n, c, rfl⟩ := ho.form'
  clear ho hA t6 hd
  go_wp2_with fail
  refine (same_yes _ _ [2, 1, 3] _ (HO.out.alloc _) (sl_213 w6)).mono ?_
  rintro e w7 ⟨rfl, hb⟩
  have HB := Lib.hid hb
  clear hb
  go_wp2_with fail
  go_ret
  refine ⟨rfl, (T6.out.below.alloc T6.out.below.size _).trans (HB.out.mono ?_)⟩
  have := T6.out.below.size
  simp; omega
end Go.Proofs.Ytnnbpmjcdcmigaa.WTimer
