/- heap.Push: its contract. -/
import Derived.Test.YtnnbpmjcdcmigaaLineE
namespace Go.Proofs.Ytnnbpmjcdcmigaa.Line
open Go.RowKit HeapLaw

section
variable {w w' : World} {t r n N : Nat} {v : Value} {l : List E} {e : E} {f : Int → Option Value}
theorem up_push (h : Heap l.length l) : Up (l ++ [e]).length (l ++ [e]) l.length := by
  rw [List.length_append, List.length_singleton]
  refine ⟨fun k h0 hn hk => ?_, fun k h0 hn hp _ => ?_⟩
  · have hk' : k < l.length := by omega
    have hp := par_lt h0
    intro x y hx hy
    rw [List.getElem?_append_left (by omega)] at hx
    rw [List.getElem?_append_left hk'] at hy
    exact h k h0 hk' x y hx hy
  · have := par_lt h0
    omega

/-- The line holds l' after a call. -/
def After (w : World) (t r : Nat) (v : Value) (l' : List E) (w' : World) : Prop :=
  ∃ v' f' n', Ln w' t r v' l' f' n' ∧ Place l' f' ∧ Heap l'.length l' ∧ Kept (fun j => j = t ∨ j = r ∨ v.ownBlock = some j) w w' ∧ (v'.ownBlock = v.ownBlock ∨ ∃ g, v'.ownBlock = some g ∧ w.heap.size ≤ g)

set_option maxRecDepth 100000 in
set_option maxHeartbeats 1000000 in
theorem hpush_any (h : Ln w t r v l f n) (hp : Place l f) (hH : Heap l.length l) (hnew : ∀ x ∈ l, x.id ≠ e.id) (hl : l.length < 199) :
    Calls Try.prog 19 #[.iface 58 (.pointer (some ⟨t, 0, none⟩)), .iface 56 (.agg #[.int .i64 e.id, .int .i64 e.at_])] w fun en w' => en = .returned (.tuple #[]) ∧ ∃ l', l'.Perm (l ++ [e]) ∧ After w t r v l' w' := by
  have HC := Lib.hid (push_any h hp hnew hl)
  have HU := Lib.hid (up_push (e := e) hH)
  have hm1 := push_m t
  have hm2 := len_m t
  clear h hp hH hnew
  go_enter Try.func19, Try.ntmps19
  go_wp2_with fail
  refine HC.out.mono ?_
  rintro en w1 ⟨rfl, v1, f1, n1, hL, hP, hK, hv⟩
  have HC2 := Lib.hid (len_any hL)
  have C3 := up_any (N := (l ++ [e]).length) hL hP (j := l.length) (by simp) (Nat.le_refl _) HU.out
  have HC3 := Lib.hid C3
  have HK := Lib.hid hK
  have HV := Lib.hid hv
  have hle : ((l ++ [e]).length : Int) = (l.length : Int) + 1 := by simp
  clear hL hP hK hv C3 HC
  go_wp2_with fail
  refine HC2.out.mono ?_
  rintro en w2 ⟨rfl, rfl⟩
  go_wp2_with fail
  refine HC3.out.mono ?_
  rintro en w3 ⟨rfl, l', ⟨f', a1, a2, a3, a4, a5⟩, hH⟩
  have hR : After w t r v l' w3 := ⟨v1, f', _, a1, a2, by rw [a3.length_eq]; exact hH, HK.out.trans' a5 (fun i hi => by
    rcases hi with hi | hi
    · exact .inl (.inr (.inl hi))
    · rcases HV.out with hv | ⟨g, hv, hg⟩
      · exact .inl (.inr (.inr (by rw [← hv]; exact hi)))
      · rw [hv] at hi
        injection hi with hi
        exact .inr (by omega)), HV.out⟩
  have HR := Lib.hid hR
  have HPM := Lib.hid a3
  clear hR a1 a2 a3 a4 a5 hH HC2 HC3
  go_wp2_with fail
  refine bodyPost_end (results_none rfl _ _ _) rfl ?_
  exact ⟨rfl, l', HPM.out, HR.out⟩
end
end Go.Proofs.Ytnnbpmjcdcmigaa.Line
