/- cutoff.Run is the reference for every sequence of events: the law CutoffRuns returns true, and leaves memory as it was. -/
import Derived.Test.YthdjagmeggckcaaRun
import Derived.BigQuiet
import Derived.Deep.QuietTactic
namespace Go.Proofs.Ythdjagmeggckcaa.WCutoffRuns
open Go.RowKit Cut Run

theorem lives_below (w w0 : World) (h : Below w0.heap.size w0 w) : Calls Try.prog 11 #[] w fun e w' => e = .returned (.bool true) ∧ Below w0.heap.size w0 w' :=
  (lives_any w).mono fun _ _ ⟨he, hw⟩ => ⟨he, hw ▸ h⟩

set_option maxHeartbeats 1000000 in
theorem law_any (top : Int) (A : Option Addr) (cap : Nat) (es : List Ev) (w : World) (hl : es.length ≤ maxLen) (hc : RowsAt w 4 Ev.enc A es) :
    Calls Try.prog 4 #[.int .i64 top, .slice A es.length cap] w fun e w' => e = .returned (.bool true) ∧ Below w.heap.size w w' := by
  have hl0 := hl
  have HC := Lib.hid hc
  clear hc
  unfold maxLen at hl
  by_cases hlen : 60 < es.length
  · go_enter Try.func4, Try.ntmps4
    go_wp2_with (go_at_call 11; refine (lives_any _).mono ?_; rintro e w' ⟨rfl, rfl⟩)
    go_ret
    exact ⟨rfl, Below.refl _ _⟩
  · go_enter Try.func4, Try.ntmps4
    go_wp2
    go_loopw [5, 15] (fun t i wr => ∃ (k : Nat) (tt : Int), k ≤ es.length ∧ i = .int .i64 k ∧ t = .int .i64 tt ∧ (es.drop k).foldl Run.step tt = es.foldl Run.step top ∧ Below w.heap.size w wr) (fun _ i _ => es.length - (intOf i).toNat)
    case atStart => exact ⟨0, top, by omega, rfl, rfl, rfl, Below.refl _ _⟩
    case round =>
      obtain ⟨k, tt, hk, rfl, rfl, hf, hbl⟩ := hrel
      have HF := Lib.hid hf
      clear hf
      by_cases hlt : k < es.length
      · obtain ⟨x, hx⟩ : ∃ x, es[k]? = some x := ⟨es[k]'(by omega), by simp⟩
        obtain ⟨b, off, rfl, hb', hc⟩ := (HC.out.below hbl) (by rintro rfl; simp at hx)
        have c0 := hc k x hx 0 _ rfl
        have c1 := hc k x hx 1 _ rfl
        have c2 := hc k x hx 2 _ rfl
        have c3 := hc k x hx 3 _ rfl
        clear hc
        rw [Nat.add_zero] at c0
        have HX := Lib.hid (drop_cons hx)
        have hsz := hbl.size
        clear hx
        go_wp2
        go_quiet ((first | (go_at_call 9; exact q_left (come_any _ _ _ _)) | (go_at_call 10; exact q_left (gone_any _ _ _ _ _)) | (go_at_call 12; exact q_left (rcome_any _ _ _ _)) | (go_at_call 13; exact q_left (rgone_any _ _ _ _ _))))
        have hbn : Below w.heap.size w ((wr.alloc (Obj.cells #[Value.int IntKind.i64 x.kind, Value.int IntKind.i64 x.level, Value.bool x.over, Value.bool x.empty] 23)).drewN nq) := below_drewN (hbl.alloc hsz _) nq
        have HB := Lib.hid hbn
        clear hbn
        go_wp2_with (first | (go_at_call 12; refine (rcome_any _ _ _ _).mono ?_; rintro e w' ⟨rfl, rfl⟩) | (go_at_call 13; refine (rgone_any _ _ _ _ _).mono ?_; rintro e w' ⟨rfl, rfl⟩))
        all_goals
          go_roundw
          case rel =>
            have hstep := HF.out
            rw [HX.out, List.foldl_cons] at hstep
            first
            | rw [Run.step_come ‹_›] at hstep
            | rw [Run.step_gone ‹_› ‹_›] at hstep
            | rw [Run.step_none ‹_› ‹_›] at hstep
            exact ⟨k + 1, _, by omega, by go_num, rfl, hstep, HB.out⟩
          case measure => simp [intOf]; omega
      · have hke : k = es.length := by omega
        subst hke
        rw [List.drop_length] at HF
        go_wp2_with (first | (go_at_call 14; refine (run_any _ _ _ _ _ hl0 (HC.out.below hbl)).mono ?_; rintro e w' ⟨rfl, hb2⟩; rw [show List.foldl Run.step top es = tt from HF.out.symm]) | (go_at_call 11; refine (lives_any _).mono ?_; rintro e w' ⟨rfl, rfl⟩))
        go_ret
        exact ⟨rfl, hbl.trans (hb2.mono hbl.size)⟩

theorem walk (v0 v1 : Value) (W : World) (k0 : IsArg Try.prog W 3 v0) (k1 : IsArg Try.prog W 28 v1) :
    Calls Try.prog 4 #[v0, v1] W fun e W' => e = .returned (.bool true) ∧ Below W.heap.size W W' := by
  obtain ⟨t, rfl, ht⟩ := k0.int Try.underlying3
  obtain ⟨A, cap, l, rfl, h1, h2, hr⟩ := k1.slice Ev.enc Try.underlying28 cells23 (by decide) (fun cs h => ev_dec h)
  exact law_any t A cap l W (Nat.le_trans h1 h2) hr
end Go.Proofs.Ythdjagmeggckcaa.WCutoffRuns
