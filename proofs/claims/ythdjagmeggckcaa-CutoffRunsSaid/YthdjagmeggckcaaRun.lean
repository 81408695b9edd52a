/- cutoff.Run, over a slice of events that came in. -/
import Derived.Test.YthdjagmeggckcaaCut
import Derived.Test.YthdjagmeggckcaaArg
import Derived.Test.YthdjagmeggckcaaKit
import Derived.WalkMore
import Derived.ScopeJumps
namespace Go.Proofs.Ythdjagmeggckcaa.Run
open Go.RowKit Go.Deep Cut

def step (top : Int) (x : Ev) : Int :=
  if x.kind = 0 then Cut.come top x.level x.over else if x.kind = 1 then Cut.gone top x.level x.over x.empty else top

theorem drop_cons {es : List Ev} {k : Nat} {x : Ev} (hx : es[k]? = some x) : es.drop k = x :: es.drop (k + 1) := by
  obtain ⟨h, e⟩ := List.getElem?_eq_some_iff.1 hx
  rw [List.drop_eq_getElem_cons h, e]

def J (top : Int) (A : Option Addr) (cap : Nat) (es : List Ev) (w : World) (a' : Act) (w' : World) : Prop :=
  ∃ (k : Nat) (t : Int), k ≤ es.length ∧ (es.drop k).foldl step t = es.foldl step top ∧ Below w.heap.size w w' ∧ ∃ (u6 u7 u8 u9 u10 u11 u12 u13 u14 u15 u16 u17 u18 u19 u20 u21 u22 u23 u24 u25 u26 u27 u28 u29 u30 u31 u32 u33 u34 u35 u36 u37 : Value),
    a' = { tmps := #[.int .i64 t, .slice A es.length cap, undef, undef, .int .i64 0, .int .i64 k, u6, u7, u8, u9, u10, u11, u12, u13, u14, u15, u16, u17, u18, u19, u20, u21, u22, u23, u24, u25, u26, u27, u28, u29, u30, u31, u32, u33, u34, u35, u36, u37], defers := [] }

theorem step_come {t : Int} {x : Ev} (h : (x.kind == 0) = true) : step t x = Cut.come t x.level x.over := by
  unfold step; rw [if_pos (by simpa using h)]
theorem step_gone {t : Int} {x : Ev} (h0 : (x.kind == 0) = false) (h : (x.kind == 1) = true) : step t x = Cut.gone t x.level x.over x.empty := by
  unfold step; rw [if_neg (by simpa using h0), if_pos (by simpa using h)]
theorem step_none {t : Int} {x : Ev} (h0 : (x.kind == 0) = false) (h : (x.kind == 1) = false) : step t x = t := by
  unfold step; rw [if_neg (by simpa using h0), if_neg (by simpa using h)]

set_option maxHeartbeats 1000000 in
theorem run_any (top : Int) (A : Option Addr) (cap : Nat) (es : List Ev) (w : World) (hl : es.length ≤ maxLen)
    (hc : RowsAt w 4 Ev.enc A es) :
    Calls Try.prog 14 #[.int .i64 top, .slice A es.length cap] w fun e w' => e = .returned (.int .i64 (es.foldl step top)) ∧ Below w.heap.size w w' := by
  unfold maxLen at hl
  have HC := Lib.hid hc
  clear hc
  go_enter Try.func14, Try.ntmps14
  go_wp2
  refine wp_scope_body 0 (J top A cap es w) (fun a' _ => es.length - (intOf (a'.tmps.getD 5 undef)).toNat) rfl ?_ ?_
  · rintro a' wr ⟨k, t, hk, hf, hbl, u6, u7, u8, u9, u10, u11, u12, u13, u14, u15, u16, u17, u18, u19, u20, u21, u22, u23, u24, u25, u26, u27, u28, u29, u30, u31, u32, u33, u34, u35, u36, u37, rfl⟩
    by_cases h0 : k = es.length
    · subst h0
      have h1 : ((es.length : Int) == (es.length : Int)) = true := by simp
      have HF := Lib.hid hf
      clear hf
      go_wp2_with fail
      simp only [Exit.jump]
      go_ret
      rw [List.drop_length] at HF
      exact ⟨congrArg (fun n => Ending.returned (.int .i64 n)) HF.out, hbl⟩
    · have h1 : ((k : Int) == (es.length : Int)) = false := by simp; omega
      obtain ⟨x, hx⟩ : ∃ x, es[k]? = some x := ⟨es[k]'(by omega), by simp⟩
      obtain ⟨b, off, rfl, hb', hc⟩ := (HC.out.below hbl) (by rintro rfl; simp at hx)
      have c0 := hc k x hx 0 _ rfl
      have c1 := hc k x hx 1 _ rfl
      have c2 := hc k x hx 2 _ rfl
      have c3 := hc k x hx 3 _ rfl
      clear hc
      rw [Nat.add_zero] at c0
      have hlt : (k : Int) < es.length := by omega
      have hx0 := drop_cons hx
      have HX := Lib.hid hx0
      have HF := Lib.hid hf
      have hsz := hbl.size
      clear hf hx0 hx h0
      go_wp2_with (first | (go_at_call 9; refine (Cut.come_any _ _ _ _).mono ?_; rintro e w' ⟨rfl, rfl⟩) | (go_at_call 10; refine (Cut.gone_any _ _ _ _ _).mono ?_; rintro e w' ⟨rfl, rfl⟩))
      all_goals
        go_step3
        have hstep := HF.out
        rw [HX.out, List.foldl_cons] at hstep
        first
        | rw [step_come ‹_›] at hstep
        | rw [step_gone ‹_› ‹_›] at hstep
        | rw [step_none ‹_› ‹_›] at hstep
        refine ⟨rfl, ⟨k + 1, _, by omega, hstep, hbl.alloc hbl.size _, ?_⟩, by simp [intOf]; omega⟩
        exact ⟨_, _, _, _, _, _, _, _, _, _, _, _, _, _, _, _, _, _, _, _, _, _, _, _, _, _, _, _, _, _, _, _, rfl⟩
  · intro hp
    go_wp2
    go_step3
    go_step
    go_step
    refine hp _ _ ?_
    exact ⟨0, top, by omega, rfl, Below.refl _ _, _, _, _, _, _, _, _, _, _, _, _, _, _, _, _, _, _, _, _, _, _, _, _, _, _, _, _, _, _, _, _, _, rfl⟩
end Go.Proofs.Ythdjagmeggckcaa.Run
