/- The slab: contracts of Live, Left, Give, New, Copy. -/
import Derived.Test.YthdjagmeggckcaaSlab
import Derived.StillTailTactics
import Derived.BigRegion
namespace Go.Proofs.Ythdjagmeggckcaa.Slab
open Go.RowKit

def live (s : Sl) (a t : Int) : Bool := match of_ s a with | some x => x.turn == t | none => false

set_option maxHeartbeats 1000000 in
theorem live_any (p g : Nat) (s : Sl) (a t : Int) (w : World) (h : Is w p g s) (hlen : s.slots.length ≤ 4096) :
    Calls Try.prog 25 #[.pointer (some ⟨p, 0, none⟩), .agg #[.int .i64 a, .int .i64 t]] w fun e w' => e = .returned (.bool (live s a t)) ∧ Below w.heap.size w w' := by
  have h1 : Is (w.alloc (.cells #[.int .i64 a, .int .i64 t] 40)) p g s := h.kept (F := none_) ((Kept.refl _ _).alloc _) (fun h => h) (fun h => h)
  cases ho : of_ s a with
  | none =>
    have hlive : live s a t = false := by unfold live; rw [ho]
    rw [hlive]
    have HO := Lib.hid ho
    clear ho hlive
    go_enter Try.func25, Try.ntmps25
    go_wp2_with fail
    refine (of_none p g s a _ h1 hlen HO.out).mono ?_
    rintro e w1 ⟨rfl, hb⟩
    have hsz := hb.size
    have hc0 := hb.cell (p := ⟨w.heap.size, 0, none⟩) (by simp)
    have hc1 := hb.cell (p := ⟨w.heap.size, 1, none⟩) (by simp)
    go_wp2_with fail
    go_ret
    exact ⟨rfl, (((Below.refl _ _).alloc (Nat.le_refl _) _).trans (hb.mono (by simp))).alloc (by simp at hsz; omega) _⟩
  | some x =>
    have hlive : live s a t = (x.turn == t) := by unfold live; rw [ho]
    rw [hlive]
    have HO := Lib.hid ho
    clear ho hlive
    go_enter Try.func25, Try.ntmps25
    go_wp2_with fail
    refine (of_some p g s a x _ h1 hlen HO.out).mono ?_
    rintro e w1 ⟨rfl, hb⟩
    have hsz : w.heap.size < w1.heap.size := by have := hb.size; simp at this; omega
    have hc0 : w1.cell? ⟨w.heap.size, 0, none⟩ = some (.int .i64 a) := (hb.cell (p := ⟨w.heap.size, 0, none⟩) (by simp)).trans (by go_simp)
    have hc1 : w1.cell? ⟨w.heap.size, 1, none⟩ = some (.int .i64 t) := (hb.cell (p := ⟨w.heap.size, 1, none⟩) (by simp)).trans (by go_simp)
    go_wp2_with fail
    all_goals
      rename_i hq
      go_ret
      exact ⟨congrArg (fun b => Ending.returned (.bool b)) (by simp [hq]), (((Below.refl _ _).alloc (Nat.le_refl _) _).trans (hb.mono (by simp))).alloc (by omega) _⟩

theorem live_nil (a t : Int) (w : World) :
    Calls Try.prog 25 #[.pointer none, .agg #[.int .i64 a, .int .i64 t]] w fun e w' => e = .returned (.bool false) ∧ Below w.heap.size w w' := by
  go_enter Try.func25, Try.ntmps25
  go_wp2_with fail
  refine (of_nil a _).mono ?_
  rintro e w1 ⟨rfl, hb⟩
  go_wp2_with fail
  go_ret
  exact ⟨rfl, (((Below.refl _ _).alloc (Nat.le_refl _) _).trans (hb.mono (by simp))).alloc (by have := hb.size; simp at this; omega) _⟩

theorem left_any (p g : Nat) (s : Sl) (w : World) (h : Is w p g s) :
    Calls Try.prog 24 #[.pointer (some ⟨p, 0, none⟩)] w fun e w' => e = .returned (.int .i64 s.left) ∧ w = w' := by
  obtain ⟨⟨c, hc, hb⟩, hr⟩ := h
  have p2 : w.cell? ⟨p, 2, none⟩ = some (.int .i64 s.left) := hb.cell 2
  go_enter Try.func24, Try.ntmps24
  go_wp2
  go_ret
  exact ⟨rfl, rfl⟩
theorem left_nil (w : World) : Calls Try.prog 24 #[.pointer none] w fun e w' => e = .returned (.int .i64 0) ∧ w = w' := by
  go_enter Try.func24, Try.ntmps24
  go_wp2
  go_ret
  exact ⟨rfl, rfl⟩

def give (s : Sl) (k : Nat) (t : Int) : Sl := { slots := s.slots.set k { state := 0, turn := t + 1, next := s.next }, next := k, left := s.left + 1 }

set_option maxHeartbeats 1000000 in
theorem give_no (p g : Nat) (s : Sl) (a t : Int) (w : World) (h : Is w p g s) (hlen : s.slots.length ≤ 4096) (hl : live s a t = false) :
    Calls Try.prog 21 #[.pointer (some ⟨p, 0, none⟩), .agg #[.int .i64 a, .int .i64 t]] w fun e w' => e = .returned (.bool false) ∧ Below w.heap.size w w' := by
  have h1 : Is (w.alloc (.cells #[.int .i64 a, .int .i64 t] 40)) p g s := h.kept (F := none_) ((Kept.refl _ _).alloc _) (fun h => h) (fun h => h)
  have C := live_any p g s a t _ h1 hlen
  rw [hl] at C
  have HC := Lib.hid C
  clear C hl
  go_enter Try.func21, Try.ntmps21
  go_wp2_with fail
  refine HC.out.mono ?_
  rintro e w1 ⟨rfl, hb⟩
  go_wp2_with fail
  go_ret
  exact ⟨rfl, ((Below.refl _ _).alloc (Nat.le_refl _) _).trans (hb.mono (by simp))⟩

theorem give_nil (a t : Int) (w : World) :
    Calls Try.prog 21 #[.pointer none, .agg #[.int .i64 a, .int .i64 t]] w fun e w' => e = .returned (.bool false) ∧ Below w.heap.size w w' := by
  go_enter Try.func21, Try.ntmps21
  go_wp2_with fail
  refine (live_nil a t _).mono ?_
  rintro e w1 ⟨rfl, hb⟩
  go_wp2_with fail
  go_ret
  exact ⟨rfl, ((Below.refl _ _).alloc (Nat.le_refl _) _).trans (hb.mono (by simp))⟩

set_option maxHeartbeats 1000000 in
theorem give_yes (p g : Nat) (s : Sl) (k : Nat) (x : Slot) (w : World) (h : Is w p g s) (hlen : s.slots.length ≤ 4096) (hx : s.slots[k]? = some x) (hst : x.state ≠ 0)
    (hbd : 0 ≤ x.turn ∧ x.turn ≤ 4096) (hl : 0 ≤ s.left ∧ s.left ≤ 4096) :
    Calls Try.prog 21 #[.pointer (some ⟨p, 0, none⟩), .agg #[.int .i64 k, .int .i64 x.turn]] w fun e w' => e = .returned (.bool true) ∧ Is w' p g (give s k x.turn) ∧ Kept (Of2 p g) w w' := by
  have h1 : Is (w.alloc (.cells #[.int .i64 k, .int .i64 x.turn] 40)) p g s := h.kept (F := none_) ((Kept.refl _ _).alloc _) (fun h => h) (fun h => h)
  have hlive : live s k x.turn = true := by unfold live of_; rw [if_pos (by omega), Int.toNat_natCast, hx]; simp [hst, Option.filter]
  have C := live_any p g s k x.turn _ h1 hlen
  rw [hlive] at C
  have HC := Lib.hid C
  have HX := Lib.hid hx
  have hne := h.ne
  have hkl : k < s.slots.length := (List.getElem?_eq_some_iff.1 hx).1
  obtain ⟨b1, b2⟩ := hbd
  obtain ⟨l1, l2⟩ := hl
  clear C hlive hx hst
  go_enter Try.func21, Try.ntmps21
  go_wp2_with fail
  refine HC.out.mono ?_
  rintro e w1 ⟨rfl, hb⟩
  have h2 : Is w1 p g s := h1.kept (F := none_) (Kept.below hb rfl) (fun h => h) (fun h => h)
  have hsz : w.heap.size < w1.heap.size := by have := hb.size; simp at this; omega
  have hc0 : w1.cell? ⟨w.heap.size, 0, none⟩ = some (.int .i64 k) := (hb.cell (p := ⟨w.heap.size, 0, none⟩) (by simp)).trans (by go_simp)
  have hc1 : w1.cell? ⟨w.heap.size, 1, none⟩ = some (.int .i64 x.turn) := (hb.cell (p := ⟨w.heap.size, 1, none⟩) (by simp)).trans (by go_simp)
  have hk0 : Kept (Of2 p g) w w1 := ((Kept.refl _ _).alloc _).trans (Kept.below hb rfl)
  have hgw0 : p < w.heap.size ∧ g < w.heap.size := ⟨h.1.choose_spec.2.lt, h.2.lt⟩
  obtain ⟨hpw, hgw⟩ := hgw0
  clear hb h1 h HC
  obtain ⟨⟨c, hc, hb⟩, hr⟩ := h2
  have p0 : w1.cell? ⟨p, 0, none⟩ = some (.slice (some ⟨g, 0, none⟩) s.slots.length c) := hb.cell 0
  have p1 : w1.cell? ⟨p, 1, none⟩ = some (.int .i64 s.next) := hb.cell 1
  have p2 : w1.cell? ⟨p, 2, none⟩ = some (.int .i64 s.left) := hb.cell 2
  have q0 := hr.cell HX.out 0 rfl
  have q1 := hr.cell HX.out 1 rfl
  have q2 := hr.cell HX.out 2 rfl
  rw [Nat.add_zero] at q0
  have fp := hb.frozen
  have fg := hr.frozen
  have hk0' : (0 : Int) ≤ (k : Int) := by omega
  have hk1 : (k : Int) < (s.slots.length : Int) := by omega
  go_wp2_with fail
  go_region
  all_goals go_wp2_with fail
  go_ret
  refine ⟨rfl, ?_, ?_⟩
  · refine ⟨⟨c, by simpa [give] using hc, ?_⟩, ?_⟩
    · have := (((((hb.far (p := ⟨g, k * 3, none⟩) hne (.int .i64 0)).far (p := ⟨g, k * 3 + 1, none⟩) hne (.int .i64 (x.turn + 1))).far (p := ⟨g, k * 3 + 2, none⟩) hne (.int .i64 s.next)).set_ 1 (.int .i64 k)).set_ 2 (.int .i64 (s.left + 1))).drew
      simpa [give] using this
    · have r1 := hr.set_ (x' := { x with state := 0 }) (u := .int .i64 0) (fun _ => rfl) HX.out (j := 0) (by decide) rfl
      have r2 := r1.set_ (x' := { x with state := 0, turn := x.turn + 1 }) (u := .int .i64 (x.turn + 1)) (fun _ => rfl) (List.getElem?_set_self hkl) (j := 1) (by decide) rfl
      have r3 := r2.set_ (x' := { state := 0, turn := x.turn + 1, next := s.next }) (u := .int .i64 s.next) (fun _ => rfl) (List.getElem?_set_self (by simpa using hkl)) (j := 2) (by decide) rfl
      rw [List.set_set, List.set_set] at r3
      exact ((r3.far (p := ⟨p, 1, none⟩) hne.symm (.int .i64 k)).far (p := ⟨p, 2, none⟩) hne.symm (.int .i64 (s.left + 1))).drew
  · exact (((((((hk0.setCell (.inl (.inr rfl)) _).setCell (.inl (.inr rfl)) _).setCell (.inl (.inr rfl)) _)).setCell (.inl (.inl rfl)) _).setCell (.inl (.inl rfl)) _)).drew
end Go.Proofs.Ythdjagmeggckcaa.Slab
