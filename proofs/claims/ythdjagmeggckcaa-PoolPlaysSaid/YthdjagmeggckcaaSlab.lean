/- The slab: what its memory is, and contracts of Take, Of, Live, Left. -/
import Derived.Test.YthdjagmeggckcaaRows
import Derived.Test.YthdjagmeggckcaaMem
import Derived.WalkLawsBesides
import Derived.BigQuiet
import Derived.Deep.QuietTactic
namespace Go.Proofs.Ythdjagmeggckcaa.Slab
open Go.RowKit

structure Slot where
  state : Int
  turn : Int
  next : Int
def Slot.enc (x : Slot) : List Value := [.int .i64 x.state, .int .i64 x.turn, .int .i64 x.next]
structure Sl where
  slots : List Slot
  next : Int
  left : Int

/-- The slab s: its struct in block p, its slots in block g. -/
def Is (w : World) (p g : Nat) (s : Sl) : Prop :=
  (∃ c, s.slots.length ≤ c ∧ Blk w p 91 #[.slice (some ⟨g, 0, none⟩) s.slots.length c, .int .i64 s.next, .int .i64 s.left]) ∧ RowsIn w g 93 3 Slot.enc s.slots
/-- The blocks of a slab. -/
def Of2 (p g : Nat) : Nat → Prop := fun i => i = p ∨ i = g

section
variable {w w' : World} {p g : Nat} {s : Sl}
theorem Is.ne (h : Is w p g s) : p ≠ g := by
  obtain ⟨⟨c, _, hb⟩, arr, hb', _⟩ := h
  exact hb.ne_ hb' (by decide)
theorem Is.lt (h : Is w p g s) : p < w.heap.size ∧ g < w.heap.size := by
  obtain ⟨⟨_, _, hb⟩, hr⟩ := h
  exact ⟨hb.lt, hr.lt⟩
theorem Is.off (h : Is w p g s) {t : TypeId} (h1 : t ≠ 91) (h2 : t ≠ 93) : Off w t (Of2 p g) := by
  obtain ⟨⟨_, _, hb⟩, arr, hr, _⟩ := h
  exact (Off.one hb (Ne.symm h1)).or (Off.one hr (Ne.symm h2))
theorem Is.al (h : Is w p g s) (o : Obj) : Is (w.alloc o) p g s := by
  obtain ⟨⟨c, hc, hb⟩, hr⟩ := h
  exact ⟨⟨c, hc, hb.alloc o⟩, hr.alloc o⟩
theorem Is.kept {F : Nat → Prop} (h : Is w p g s) (hk : Kept F w w') (hp : ¬ F p) (hg : ¬ F g) : Is w' p g s := by
  obtain ⟨⟨c, hc, hb⟩, hr⟩ := h
  exact ⟨⟨c, hc, hb.kept hk hp⟩, hr.kept hk hg⟩
end

def take (s : Sl) (k : Nat) (x : Slot) : Sl := { slots := s.slots.set k { x with state := 1 }, next := x.next, left := s.left - 1 }

set_option maxHeartbeats 1000000 in
theorem take_some (p g : Nat) (s : Sl) (k : Nat) (x : Slot) (w : World) (h : Is w p g s) (hn : s.next = k) (hx : s.slots[k]? = some x) (hl : 1 ≤ s.left ∧ s.left ≤ 4096) :
    Calls Try.prog 18 #[.pointer (some ⟨p, 0, none⟩)] w fun e w' => e = .returned (.tuple #[.agg #[.int .i64 k, .int .i64 x.turn], .bool true]) ∧ Is w' p g (take s k x) ∧ Kept (Of2 p g) w w' := by
  have hne := h.ne
  obtain ⟨⟨c, hc, hb⟩, hr⟩ := h
  have hkl : k < s.slots.length := (List.getElem?_eq_some_iff.1 hx).1
  have p0 : w.cell? ⟨p, 0, none⟩ = some (.slice (some ⟨g, 0, none⟩) s.slots.length c) := hb.cell 0
  have p1 : w.cell? ⟨p, 1, none⟩ = some (.int .i64 k) := by rw [← hn]; exact hb.cell 1
  have p2 : w.cell? ⟨p, 2, none⟩ = some (.int .i64 s.left) := hb.cell 2
  have q0 := hr.cell hx 0 rfl
  have q1 := hr.cell hx 1 rfl
  have q2 := hr.cell hx 2 rfl
  have fp := hb.frozen
  have fg := hr.frozen
  have hpw := hb.lt
  have hgw := hr.lt
  obtain ⟨l1, l2⟩ := hl
  have hk0 : (0 : Int) ≤ (k : Int) := by omega
  have hk1 : (k : Int) < (s.slots.length : Int) := by omega
  have hk2 : decide ((k : Int) < 0) = false := by simp
  rw [Nat.add_zero] at q0
  have HN := Lib.hid hn
  have HX := Lib.hid hx
  clear hn hx
  go_enter Try.func18, Try.ntmps18
  go_wp2
  refine bodyPost_ret (v := .tuple #[.agg #[.int .i64 k, .int .i64 x.turn], .bool true]) (by simp [results, Try.results18, go_sem]) rfl ⟨rfl, ?_, ?_⟩
  · refine ⟨⟨c, by simpa [take] using hc, ?_⟩, ?_⟩
    · have := (((hb.set_ 1 (.int .i64 x.next)).far (p := ⟨g, k * 3, none⟩) hne (.int .i64 1)).set_ 2 (.int .i64 (s.left - 1))).alloc (.cells #[.int .i64 k, .int .i64 x.turn] 40)
      simpa [take] using this
    · have r1 := (hr.far (p := ⟨p, 1, none⟩) hne.symm (.int .i64 x.next)).set_ (x' := { x with state := 1 }) (u := .int .i64 1) (fun _ => rfl) HX.out (j := 0) (by decide) rfl
      exact (r1.far (p := ⟨p, 2, none⟩) hne.symm (.int .i64 (s.left - 1))).alloc (.cells #[.int .i64 k, .int .i64 x.turn] 40)
  · exact ((((Kept.refl _ _).setCell (.inl (.inl rfl)) _).setCell (.inl (.inr rfl)) _).setCell (.inl (.inl rfl)) _).alloc _

set_option maxHeartbeats 1000000 in
theorem take_none (p g : Nat) (s : Sl) (w : World) (h : Is w p g s) (hn : s.next < 0) :
    Calls Try.prog 18 #[.pointer (some ⟨p, 0, none⟩)] w fun e w' => e = .returned (.tuple #[.agg #[.int .i64 0, .int .i64 0], .bool false]) ∧ Below w.heap.size w w' := by
  obtain ⟨⟨c, hc, hb⟩, hr⟩ := h
  have p1 : w.cell? ⟨p, 1, none⟩ = some (.int .i64 s.next) := hb.cell 1
  have hpw := hb.lt
  have hk2 : decide (s.next < 0) = true := by simpa using hn
  go_enter Try.func18, Try.ntmps18
  go_wp2
  exact bodyPost_ret (v := .tuple #[.agg #[.int .i64 0, .int .i64 0], .bool false]) (by simp [results, Try.results18, go_sem]) rfl ⟨rfl, (Below.refl _ _).alloc (Nat.le_refl _) _⟩

theorem take_nil (w : World) :
    Calls Try.prog 18 #[.pointer none] w fun e w' => e = .returned (.tuple #[.agg #[.int .i64 0, .int .i64 0], .bool false]) ∧ Below w.heap.size w w' := by
  go_enter Try.func18, Try.ntmps18
  go_wp2
  exact bodyPost_ret (v := .tuple #[.agg #[.int .i64 0, .int .i64 0], .bool false]) (by simp [results, Try.results18, go_sem]) rfl ⟨rfl, (Below.refl _ _).alloc (Nat.le_refl _) _⟩

/-- Of: the handle of a slot that is taken. -/
def of_ (s : Sl) (at_ : Int) : Option Slot := if 0 ≤ at_ then (s.slots[at_.toNat]?).filter (fun x => decide (x.state ≠ 0)) else none

def ofRes (s : Sl) (at_ : Int) : Value := match of_ s at_ with | some x => .tuple #[.agg #[.int .i64 at_, .int .i64 x.turn], .bool true] | none => .tuple #[.agg #[.int .i64 0, .int .i64 0], .bool false]
theorem ofRes_none {s : Sl} {a : Int} (h : of_ s a = none) : ofRes s a = .tuple #[.agg #[.int .i64 0, .int .i64 0], .bool false] := by unfold ofRes; rw [h]
theorem ofRes_some {s : Sl} {a : Int} {x : Slot} (h : of_ s a = some x) : ofRes s a = .tuple #[.agg #[.int .i64 a, .int .i64 x.turn], .bool true] := by unfold ofRes; rw [h]

set_option maxHeartbeats 1000000 in
theorem of_any (p g : Nat) (s : Sl) (at_ : Int) (w : World) (h : Is w p g s) (hlen : s.slots.length ≤ 4096) :
    Calls Try.prog 23 #[.pointer (some ⟨p, 0, none⟩), .int .i64 at_] w fun e w' =>
      e = .returned (ofRes s at_) ∧ Below w.heap.size w w' := by
  obtain ⟨⟨c, hc, hb⟩, hr⟩ := h
  have p0 : w.cell? ⟨p, 0, none⟩ = some (.slice (some ⟨g, 0, none⟩) s.slots.length c) := hb.cell 0
  have hpw := hb.lt
  have hgw := hr.lt
  by_cases h0 : at_ < 0
  · have h0' : decide (at_ < 0) = true := by simpa using h0
    have hof : of_ s at_ = none := by unfold of_; rw [if_neg (by omega)]
    rw [ofRes_none hof]
    go_enter Try.func23, Try.ntmps23
    go_wp2
    exact bodyPost_ret (v := .tuple #[.agg #[.int .i64 0, .int .i64 0], .bool false]) (by simp [results, Try.results23, go_sem]) rfl ⟨rfl, (Below.refl _ _).alloc (Nat.le_refl _) _⟩
  · have h0' : decide (at_ < 0) = false := by simpa using h0
    obtain ⟨k, rfl⟩ := Int.eq_ofNat_of_zero_le (by omega : 0 ≤ at_)
    by_cases h1 : s.slots.length ≤ k
    · have h1' : decide ((s.slots.length : Int) ≤ (k : Int)) = true := by simp; omega
      have hof : of_ s k = none := by unfold of_; rw [if_pos (by omega), Int.toNat_natCast, List.getElem?_eq_none h1]; rfl
      rw [ofRes_none hof]
      go_enter Try.func23, Try.ntmps23
      go_wp2
      exact bodyPost_ret (v := .tuple #[.agg #[.int .i64 0, .int .i64 0], .bool false]) (by simp [results, Try.results23, go_sem]) rfl ⟨rfl, (Below.refl _ _).alloc (Nat.le_refl _) _⟩
    · have h1' : decide ((s.slots.length : Int) ≤ (k : Int)) = false := by simp; omega
      obtain ⟨x, hx⟩ : ∃ x, s.slots[k]? = some x := ⟨s.slots[k]'(by omega), by simp⟩
      have q0 := hr.cell hx 0 rfl
      have q1 := hr.cell hx 1 rfl
      have hk0 : (0 : Int) ≤ (k : Int) := by omega
      have hk1 : (k : Int) < (s.slots.length : Int) := by omega
      rw [Nat.add_zero] at q0
      by_cases h2 : x.state = 0
      · have h2' : (x.state == 0) = true := by simpa using h2
        have hof : of_ s k = none := by unfold of_; rw [if_pos (by omega), Int.toNat_natCast, hx]; simp [h2]
        rw [ofRes_none hof]
        clear h2 hx
        go_enter Try.func23, Try.ntmps23
        go_wp2
        exact bodyPost_ret (v := .tuple #[.agg #[.int .i64 0, .int .i64 0], .bool false]) (by simp [results, Try.results23, go_sem]) rfl ⟨rfl, (Below.refl _ _).alloc (Nat.le_refl _) _⟩
      · have h2' : (x.state == 0) = false := by simpa using h2
        have hof : of_ s k = some x := by unfold of_; rw [if_pos (by omega), Int.toNat_natCast, hx]; simp [h2]
        rw [ofRes_some hof]
        clear h2 hx
        go_enter Try.func23, Try.ntmps23
        go_wp2
        exact bodyPost_ret (v := .tuple #[.agg #[.int .i64 k, .int .i64 x.turn], .bool true]) (by simp [results, Try.results23, go_sem]) rfl ⟨rfl, (Below.refl _ _).alloc (Nat.le_refl _) _⟩

theorem of_none (p g : Nat) (s : Sl) (a : Int) (w : World) (h : Is w p g s) (hlen : s.slots.length ≤ 4096) (ho : of_ s a = none) :
    Calls Try.prog 23 #[.pointer (some ⟨p, 0, none⟩), .int .i64 a] w fun e w' => e = .returned (.tuple #[.agg #[.int .i64 0, .int .i64 0], .bool false]) ∧ Below w.heap.size w w' := by
  rw [← ofRes_none ho]; exact of_any p g s a w h hlen
theorem of_some (p g : Nat) (s : Sl) (a : Int) (x : Slot) (w : World) (h : Is w p g s) (hlen : s.slots.length ≤ 4096) (ho : of_ s a = some x) :
    Calls Try.prog 23 #[.pointer (some ⟨p, 0, none⟩), .int .i64 a] w fun e w' => e = .returned (.tuple #[.agg #[.int .i64 a, .int .i64 x.turn], .bool true]) ∧ Below w.heap.size w w' := by
  rw [← ofRes_some ho]; exact of_any p g s a w h hlen

theorem of_nil (at_ : Int) (w : World) :
    Calls Try.prog 23 #[.pointer none, .int .i64 at_] w fun e w' => e = .returned (.tuple #[.agg #[.int .i64 0, .int .i64 0], .bool false]) ∧ Below w.heap.size w w' := by
  go_enter Try.func23, Try.ntmps23
  go_wp2
  exact bodyPost_ret (v := .tuple #[.agg #[.int .i64 0, .int .i64 0], .bool false]) (by simp [results, Try.results23, go_sem]) rfl ⟨rfl, (Below.refl _ _).alloc (Nat.le_refl _) _⟩
end Go.Proofs.Ythdjagmeggckcaa.Slab
