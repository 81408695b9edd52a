/- The pool: contracts of Slots, Bytes, New, Copy. -/
import Derived.Test.YthdjagmeggckcaaPoolD
import Derived.Shelf.SlMaps.Clone
namespace Go.Proofs.Ythdjagmeggckcaa.Pool
open Go.RowKit

theorem bytes_nil (w : World) : Calls Try.prog 39 #[.pointer none] w fun e w' => e = .returned (.int .i64 0) ∧ w = w' := by
  go_enter Try.func39, Try.ntmps39
  go_wp2
  go_ret
  exact ⟨rfl, rfl⟩
theorem bytes_any (a p g r : Nat) (y : Pl) (w : World) (h : Is w a p g r y) : Calls Try.prog 39 #[.pointer (some ⟨a, 0, none⟩)] w fun e w' => e = .returned (.int .i64 y.bytes) ∧ w = w' := by
  have c := h.1.cell 3
  simp at c
  have l := h.lt.1
  clear h
  go_enter Try.func39, Try.ntmps39
  go_wp2
  go_ret
  exact ⟨rfl, rfl⟩
theorem slots_nil (w : World) : Calls Try.prog 41 #[.pointer none] w fun e w' => e = .returned (.int .i64 0) ∧ w = w' := by
  go_enter Try.func41, Try.ntmps41
  go_wp2
  go_ret
  exact ⟨rfl, rfl⟩
theorem slots_any (a p g r : Nat) (y : Pl) (w : World) (h : Is w a p g r y) : Calls Try.prog 41 #[.pointer (some ⟨a, 0, none⟩)] w fun e w' => e = .returned (.int .i64 y.n) ∧ w = w' := by
  have c := h.1.cell 1
  simp at c
  have l := h.lt.1
  have hl := h.2.2.run_len Try.underlying96 3
  clear h
  go_enter Try.func41, Try.ntmps41
  go_wp2
  go_ret
  exact ⟨rfl, rfl⟩

set_option maxRecDepth 100000 in
set_option maxHeartbeats 1000000 in
theorem clone_any (r n : Nat) (f : Int → Option Value) (w : World) (h : MapIs (Value.int .i64) w r f n) :
    Calls Try.prog 43 #[.map (some r)] w fun e w' => e = .returned (.map (some w.heap.size)) ∧ MapIs (Value.int .i64) w' w.heap.size f n ∧ Kept none_ w w' ∧ w'.heap.size = w.heap.size + 1 := by
  have hq := fun w => run_eql_map_nil_sl (P := Try.prog) w 96 _ _ (some r) Try.underlying96
  obtain ⟨w1, hrun, hm, hk, hs⟩ := h.run_clone (P := Try.prog) 96
  have HR := Lib.hid hrun
  clear hrun h
  go_enter Try.func43, Try.ntmps43
  go_wp2
  rw [run_callFunc_extern Try.func44 (by kernel_rfl) (by kernel_rfl) (by kernel_rfl) (e := Extern.MapsClone.clone) (by kernel_rfl), HR.out]
  simp only [Result.andThen]
  rw [Oper.upon_value]
  go_wp2
  rw [run_typeAssert_map_sl _ 96 20 _ _ _ Try.underlying96]
  simp only [Result.andThen]
  rw [Oper.upon_value]
  go_wp2
  go_ret
  exact ⟨rfl, hm, hk, hs⟩

def Made (w : World) (y : Pl) (e : Ending) (w' : World) : Prop :=
  ∃ a p g r, e = .returned (.pointer (some ⟨a, 0, none⟩)) ∧ Is w' a p g r y ∧ w.heap.size ≤ a ∧ w.heap.size ≤ p ∧ w.heap.size ≤ g ∧ w.heap.size ≤ r ∧ Below w.heap.size w w'

theorem new_bad (n m : Int) (w : World) (h : n < 1 ∨ 4096 < n ∨ m < 0 ∨ 4194304 < m) : Calls Try.prog 27 #[.int .i64 n, .int .i64 m] w fun e w' => e = .returned (.pointer none) ∧ Below w.heap.size w w' := by
  by_cases hn : n < 1 ∨ 4096 < n
  · have C := Lib.hid (Slab.new_bad n w hn)
    clear h hn
    go_enter Try.func27, Try.ntmps27
    go_wp2_with fail
    refine C.out.mono ?_
    rintro e w1 ⟨rfl, rfl⟩
    go_wp2_with fail
    go_ret
    exact ⟨rfl, Below.refl _ _⟩
  · obtain ⟨k, rfl⟩ := Int.eq_ofNat_of_zero_le (by omega : 0 ≤ n)
    have C := Lib.hid (Slab.new_good k w (by omega) (by omega))
    by_cases h1 : m < 0
    · have t1 : decide (m < 0) = true := by simpa using h1
      clear h hn h1
      go_enter Try.func27, Try.ntmps27
      go_wp2_with fail
      refine C.out.mono ?_
      rintro e w1 ⟨p, g, rfl, _, _, _, hb⟩
      go_wp2_with fail
      go_ret
      exact ⟨rfl, hb⟩
    · have t1 : decide (m < 0) = false := by simpa using h1
      have t2 : decide (4194304 < m) = true := by simp; omega
      clear h hn h1
      go_enter Try.func27, Try.ntmps27
      go_wp2_with fail
      refine C.out.mono ?_
      rintro e w1 ⟨p, g, rfl, _, _, _, hb⟩
      go_wp2_with fail
      go_ret
      exact ⟨rfl, hb⟩

def new (n : Nat) (m : Int) : Pl := { s := Slab.new n, f := fun _ => none, n := 0, room := m, bytes := 0 }

set_option maxHeartbeats 1000000 in
theorem new_good (n : Nat) (m : Int) (w : World) (h1 : 1 ≤ n) (h2 : n ≤ 4096) (h3 : 0 ≤ m) (h4 : m ≤ 4194304) : Calls Try.prog 27 #[.int .i64 n, .int .i64 m] w (Made w (new n m)) := by
  have C := Lib.hid (Slab.new_good n w h1 h2)
  have t1 : decide (m < 0) = false := by simpa using h3
  have t2 : decide (4194304 < m) = false := by simpa using h4
  have hmm := @run_makeMap Try.prog
  clear h1 h2 h3 h4
  go_enter Try.func27, Try.ntmps27
  go_wp2_with fail
  refine C.out.mono ?_
  rintro e w1 ⟨p, g, rfl, hs, hp, hg, hb⟩
  have HS := Lib.hid hs
  have HB := Lib.hid hb
  clear hs hb C
  go_wp2_with fail
  go_ret
  have b1 := HB.out.alloc HB.out.size (.map #[] 0)
  have hsz := HB.out.size
  refine ⟨_, p, g, w1.heap.size, rfl, ⟨?_, (HS.out.al _).al _, (MapIs.made _ w1).alloc _⟩, ?_, hp, hg, hsz, b1.alloc b1.size _⟩
  · have := Blk.new (w1.alloc (.map #[] 0)) 98 #[.pointer (some ⟨p, 0, none⟩), .map (some w1.heap.size), .int .i64 m, .int .i64 0]
    simpa [new] using this
  · omega

theorem copy_nil (w : World) : Calls Try.prog 38 #[.pointer none] w fun e w' => e = .returned (.pointer none) ∧ w = w' := by
  go_enter Try.func38, Try.ntmps38
  go_wp2
  go_ret
  exact ⟨rfl, rfl⟩

set_option maxRecDepth 100000 in
set_option maxHeartbeats 3200000 in
theorem copy_any (a p g r : Nat) (y : Pl) (w : World) (h : Is w a p g r y) (h0 : 1 ≤ y.s.slots.length) (h1 : y.s.slots.length ≤ 4096) :
    Calls Try.prog 38 #[.pointer (some ⟨a, 0, none⟩)] w (Made w y) := by
  have c0 := h.1.cell 0
  have c1 := h.1.cell 1
  have c2 := h.1.cell 2
  have c3 := h.1.cell 3
  simp at c0 c1 c2 c3
  have la := h.lt.1
  have C1 := Lib.hid (fun (W : World) (hk : Kept none_ w W) => Slab.copy_any p g y.s W (h.ext hk).2.1 h0 h1)
  have C2 := Lib.hid (fun (W : World) (hk : Kept none_ w W) => clone_any r y.n _ W (h.ext hk).2.2)
  clear h h0 h1
  go_enter Try.func38, Try.ntmps38
  go_wp2_with fail
  go_region_held3 (fun w' => w'.cell? ⟨a, 0, none⟩ = some (.pointer (some ⟨p, 0, none⟩)) ∧ w'.cell? ⟨a, 1, none⟩ = some (.map (some r)) ∧ w'.cell? ⟨a, 2, none⟩ = some (.int .i64 y.room) ∧ w'.cell? ⟨a, 3, none⟩ = some (.int .i64 y.bytes))
    (first
      | exact ⟨c0, c1, c2, c3⟩
      | exact ⟨(hb.cell (p := ⟨a, 0, none⟩) la).trans c0, (hb.cell (p := ⟨a, 1, none⟩) la).trans c1, (hb.cell (p := ⟨a, 2, none⟩) la).trans c2, (hb.cell (p := ⟨a, 3, none⟩) la).trans c3⟩
      | exact ⟨(hk.cell (p := ⟨a, 0, none⟩) (Nat.lt_of_lt_of_le la hb.size) (fun h => h)).trans ((hb.cell (p := ⟨a, 0, none⟩) la).trans c0), (hk.cell (p := ⟨a, 1, none⟩) (Nat.lt_of_lt_of_le la hb.size) (fun h => h)).trans ((hb.cell (p := ⟨a, 1, none⟩) la).trans c1), (hk.cell (p := ⟨a, 2, none⟩) (Nat.lt_of_lt_of_le la hb.size) (fun h => h)).trans ((hb.cell (p := ⟨a, 2, none⟩) la).trans c2), (hk.cell (p := ⟨a, 3, none⟩) (Nat.lt_of_lt_of_le la hb.size) (fun h => h)).trans ((hb.cell (p := ⟨a, 3, none⟩) la).trans c3)⟩
      | go_keep)
    (first
      | (go_at_call 22; refine (C1.out _ ?_).mono ?_; (exact ⟨rfl, rfl, rfl, Nat.le_refl _, fun _ _ _ => rfl⟩); rintro e w1 ⟨p1, g1, rfl, hs, hp, hg, hb⟩)
      | (go_at_call 43; refine (C2.out _ ?_).mono ?_; (exact ⟨hb.os, hb.tape, hb.output, hb.size, fun i hi _ => hb.block i hi⟩); rintro e w2 ⟨rfl, hm, hk, hsz⟩))
  go_wp2
  go_ret
  have hbw : Below w.heap.size w w2 := (⟨hb.os, hb.tape, hb.output, hb.size, hb.block⟩ : Below w.heap.size w w1).trans (hk.toBelow'.mono hb.size)
  refine ⟨w1.heap.size + 1, p1, g1, w1.heap.size, rfl, ⟨?_, (hs.kept hk (fun h => h) (fun h => h)).al _, hm.alloc _⟩, hsz ▸ hbw.size, hp, hg, hb.size, ?_⟩
  · rw [← hsz]
    exact Blk.new w2 98 _
  · exact hbw.alloc hbw.size _
end Go.Proofs.Ythdjagmeggckcaa.Pool
