/- The slab: contracts of New and Copy. -/
import Derived.Test.YthdjagmeggckcaaSlabB
import Derived.Deep.RegionHeld3
import Derived.Deep.AppendLies
namespace Go.Proofs.Ythdjagmeggckcaa.Slab
open Go.RowKit

theorem new_bad (n : Int) (w : World) (h : n < 1 ∨ 4096 < n) : Calls Try.prog 15 #[.int .i64 n] w fun e w' => e = .returned (.pointer none) ∧ w = w' := by
  by_cases h1 : n < 1
  · have h1' : decide (n < 1) = true := by simpa using h1
    go_enter Try.func15, Try.ntmps15
    go_wp2
    go_ret
    exact ⟨rfl, rfl⟩
  · have h1' : decide (n < 1) = false := by simpa using h1
    have h2' : decide (4096 < n) = true := by simp; omega
    go_enter Try.func15, Try.ntmps15
    go_wp2
    go_ret
    exact ⟨rfl, rfl⟩

/-- The slots while New links them: the first k have their next ones. -/
def mid (n k : Nat) : List Slot := (List.range n).map fun i => ⟨0, 0, if i < k then (i : Int) + 1 else 0⟩
def newSlots (n : Nat) : List Slot := (mid n n).set (n - 1) ⟨0, 0, -1⟩
def new (n : Nat) : Sl := { slots := newSlots n, next := 0, left := n }

theorem mid_zero (n : Nat) : mid n 0 = List.replicate n ⟨0, 0, 0⟩ := by
  unfold mid
  apply List.ext_getElem <;> simp
theorem mid_get {n k i : Nat} (hi : i < n) : (mid n k)[i]? = some ⟨0, 0, if i < k then (i : Int) + 1 else 0⟩ := by
  unfold mid
  simp [hi]
theorem mid_succ {n k : Nat} (hk : k < n) : (mid n k).set k ⟨0, 0, (k : Int) + 1⟩ = mid n (k + 1) := by
  apply List.ext_getElem?
  intro i
  rw [List.getElem?_set]
  by_cases hi : i < n
  · by_cases h : k = i
    · subst h
      simp [mid, hk]
    · rw [if_neg h, mid_get hi, mid_get hi]
      have : (i < k) = (i < k + 1) := by simp; omega
      simp [this]
  · rw [if_neg (by omega)]
    simp [mid, hi]

theorem info93 : (Try.prog.info? 93).map (fun i => (i.zero, i.size, i.bytes)) = some (some (.agg #[.int .i64 0, .int .i64 0, .int .i64 0]), 3, 24) := by kernel_rfl

/-- A new slab, of blocks of its own. -/
def Made (w : World) (s : Sl) (e : Ending) (w' : World) : Prop :=
  ∃ p g, e = .returned (.pointer (some ⟨p, 0, none⟩)) ∧ Is w' p g s ∧ w.heap.size ≤ p ∧ w.heap.size ≤ g ∧ Below w.heap.size w w'

set_option maxHeartbeats 1000000 in
theorem new_good (n : Nat) (w : World) (h1 : 1 ≤ n) (h2 : n ≤ 4096) :
    Calls Try.prog 15 #[.int .i64 n] w (Made w (new n)) := by
  obtain ⟨i0, hi, hz0, hz1, hz2⟩ := info_parts info93
  have hmk : ∀ W : World, (Instr.makeSlice 89 (.int .i64 (n : Int)) (.int .i64 (n : Int))).run Try.prog W = .ok (.slice (some ⟨W.heap.size, 0, none⟩) n n) (W.alloc (.cells (madeCells #[.int .i64 0, .int .i64 0, .int .i64 0] (n * 3)) 93)) := fun W => by
    have := run_make_rows (P := Try.prog) 89 93 i0 _ Try.underlying89 hi hz0 .i64 .i64 n n (Nat.le_refl _) (by rw [hz2]; omega) (by omega) W
    rw [hz1] at this
    exact this
  have h1' : decide ((n : Int) < 1) = false := by simp; omega
  have h2' : decide (4096 < (n : Int)) = false := by simp; omega
  go_enter Try.func15, Try.ntmps15
  go_wp2
  have HM := Lib.hid hmk
  clear hmk
  go_loopw [4, 21] (fun _ i wr => ∃ k : Nat, k ≤ n ∧ i = .int .i64 k ∧ RowsIn wr w.heap.size 93 3 Slot.enc (mid n k) ∧
      Blk wr (w.heap.size + 1) 91 #[.slice (some ⟨w.heap.size, 0, none⟩) n n, .int .i64 0, .int .i64 n] ∧ Below w.heap.size w wr) (fun _ i _ => n - (intOf i).toNat)
  case atStart =>
    refine ⟨0, by omega, rfl, ?_, ?_, ?_⟩
    · rw [mid_zero]
      exact (RowsIn.made (enc := Slot.enc) w #[.int .i64 0, .int .i64 0, .int .i64 0] (⟨0, 0, 0⟩ : Slot) n rfl rfl (by decide)).alloc _
    · have := Blk.new (w.alloc (Obj.cells (madeCells #[Value.int IntKind.i64 0, Value.int IntKind.i64 0, Value.int IntKind.i64 0] (n * 3)) 93)) 91 #[.slice (some ⟨w.heap.size, 0, none⟩) n n, .int .i64 0, .int .i64 n]
      simpa using this
    · exact ((Below.refl _ _).alloc (Nat.le_refl _) _).alloc (by simp) _
  case round =>
    obtain ⟨k, hk, rfl, hr, hb, hbl⟩ := hrel
    have p0 : wr.cell? ⟨w.heap.size + 1, 0, none⟩ = some (.slice (some ⟨w.heap.size, 0, none⟩) n n) := hb.cell 0
    have fg := hr.frozen
    have hgw := hr.lt
    by_cases hlt : k < n
    · have hx := mid_get (k := k) hlt
      have q2 := hr.cell hx 2 rfl
      have HX := Lib.hid hx
      clear hx
      go_wp2
      go_roundw
      case rel =>
        have r1 := hr.set_ (x' := { state := 0, turn := 0, next := (k : Int) + 1 }) (u := .int .i64 ((k : Int) + 1)) (fun _ => rfl) HX.out (j := 2) (by decide) rfl
        rw [mid_succ hlt] at r1
        exact ⟨k + 1, by omega, by go_num, r1, hb.far (p := ⟨w.heap.size, k * 3 + 2, none⟩) (by simp) _, hbl.setCell (Nat.le_refl _) _⟩
      case measure => simp [intOf]; omega
    · obtain rfl : k = n := by omega
      have hx : (mid k k)[k - 1]? = some ⟨0, 0, k⟩ := by rw [mid_get (by omega), if_pos (by omega)]; congr 2; omega
      have q2 := hr.cell hx 2 rfl
      have HX := Lib.hid hx
      have hk1 : (k : Int) - 1 < (k : Int) := by omega
      have hk0 : 0 ≤ (k : Int) - 1 := by omega
      clear hx
      go_wp2
      go_ret
      have hln : (new k).slots.length = k := by simp [new, newSlots, mid]
      refine ⟨_, _, rfl, ⟨⟨k, Nat.le_of_eq hln, ?_⟩, ?_⟩, Nat.le_succ _, Nat.le_refl _, hbl.setCell (Nat.le_refl _) _⟩
      · rw [hln]
        exact hb.far (p := ⟨w.heap.size, (k - 1) * 3 + 2, none⟩) (by simp) _
      · exact hr.set_ (x' := { state := 0, turn := 0, next := -1 }) (u := .int .i64 (-1)) (fun _ => rfl) HX.out (j := 2) (by decide) rfl

theorem copy_nil (w : World) : Calls Try.prog 22 #[.pointer none] w fun e w' => e = .returned (.pointer none) ∧ w = w' := by
  go_enter Try.func22, Try.ntmps22
  go_wp2
  go_ret
  exact ⟨rfl, rfl⟩

theorem one_enc (l : List Slot) : ∀ u ∈ l.flatMap Slot.enc, u.oneCell' = true := by
  intro u hu
  simp only [List.mem_flatMap, Slot.enc] at hu
  obtain ⟨x, _, hu⟩ := hu
  simp at hu
  rcases hu with rfl | rfl | rfl <;> rfl

set_option maxRecDepth 100000 in
set_option maxHeartbeats 3200000 in
theorem copy_any (p g : Nat) (s : Sl) (w : World) (h : Is w p g s) (h0 : 1 ≤ s.slots.length) (h1 : s.slots.length ≤ 4096) :
    Calls Try.prog 22 #[.pointer (some ⟨p, 0, none⟩)] w (Made w s) := by
  obtain ⟨⟨c, hc, hb⟩, hr⟩ := h
  obtain ⟨i0, hi0, hz0, hz1, hz2⟩ := info_parts info93
  have p0 : w.cell? ⟨p, 0, none⟩ = some (.slice (some ⟨g, 0, none⟩) s.slots.length c) := hb.cell 0
  have p1 : w.cell? ⟨p, 1, none⟩ = some (.int .i64 s.next) := hb.cell 1
  have p2 : w.cell? ⟨p, 2, none⟩ = some (.int .i64 s.left) := hb.cell 2
  have hpw := hb.lt
  have hnews := hr.news (fun _ => rfl)
  have hlen := flat_length (enc := Slot.enc) (size := 3) (fun _ => rfl) s.slots
  have HN := Lib.hid hnews
  have HL := Lib.hid hlen
  clear hnews hlen
  go_enter Try.func22, Try.ntmps22
  go_wp2_with fail
  go_region_held3 (fun w' => w'.cell? ⟨p, 0, none⟩ = some (.slice (some ⟨g, 0, none⟩) s.slots.length c) ∧ w'.cell? ⟨p, 1, none⟩ = some (.int .i64 s.next) ∧ w'.cell? ⟨p, 2, none⟩ = some (.int .i64 s.left))
    (first
      | go_keep
      | (go_split_ands
         refine ⟨?_, ?_, ?_⟩
         · (rw [hgrow.cell_far _ (by simp; omega) (by simp [Value.ownBlock])]; assumption)
         · (rw [hgrow.cell_far _ (by simp; omega) (by simp [Value.ownBlock])]; assumption)
         · (rw [hgrow.cell_far _ (by simp; omega) (by simp [Value.ownBlock])]; assumption)))
    ((refine step_append_lies _ (by rfl) _ _ _ (by rfl) w.heap.size 93 i0 _ 3 24 Try.underlying89 hi0 hz0 hz1 hz2 rfl (by omega) (.slice none 0 0) 0 [] (by rfl) (World.ownsRow_nil _ _ _ _)
        ⟨g, 0, none⟩ s.slots.length c (s.slots.flatMap Slot.enc) (by rfl) HL.out (fun j u hu => HN.out j u hu) (one_enc _)
        (by omega) (by unfold maxLen; omega) (by omega) (by simp) w.heap.size (by simp) ?_; intro gg cap w1 hown1 hgrow hat hlt))
  go_wp2
  go_ret
  simp only [Nat.zero_add, List.nil_append] at hown1
  obtain ⟨hrow, hcap⟩ := RowsIn.of_own (enc := Slot.enc) (fun _ => rfl) hown1 rfl
  have hgg : w.heap.size ≤ gg := by
    rcases hat with h | h
    · simp [Value.ownBlock] at h
    · omega
  have hbl : Below w.heap.size w w1 := ((Below.refl w.heap.size w).drew).grown hgrow (Nat.le_refl _) (fun k hk => by simp [Value.ownBlock] at hk)
  refine ⟨_, _, rfl, ⟨⟨cap, hcap, ?_⟩, ?_⟩, hbl.size, hgg, ?_⟩
  · exact (Blk.new w1 91 _).drew
  · exact (hrow.alloc _).drew
  · exact hbl.alloc hbl.size _
end Go.Proofs.Ythdjagmeggckcaa.Slab
