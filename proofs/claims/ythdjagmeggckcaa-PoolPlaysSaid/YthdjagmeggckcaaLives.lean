/- The slab's example: the law's own 'lives' returns true. -/
import Derived.Test.YthdjagmeggckcaaSlabLaw
import Derived.Test.YthdjagmeggckcaaExt
namespace Go.Proofs.Ythdjagmeggckcaa.SlabLaw
open Go.RowKit Slab

def s0 : Slab.Sl := { slots := [⟨0, 0, 1⟩, ⟨0, 0, -1⟩], next := 0, left := 2 }
theorem new2 : Slab.new 2 = s0 := rfl
def s1 : Slab.Sl := { slots := [⟨1, 0, 1⟩, ⟨0, 0, -1⟩], next := 1, left := 1 }
def s2 : Slab.Sl := { slots := [⟨1, 0, 1⟩, ⟨1, 0, -1⟩], next := -1, left := 0 }
def s3 : Slab.Sl := { slots := [⟨0, 1, -1⟩, ⟨1, 0, -1⟩], next := 0, left := 1 }
def s4 : Slab.Sl := { slots := [⟨1, 1, -1⟩, ⟨1, 0, -1⟩], next := -1, left := 0 }

theorem c_new (w : World) : Calls Try.prog 15 #[.int .i64 2] w (Made w s0) := new_good 2 w (by omega) (by omega)
theorem c1 (p g : Nat) (w : World) (h : Slab.Is w p g s0) :
    Calls Try.prog 18 #[.pointer (some ⟨p, 0, none⟩)] w fun e w' => e = .returned (.tuple #[.agg #[.int .i64 0, .int .i64 0], .bool true]) ∧ Slab.Is w' p g s1 ∧ Kept (Of2 p g) w w' :=
  take_some p g s0 0 ⟨0, 0, 1⟩ w h rfl rfl (by decide)
theorem c2 (p g : Nat) (w : World) (h : Slab.Is w p g s1) :
    Calls Try.prog 18 #[.pointer (some ⟨p, 0, none⟩)] w fun e w' => e = .returned (.tuple #[.agg #[.int .i64 1, .int .i64 0], .bool true]) ∧ Slab.Is w' p g s2 ∧ Kept (Of2 p g) w w' :=
  take_some p g s1 1 ⟨0, 0, -1⟩ w h rfl rfl (by decide)
theorem c3 (p g : Nat) (w : World) (h : Slab.Is w p g s2) :
    Calls Try.prog 18 #[.pointer (some ⟨p, 0, none⟩)] w fun e w' => e = .returned (.tuple #[.agg #[.int .i64 0, .int .i64 0], .bool false]) ∧ Below w.heap.size w w' :=
  take_none p g s2 w h (by decide)
theorem c4 (p g : Nat) (w : World) (h : Slab.Is w p g s2) :
    Calls Try.prog 21 #[.pointer (some ⟨p, 0, none⟩), .agg #[.int .i64 0, .int .i64 0]] w fun e w' => e = .returned (.bool true) ∧ Slab.Is w' p g s3 ∧ Kept (Of2 p g) w w' :=
  give_yes p g s2 0 ⟨1, 0, 1⟩ w h (by decide) rfl (by decide) (by decide) (by decide)
theorem c5 (p g : Nat) (w : World) (h : Slab.Is w p g s3) :
    Calls Try.prog 18 #[.pointer (some ⟨p, 0, none⟩)] w fun e w' => e = .returned (.tuple #[.agg #[.int .i64 0, .int .i64 1], .bool true]) ∧ Slab.Is w' p g s4 ∧ Kept (Of2 p g) w w' :=
  take_some p g s3 0 ⟨0, 1, -1⟩ w h rfl rfl (by decide)

theorem boxed {w w1 : World} {p g : Nat} {a b : Value} (hp : p < w.heap.size ∧ g < w.heap.size) (hk : Kept (Of2 p g) (w.alloc (.cells #[a, b] 40)) w1) : Blk w1 w.heap.size 40 #[a, b] ∧ w.heap.size < w1.heap.size :=
  have h := (Blk.new w 40 #[a, b]).kept hk (fun h => by rcases h with h | h <;> omega)
  ⟨h, h.lt⟩
theorem cell2 {w : World} {g : Nat} {t : TypeId} {a b : Value} (h : Blk w g t #[a, b]) : w.cell? ⟨g, 0, none⟩ = some a ∧ w.cell? ⟨g, 1, none⟩ = some b := ⟨h.cell 0, h.cell 1⟩
theorem Slab.Is.al {w : World} {p g : Nat} {s : Slab.Sl} (h : Slab.Is w p g s) (o : Obj) : Slab.Is (w.alloc o) p g s := h.kept (F := none_) ((Kept.refl _ _).alloc _) (fun h => h) (fun h => h)

set_option maxRecDepth 100000 in
set_option maxHeartbeats 1000000 in
theorem lives (w : World) : Calls Try.prog 16 #[] w fun e w' => e = .returned (.bool true) ∧ Below w.heap.size w w' := by
  go_enter Try.func16, Try.ntmps16
  go_wp2_with fail
  refine (c_new _).mono ?_
  rintro e w1 ⟨p, g, rfl, h1, hp, hg, hb⟩
  go_wp2_with fail
  refine (c1 p g _ h1).mono ?_
  rintro e w2 ⟨rfl, h2, k2⟩
  go_wp2_with fail
  refine (c2 p g _ (Slab.Is.al h2 _)).mono ?_
  rintro e w3 ⟨rfl, h3, k3⟩
  obtain ⟨bA3, l23⟩ := boxed h2.lt k3
  go_wp2_with fail
  refine (c3 p g _ (Slab.Is.al h3 _)).mono ?_
  rintro e w4 ⟨rfl, k4⟩
  have k4' := Kept.below (F := Of2 p g) k4 rfl
  have bA4 := (bA3.alloc (.cells #[.int .i64 1, .int .i64 0] 40)).kept k4' (fun h => by have := h2.lt; rcases h with h | h <;> omega)
  obtain ⟨bB4, l34⟩ := boxed h3.lt k4'
  have h4 : Slab.Is w4 p g s2 := (Slab.Is.al h3 _).kept (F := none_) (Kept.below k4 rfl) (fun h => h) (fun h => h)
  obtain ⟨e0, e1⟩ := cell2 bA4
  have l24 := bA4.lt
  go_wp2_with fail
  refine (c4 p g _ (Slab.Is.al h4 _)).mono ?_
  rintro e w5 ⟨rfl, h5, k5⟩
  have bA5 := (bA4.alloc (.cells #[.int .i64 0, .int .i64 0] 40)).kept k5 (fun h => by have := h2.lt; rcases h with h | h <;> omega)
  have bB5 := (bB4.alloc (.cells #[.int .i64 0, .int .i64 0] 40)).kept k5 (fun h => by have := h3.lt; rcases h with h | h <;> omega)
  clear e0 e1 l24
  go_wp2_with fail
  refine (c5 p g _ h5).mono ?_
  rintro e w6 ⟨rfl, h6, k6⟩
  have bA6 := bA5.kept k6 (fun h => by have := h2.lt; rcases h with h | h <;> omega)
  have bB6 := bB5.kept k6 (fun h => by have := h3.lt; rcases h with h | h <;> omega)
  obtain ⟨e0, e1⟩ := cell2 bA6
  obtain ⟨e2, e3⟩ := cell2 bB6
  have l26 := bA6.lt
  have l36 := bB6.lt
  go_wp2_with fail
  go_ret
  have q2 := k2
  have K : Kept none_ w w6 := ((((((Kept.below (F := none_) (Below.refl w.heap.size w) rfl).trans' (Kept.below (F := none_) hb rfl) (fun i h => .inl h)).trans' k2 ?_).alloc _).trans' k3 ?_).alloc _).trans' k4' ?_ |>.alloc _ |>.trans' k5 ?_ |>.trans' k6 ?_
  · exact ⟨rfl, (K.alloc _).toBelow'⟩
  all_goals
    intro i hi
    rcases hi with rfl | rfl
    · exact .inr hp
    · exact .inr hg
end Go.Proofs.Ythdjagmeggckcaa.SlabLaw
