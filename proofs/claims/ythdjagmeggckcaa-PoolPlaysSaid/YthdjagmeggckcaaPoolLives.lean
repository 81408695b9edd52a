/- The pool's example: the law's own 'lives' returns true. -/
import Derived.Test.YthdjagmeggckcaaPoolLaw
import Derived.Test.YthdjagmeggckcaaLives
namespace Go.Proofs.Ythdjagmeggckcaa.PoolLaw
open Go.RowKit Pool SlabLaw

def pk (n : Int) : Pk := ⟨0, n, 0, 0, 0, 0, 0, 0, 0, 0⟩
def q0 : Pl := Pool.new 2 100
def q1 : Pl := Pool.put q0 0 ⟨0, 0, 1⟩ (pk 60)
def q2 : Pl := Pool.put q1 1 ⟨0, 0, -1⟩ (pk 40)

theorem p1 (a p g r : Nat) (w : World) (h : Pool.Is w a p g r q0) :
    Calls Try.prog 32 #[.pointer (some ⟨a, 0, none⟩), (pk 60).v] w fun e w' => e = .returned (.tuple #[.agg #[.int .i64 0, .int .i64 0], .int .i64 0]) ∧ Pool.Is w' a p g r q1 ∧ Kept (Of4 a p g r) w w' :=
  put_yes a p g r q0 (pk 60) 0 ⟨0, 0, 1⟩ w h (by decide) (by decide) (by decide) rfl rfl (by decide)
theorem p2 (a p g r : Nat) (w : World) (h : Pool.Is w a p g r q1) :
    Calls Try.prog 32 #[.pointer (some ⟨a, 0, none⟩), (pk 50).v] w fun e w' => e = .returned (.tuple #[.agg #[.int .i64 0, .int .i64 0], .int .i64 5]) ∧ Below w.heap.size w w' :=
  put_no a p g r q1 (pk 50) w h (by decide) (by decide) (by decide)
theorem p3 (a p g r : Nat) (w : World) (h : Pool.Is w a p g r q1) :
    Calls Try.prog 32 #[.pointer (some ⟨a, 0, none⟩), (pk 40).v] w fun e w' => e = .returned (.tuple #[.agg #[.int .i64 1, .int .i64 0], .int .i64 0]) ∧ Pool.Is w' a p g r q2 ∧ Kept (Of4 a p g r) w w' :=
  put_yes a p g r q1 (pk 40) 1 ⟨0, 0, -1⟩ w h (by decide) (by decide) (by decide) rfl rfl (by decide)
theorem p4 (a p g r : Nat) (w : World) (h : Pool.Is w a p g r q2) :
    Calls Try.prog 32 #[.pointer (some ⟨a, 0, none⟩), (pk 1).v] w fun e w' => e = .returned (.tuple #[.agg #[.int .i64 0, .int .i64 0], .int .i64 4]) ∧ Below w.heap.size w w' :=
  put_no a p g r q2 (pk 1) w h (by decide) (by decide) (by decide)

set_option maxRecDepth 100000 in
set_option maxHeartbeats 1000000 in
theorem lives (w : World) : Calls Try.prog 28 #[] w fun e w' => e = .returned (.bool true) ∧ Below w.heap.size w w' := by
  have C := Lib.hid (new_good 2 100 w (by omega) (by omega) (by omega) (by omega))
  go_enter Try.func28, Try.ntmps28
  go_wp2_with fail
  refine C.out.mono ?_
  rintro e w1 ⟨a, p, g, r, rfl, h1, ha, hp, hg, hr, hb⟩
  have K1 := Kept.below (F := Of4 a p g r) hb rfl
  clear C
  go_wp2_with fail
  refine (p1 a p g r _ h1).mono ?_
  rintro e w2 ⟨rfl, h2, k2⟩
  go_wp2_with fail
  refine (p2 a p g r _ (h2.ext ((Kept.refl _ _).alloc _))).mono ?_
  rintro e w3 ⟨rfl, k3⟩
  have K3 := (k2.alloc (.cells #[.int .i64 0, .int .i64 0] 40)).trans (Kept.below (F := Of4 a p g r) k3 rfl)
  have h3 := (h2.ext ((Kept.refl none_ w2).alloc (.cells #[.int .i64 0, .int .i64 0] 40))).ext (Kept.below (F := none_) k3 rfl)
  go_wp2_with fail
  refine (p3 a p g r _ (h3.ext ((Kept.refl _ _).alloc _))).mono ?_
  rintro e w4 ⟨rfl, h4, k4⟩
  go_wp2_with fail
  refine (p4 a p g r _ (h4.ext ((Kept.refl _ _).alloc _))).mono ?_
  rintro e w5 ⟨rfl, k5⟩
  go_wp2_with fail
  go_ret
  have K5 := (((((K3.alloc (.cells #[.int .i64 0, .int .i64 0] 40)).trans k4).alloc (.cells #[.int .i64 1, .int .i64 0] 40)).trans (Kept.below (F := Of4 a p g r) k5 rfl)).alloc (.cells #[.int .i64 0, .int .i64 0] 40))
  exact ⟨rfl, hb.trans (K5.toBelow (fun i hi => by rcases hi with rfl | rfl | rfl | rfl <;> assumption) hb.size)⟩
end Go.Proofs.Ythdjagmeggckcaa.PoolLaw
