/- cutoff: Come never raises and Gone never lowers the top level: for every top and every event the law returns true, and leaves memory as it was. -/
import Derived.Test.YthdjagmeggckcaaCut
import Derived.Test.YthdjagmeggckcaaArg
namespace Go.Proofs.Ythdjagmeggckcaa.Stays
open Go.RowKit

theorem come_bd (n l : Int) (o : Bool) (h : 1 ≤ n) : Cut.come n l o ≤ n ∧ 1 ≤ Cut.come n l o := by
  unfold Cut.come
  split
  · omega
  · split <;> omega
theorem gone_bd (n l : Int) (o em : Bool) (h : n ≤ 9) : n ≤ Cut.gone n l o em ∧ Cut.gone n l o em ≤ 9 := by
  unfold Cut.gone
  split <;> omega
theorem gone_far (n l : Int) (o em : Bool) (h : n < l) : (Cut.gone n l o em != n) = false := by
  unfold Cut.gone
  rw [if_neg (by omega)]
  simp

set_option maxHeartbeats 400000 in
theorem walk (t : Int) (k l : Int) (o em : Bool) (w : World) (ht0 : 0 ≤ t) (ht1 : t ≤ 255) :
    Calls Try.prog 3 #[.int .u8 t, .agg #[.int .i64 k, .int .i64 l, .bool o, .bool em]] w fun e w' => e = .returned (.bool true) ∧ Below w.heap.size w w' := by
  obtain ⟨h1, h2⟩ := come_bd (1 + t % 9) l o (by omega)
  obtain ⟨h3, h4⟩ := gone_bd (1 + t % 9) l o em (by omega)
  have fin : ∀ n, Below w.heap.size w ((w.alloc (Obj.cells #[Value.int IntKind.i64 k, Value.int IntKind.i64 l, Value.bool o, Value.bool em] 23)).drewN n) := fun n =>
    let h := (Below.refl w.heap.size w).alloc (Nat.le_refl _) (Obj.cells #[Value.int IntKind.i64 k, Value.int IntKind.i64 l, Value.bool o, Value.bool em] 23)
    ⟨h.os, h.tape, h.output, h.size, h.block⟩
  by_cases h : 1 + t % 9 < l
  all_goals
    first
    | have h5 := gone_far (1 + t % 9) l o em h
      have h6 : decide (1 + t % 9 < l) = true := by simpa using h
    | have h6 : decide (1 + t % 9 < l) = false := by simpa using h
    go_enter Try.func3, Try.ntmps3
    go_wp2
    go_quiet ((first | (go_at_call 9; exact q_left (Cut.come_any _ _ _ _)) | (go_at_call 10; exact q_left (Cut.gone_any _ _ _ _ _))))
    go_wp2_with (go_at_call 11; refine (Cut.lives_any _).mono ?_; rintro e w' ⟨rfl, rfl⟩)
    go_ret
    exact ⟨rfl, fin _⟩
end Go.Proofs.Ythdjagmeggckcaa.Stays
namespace Go.Proofs.Ythdjagmeggckcaa.WCutoffStays
open Go.ChangeShapes Go.WideShapes Go.ChangeAt Go.RowKit
theorem walk (v0 v1 : Value) (W : World) (k0 : IsArg Try.prog W 5 v0) (k1 : IsArg Try.prog W 23 v1) :
    Calls Try.prog 3 #[v0, v1] W fun e W' => e = .returned (.bool true) ∧ Below W.heap.size W W' := by
  obtain ⟨t, rfl, ht⟩ := k0.int Try.underlying5
  obtain ⟨cs, rfl, hr⟩ := k1.struct Try.underlying23
  obtain ⟨x, rfl⟩ := Cut.ev_dec hr
  have hb := bounds_u8 ht
  exact Stays.walk t x.kind x.level x.over x.empty W hb.1 hb.2
end Go.Proofs.Ythdjagmeggckcaa.WCutoffStays
