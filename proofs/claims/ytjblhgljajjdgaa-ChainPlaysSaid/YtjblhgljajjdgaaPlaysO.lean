/- The law ChainPlays, where its bounds are not kept. -/
import Derived.Test.YtjblhgljajjdgaaPlaysS
namespace Go.Proofs.Ytjblhgljajjdgaa.WChainPlays
open Go.RowKit ChainLaw ChainP Refs

set_option maxRecDepth 100000 in
set_option maxHeartbeats 4000000 in
theorem law_off (n0 m0 : Int) (A : Option Addr) (cap : Nat) (len : Nat) (w : World) (hl : len ≤ maxLen) (hoff : n0 < 1 ∨ 30 < n0 ∨ m0 < 1 ∨ 8 < m0 ∨ 80 < len) :
    Calls Try.prog 3 #[.int .i64 n0, .int .i64 m0, .slice A len cap] w fun e w' => e = .returned (.bool true) ∧ Below w.heap.size w w' := by
  unfold maxLen at hl
  by_cases hbad : n0 < 1 ∨ 4096 < n0 ∨ m0 < 1 ∨ 256 < m0
  · have C := Lib.hid (Chain.new_bad n0 m0 w hbad)
    have hbad' : (decide (n0 < 1) || decide (4096 < n0) || decide (m0 < 1) || decide (256 < m0)) = true := by simp; omega
    cases t1 : decide (n0 < 1) <;> cases t2 : decide (4096 < n0) <;> cases t3 : decide (m0 < 1) <;> cases t4 : decide (256 < m0) <;> cases t5 : decide (30 < n0) <;> cases t6 : decide (8 < m0)
    all_goals first
    | (rw [t1, t2, t3, t4] at hbad'; cases hbad'; done)
    | (exfalso; simp at t1 t2 t3 t4 t5 t6; omega)
    | (clear hbad hbad' hoff
       go_enter Try.func3, Try.ntmps3
       go_wp2_with fail
       refine C.out.mono ?_
       rintro e w1 ⟨rfl, rfl⟩
       go_wp2_with fail
       refine (WChainOrders.lives _).mono ?_
       rintro e w6 ⟨rfl, hb6⟩
       go_wp2_with fail
       go_ret
       exact ⟨rfl, hb6⟩)
  obtain ⟨n, rfl⟩ := Int.eq_ofNat_of_zero_le (by omega : 0 ≤ n0)
  obtain ⟨m, rfl⟩ := Int.eq_ofNat_of_zero_le (by omega : 0 ≤ m0)
  have h1 : 1 ≤ n := by omega
  have h2 : n ≤ 4096 := by omega
  have h3 : 1 ≤ m := by omega
  have h4 : m ≤ 256 := by omega
  have t1 : decide ((n : Int) < 1) = false := by simp; omega
  have t2 : decide (4096 < (n : Int)) = false := by simp; omega
  have t3 : decide ((m : Int) < 1) = false := by simp; omega
  have t4 : decide (256 < (m : Int)) = false := by simp; omega
  clear hbad
  have hbig : 30 < n ∨ 8 < m ∨ 80 < len := by omega
  · have C := Lib.hid (new_good n m w h1 h2 h3 h4)
    have hbig' : (decide (30 < (n : Int)) || decide (8 < (m : Int)) || decide (80 < (len : Int))) = true := by simp; omega
    cases t5 : decide (30 < (n : Int)) <;> cases t6 : decide (8 < (m : Int)) <;> cases t7 : decide (80 < (len : Int))
    all_goals first
    | (rw [t5, t6, t7] at hbig'; cases hbig'; done)
    | (clear hbig hbig' hoff
       go_enter Try.func3, Try.ntmps3
       go_wp2_with fail
       refine C.out.mono ?_
       rintro e w1 ⟨c, g1, g2, g3, rfl, _, hb, _, _, _, _⟩
       go_wp2_with fail
       refine (WChainOrders.lives _).mono ?_
       rintro e w6 ⟨rfl, hb6⟩
       go_wp2_with fail
       go_ret
       exact ⟨rfl, hb.trans (hb6.mono hb.size)⟩)
end Go.Proofs.Ytjblhgljajjdgaa.WChainPlays
