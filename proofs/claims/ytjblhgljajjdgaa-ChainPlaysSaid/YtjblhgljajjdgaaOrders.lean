/- The law ChainOrders: its walk; and the lists' example. -/
import Derived.Test.YtjblhgljajjdgaaChainP
import Derived.Test.YtjblhgljajjdgaaArg
import Derived.Deep.LoopGhost
import Derived.Deep.DeepCutAuto
import Derived.Deep.CutBlock
namespace Go.Proofs.Ytjblhgljajjdgaa.WChainOrders
open Go.RowKit ChainLaw ChainP
open Chain (Links Rd_ AllP same_yes all_any Of3)

theorem two {a b m : List Nat} : ∀ {j : Nat}, [a, b][j]? = some m → m = a ∨ m = b
  | 0, h => .inl (by simpa using h.symm)
  | 1, h => .inr (by simpa using h.symm)

theorem lit3 (w : World) (a b c : Int) : Sl (w.alloc (.cells #[.int .i64 a, .int .i64 b, .int .i64 c] 3)) 3 1 eInt (.slice (some ⟨w.heap.size, 0, none⟩) 3 3) [a, b, c] := by
  refine ⟨_, 3, rfl, by simp, by unfold maxLen; omega, fun _ => ⟨w.heap.size, 0, #[.int .i64 a, .int .i64 b, .int .i64 c], (0, 0), rfl, heap_alloc_new w _, fun k x hk j u hu => ?_⟩⟩
  rw [(Blk.new w 3 #[.int .i64 a, .int .i64 b, .int .i64 c]).cell]
  match k, hk with
  | 0, hk => simp at hk; subst hk; match j, hu with | 0, hu => simpa [eInt] using hu
  | 1, hk => simp at hk; subst hk; match j, hu with | 0, hu => simpa [eInt] using hu
  | 2, hk => simp at hk; subst hk; match j, hu with | 0, hu => simpa [eInt] using hu

set_option maxRecDepth 100000 in
set_option maxHeartbeats 1000000 in
theorem lives (w : World) : Calls Try.prog 6 #[] w fun e w' => e = .returned (.bool true) ∧ Below w.heap.size w w' := by
  go_enter Try.func6, Try.ntmps6
  go_wp2_with fail
  refine (new_good 9 2 _ (by omega) (by omega) (by omega) (by omega)).mono ?_
  rintro e w1 ⟨c, g1, g2, g3, rfl, h1, hb, hc, hg1, hg2, hg3⟩
  go_wp2_with fail
  refine (push_yes (i := 0) (v := 5) (l := []) h1 (by omega) rfl (by omega) (fun j m hm => by rcases two hm with rfl | rfl <;> simp)).mono ?_
  rintro e w2 ⟨rfl, h2, k2⟩
  go_wp2_with fail
  refine (push_yes (i := 0) (v := 3) (l := [5]) h2 (by omega) rfl (by omega) ?_).mono ?_
  · intro j m hm
    rcases two hm with rfl | rfl <;> simp
  rintro e w3 ⟨rfl, h3, k3⟩
  go_wp2_with fail
  refine (push_yes (i := 1) (v := 4) (l := []) h3 (by omega) rfl (by omega) ?_).mono ?_
  · intro j m hm
    rcases two hm with rfl | rfl <;> simp
  rintro e w4 ⟨rfl, h4, k4⟩
  go_wp2_with fail
  refine (join_yes (i := 1) (j := 0) (l := [4]) (m := [5, 3]) h4 (by omega) (by omega) rfl rfl).mono ?_
  rintro e w5 ⟨rfl, h5, k5⟩
  go_wp2_with fail
  refine (all_yes (i := 1) (l := [4, 5, 3]) h5 (by omega) rfl).mono ?_
  rintro e w6 ⟨v, rfl, hs, hb6⟩
  go_wp2_with fail
  refine (same_yes v _ [4, 5, 3] _ (hs.alloc _) (lit3 w6 4 5 3)).mono ?_
  rintro e w7 ⟨rfl, hb7⟩
  go_wp2_with fail
  have h7 := ((h5.ext (Kept.below hb6 rfl)).ext ((Kept.refl _ _).alloc (.cells #[.int .i64 4, .int .i64 5, .int .i64 3] 3))).ext (Kept.below hb7 rfl)
  refine (len_yes (i := 0) (l := []) h7 rfl).mono ?_
  rintro e w8 ⟨rfl, rfl⟩
  go_wp2_with fail
  go_ret
  have K := ((((((((k2.trans k3).trans k4).trans k5).trans (Kept.below hb6 rfl)).alloc (.cells #[.int .i64 4, .int .i64 5, .int .i64 3] 3)).trans (Kept.below hb7 rfl))))
  exact ⟨rfl, hb.trans (K.toBelow (fun i hi => by rcases hi with rfl | rfl | rfl <;> assumption) hb.size)⟩
end Go.Proofs.Ytjblhgljajjdgaa.WChainOrders
