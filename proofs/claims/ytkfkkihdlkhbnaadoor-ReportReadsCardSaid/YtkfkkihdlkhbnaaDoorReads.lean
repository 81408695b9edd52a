/- The law ReportReads: its walk. -/
import Derived.Test.YtkfkkihdlkhbnaaDoorRRead
import Derived.Test.YtkfkkihdlkhbnaaDoorWrites
namespace Go.Proofs.YtkfkkihdlkhbnaaDoor.WReportReads
open Go.RowKit Str

set_option maxRecDepth 100000 in
set_option maxHeartbeats 2000000 in
theorem law_off (s : ByteArray) (w : World) (hT : Tabs w) (hr : 300 < s.size) : Calls Tryd.prog 4 #[.string s] w fun e w' => e = .returned (.bool true) ∧ Below w.heap.size w w' := by
  have t1 : decide (300 < (s.size : Int)) = true := by simp; omega
  have C := Lib.hid (WReportWrites.lives w hT)
  clear hT hr
  go_enter Tryd.func4, Tryd.ntmps4
  go_wp2_with fail
  refine C.out.mono ?_
  rintro e w1 ⟨rfl, hb1⟩
  have HB1 := Lib.hid hb1
  clear hb1
  go_wp2_with fail
  go_ret
  exact ⟨rfl, HB1.out⟩

set_option maxRecDepth 100000 in
set_option maxHeartbeats 4000000 in
theorem law_any (s : ByteArray) (w : World) (hT : RTabs w) (hr : s.size ≤ 300) : Calls Tryd.prog 4 #[.string s] w fun e w' => e = .returned (.bool true) ∧ Below w.heap.size w w' := by
  have t1 : decide (300 < (s.size : Int)) = false := by simp; omega
  have D13 := fun W h => read_any s W (by omega) h
  have D14 := fun W => rread_any s W (by omega)
  have D15 := fun W => unhex_any s (by omega) W
  have D16 := fun W => runhex_any s (by omega) W
  have D17 := fun W h => number_any s W (by omega) h
  have D18 := fun W => rnumber_any s W (by omega)
  rw [← read_eq] at D14
  unfold readV at D13 D14
  unfold unhV at D15 D16
  unfold numV at D17 D18
  generalize (readP s.data.toList).getD Ou.zero = x at D13 D14
  generalize (readP s.data.toList).isSome = q at D13 D14
  generalize ((unhx s.data.toList).getD []).toArray = u at D15 D16
  generalize (unhx s.data.toList).isSome = uq at D15 D16
  generalize (num s.data.toList).getD 0 = n at D17 D18
  generalize (num s.data.toList).isSome = nq at D17 D18
  have H13 := Lib.hid D13
  have H14 := Lib.hid D14
  have H15 := Lib.hid D15
  have H16 := Lib.hid D16
  have H17 := Lib.hid D17
  have H18 := Lib.hid D18
  have HT := Lib.hid hT
  clear hT hr D13 D14 D15 D16 D17 D18
  go_enter Tryd.func4, Tryd.ntmps4
  go_wp2_with fail
  refine (H13.out _ HT.out).mono ?_
  rintro e w1 ⟨rfl, hb1⟩
  have HB1 := Lib.hid hb1
  clear hb1
  go_wp2_with fail
  generalize hW : World.alloc w1 _ = W1
  have hw1 : W1 = w1.alloc (.cells x.cs 23) := hW.symm
  have B1 : Blk W1 w1.heap.size 23 x.cs := by rw [hw1]; exact Blk.new w1 23 x.cs
  have hb : Below w.heap.size w W1 := by rw [hw1]; exact HB1.out.trans (((Below.refl _ _).alloc (Nat.le_refl _) _).mono HB1.out.size)
  have HB := Lib.hid hb
  have HBk := Lib.hid B1
  clear hW hw1 hb B1 HB1
  generalize w1.heap.size = G1 at *
  refine (H14.out _).mono ?_
  rintro e w2 ⟨rfl, hb2⟩
  have HB2 := Lib.hid (HB.out.trans (hb2.mono HB.out.size))
  have HBk := Lib.hid (HBk.out.kept (F := none_) (Kept.below hb2 rfl) (fun h => h))
  clear hb2
  go_wp2_with fail
  generalize hW : World.alloc w2 _ = W2
  have hw1 : W2 = w2.alloc (.cells x.cs 23) := hW.symm
  have B1 : Blk W2 w2.heap.size 23 x.cs := by rw [hw1]; exact Blk.new w2 23 x.cs
  have B0 : Blk W2 G1 23 x.cs := by rw [hw1]; exact HBk.out.alloc _
  have hb : Below w.heap.size w W2 := by rw [hw1]; exact HB2.out.trans (((Below.refl _ _).alloc (Nat.le_refl _) _).mono HB2.out.size)
  have HB3 := Lib.hid hb
  have HBk2 := Lib.hid B1
  have HBk1 := Lib.hid B0
  clear hW hw1 hb B1 B0 HB2
  generalize w2.heap.size = G2 at *
  refine (H15.out _).mono ?_
  rintro e w3 ⟨rfl, hb3⟩
  have HA := Lib.hid hb3
  clear hb3
  go_wp2_with fail
  refine (H16.out _).mono ?_
  rintro e w4 ⟨rfl, hb3⟩
  have HA := Lib.hid (HA.out.trans (hb3.mono HA.out.size))
  clear hb3
  go_wp2_with fail
  refine (H17.out _ (HT.out.below (HB3.out.trans (HA.out.mono HB3.out.size)))).mono ?_
  rintro e w5 ⟨rfl, hb3⟩
  have HA := Lib.hid (HA.out.trans (hb3.mono HA.out.size))
  clear hb3
  go_wp2_with fail
  refine (H18.out _).mono ?_
  rintro e w6 ⟨rfl, hb3⟩
  have HA := Lib.hid (HA.out.trans (hb3.mono HA.out.size))
  clear hb3
  obtain ⟨e0, e1, e2, e3, e4, e5, e6, e7⟩ := ou_cells (HBk1.out.kept (F := none_) (Kept.below HA.out rfl) (fun h => h))
  obtain ⟨f0, f1, f2, f3, f4, f5, f6, f7⟩ := ou_cells (HBk2.out.kept (F := none_) (Kept.below HA.out rfl) (fun h => h))
  have HZ := Lib.hid (HB3.out.trans (HA.out.mono HB3.out.size))
  have HL := Lib.hid (WReportWrites.lives w6 (HT.out.below HZ.out).t)
  go_wp2_with fail
  refine HL.out.mono ?_
  rintro e w7 ⟨rfl, hb3⟩
  have HZ := Lib.hid (HZ.out.trans (hb3.mono HZ.out.size))
  clear hb3 e0 e1 e2 e3 e4 e5 e6 e7 f0 f1 f2 f3 f4 f5 f6 f7
  go_wp2_with fail
  go_ret
  exact ⟨rfl, HZ.out⟩
end Go.Proofs.YtkfkkihdlkhbnaaDoor.WReportReads
