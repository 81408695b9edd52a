/- The law ReportWrites: its walk. -/
import Derived.Test.YtkfkkihdlkhbnaaDoorPLine
import Derived.Test.YtkfkkihdlkhbnaaDoorArg
namespace Go.Proofs.YtkfkkihdlkhbnaaDoor.WReportWrites
open Go.RowKit Str

theorem itoa7 : Lib.itoa 7 = [55] := by
  unfold Lib.itoa
  rw [if_neg (by decide), show (7 : Int).toNat = 7 from rfl, Lib.decDigits]
  rfl
def o7 : Ou := ⟨3, 0, 0, 0, 0, 7, 0, ⟨#[]⟩⟩
theorem i64_small {n : Int} (h0 : 0 ≤ n) (h1 : n ≤ 1000) : I64 n := ⟨by omega, by omega⟩
theorem o7_ok : o7.Ok := ⟨i64_small (by decide) (by decide), i64_small (by decide) (by decide), i64_small (by decide) (by decide), i64_small (by decide) (by decide), i64_small (by decide) (by decide), i64_small (by decide) (by decide), i64_small (by decide) (by decide)⟩
theorem o7_line : outL o7 = [116, 105, 109, 101, 32, 55] := by
  unfold outL
  rw [if_neg (by decide), if_neg (by decide), if_pos (by decide), line_one]
  show sTime ++ [32] ++ Lib.itoa 7 = _
  rw [itoa7]
  rfl

set_option maxRecDepth 100000 in
set_option maxHeartbeats 2000000 in
theorem lives (w : World) (hT : Tabs w) : Calls Tryd.prog 6 #[] w fun e w' => e = .returned (.bool true) ∧ Below w.heap.size w w' := by
  have C1 := pline_any o7 o7_ok (by decide) w hT
  rw [o7_line] at C1
  have HC1 := Lib.hid C1
  have C2 := fun W => hex_any ⟨#[10, 255]⟩ (by decide) W
  rw [show hex (⟨#[10, 255]⟩ : ByteArray).data.toList = [48, 97, 102, 102] from by decide] at C2
  have HC2 := Lib.hid C2
  have C3 := fun W => hex_any ⟨#[]⟩ (by decide) W
  rw [show hex (⟨#[]⟩ : ByteArray).data.toList = [45] from by decide] at C3
  have HC3 := Lib.hid C3
  clear C1 C2 C3
  go_enter Tryd.func6, Tryd.ntmps6
  go_wp2_with fail
  refine HC1.out.mono ?_
  rintro e w1 ⟨rfl, hb1⟩
  have HB1 := Lib.hid hb1
  clear hb1
  go_wp2_with fail
  refine (HC2.out _).mono ?_
  rintro e w2 ⟨rfl, hb2⟩
  have HB2 := Lib.hid (HB1.out.trans (hb2.mono HB1.out.size))
  clear hb2
  go_wp2_with fail
  refine (HC3.out _).mono ?_
  rintro e w3 ⟨rfl, hb3⟩
  have HB3 := Lib.hid (HB2.out.trans (hb3.mono HB2.out.size))
  clear hb3
  go_wp2_with fail
  go_ret
  exact ⟨rfl, HB3.out⟩

set_option maxRecDepth 100000 in
set_option maxHeartbeats 2000000 in
theorem law_off (o : Ou) (s : Sta) (w : World) (hT : Tabs w) (hr : 200 < o.reply.size) : Calls Tryd.prog 3 #[o.v, s.v] w fun e w' => e = .returned (.bool true) ∧ Below w.heap.size w w' := by
  have t1 : decide (200 < (o.reply.size : Int)) = true := by simp; omega
  have hb : Below w.heap.size w ((w.alloc (.cells o.cs 23)).alloc (.cells s.cs 25)) := ((Below.refl _ _).alloc (Nat.le_refl _) _).alloc (by simp) _
  have C := Lib.hid (lives _ (hT.below hb))
  have HB := Lib.hid hb
  clear hb hT hr
  go_enter Tryd.func3, Tryd.ntmps3
  go_wp2_with fail
  refine C.out.mono ?_
  rintro e w1 ⟨rfl, hb1⟩
  have HB1 := Lib.hid (HB.out.trans (hb1.mono HB.out.size))
  clear hb1
  go_wp2_with fail
  go_ret
  exact ⟨rfl, HB1.out⟩

set_option maxRecDepth 100000 in
set_option maxHeartbeats 4000000 in
theorem law_any (o : Ou) (s : Sta) (w : World) (hT : Tabs w) (ho : o.Ok) (hs : s.Ok) (hr : o.reply.size ≤ 200) : Calls Tryd.prog 3 #[o.v, s.v] w fun e w' => e = .returned (.bool true) ∧ Below w.heap.size w w' := by
  have t1 : decide (200 < (o.reply.size : Int)) = false := by simp; omega
  have hb : Below w.heap.size w ((w.alloc (.cells o.cs 23)).alloc (.cells s.cs 25)) := ((Below.refl _ _).alloc (Nat.le_refl _) _).alloc (by simp) _
  have HB := Lib.hid hb
  have HT := Lib.hid (fun z : Ext ((w.alloc (.cells o.cs 23)).alloc (.cells s.cs 25)) => (hT.below hb).below z.below)
  have B1 : Blk ((w.alloc (.cells o.cs 23)).alloc (.cells s.cs 25)) w.heap.size 23 o.cs := (Blk.new w 23 o.cs).alloc _
  have B2 : Blk ((w.alloc (.cells o.cs 23)).alloc (.cells s.cs 25)) (w.heap.size + 1) 25 s.cs := by have := Blk.new (w.alloc (.cells o.cs 23)) 25 s.cs; simpa using this
  have D7 := Lib.hid (fun W h => pline_any o ho (by omega) W h)
  have D8 := Lib.hid (fun W => rline_any o ho (by omega) W)
  have D9 := Lib.hid (fun W h => pstat_any s hs W h)
  have D10 := Lib.hid (fun W => rstat_any s hs W)
  have D11 := Lib.hid (fun W => hex_any o.reply (by omega) W)
  have D12 := Lib.hid (fun W => rhex_any o.reply (by omega) W)
  have D6 := Lib.hid (fun W h => lives W h)
  clear hb hT ho hs hr
  go_enter Tryd.func3, Tryd.ntmps3
  go_wp2_with fail
  generalize hW : (w.alloc (.cells o.cs 23)).alloc (.cells s.cs 25) = W at *
  have u0 := fun z : Ext W => (B1.kept z.kept (fun h => h)).cell 0
  have u1 := fun z : Ext W => (B1.kept z.kept (fun h => h)).cell 1
  have u2 := fun z : Ext W => (B1.kept z.kept (fun h => h)).cell 2
  have u3 := fun z : Ext W => (B1.kept z.kept (fun h => h)).cell 3
  have u4 := fun z : Ext W => (B1.kept z.kept (fun h => h)).cell 4
  have u5 := fun z : Ext W => (B1.kept z.kept (fun h => h)).cell 5
  have u6 := fun z : Ext W => (B1.kept z.kept (fun h => h)).cell 6
  have u7 := fun z : Ext W => (B1.kept z.kept (fun h => h)).cell 7
  have y0 := fun z : Ext W => (B2.kept z.kept (fun h => h)).cell 0
  have y1 := fun z : Ext W => (B2.kept z.kept (fun h => h)).cell 1
  have y2 := fun z : Ext W => (B2.kept z.kept (fun h => h)).cell 2
  have y3 := fun z : Ext W => (B2.kept z.kept (fun h => h)).cell 3
  have y4 := fun z : Ext W => (B2.kept z.kept (fun h => h)).cell 4
  have y5 := fun z : Ext W => (B2.kept z.kept (fun h => h)).cell 5
  simp only [List.getElem?_toArray, List.getElem?_cons_zero, List.getElem?_cons_succ] at u0 u1 u2 u3 u4 u5 u6 u7 y0 y1 y2 y3 y4 y5
  clear B1 B2 hW
  refine wp_region_ext (by kernel_rfl) (by kernel_rfl) ?_
  repeat (go_big_quiet_step ((first | (go_at_call 7; exact ext_call (D7.out _ (HT.out _))) | (go_at_call 8; exact ext_call (D8.out _)) | (go_at_call 9; exact ext_call (D9.out _ (HT.out _))) | (go_at_call 10; exact ext_call (D10.out _)) | (go_at_call 11; exact ext_call (D11.out _)) | (go_at_call 12; exact ext_call (D12.out _)) | (go_at_call 6; exact ext_call (D6.out _ (HT.out _))))))
  refine wpQuiet_nil ?_
  intro _ hw'
  obtain ⟨z, rfl⟩ := hw'
  clear u0 u1 u2 u3 u4 u5 u6 u7 y0 y1 y2 y3 y4 y5
  go_wp2_with fail
  go_ret
  exact ⟨rfl, HB.out.trans (z.below.mono HB.out.size)⟩
end Go.Proofs.YtkfkkihdlkhbnaaDoor.WReportWrites
