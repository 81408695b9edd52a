/- The law ReportBack: its walk. -/
import Derived.Test.YtkfkkihdlkhbnaaDoorRRead
import Derived.Test.YtkfkkihdlkhbnaaDoorWrites
namespace Go.Proofs.YtkfkkihdlkhbnaaDoor.WReportBack
open Go.RowKit Str

theorem hex_len2 (s : ByteArray) : (hex s.data.toList).length ≤ 2 * s.size + 1 ∧ s.size ≤ (hex s.data.toList).length := by
  have hl : s.data.toList.length = s.size := by simp
  unfold hex
  split
  · rename_i h
    rw [h] at hl
    simp at hl ⊢
    omega
  · rw [hexL_len]
    omega
theorem out_len (o : Ou) (ho : o.Ok) (hr : o.reply.size ≤ 200) : (outL o).length ≤ 1000 := by
  have l0 := itoa_len ho.k
  have l1 := itoa_len ho.s
  have l2 := itoa_len ho.l
  have l3 := itoa_len ho.d
  have l4 := itoa_len ho.r
  have l5 := itoa_len ho.n
  have l6 := itoa_len ho.w
  have hx := (hex_len2 o.reply).1
  unfold outL
  split
  · rw [psPacket, line_cons, line_cons, line_cons, line_one]
    simp [sPacket, sLeaf, sLost, sAt]
    omega
  split
  · rw [psSent, line_cons, line_cons, line_cons, line_cons, line_one]
    simp [sSent, sLeaf, sBy, sWake, sAt]
    omega
  split
  · rw [line_one]
    simp [sTime]
    omega
  split
  · rw [line_one]
    simp only [List.length_append, sReply, sAt, List.length_cons, List.length_nil]
    omega
  · rw [line_one]
    simp [sNone]
    omega
theorem readP_norm {l : List UInt8} {y : Ou} (h : readP l = some y) : norm y = y := by
  obtain ⟨rfl, ho⟩ := readP_some h
  rw [(read_out y ho).1] at h
  injection h
theorem readP_reply {l : List UInt8} {y : Ou} (h : readP l = some y) : y.reply.size ≤ l.length := by
  have hn := readP_norm h
  obtain ⟨rfl, ho⟩ := readP_some h
  have z : (⟨#[]⟩ : ByteArray).size = 0 := rfl
  by_cases h4 : y.kind = 4
  · have hx := (hex_len2 y.reply).2
    have hL : outL y = sReply ++ [32] ++ hex y.reply.data.toList ++ [32] ++ lineL [(sAt, y.now)] := by
      unfold outL
      rw [if_neg (by omega), if_neg (by omega), if_neg (by omega), if_pos h4]
    rw [hL]
    simp only [List.length_append]
    omega
  · have hr : (norm y).reply = ⟨#[]⟩ := by
      unfold norm
      repeat' split
      all_goals first | rfl | contradiction
    rw [hn] at hr
    rw [hr, z]
    omega

set_option maxRecDepth 100000 in
set_option maxHeartbeats 2000000 in
theorem law_off1 (o : Ou) (s : ByteArray) (w : World) (hT : Tabs w) (hr : 200 < o.reply.size) : Calls Tryd.prog 5 #[o.v, .string s] w fun e w' => e = .returned (.bool true) ∧ Below w.heap.size w w' := by
  have t1 : decide (200 < (o.reply.size : Int)) = true := by simp; omega
  have hb : Below w.heap.size w (w.alloc (.cells o.cs 23)) := (Below.refl _ _).alloc (Nat.le_refl _) _
  have C := Lib.hid (WReportWrites.lives _ (hT.below hb))
  have HB := Lib.hid hb
  clear hb hT hr
  go_enter Tryd.func5, Tryd.ntmps5
  go_wp2_with fail
  refine C.out.mono ?_
  rintro e w1 ⟨rfl, hb1⟩
  have HB1 := Lib.hid (HB.out.trans (hb1.mono HB.out.size))
  clear hb1
  go_wp2_with fail
  go_ret
  exact ⟨rfl, HB1.out⟩
set_option maxRecDepth 100000 in
set_option maxHeartbeats 2000000 in
theorem law_off2 (o : Ou) (s : ByteArray) (w : World) (hT : Tabs w) (hr : o.reply.size ≤ 200) (hs : 300 < s.size) : Calls Tryd.prog 5 #[o.v, .string s] w fun e w' => e = .returned (.bool true) ∧ Below w.heap.size w w' := by
  have t1 : decide (200 < (o.reply.size : Int)) = false := by simp; omega
  have t2 : decide (300 < (s.size : Int)) = true := by simp; omega
  have hb : Below w.heap.size w (w.alloc (.cells o.cs 23)) := (Below.refl _ _).alloc (Nat.le_refl _) _
  have C := Lib.hid (WReportWrites.lives _ (hT.below hb))
  have HB := Lib.hid hb
  clear hb hT hr hs
  go_enter Tryd.func5, Tryd.ntmps5
  go_wp2_with fail
  refine C.out.mono ?_
  rintro e w1 ⟨rfl, hb1⟩
  have HB1 := Lib.hid (HB.out.trans (hb1.mono HB.out.size))
  clear hb1
  go_wp2_with fail
  go_ret
  exact ⟨rfl, HB1.out⟩

set_option maxRecDepth 100000 in
set_option maxHeartbeats 4000000 in
theorem law_1_some (sq lf ld rs nw wk : Int) (rp s : ByteArray) (ho : ((⟨1, sq, lf, ld, rs, nw, wk, rp⟩ : Ou)).Ok) (hr : rp.size ≤ 200) (hs : s.size ≤ 300) (y : Ou) (hX : readP s.data.toList = some y) (w : World) (hT : RTabs w) :
    Calls Tryd.prog 5 #[(⟨1, sq, lf, ld, rs, nw, wk, rp⟩ : Ou).v, .string s] w fun e w' => e = .returned (.bool true) ∧ Below w.heap.size w w' := by
  have t1 : decide (200 < (rp.size : Int)) = false := by simp; omega
  have t2 : decide (300 < (s.size : Int)) = false := by simp; omega
  have hn : norm ⟨1, sq, lf, ld, rs, nw, wk, rp⟩ = ⟨1, sq, lf, 0, rs, nw, 0, ⟨#[]⟩⟩ := by simp [norm]
  have D7 := fun W h => pline_any ⟨1, sq, lf, ld, rs, nw, wk, rp⟩ ho (by show rp.size ≤ 4096; omega) W h
  have D13 := fun W h => read_any ⟨(outL ⟨1, sq, lf, ld, rs, nw, wk, rp⟩).toArray⟩ W (by show (outL ⟨1, sq, lf, ld, rs, nw, wk, rp⟩).toArray.size ≤ 1000; rw [List.size_toArray]; exact out_len _ ho hr) h
  simp only [List.toList_toArray] at D13
  rw [(read_out ⟨1, sq, lf, ld, rs, nw, wk, rp⟩ ho).1, hn] at D13
  simp only [readV, Option.getD_some, Option.isSome_some] at D13
  generalize outL ⟨1, sq, lf, ld, rs, nw, wk, rp⟩ = tx at D7 D13
  have D14 := fun W h => read_any s W (by omega) h
  rw [hX] at D14
  simp only [readV, Option.getD_some, Option.isSome_some] at D14
  have hyl : outL y = s.data.toList := (readP_some hX).1
  have hyo : y.Ok := (readP_some hX).2
  have hyr : y.reply.size ≤ 4096 := by
    have := readP_reply hX
    have hl : s.data.toList.length = s.size := by simp
    omega
  have D8 := fun W h => pline_any y hyo hyr W h
  have t3 := eq_list hyl
  generalize outL y = ty at D8 t3
  have H8 := Lib.hid D8
  clear hyl hyo hyr D8
  have H7 := Lib.hid D7
  have H13 := Lib.hid D13
  have H14 := Lib.hid D14
  have HT := Lib.hid hT
  have hb : Below w.heap.size w (w.alloc (.cells (⟨1, sq, lf, ld, rs, nw, wk, rp⟩ : Ou).cs 23)) := (Below.refl _ _).alloc (Nat.le_refl _) _
  have HB := Lib.hid hb
  have B0 : Blk (w.alloc (.cells (⟨1, sq, lf, ld, rs, nw, wk, rp⟩ : Ou).cs 23)) w.heap.size 23 (⟨1, sq, lf, ld, rs, nw, wk, rp⟩ : Ou).cs := Blk.new w 23 _
  have HB0 := Lib.hid B0
  clear hT hr hs hX ho hn D7 D13 D14 hb B0
  go_enter Tryd.func5, Tryd.ntmps5
  go_wp2_with fail
  refine (H7.out _ (HT.out.below HB.out).t).mono ?_
  rintro e w1 ⟨rfl, hb1⟩
  have HA := Lib.hid hb1
  clear hb1
  go_wp2_with fail
  refine (H13.out _ (HT.out.below (HB.out.trans (HA.out.mono HB.out.size)))).mono ?_
  rintro e w2 ⟨rfl, hb1⟩
  have HA := Lib.hid (HA.out.trans (hb1.mono HA.out.size))
  clear hb1
  have b2 : Blk w2 w.heap.size 23 (⟨1, sq, lf, ld, rs, nw, wk, rp⟩ : Ou).cs := HB0.out.kept (F := none_) (Kept.below HA.out rfl) (fun h => h)
  have HB2 := Lib.hid (HB.out.trans (HA.out.mono HB.out.size))
  obtain ⟨e0, e1, e2, e3, e4, e5, e6, e7⟩ := ou_cells b2
  dsimp only at e0 e1 e2 e3 e4 e5 e6 e7
  have lt := b2.lt
  clear b2 HA HB0 HB H7 H13
  go_wp2_with fail
  have HB3 : Hid (Below w.heap.size w (w2.alloc (.cells (⟨1, sq, lf, 0, rs, nw, 0, ⟨#[]⟩⟩ : Ou).cs 23))) := Lib.hid (HB2.out.trans (((Below.refl _ _).alloc (Nat.le_refl _) _).mono HB2.out.size))
  refine (H14.out _ (HT.out.below HB3.out)).mono ?_
  rintro e w3 ⟨rfl, hb1⟩
  have HB4 := Lib.hid (HB3.out.trans (hb1.mono HB3.out.size))
  clear hb1 e0 e1 e2 e3 e4 e5 e6 e7 lt HB3 HB2 H14
  have HB5 : Hid (Below w.heap.size w (w3.alloc (.cells y.cs 23))) := Lib.hid (HB4.out.trans (((Below.refl _ _).alloc (Nat.le_refl _) _).mono HB4.out.size))
  go_wp2_with fail
  refine (H8.out _ (HT.out.below HB5.out).t).mono ?_
  rintro e w4 ⟨rfl, hb1⟩
  have HB5 := Lib.hid (HB5.out.trans (hb1.mono HB5.out.size))
  clear hb1 H8
  go_wp2_with fail
  refine (WReportWrites.lives _ (HT.out.below HB5.out).t).mono ?_
  rintro e w5 ⟨rfl, hb1⟩
  have HB6 := Lib.hid (HB5.out.trans (hb1.mono HB5.out.size))
  clear hb1
  go_wp2_with fail
  go_ret
  exact ⟨rfl, HB6.out⟩

set_option maxRecDepth 100000 in
set_option maxHeartbeats 4000000 in
theorem law_1_none (sq lf ld rs nw wk : Int) (rp s : ByteArray) (ho : ((⟨1, sq, lf, ld, rs, nw, wk, rp⟩ : Ou)).Ok) (hr : rp.size ≤ 200) (hs : s.size ≤ 300) (hX : readP s.data.toList = none) (w : World) (hT : RTabs w) :
    Calls Tryd.prog 5 #[(⟨1, sq, lf, ld, rs, nw, wk, rp⟩ : Ou).v, .string s] w fun e w' => e = .returned (.bool true) ∧ Below w.heap.size w w' := by
  have t1 : decide (200 < (rp.size : Int)) = false := by simp; omega
  have t2 : decide (300 < (s.size : Int)) = false := by simp; omega
  have hn : norm ⟨1, sq, lf, ld, rs, nw, wk, rp⟩ = ⟨1, sq, lf, 0, rs, nw, 0, ⟨#[]⟩⟩ := by simp [norm]
  have D7 := fun W h => pline_any ⟨1, sq, lf, ld, rs, nw, wk, rp⟩ ho (by show rp.size ≤ 4096; omega) W h
  have D13 := fun W h => read_any ⟨(outL ⟨1, sq, lf, ld, rs, nw, wk, rp⟩).toArray⟩ W (by show (outL ⟨1, sq, lf, ld, rs, nw, wk, rp⟩).toArray.size ≤ 1000; rw [List.size_toArray]; exact out_len _ ho hr) h
  simp only [List.toList_toArray] at D13
  rw [(read_out ⟨1, sq, lf, ld, rs, nw, wk, rp⟩ ho).1, hn] at D13
  simp only [readV, Option.getD_some, Option.isSome_some] at D13
  generalize outL ⟨1, sq, lf, ld, rs, nw, wk, rp⟩ = tx at D7 D13
  have D14 := fun W h => read_any s W (by omega) h
  rw [hX] at D14
  simp only [readV, Option.getD_none, Option.isSome_none] at D14
  have H7 := Lib.hid D7
  have H13 := Lib.hid D13
  have H14 := Lib.hid D14
  have HT := Lib.hid hT
  have hb : Below w.heap.size w (w.alloc (.cells (⟨1, sq, lf, ld, rs, nw, wk, rp⟩ : Ou).cs 23)) := (Below.refl _ _).alloc (Nat.le_refl _) _
  have HB := Lib.hid hb
  have B0 : Blk (w.alloc (.cells (⟨1, sq, lf, ld, rs, nw, wk, rp⟩ : Ou).cs 23)) w.heap.size 23 (⟨1, sq, lf, ld, rs, nw, wk, rp⟩ : Ou).cs := Blk.new w 23 _
  have HB0 := Lib.hid B0
  clear hT hr hs hX ho hn D7 D13 D14 hb B0
  go_enter Tryd.func5, Tryd.ntmps5
  go_wp2_with fail
  refine (H7.out _ (HT.out.below HB.out).t).mono ?_
  rintro e w1 ⟨rfl, hb1⟩
  have HA := Lib.hid hb1
  clear hb1
  go_wp2_with fail
  refine (H13.out _ (HT.out.below (HB.out.trans (HA.out.mono HB.out.size)))).mono ?_
  rintro e w2 ⟨rfl, hb1⟩
  have HA := Lib.hid (HA.out.trans (hb1.mono HA.out.size))
  clear hb1
  have b2 : Blk w2 w.heap.size 23 (⟨1, sq, lf, ld, rs, nw, wk, rp⟩ : Ou).cs := HB0.out.kept (F := none_) (Kept.below HA.out rfl) (fun h => h)
  have HB2 := Lib.hid (HB.out.trans (HA.out.mono HB.out.size))
  obtain ⟨e0, e1, e2, e3, e4, e5, e6, e7⟩ := ou_cells b2
  dsimp only at e0 e1 e2 e3 e4 e5 e6 e7
  have lt := b2.lt
  clear b2 HA HB0 HB H7 H13
  go_wp2_with fail
  have HB3 : Hid (Below w.heap.size w (w2.alloc (.cells (⟨1, sq, lf, 0, rs, nw, 0, ⟨#[]⟩⟩ : Ou).cs 23))) := Lib.hid (HB2.out.trans (((Below.refl _ _).alloc (Nat.le_refl _) _).mono HB2.out.size))
  refine (H14.out _ (HT.out.below HB3.out)).mono ?_
  rintro e w3 ⟨rfl, hb1⟩
  have HB4 := Lib.hid (HB3.out.trans (hb1.mono HB3.out.size))
  clear hb1 e0 e1 e2 e3 e4 e5 e6 e7 lt HB3 HB2 H14
  have HB5 : Hid (Below w.heap.size w (w3.alloc (.cells Ou.zero.cs 23))) := Lib.hid (HB4.out.trans (((Below.refl _ _).alloc (Nat.le_refl _) _).mono HB4.out.size))
  go_wp2_with fail
  refine (WReportWrites.lives _ (HT.out.below HB5.out).t).mono ?_
  rintro e w5 ⟨rfl, hb1⟩
  have HB6 := Lib.hid (HB5.out.trans (hb1.mono HB5.out.size))
  clear hb1
  go_wp2_with fail
  go_ret
  exact ⟨rfl, HB6.out⟩

set_option maxRecDepth 100000 in
set_option maxHeartbeats 4000000 in
theorem law_2_some (sq lf ld rs nw wk : Int) (rp s : ByteArray) (ho : ((⟨2, sq, lf, ld, rs, nw, wk, rp⟩ : Ou)).Ok) (hr : rp.size ≤ 200) (hs : s.size ≤ 300) (y : Ou) (hX : readP s.data.toList = some y) (w : World) (hT : RTabs w) :
    Calls Tryd.prog 5 #[(⟨2, sq, lf, ld, rs, nw, wk, rp⟩ : Ou).v, .string s] w fun e w' => e = .returned (.bool true) ∧ Below w.heap.size w w' := by
  have t1 : decide (200 < (rp.size : Int)) = false := by simp; omega
  have t2 : decide (300 < (s.size : Int)) = false := by simp; omega
  have hn : norm ⟨2, sq, lf, ld, rs, nw, wk, rp⟩ = ⟨2, sq, lf, ld, 0, nw, wk, ⟨#[]⟩⟩ := by simp [norm]
  have D7 := fun W h => pline_any ⟨2, sq, lf, ld, rs, nw, wk, rp⟩ ho (by show rp.size ≤ 4096; omega) W h
  have D13 := fun W h => read_any ⟨(outL ⟨2, sq, lf, ld, rs, nw, wk, rp⟩).toArray⟩ W (by show (outL ⟨2, sq, lf, ld, rs, nw, wk, rp⟩).toArray.size ≤ 1000; rw [List.size_toArray]; exact out_len _ ho hr) h
  simp only [List.toList_toArray] at D13
  rw [(read_out ⟨2, sq, lf, ld, rs, nw, wk, rp⟩ ho).1, hn] at D13
  simp only [readV, Option.getD_some, Option.isSome_some] at D13
  generalize outL ⟨2, sq, lf, ld, rs, nw, wk, rp⟩ = tx at D7 D13
  have D14 := fun W h => read_any s W (by omega) h
  rw [hX] at D14
  simp only [readV, Option.getD_some, Option.isSome_some] at D14
  have hyl : outL y = s.data.toList := (readP_some hX).1
  have hyo : y.Ok := (readP_some hX).2
  have hyr : y.reply.size ≤ 4096 := by
    have := readP_reply hX
    have hl : s.data.toList.length = s.size := by simp
    omega
  have D8 := fun W h => pline_any y hyo hyr W h
  have t3 := eq_list hyl
  generalize outL y = ty at D8 t3
  have H8 := Lib.hid D8
  clear hyl hyo hyr D8
  have H7 := Lib.hid D7
  have H13 := Lib.hid D13
  have H14 := Lib.hid D14
  have HT := Lib.hid hT
  have hb : Below w.heap.size w (w.alloc (.cells (⟨2, sq, lf, ld, rs, nw, wk, rp⟩ : Ou).cs 23)) := (Below.refl _ _).alloc (Nat.le_refl _) _
  have HB := Lib.hid hb
  have B0 : Blk (w.alloc (.cells (⟨2, sq, lf, ld, rs, nw, wk, rp⟩ : Ou).cs 23)) w.heap.size 23 (⟨2, sq, lf, ld, rs, nw, wk, rp⟩ : Ou).cs := Blk.new w 23 _
  have HB0 := Lib.hid B0
  clear hT hr hs hX ho hn D7 D13 D14 hb B0
  go_enter Tryd.func5, Tryd.ntmps5
  go_wp2_with fail
  refine (H7.out _ (HT.out.below HB.out).t).mono ?_
  rintro e w1 ⟨rfl, hb1⟩
  have HA := Lib.hid hb1
  clear hb1
  go_wp2_with fail
  refine (H13.out _ (HT.out.below (HB.out.trans (HA.out.mono HB.out.size)))).mono ?_
  rintro e w2 ⟨rfl, hb1⟩
  have HA := Lib.hid (HA.out.trans (hb1.mono HA.out.size))
  clear hb1
  have b2 : Blk w2 w.heap.size 23 (⟨2, sq, lf, ld, rs, nw, wk, rp⟩ : Ou).cs := HB0.out.kept (F := none_) (Kept.below HA.out rfl) (fun h => h)
  have HB2 := Lib.hid (HB.out.trans (HA.out.mono HB.out.size))
  obtain ⟨e0, e1, e2, e3, e4, e5, e6, e7⟩ := ou_cells b2
  dsimp only at e0 e1 e2 e3 e4 e5 e6 e7
  have lt := b2.lt
  clear b2 HA HB0 HB H7 H13
  go_wp2_with fail
  have HB3 : Hid (Below w.heap.size w (w2.alloc (.cells (⟨2, sq, lf, ld, 0, nw, wk, ⟨#[]⟩⟩ : Ou).cs 23))) := Lib.hid (HB2.out.trans (((Below.refl _ _).alloc (Nat.le_refl _) _).mono HB2.out.size))
  refine (H14.out _ (HT.out.below HB3.out)).mono ?_
  rintro e w3 ⟨rfl, hb1⟩
  have HB4 := Lib.hid (HB3.out.trans (hb1.mono HB3.out.size))
  clear hb1 e0 e1 e2 e3 e4 e5 e6 e7 lt HB3 HB2 H14
  have HB5 : Hid (Below w.heap.size w (w3.alloc (.cells y.cs 23))) := Lib.hid (HB4.out.trans (((Below.refl _ _).alloc (Nat.le_refl _) _).mono HB4.out.size))
  go_wp2_with fail
  refine (H8.out _ (HT.out.below HB5.out).t).mono ?_
  rintro e w4 ⟨rfl, hb1⟩
  have HB5 := Lib.hid (HB5.out.trans (hb1.mono HB5.out.size))
  clear hb1 H8
  go_wp2_with fail
  refine (WReportWrites.lives _ (HT.out.below HB5.out).t).mono ?_
  rintro e w5 ⟨rfl, hb1⟩
  have HB6 := Lib.hid (HB5.out.trans (hb1.mono HB5.out.size))
  clear hb1
  go_wp2_with fail
  go_ret
  exact ⟨rfl, HB6.out⟩

set_option maxRecDepth 100000 in
set_option maxHeartbeats 4000000 in
theorem law_2_none (sq lf ld rs nw wk : Int) (rp s : ByteArray) (ho : ((⟨2, sq, lf, ld, rs, nw, wk, rp⟩ : Ou)).Ok) (hr : rp.size ≤ 200) (hs : s.size ≤ 300) (hX : readP s.data.toList = none) (w : World) (hT : RTabs w) :
    Calls Tryd.prog 5 #[(⟨2, sq, lf, ld, rs, nw, wk, rp⟩ : Ou).v, .string s] w fun e w' => e = .returned (.bool true) ∧ Below w.heap.size w w' := by
  have t1 : decide (200 < (rp.size : Int)) = false := by simp; omega
  have t2 : decide (300 < (s.size : Int)) = false := by simp; omega
  have hn : norm ⟨2, sq, lf, ld, rs, nw, wk, rp⟩ = ⟨2, sq, lf, ld, 0, nw, wk, ⟨#[]⟩⟩ := by simp [norm]
  have D7 := fun W h => pline_any ⟨2, sq, lf, ld, rs, nw, wk, rp⟩ ho (by show rp.size ≤ 4096; omega) W h
  have D13 := fun W h => read_any ⟨(outL ⟨2, sq, lf, ld, rs, nw, wk, rp⟩).toArray⟩ W (by show (outL ⟨2, sq, lf, ld, rs, nw, wk, rp⟩).toArray.size ≤ 1000; rw [List.size_toArray]; exact out_len _ ho hr) h
  simp only [List.toList_toArray] at D13
  rw [(read_out ⟨2, sq, lf, ld, rs, nw, wk, rp⟩ ho).1, hn] at D13
  simp only [readV, Option.getD_some, Option.isSome_some] at D13
  generalize outL ⟨2, sq, lf, ld, rs, nw, wk, rp⟩ = tx at D7 D13
  have D14 := fun W h => read_any s W (by omega) h
  rw [hX] at D14
  simp only [readV, Option.getD_none, Option.isSome_none] at D14
  have H7 := Lib.hid D7
  have H13 := Lib.hid D13
  have H14 := Lib.hid D14
  have HT := Lib.hid hT
  have hb : Below w.heap.size w (w.alloc (.cells (⟨2, sq, lf, ld, rs, nw, wk, rp⟩ : Ou).cs 23)) := (Below.refl _ _).alloc (Nat.le_refl _) _
  have HB := Lib.hid hb
  have B0 : Blk (w.alloc (.cells (⟨2, sq, lf, ld, rs, nw, wk, rp⟩ : Ou).cs 23)) w.heap.size 23 (⟨2, sq, lf, ld, rs, nw, wk, rp⟩ : Ou).cs := Blk.new w 23 _
  have HB0 := Lib.hid B0
  clear hT hr hs hX ho hn D7 D13 D14 hb B0
  go_enter Tryd.func5, Tryd.ntmps5
  go_wp2_with fail
  refine (H7.out _ (HT.out.below HB.out).t).mono ?_
  rintro e w1 ⟨rfl, hb1⟩
  have HA := Lib.hid hb1
  clear hb1
  go_wp2_with fail
  refine (H13.out _ (HT.out.below (HB.out.trans (HA.out.mono HB.out.size)))).mono ?_
  rintro e w2 ⟨rfl, hb1⟩
  have HA := Lib.hid (HA.out.trans (hb1.mono HA.out.size))
  clear hb1
  have b2 : Blk w2 w.heap.size 23 (⟨2, sq, lf, ld, rs, nw, wk, rp⟩ : Ou).cs := HB0.out.kept (F := none_) (Kept.below HA.out rfl) (fun h => h)
  have HB2 := Lib.hid (HB.out.trans (HA.out.mono HB.out.size))
  obtain ⟨e0, e1, e2, e3, e4, e5, e6, e7⟩ := ou_cells b2
  dsimp only at e0 e1 e2 e3 e4 e5 e6 e7
  have lt := b2.lt
  clear b2 HA HB0 HB H7 H13
  go_wp2_with fail
  have HB3 : Hid (Below w.heap.size w (w2.alloc (.cells (⟨2, sq, lf, ld, 0, nw, wk, ⟨#[]⟩⟩ : Ou).cs 23))) := Lib.hid (HB2.out.trans (((Below.refl _ _).alloc (Nat.le_refl _) _).mono HB2.out.size))
  refine (H14.out _ (HT.out.below HB3.out)).mono ?_
  rintro e w3 ⟨rfl, hb1⟩
  have HB4 := Lib.hid (HB3.out.trans (hb1.mono HB3.out.size))
  clear hb1 e0 e1 e2 e3 e4 e5 e6 e7 lt HB3 HB2 H14
  have HB5 : Hid (Below w.heap.size w (w3.alloc (.cells Ou.zero.cs 23))) := Lib.hid (HB4.out.trans (((Below.refl _ _).alloc (Nat.le_refl _) _).mono HB4.out.size))
  go_wp2_with fail
  refine (WReportWrites.lives _ (HT.out.below HB5.out).t).mono ?_
  rintro e w5 ⟨rfl, hb1⟩
  have HB6 := Lib.hid (HB5.out.trans (hb1.mono HB5.out.size))
  clear hb1
  go_wp2_with fail
  go_ret
  exact ⟨rfl, HB6.out⟩

set_option maxRecDepth 100000 in
set_option maxHeartbeats 4000000 in
theorem law_3_some (sq lf ld rs nw wk : Int) (rp s : ByteArray) (ho : ((⟨3, sq, lf, ld, rs, nw, wk, rp⟩ : Ou)).Ok) (hr : rp.size ≤ 200) (hs : s.size ≤ 300) (y : Ou) (hX : readP s.data.toList = some y) (w : World) (hT : RTabs w) :
    Calls Tryd.prog 5 #[(⟨3, sq, lf, ld, rs, nw, wk, rp⟩ : Ou).v, .string s] w fun e w' => e = .returned (.bool true) ∧ Below w.heap.size w w' := by
  have t1 : decide (200 < (rp.size : Int)) = false := by simp; omega
  have t2 : decide (300 < (s.size : Int)) = false := by simp; omega
  have hn : norm ⟨3, sq, lf, ld, rs, nw, wk, rp⟩ = ⟨3, 0, 0, 0, 0, nw, 0, ⟨#[]⟩⟩ := by simp [norm]
  have D7 := fun W h => pline_any ⟨3, sq, lf, ld, rs, nw, wk, rp⟩ ho (by show rp.size ≤ 4096; omega) W h
  have D13 := fun W h => read_any ⟨(outL ⟨3, sq, lf, ld, rs, nw, wk, rp⟩).toArray⟩ W (by show (outL ⟨3, sq, lf, ld, rs, nw, wk, rp⟩).toArray.size ≤ 1000; rw [List.size_toArray]; exact out_len _ ho hr) h
  simp only [List.toList_toArray] at D13
  rw [(read_out ⟨3, sq, lf, ld, rs, nw, wk, rp⟩ ho).1, hn] at D13
  simp only [readV, Option.getD_some, Option.isSome_some] at D13
  generalize outL ⟨3, sq, lf, ld, rs, nw, wk, rp⟩ = tx at D7 D13
  have D14 := fun W h => read_any s W (by omega) h
  rw [hX] at D14
  simp only [readV, Option.getD_some, Option.isSome_some] at D14
  have hyl : outL y = s.data.toList := (readP_some hX).1
  have hyo : y.Ok := (readP_some hX).2
  have hyr : y.reply.size ≤ 4096 := by
    have := readP_reply hX
    have hl : s.data.toList.length = s.size := by simp
    omega
  have D8 := fun W h => pline_any y hyo hyr W h
  have t3 := eq_list hyl
  generalize outL y = ty at D8 t3
  have H8 := Lib.hid D8
  clear hyl hyo hyr D8
  have H7 := Lib.hid D7
  have H13 := Lib.hid D13
  have H14 := Lib.hid D14
  have HT := Lib.hid hT
  have hb : Below w.heap.size w (w.alloc (.cells (⟨3, sq, lf, ld, rs, nw, wk, rp⟩ : Ou).cs 23)) := (Below.refl _ _).alloc (Nat.le_refl _) _
  have HB := Lib.hid hb
  have B0 : Blk (w.alloc (.cells (⟨3, sq, lf, ld, rs, nw, wk, rp⟩ : Ou).cs 23)) w.heap.size 23 (⟨3, sq, lf, ld, rs, nw, wk, rp⟩ : Ou).cs := Blk.new w 23 _
  have HB0 := Lib.hid B0
  clear hT hr hs hX ho hn D7 D13 D14 hb B0
  go_enter Tryd.func5, Tryd.ntmps5
  go_wp2_with fail
  refine (H7.out _ (HT.out.below HB.out).t).mono ?_
  rintro e w1 ⟨rfl, hb1⟩
  have HA := Lib.hid hb1
  clear hb1
  go_wp2_with fail
  refine (H13.out _ (HT.out.below (HB.out.trans (HA.out.mono HB.out.size)))).mono ?_
  rintro e w2 ⟨rfl, hb1⟩
  have HA := Lib.hid (HA.out.trans (hb1.mono HA.out.size))
  clear hb1
  have b2 : Blk w2 w.heap.size 23 (⟨3, sq, lf, ld, rs, nw, wk, rp⟩ : Ou).cs := HB0.out.kept (F := none_) (Kept.below HA.out rfl) (fun h => h)
  have HB2 := Lib.hid (HB.out.trans (HA.out.mono HB.out.size))
  obtain ⟨e0, e1, e2, e3, e4, e5, e6, e7⟩ := ou_cells b2
  dsimp only at e0 e1 e2 e3 e4 e5 e6 e7
  have lt := b2.lt
  clear b2 HA HB0 HB H7 H13
  go_wp2_with fail
  have HB3 : Hid (Below w.heap.size w (w2.alloc (.cells (⟨3, 0, 0, 0, 0, nw, 0, ⟨#[]⟩⟩ : Ou).cs 23))) := Lib.hid (HB2.out.trans (((Below.refl _ _).alloc (Nat.le_refl _) _).mono HB2.out.size))
  refine (H14.out _ (HT.out.below HB3.out)).mono ?_
  rintro e w3 ⟨rfl, hb1⟩
  have HB4 := Lib.hid (HB3.out.trans (hb1.mono HB3.out.size))
  clear hb1 e0 e1 e2 e3 e4 e5 e6 e7 lt HB3 HB2 H14
  have HB5 : Hid (Below w.heap.size w (w3.alloc (.cells y.cs 23))) := Lib.hid (HB4.out.trans (((Below.refl _ _).alloc (Nat.le_refl _) _).mono HB4.out.size))
  go_wp2_with fail
  refine (H8.out _ (HT.out.below HB5.out).t).mono ?_
  rintro e w4 ⟨rfl, hb1⟩
  have HB5 := Lib.hid (HB5.out.trans (hb1.mono HB5.out.size))
  clear hb1 H8
  go_wp2_with fail
  refine (WReportWrites.lives _ (HT.out.below HB5.out).t).mono ?_
  rintro e w5 ⟨rfl, hb1⟩
  have HB6 := Lib.hid (HB5.out.trans (hb1.mono HB5.out.size))
  clear hb1
  go_wp2_with fail
  go_ret
  exact ⟨rfl, HB6.out⟩

set_option maxRecDepth 100000 in
set_option maxHeartbeats 4000000 in
theorem law_3_none (sq lf ld rs nw wk : Int) (rp s : ByteArray) (ho : ((⟨3, sq, lf, ld, rs, nw, wk, rp⟩ : Ou)).Ok) (hr : rp.size ≤ 200) (hs : s.size ≤ 300) (hX : readP s.data.toList = none) (w : World) (hT : RTabs w) :
    Calls Tryd.prog 5 #[(⟨3, sq, lf, ld, rs, nw, wk, rp⟩ : Ou).v, .string s] w fun e w' => e = .returned (.bool true) ∧ Below w.heap.size w w' := by
  have t1 : decide (200 < (rp.size : Int)) = false := by simp; omega
  have t2 : decide (300 < (s.size : Int)) = false := by simp; omega
  have hn : norm ⟨3, sq, lf, ld, rs, nw, wk, rp⟩ = ⟨3, 0, 0, 0, 0, nw, 0, ⟨#[]⟩⟩ := by simp [norm]
  have D7 := fun W h => pline_any ⟨3, sq, lf, ld, rs, nw, wk, rp⟩ ho (by show rp.size ≤ 4096; omega) W h
  have D13 := fun W h => read_any ⟨(outL ⟨3, sq, lf, ld, rs, nw, wk, rp⟩).toArray⟩ W (by show (outL ⟨3, sq, lf, ld, rs, nw, wk, rp⟩).toArray.size ≤ 1000; rw [List.size_toArray]; exact out_len _ ho hr) h
  simp only [List.toList_toArray] at D13
  rw [(read_out ⟨3, sq, lf, ld, rs, nw, wk, rp⟩ ho).1, hn] at D13
  simp only [readV, Option.getD_some, Option.isSome_some] at D13
  generalize outL ⟨3, sq, lf, ld, rs, nw, wk, rp⟩ = tx at D7 D13
  have D14 := fun W h => read_any s W (by omega) h
  rw [hX] at D14
  simp only [readV, Option.getD_none, Option.isSome_none] at D14
  have H7 := Lib.hid D7
  have H13 := Lib.hid D13
  have H14 := Lib.hid D14
  have HT := Lib.hid hT
  have hb : Below w.heap.size w (w.alloc (.cells (⟨3, sq, lf, ld, rs, nw, wk, rp⟩ : Ou).cs 23)) := (Below.refl _ _).alloc (Nat.le_refl _) _
  have HB := Lib.hid hb
  have B0 : Blk (w.alloc (.cells (⟨3, sq, lf, ld, rs, nw, wk, rp⟩ : Ou).cs 23)) w.heap.size 23 (⟨3, sq, lf, ld, rs, nw, wk, rp⟩ : Ou).cs := Blk.new w 23 _
  have HB0 := Lib.hid B0
  clear hT hr hs hX ho hn D7 D13 D14 hb B0
  go_enter Tryd.func5, Tryd.ntmps5
  go_wp2_with fail
  refine (H7.out _ (HT.out.below HB.out).t).mono ?_
  rintro e w1 ⟨rfl, hb1⟩
  have HA := Lib.hid hb1
  clear hb1
  go_wp2_with fail
  refine (H13.out _ (HT.out.below (HB.out.trans (HA.out.mono HB.out.size)))).mono ?_
  rintro e w2 ⟨rfl, hb1⟩
  have HA := Lib.hid (HA.out.trans (hb1.mono HA.out.size))
  clear hb1
  have b2 : Blk w2 w.heap.size 23 (⟨3, sq, lf, ld, rs, nw, wk, rp⟩ : Ou).cs := HB0.out.kept (F := none_) (Kept.below HA.out rfl) (fun h => h)
  have HB2 := Lib.hid (HB.out.trans (HA.out.mono HB.out.size))
  obtain ⟨e0, e1, e2, e3, e4, e5, e6, e7⟩ := ou_cells b2
  dsimp only at e0 e1 e2 e3 e4 e5 e6 e7
  have lt := b2.lt
  clear b2 HA HB0 HB H7 H13
  go_wp2_with fail
  have HB3 : Hid (Below w.heap.size w (w2.alloc (.cells (⟨3, 0, 0, 0, 0, nw, 0, ⟨#[]⟩⟩ : Ou).cs 23))) := Lib.hid (HB2.out.trans (((Below.refl _ _).alloc (Nat.le_refl _) _).mono HB2.out.size))
  refine (H14.out _ (HT.out.below HB3.out)).mono ?_
  rintro e w3 ⟨rfl, hb1⟩
  have HB4 := Lib.hid (HB3.out.trans (hb1.mono HB3.out.size))
  clear hb1 e0 e1 e2 e3 e4 e5 e6 e7 lt HB3 HB2 H14
  have HB5 : Hid (Below w.heap.size w (w3.alloc (.cells Ou.zero.cs 23))) := Lib.hid (HB4.out.trans (((Below.refl _ _).alloc (Nat.le_refl _) _).mono HB4.out.size))
  go_wp2_with fail
  refine (WReportWrites.lives _ (HT.out.below HB5.out).t).mono ?_
  rintro e w5 ⟨rfl, hb1⟩
  have HB6 := Lib.hid (HB5.out.trans (hb1.mono HB5.out.size))
  clear hb1
  go_wp2_with fail
  go_ret
  exact ⟨rfl, HB6.out⟩

set_option maxRecDepth 100000 in
set_option maxHeartbeats 4000000 in
theorem law_4_some (sq lf ld rs nw wk : Int) (rp s : ByteArray) (ho : ((⟨4, sq, lf, ld, rs, nw, wk, rp⟩ : Ou)).Ok) (hr : rp.size ≤ 200) (hs : s.size ≤ 300) (y : Ou) (hX : readP s.data.toList = some y) (w : World) (hT : RTabs w) :
    Calls Tryd.prog 5 #[(⟨4, sq, lf, ld, rs, nw, wk, rp⟩ : Ou).v, .string s] w fun e w' => e = .returned (.bool true) ∧ Below w.heap.size w w' := by
  have t1 : decide (200 < (rp.size : Int)) = false := by simp; omega
  have t2 : decide (300 < (s.size : Int)) = false := by simp; omega
  have hn : norm ⟨4, sq, lf, ld, rs, nw, wk, rp⟩ = ⟨4, 0, 0, 0, 0, nw, 0, rp⟩ := by simp [norm]
  have D7 := fun W h => pline_any ⟨4, sq, lf, ld, rs, nw, wk, rp⟩ ho (by show rp.size ≤ 4096; omega) W h
  have D13 := fun W h => read_any ⟨(outL ⟨4, sq, lf, ld, rs, nw, wk, rp⟩).toArray⟩ W (by show (outL ⟨4, sq, lf, ld, rs, nw, wk, rp⟩).toArray.size ≤ 1000; rw [List.size_toArray]; exact out_len _ ho hr) h
  simp only [List.toList_toArray] at D13
  rw [(read_out ⟨4, sq, lf, ld, rs, nw, wk, rp⟩ ho).1, hn] at D13
  simp only [readV, Option.getD_some, Option.isSome_some] at D13
  generalize outL ⟨4, sq, lf, ld, rs, nw, wk, rp⟩ = tx at D7 D13
  have D14 := fun W h => read_any s W (by omega) h
  rw [hX] at D14
  simp only [readV, Option.getD_some, Option.isSome_some] at D14
  have hyl : outL y = s.data.toList := (readP_some hX).1
  have hyo : y.Ok := (readP_some hX).2
  have hyr : y.reply.size ≤ 4096 := by
    have := readP_reply hX
    have hl : s.data.toList.length = s.size := by simp
    omega
  have D8 := fun W h => pline_any y hyo hyr W h
  have t3 := eq_list hyl
  generalize outL y = ty at D8 t3
  have H8 := Lib.hid D8
  clear hyl hyo hyr D8
  have H7 := Lib.hid D7
  have H13 := Lib.hid D13
  have H14 := Lib.hid D14
  have HT := Lib.hid hT
  have hb : Below w.heap.size w (w.alloc (.cells (⟨4, sq, lf, ld, rs, nw, wk, rp⟩ : Ou).cs 23)) := (Below.refl _ _).alloc (Nat.le_refl _) _
  have HB := Lib.hid hb
  have B0 : Blk (w.alloc (.cells (⟨4, sq, lf, ld, rs, nw, wk, rp⟩ : Ou).cs 23)) w.heap.size 23 (⟨4, sq, lf, ld, rs, nw, wk, rp⟩ : Ou).cs := Blk.new w 23 _
  have HB0 := Lib.hid B0
  clear hT hr hs hX ho hn D7 D13 D14 hb B0
  go_enter Tryd.func5, Tryd.ntmps5
  go_wp2_with fail
  refine (H7.out _ (HT.out.below HB.out).t).mono ?_
  rintro e w1 ⟨rfl, hb1⟩
  have HA := Lib.hid hb1
  clear hb1
  go_wp2_with fail
  refine (H13.out _ (HT.out.below (HB.out.trans (HA.out.mono HB.out.size)))).mono ?_
  rintro e w2 ⟨rfl, hb1⟩
  have HA := Lib.hid (HA.out.trans (hb1.mono HA.out.size))
  clear hb1
  have b2 : Blk w2 w.heap.size 23 (⟨4, sq, lf, ld, rs, nw, wk, rp⟩ : Ou).cs := HB0.out.kept (F := none_) (Kept.below HA.out rfl) (fun h => h)
  have HB2 := Lib.hid (HB.out.trans (HA.out.mono HB.out.size))
  obtain ⟨e0, e1, e2, e3, e4, e5, e6, e7⟩ := ou_cells b2
  dsimp only at e0 e1 e2 e3 e4 e5 e6 e7
  have lt := b2.lt
  clear b2 HA HB0 HB H7 H13
  go_wp2_with fail
  have HB3 : Hid (Below w.heap.size w (w2.alloc (.cells (⟨4, 0, 0, 0, 0, nw, 0, rp⟩ : Ou).cs 23))) := Lib.hid (HB2.out.trans (((Below.refl _ _).alloc (Nat.le_refl _) _).mono HB2.out.size))
  refine (H14.out _ (HT.out.below HB3.out)).mono ?_
  rintro e w3 ⟨rfl, hb1⟩
  have HB4 := Lib.hid (HB3.out.trans (hb1.mono HB3.out.size))
  clear hb1 e0 e1 e2 e3 e4 e5 e6 e7 lt HB3 HB2 H14
  have HB5 : Hid (Below w.heap.size w (w3.alloc (.cells y.cs 23))) := Lib.hid (HB4.out.trans (((Below.refl _ _).alloc (Nat.le_refl _) _).mono HB4.out.size))
  go_wp2_with fail
  refine (H8.out _ (HT.out.below HB5.out).t).mono ?_
  rintro e w4 ⟨rfl, hb1⟩
  have HB5 := Lib.hid (HB5.out.trans (hb1.mono HB5.out.size))
  clear hb1 H8
  go_wp2_with fail
  refine (WReportWrites.lives _ (HT.out.below HB5.out).t).mono ?_
  rintro e w5 ⟨rfl, hb1⟩
  have HB6 := Lib.hid (HB5.out.trans (hb1.mono HB5.out.size))
  clear hb1
  go_wp2_with fail
  go_ret
  exact ⟨rfl, HB6.out⟩

set_option maxRecDepth 100000 in
set_option maxHeartbeats 4000000 in
theorem law_4_none (sq lf ld rs nw wk : Int) (rp s : ByteArray) (ho : ((⟨4, sq, lf, ld, rs, nw, wk, rp⟩ : Ou)).Ok) (hr : rp.size ≤ 200) (hs : s.size ≤ 300) (hX : readP s.data.toList = none) (w : World) (hT : RTabs w) :
    Calls Tryd.prog 5 #[(⟨4, sq, lf, ld, rs, nw, wk, rp⟩ : Ou).v, .string s] w fun e w' => e = .returned (.bool true) ∧ Below w.heap.size w w' := by
  have t1 : decide (200 < (rp.size : Int)) = false := by simp; omega
  have t2 : decide (300 < (s.size : Int)) = false := by simp; omega
  have hn : norm ⟨4, sq, lf, ld, rs, nw, wk, rp⟩ = ⟨4, 0, 0, 0, 0, nw, 0, rp⟩ := by simp [norm]
  have D7 := fun W h => pline_any ⟨4, sq, lf, ld, rs, nw, wk, rp⟩ ho (by show rp.size ≤ 4096; omega) W h
  have D13 := fun W h => read_any ⟨(outL ⟨4, sq, lf, ld, rs, nw, wk, rp⟩).toArray⟩ W (by show (outL ⟨4, sq, lf, ld, rs, nw, wk, rp⟩).toArray.size ≤ 1000; rw [List.size_toArray]; exact out_len _ ho hr) h
  simp only [List.toList_toArray] at D13
  rw [(read_out ⟨4, sq, lf, ld, rs, nw, wk, rp⟩ ho).1, hn] at D13
  simp only [readV, Option.getD_some, Option.isSome_some] at D13
  generalize outL ⟨4, sq, lf, ld, rs, nw, wk, rp⟩ = tx at D7 D13
  have D14 := fun W h => read_any s W (by omega) h
  rw [hX] at D14
  simp only [readV, Option.getD_none, Option.isSome_none] at D14
  have H7 := Lib.hid D7
  have H13 := Lib.hid D13
  have H14 := Lib.hid D14
  have HT := Lib.hid hT
  have hb : Below w.heap.size w (w.alloc (.cells (⟨4, sq, lf, ld, rs, nw, wk, rp⟩ : Ou).cs 23)) := (Below.refl _ _).alloc (Nat.le_refl _) _
  have HB := Lib.hid hb
  have B0 : Blk (w.alloc (.cells (⟨4, sq, lf, ld, rs, nw, wk, rp⟩ : Ou).cs 23)) w.heap.size 23 (⟨4, sq, lf, ld, rs, nw, wk, rp⟩ : Ou).cs := Blk.new w 23 _
  have HB0 := Lib.hid B0
  clear hT hr hs hX ho hn D7 D13 D14 hb B0
  go_enter Tryd.func5, Tryd.ntmps5
  go_wp2_with fail
  refine (H7.out _ (HT.out.below HB.out).t).mono ?_
  rintro e w1 ⟨rfl, hb1⟩
  have HA := Lib.hid hb1
  clear hb1
  go_wp2_with fail
  refine (H13.out _ (HT.out.below (HB.out.trans (HA.out.mono HB.out.size)))).mono ?_
  rintro e w2 ⟨rfl, hb1⟩
  have HA := Lib.hid (HA.out.trans (hb1.mono HA.out.size))
  clear hb1
  have b2 : Blk w2 w.heap.size 23 (⟨4, sq, lf, ld, rs, nw, wk, rp⟩ : Ou).cs := HB0.out.kept (F := none_) (Kept.below HA.out rfl) (fun h => h)
  have HB2 := Lib.hid (HB.out.trans (HA.out.mono HB.out.size))
  obtain ⟨e0, e1, e2, e3, e4, e5, e6, e7⟩ := ou_cells b2
  dsimp only at e0 e1 e2 e3 e4 e5 e6 e7
  have lt := b2.lt
  clear b2 HA HB0 HB H7 H13
  go_wp2_with fail
  have HB3 : Hid (Below w.heap.size w (w2.alloc (.cells (⟨4, 0, 0, 0, 0, nw, 0, rp⟩ : Ou).cs 23))) := Lib.hid (HB2.out.trans (((Below.refl _ _).alloc (Nat.le_refl _) _).mono HB2.out.size))
  refine (H14.out _ (HT.out.below HB3.out)).mono ?_
  rintro e w3 ⟨rfl, hb1⟩
  have HB4 := Lib.hid (HB3.out.trans (hb1.mono HB3.out.size))
  clear hb1 e0 e1 e2 e3 e4 e5 e6 e7 lt HB3 HB2 H14
  have HB5 : Hid (Below w.heap.size w (w3.alloc (.cells Ou.zero.cs 23))) := Lib.hid (HB4.out.trans (((Below.refl _ _).alloc (Nat.le_refl _) _).mono HB4.out.size))
  go_wp2_with fail
  refine (WReportWrites.lives _ (HT.out.below HB5.out).t).mono ?_
  rintro e w5 ⟨rfl, hb1⟩
  have HB6 := Lib.hid (HB5.out.trans (hb1.mono HB5.out.size))
  clear hb1
  go_wp2_with fail
  go_ret
  exact ⟨rfl, HB6.out⟩

set_option maxRecDepth 100000 in
set_option maxHeartbeats 4000000 in
theorem law_0_some (k sq lf ld rs nw wk : Int) (rp s : ByteArray) (h1 : k ≠ 1) (h2 : k ≠ 2) (h3 : k ≠ 3) (h4 : k ≠ 4) (ho : ((⟨k, sq, lf, ld, rs, nw, wk, rp⟩ : Ou)).Ok) (hr : rp.size ≤ 200) (hs : s.size ≤ 300) (y : Ou) (hX : readP s.data.toList = some y) (w : World) (hT : RTabs w) :
    Calls Tryd.prog 5 #[(⟨k, sq, lf, ld, rs, nw, wk, rp⟩ : Ou).v, .string s] w fun e w' => e = .returned (.bool true) ∧ Below w.heap.size w w' := by
  have t1 : decide (200 < (rp.size : Int)) = false := by simp; omega
  have t2 : decide (300 < (s.size : Int)) = false := by simp; omega
  have n1 : (k == 1) = false := by simpa using h1
  have n2 : (k == 2) = false := by simpa using h2
  have n3 : (k == 3) = false := by simpa using h3
  have n4 : (k == 4) = false := by simpa using h4
  have hn : norm ⟨k, sq, lf, ld, rs, nw, wk, rp⟩ = ⟨k, 0, 0, 0, 0, 0, 0, ⟨#[]⟩⟩ := by unfold norm; rw [if_neg h1, if_neg h2, if_neg h3, if_neg h4]
  have D7 := fun W h => pline_any ⟨k, sq, lf, ld, rs, nw, wk, rp⟩ ho (by show rp.size ≤ 4096; omega) W h
  have D13 := fun W h => read_any ⟨(outL ⟨k, sq, lf, ld, rs, nw, wk, rp⟩).toArray⟩ W (by show (outL ⟨k, sq, lf, ld, rs, nw, wk, rp⟩).toArray.size ≤ 1000; rw [List.size_toArray]; exact out_len _ ho hr) h
  simp only [List.toList_toArray] at D13
  rw [(read_out ⟨k, sq, lf, ld, rs, nw, wk, rp⟩ ho).1, hn] at D13
  simp only [readV, Option.getD_some, Option.isSome_some] at D13
  generalize outL ⟨k, sq, lf, ld, rs, nw, wk, rp⟩ = tx at D7 D13
  have D14 := fun W h => read_any s W (by omega) h
  rw [hX] at D14
  simp only [readV, Option.getD_some, Option.isSome_some] at D14
  have hyl : outL y = s.data.toList := (readP_some hX).1
  have hyo : y.Ok := (readP_some hX).2
  have hyr : y.reply.size ≤ 4096 := by
    have := readP_reply hX
    have hl : s.data.toList.length = s.size := by simp
    omega
  have D8 := fun W h => pline_any y hyo hyr W h
  have t3 := eq_list hyl
  generalize outL y = ty at D8 t3
  have H8 := Lib.hid D8
  clear hyl hyo hyr D8
  have H7 := Lib.hid D7
  have H13 := Lib.hid D13
  have H14 := Lib.hid D14
  have HT := Lib.hid hT
  have hb : Below w.heap.size w (w.alloc (.cells (⟨k, sq, lf, ld, rs, nw, wk, rp⟩ : Ou).cs 23)) := (Below.refl _ _).alloc (Nat.le_refl _) _
  have HB := Lib.hid hb
  have B0 : Blk (w.alloc (.cells (⟨k, sq, lf, ld, rs, nw, wk, rp⟩ : Ou).cs 23)) w.heap.size 23 (⟨k, sq, lf, ld, rs, nw, wk, rp⟩ : Ou).cs := Blk.new w 23 _
  have HB0 := Lib.hid B0
  clear hT hr hs hX ho hn D7 D13 D14 hb B0 h1 h2 h3 h4
  go_enter Tryd.func5, Tryd.ntmps5
  go_wp2_with fail
  refine (H7.out _ (HT.out.below HB.out).t).mono ?_
  rintro e w1 ⟨rfl, hb1⟩
  have HA := Lib.hid hb1
  clear hb1
  go_wp2_with fail
  refine (H13.out _ (HT.out.below (HB.out.trans (HA.out.mono HB.out.size)))).mono ?_
  rintro e w2 ⟨rfl, hb1⟩
  have HA := Lib.hid (HA.out.trans (hb1.mono HA.out.size))
  clear hb1
  have b2 : Blk w2 w.heap.size 23 (⟨k, sq, lf, ld, rs, nw, wk, rp⟩ : Ou).cs := HB0.out.kept (F := none_) (Kept.below HA.out rfl) (fun h => h)
  have HB2 := Lib.hid (HB.out.trans (HA.out.mono HB.out.size))
  obtain ⟨e0, e1, e2, e3, e4, e5, e6, e7⟩ := ou_cells b2
  dsimp only at e0 e1 e2 e3 e4 e5 e6 e7
  have lt := b2.lt
  clear b2 HA HB0 HB H7 H13
  go_wp2_with fail
  have HB3 : Hid (Below w.heap.size w (w2.alloc (.cells (⟨k, 0, 0, 0, 0, 0, 0, ⟨#[]⟩⟩ : Ou).cs 23))) := Lib.hid (HB2.out.trans (((Below.refl _ _).alloc (Nat.le_refl _) _).mono HB2.out.size))
  refine (H14.out _ (HT.out.below HB3.out)).mono ?_
  rintro e w3 ⟨rfl, hb1⟩
  have HB4 := Lib.hid (HB3.out.trans (hb1.mono HB3.out.size))
  clear hb1 e0 e1 e2 e3 e4 e5 e6 e7 lt HB3 HB2 H14
  have HB5 : Hid (Below w.heap.size w (w3.alloc (.cells y.cs 23))) := Lib.hid (HB4.out.trans (((Below.refl _ _).alloc (Nat.le_refl _) _).mono HB4.out.size))
  go_wp2_with fail
  refine (H8.out _ (HT.out.below HB5.out).t).mono ?_
  rintro e w4 ⟨rfl, hb1⟩
  have HB5 := Lib.hid (HB5.out.trans (hb1.mono HB5.out.size))
  clear hb1 H8
  go_wp2_with fail
  refine (WReportWrites.lives _ (HT.out.below HB5.out).t).mono ?_
  rintro e w5 ⟨rfl, hb1⟩
  have HB6 := Lib.hid (HB5.out.trans (hb1.mono HB5.out.size))
  clear hb1
  go_wp2_with fail
  go_ret
  exact ⟨rfl, HB6.out⟩

set_option maxRecDepth 100000 in
set_option maxHeartbeats 4000000 in
theorem law_0_none (k sq lf ld rs nw wk : Int) (rp s : ByteArray) (h1 : k ≠ 1) (h2 : k ≠ 2) (h3 : k ≠ 3) (h4 : k ≠ 4) (ho : ((⟨k, sq, lf, ld, rs, nw, wk, rp⟩ : Ou)).Ok) (hr : rp.size ≤ 200) (hs : s.size ≤ 300) (hX : readP s.data.toList = none) (w : World) (hT : RTabs w) :
    Calls Tryd.prog 5 #[(⟨k, sq, lf, ld, rs, nw, wk, rp⟩ : Ou).v, .string s] w fun e w' => e = .returned (.bool true) ∧ Below w.heap.size w w' := by
  have t1 : decide (200 < (rp.size : Int)) = false := by simp; omega
  have t2 : decide (300 < (s.size : Int)) = false := by simp; omega
  have n1 : (k == 1) = false := by simpa using h1
  have n2 : (k == 2) = false := by simpa using h2
  have n3 : (k == 3) = false := by simpa using h3
  have n4 : (k == 4) = false := by simpa using h4
  have hn : norm ⟨k, sq, lf, ld, rs, nw, wk, rp⟩ = ⟨k, 0, 0, 0, 0, 0, 0, ⟨#[]⟩⟩ := by unfold norm; rw [if_neg h1, if_neg h2, if_neg h3, if_neg h4]
  have D7 := fun W h => pline_any ⟨k, sq, lf, ld, rs, nw, wk, rp⟩ ho (by show rp.size ≤ 4096; omega) W h
  have D13 := fun W h => read_any ⟨(outL ⟨k, sq, lf, ld, rs, nw, wk, rp⟩).toArray⟩ W (by show (outL ⟨k, sq, lf, ld, rs, nw, wk, rp⟩).toArray.size ≤ 1000; rw [List.size_toArray]; exact out_len _ ho hr) h
  simp only [List.toList_toArray] at D13
  rw [(read_out ⟨k, sq, lf, ld, rs, nw, wk, rp⟩ ho).1, hn] at D13
  simp only [readV, Option.getD_some, Option.isSome_some] at D13
  generalize outL ⟨k, sq, lf, ld, rs, nw, wk, rp⟩ = tx at D7 D13
  have D14 := fun W h => read_any s W (by omega) h
  rw [hX] at D14
  simp only [readV, Option.getD_none, Option.isSome_none] at D14
  have H7 := Lib.hid D7
  have H13 := Lib.hid D13
  have H14 := Lib.hid D14
  have HT := Lib.hid hT
  have hb : Below w.heap.size w (w.alloc (.cells (⟨k, sq, lf, ld, rs, nw, wk, rp⟩ : Ou).cs 23)) := (Below.refl _ _).alloc (Nat.le_refl _) _
  have HB := Lib.hid hb
  have B0 : Blk (w.alloc (.cells (⟨k, sq, lf, ld, rs, nw, wk, rp⟩ : Ou).cs 23)) w.heap.size 23 (⟨k, sq, lf, ld, rs, nw, wk, rp⟩ : Ou).cs := Blk.new w 23 _
  have HB0 := Lib.hid B0
  clear hT hr hs hX ho hn D7 D13 D14 hb B0 h1 h2 h3 h4
  go_enter Tryd.func5, Tryd.ntmps5
  go_wp2_with fail
  refine (H7.out _ (HT.out.below HB.out).t).mono ?_
  rintro e w1 ⟨rfl, hb1⟩
  have HA := Lib.hid hb1
  clear hb1
  go_wp2_with fail
  refine (H13.out _ (HT.out.below (HB.out.trans (HA.out.mono HB.out.size)))).mono ?_
  rintro e w2 ⟨rfl, hb1⟩
  have HA := Lib.hid (HA.out.trans (hb1.mono HA.out.size))
  clear hb1
  have b2 : Blk w2 w.heap.size 23 (⟨k, sq, lf, ld, rs, nw, wk, rp⟩ : Ou).cs := HB0.out.kept (F := none_) (Kept.below HA.out rfl) (fun h => h)
  have HB2 := Lib.hid (HB.out.trans (HA.out.mono HB.out.size))
  obtain ⟨e0, e1, e2, e3, e4, e5, e6, e7⟩ := ou_cells b2
  dsimp only at e0 e1 e2 e3 e4 e5 e6 e7
  have lt := b2.lt
  clear b2 HA HB0 HB H7 H13
  go_wp2_with fail
  have HB3 : Hid (Below w.heap.size w (w2.alloc (.cells (⟨k, 0, 0, 0, 0, 0, 0, ⟨#[]⟩⟩ : Ou).cs 23))) := Lib.hid (HB2.out.trans (((Below.refl _ _).alloc (Nat.le_refl _) _).mono HB2.out.size))
  refine (H14.out _ (HT.out.below HB3.out)).mono ?_
  rintro e w3 ⟨rfl, hb1⟩
  have HB4 := Lib.hid (HB3.out.trans (hb1.mono HB3.out.size))
  clear hb1 e0 e1 e2 e3 e4 e5 e6 e7 lt HB3 HB2 H14
  have HB5 : Hid (Below w.heap.size w (w3.alloc (.cells Ou.zero.cs 23))) := Lib.hid (HB4.out.trans (((Below.refl _ _).alloc (Nat.le_refl _) _).mono HB4.out.size))
  go_wp2_with fail
  refine (WReportWrites.lives _ (HT.out.below HB5.out).t).mono ?_
  rintro e w5 ⟨rfl, hb1⟩
  have HB6 := Lib.hid (HB5.out.trans (hb1.mono HB5.out.size))
  clear hb1
  go_wp2_with fail
  go_ret
  exact ⟨rfl, HB6.out⟩

theorem law_all (o : Ou) (s : ByteArray) (w : World) (hT : RTabs w) (ho : o.Ok) : Calls Tryd.prog 5 #[o.v, .string s] w fun e w' => e = .returned (.bool true) ∧ Below w.heap.size w w' := by
  by_cases hr : o.reply.size ≤ 200
  case neg => exact law_off1 o s w hT.t (by omega)
  by_cases hs : s.size ≤ 300
  case neg => exact law_off2 o s w hT.t hr (by omega)
  obtain ⟨k, sq, lf, ld, rs, nw, wk, rp⟩ := o
  cases hX : readP s.data.toList with
  | none =>
    by_cases h1 : k = 1
    · subst h1; exact law_1_none sq lf ld rs nw wk rp s ho hr hs hX w hT
    by_cases h2 : k = 2
    · subst h2; exact law_2_none sq lf ld rs nw wk rp s ho hr hs hX w hT
    by_cases h3 : k = 3
    · subst h3; exact law_3_none sq lf ld rs nw wk rp s ho hr hs hX w hT
    by_cases h4 : k = 4
    · subst h4; exact law_4_none sq lf ld rs nw wk rp s ho hr hs hX w hT
    · exact law_0_none k sq lf ld rs nw wk rp s h1 h2 h3 h4 ho hr hs hX w hT
  | some y =>
    by_cases h1 : k = 1
    · subst h1; exact law_1_some sq lf ld rs nw wk rp s ho hr hs y hX w hT
    by_cases h2 : k = 2
    · subst h2; exact law_2_some sq lf ld rs nw wk rp s ho hr hs y hX w hT
    by_cases h3 : k = 3
    · subst h3; exact law_3_some sq lf ld rs nw wk rp s ho hr hs y hX w hT
    by_cases h4 : k = 4
    · subst h4; exact law_4_some sq lf ld rs nw wk rp s ho hr hs y hX w hT
    · exact law_0_some k sq lf ld rs nw wk rp s h1 h2 h3 h4 ho hr hs y hX w hT
end Go.Proofs.YtkfkkihdlkhbnaaDoor.WReportBack
