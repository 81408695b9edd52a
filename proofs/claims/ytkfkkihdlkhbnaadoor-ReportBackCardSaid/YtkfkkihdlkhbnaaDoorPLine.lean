/- report.Line and report.Stat. -/
import Derived.Test.YtkfkkihdlkhbnaaDoorOut
import Derived.Deep.RegionHeld3
namespace Go.Proofs.YtkfkkihdlkhbnaaDoor.Str
open Go.RowKit

theorem ascii_of {l : List UInt8} (h : (l.all fun b => decide (b.toNat < 128)) = true) : ∀ (j : Nat) b, l[j]? = some b → b.toNat < 128 := by
  intro j b hb
  have := List.all_eq_true.1 h b (List.mem_of_getElem? hb)
  simpa using this
/-- A slice of numbers, laid in a block. -/
theorem sl_ints (w : World) (ns : List Int) (cs : Array Value) (h : cs = (ns.map (Value.int .i64)).toArray) (g n : Nat) (hg : w.heap.size = g) (hn : ns.length = n) (hm : n ≤ maxLen) : Sl (w.alloc (.cells cs 3)) 3 1 eInt (.slice (some ⟨g, 0, none⟩) n n) ns := by
  subst hg hn h
  refine ⟨_, ns.length, rfl, Nat.le_refl _, hm, fun _ => ⟨w.heap.size, 0, _, (0, 0), rfl, heap_alloc_new w _, fun k x hx j u hu => ?_⟩⟩
  have hj : j = 0 := by
    have := (List.getElem?_eq_some_iff.1 hu).1
    simp [eInt] at this
    exact this
  subst hj
  have h1 := (Blk.new w 3 (ns.map (Value.int .i64)).toArray).cell k
  simp only [Nat.zero_add, Nat.mul_one, Nat.add_zero]
  rw [h1]
  simp [eInt] at hu
  simp [hx, hu]
theorem good_of (ps : List (List UInt8 × Int)) (h1 : ps ≠ []) (h2 : ps.length ≤ 8) (h3 : ∀ p ∈ ps, I64 p.2) (h4 : (ps.all fun p => decide (p.1.length ≤ 21)) = true) : Good ps :=
  ⟨h1, h2, fun p hp => ⟨h3 p hp, by have := List.all_eq_true.1 h4 p hp; simpa using this⟩⟩
set_option maxRecDepth 100000 in
set_option maxHeartbeats 2000000 in
theorem pline_packet (o : Ou) (ho : o.Ok) (hk : o.kind = 1) (w : World) (hT : Tabs w) : Calls Tryd.prog 7 #[o.v] w fun e w' => e = .returned (.string ⟨(outL o).toArray⟩) ∧ Below w.heap.size w w' := by
  have hL : outL o = lineL (psPacket o) := by
    unfold outL; rw [if_pos hk]
  rw [hL]
  have e1 : (o.kind == 1) = true := by rw [hk]; rfl
  have hB0 : Below w.heap.size w ((w.alloc (.cells o.cs 23)).alloc (.cells #[.int .i64 o.seq, .int .i64 o.leaf, .int .i64 o.reason, .int .i64 o.now] 3)) := ((Below.refl _ _).alloc (Nat.le_refl _) _).alloc (by simp) _
  have hG : Good (psPacket o) := good_of _ (by simp [psPacket]) (by simp [psPacket]) (by obtain ⟨i0, i1, i2, i3, i4, i5, i6⟩ := ho; simp [psPacket]; exact ⟨i1, i2, i4, i5⟩) rfl
  have hS : Sl ((w.alloc (.cells o.cs 23)).alloc (.cells #[.int .i64 o.seq, .int .i64 o.leaf, .int .i64 o.reason, .int .i64 o.now] 3)) 3 1 eInt (.slice (some ⟨w.heap.size + 1, 0, none⟩) 4 4) ((psPacket o).map (·.2)) := sl_ints (w.alloc (.cells o.cs 23)) _ _ rfl _ _ (by simp) rfl (by unfold maxLen; omega)
  have C := line_any ⟨#[112, 97, 99, 107, 101, 116, 32, 108, 101, 97, 102, 32, 108, 111, 115, 116, 32, 97, 116]⟩ _ (psPacket o) _ (by decide) (ascii_of rfl) rfl hG hS (hT.below hB0)
  have HC := Lib.hid C
  have HB0 := Lib.hid hB0
  clear hL hB0 hG hS C hT ho hk
  go_enter Tryd.func7, Tryd.ntmps7
  go_wp2_with fail
  refine HC.out.mono ?_
  rintro e w1 ⟨rfl, hb⟩
  have HB := Lib.hid hb
  clear hb HC
  go_wp2_with fail
  go_ret
  exact ⟨rfl, HB0.out.trans (HB.out.mono HB0.out.size)⟩
set_option maxRecDepth 100000 in
set_option maxHeartbeats 2000000 in
theorem pline_sent (o : Ou) (ho : o.Ok) (hk : o.kind = 2) (w : World) (hT : Tabs w) : Calls Tryd.prog 7 #[o.v] w fun e w' => e = .returned (.string ⟨(outL o).toArray⟩) ∧ Below w.heap.size w w' := by
  have hL : outL o = lineL (psSent o) := by
    unfold outL; rw [if_neg (by omega), if_pos hk]
  rw [hL]
  have e1 : (o.kind == 1) = false := by rw [hk]; rfl
  have e2 : (o.kind == 2) = true := by rw [hk]; rfl
  have hB0 : Below w.heap.size w ((w.alloc (.cells o.cs 23)).alloc (.cells #[.int .i64 o.seq, .int .i64 o.leaf, .int .i64 o.lender, .int .i64 o.wake, .int .i64 o.now] 3)) := ((Below.refl _ _).alloc (Nat.le_refl _) _).alloc (by simp) _
  have hG : Good (psSent o) := good_of _ (by simp [psSent]) (by simp [psSent]) (by obtain ⟨i0, i1, i2, i3, i4, i5, i6⟩ := ho; simp [psSent]; exact ⟨i1, i2, i3, i6, i5⟩) rfl
  have hS : Sl ((w.alloc (.cells o.cs 23)).alloc (.cells #[.int .i64 o.seq, .int .i64 o.leaf, .int .i64 o.lender, .int .i64 o.wake, .int .i64 o.now] 3)) 3 1 eInt (.slice (some ⟨w.heap.size + 1, 0, none⟩) 5 5) ((psSent o).map (·.2)) := sl_ints (w.alloc (.cells o.cs 23)) _ _ rfl _ _ (by simp) rfl (by unfold maxLen; omega)
  have C := line_any ⟨#[115, 101, 110, 116, 32, 108, 101, 97, 102, 32, 98, 121, 32, 119, 97, 107, 101, 32, 97, 116]⟩ _ (psSent o) _ (by decide) (ascii_of rfl) rfl hG hS (hT.below hB0)
  have HC := Lib.hid C
  have HB0 := Lib.hid hB0
  clear hL hB0 hG hS C hT ho hk
  go_enter Tryd.func7, Tryd.ntmps7
  go_wp2_with fail
  refine HC.out.mono ?_
  rintro e w1 ⟨rfl, hb⟩
  have HB := Lib.hid hb
  clear hb HC
  go_wp2_with fail
  go_ret
  exact ⟨rfl, HB0.out.trans (HB.out.mono HB0.out.size)⟩
set_option maxRecDepth 100000 in
set_option maxHeartbeats 2000000 in
theorem pline_time (o : Ou) (ho : o.Ok) (hk : o.kind = 3) (w : World) (hT : Tabs w) : Calls Tryd.prog 7 #[o.v] w fun e w' => e = .returned (.string ⟨(outL o).toArray⟩) ∧ Below w.heap.size w w' := by
  have hL : outL o = lineL ([(sTime, o.now)]) := by
    unfold outL; rw [if_neg (by omega), if_neg (by omega), if_pos hk]
  rw [hL]
  have e1 : (o.kind == 1) = false := by rw [hk]; rfl
  have e2 : (o.kind == 2) = false := by rw [hk]; rfl
  have e3 : (o.kind == 3) = true := by rw [hk]; rfl
  have hB0 : Below w.heap.size w ((w.alloc (.cells o.cs 23)).alloc (.cells #[.int .i64 o.now] 3)) := ((Below.refl _ _).alloc (Nat.le_refl _) _).alloc (by simp) _
  have hG : Good ([(sTime, o.now)]) := good_of _ (by simp) (by simp) (by obtain ⟨i0, i1, i2, i3, i4, i5, i6⟩ := ho; simp; exact i5) rfl
  have hS : Sl ((w.alloc (.cells o.cs 23)).alloc (.cells #[.int .i64 o.now] 3)) 3 1 eInt (.slice (some ⟨w.heap.size + 1, 0, none⟩) 1 1) (([(sTime, o.now)]).map (·.2)) := sl_ints (w.alloc (.cells o.cs 23)) _ _ rfl _ _ (by simp) rfl (by unfold maxLen; omega)
  have C := line_any ⟨#[116, 105, 109, 101]⟩ _ ([(sTime, o.now)]) _ (by decide) (ascii_of rfl) rfl hG hS (hT.below hB0)
  have HC := Lib.hid C
  have HB0 := Lib.hid hB0
  clear hL hB0 hG hS C hT ho hk
  go_enter Tryd.func7, Tryd.ntmps7
  go_wp2_with fail
  refine HC.out.mono ?_
  rintro e w1 ⟨rfl, hb⟩
  have HB := Lib.hid hb
  clear hb HC
  go_wp2_with fail
  go_ret
  exact ⟨rfl, HB0.out.trans (HB.out.mono HB0.out.size)⟩
set_option maxRecDepth 100000 in
set_option maxHeartbeats 2000000 in
theorem pline_none (o : Ou) (ho : o.Ok) (h1 : o.kind ≠ 1) (h2 : o.kind ≠ 2) (h3 : o.kind ≠ 3) (h4 : o.kind ≠ 4) (w : World) (hT : Tabs w) : Calls Tryd.prog 7 #[o.v] w fun e w' => e = .returned (.string ⟨(outL o).toArray⟩) ∧ Below w.heap.size w w' := by
  have hL : outL o = lineL ([(sNone, o.kind)]) := by
    unfold outL; rw [if_neg h1, if_neg h2, if_neg h3, if_neg h4]
  rw [hL]
  have e1 : (o.kind == 1) = false := by simpa using h1
  have e2 : (o.kind == 2) = false := by simpa using h2
  have e3 : (o.kind == 3) = false := by simpa using h3
  have e4 : (o.kind == 4) = false := by simpa using h4
  have hB0 : Below w.heap.size w ((w.alloc (.cells o.cs 23)).alloc (.cells #[.int .i64 o.kind] 3)) := ((Below.refl _ _).alloc (Nat.le_refl _) _).alloc (by simp) _
  have hG : Good ([(sNone, o.kind)]) := good_of _ (by simp) (by simp) (by obtain ⟨i0, i1, i2, i3, i4, i5, i6⟩ := ho; simp; exact i0) rfl
  have hS : Sl ((w.alloc (.cells o.cs 23)).alloc (.cells #[.int .i64 o.kind] 3)) 3 1 eInt (.slice (some ⟨w.heap.size + 1, 0, none⟩) 1 1) (([(sNone, o.kind)]).map (·.2)) := sl_ints (w.alloc (.cells o.cs 23)) _ _ rfl _ _ (by simp) rfl (by unfold maxLen; omega)
  have C := line_any ⟨#[110, 111, 110, 101]⟩ _ ([(sNone, o.kind)]) _ (by decide) (ascii_of rfl) rfl hG hS (hT.below hB0)
  have HC := Lib.hid C
  have HB0 := Lib.hid hB0
  clear hL hB0 hG hS C hT ho h1 h2 h3 h4
  go_enter Tryd.func7, Tryd.ntmps7
  go_wp2_with fail
  refine HC.out.mono ?_
  rintro e w1 ⟨rfl, hb⟩
  have HB := Lib.hid hb
  clear hb HC
  go_wp2_with fail
  go_ret
  exact ⟨rfl, HB0.out.trans (HB.out.mono HB0.out.size)⟩
set_option maxRecDepth 100000 in
set_option maxHeartbeats 2000000 in
theorem pstat_any (o : Sta) (ho : o.Ok)  (w : World) (hT : Tabs w) : Calls Tryd.prog 9 #[o.v] w fun e w' => e = .returned (.string ⟨(lineL (psStat o)).toArray⟩) ∧ Below w.heap.size w w' := by
  have tok : True := trivial
  have hB0 : Below w.heap.size w ((w.alloc (.cells o.cs 25)).alloc (.cells #[.int .i64 o.got, .int .i64 o.gotB, .int .i64 o.sent, .int .i64 o.sentB, .int .i64 o.lost, .int .i64 o.waiting] 3)) := ((Below.refl _ _).alloc (Nat.le_refl _) _).alloc (by simp) _
  have hG : Good (psStat o) := good_of _ (by simp [psStat]) (by simp [psStat]) (by obtain ⟨i0, i1, i2, i3, i4, i5⟩ := ho; simp [psStat]; exact ⟨i0, i1, i2, i3, i4, i5⟩) rfl
  have hS : Sl ((w.alloc (.cells o.cs 25)).alloc (.cells #[.int .i64 o.got, .int .i64 o.gotB, .int .i64 o.sent, .int .i64 o.sentB, .int .i64 o.lost, .int .i64 o.waiting] 3)) 3 1 eInt (.slice (some ⟨w.heap.size + 1, 0, none⟩) 6 6) ((psStat o).map (·.2)) := sl_ints (w.alloc (.cells o.cs 25)) _ _ rfl _ _ (by simp) rfl (by unfold maxLen; omega)
  have C := line_any ⟨#[103, 111, 116, 32, 98, 121, 116, 101, 115, 32, 115, 101, 110, 116, 32, 98, 121, 116, 101, 115, 32, 108, 111, 115, 116, 32, 119, 97, 105, 116, 105, 110, 103]⟩ _ (psStat o) _ (by decide) (ascii_of rfl) rfl hG hS (hT.below hB0)
  have HC := Lib.hid C
  have HB0 := Lib.hid hB0
  clear hB0 hG hS C hT ho
  go_enter Tryd.func9, Tryd.ntmps9
  go_wp2_with fail
  refine HC.out.mono ?_
  rintro e w1 ⟨rfl, hb⟩
  have HB := Lib.hid hb
  clear hb HC
  go_wp2_with fail
  go_ret
  exact ⟨rfl, HB0.out.trans (HB.out.mono HB0.out.size)⟩
theorem bel_drew {W w1 : World} (h : Below W.drew.heap.size W.drew w1) : Below W.heap.size W w1 := ⟨h.os, h.tape, h.output, h.size, h.block⟩
theorem bel_alloc {W w1 : World} {o : Obj} (h : Below (W.alloc o).drew.heap.size (W.alloc o).drew w1) : Below W.heap.size W w1 :=
  ((Below.refl _ _).alloc (Nat.le_refl _) o).trans (Below.mono (B := (W.alloc o).heap.size) ⟨h.os, h.tape, h.output, h.size, h.block⟩ (by simp))
def at_ps (n : Int) : List (List UInt8 × Int) := [(sAt, n)]
theorem line_at (v : Value) (n : Int) (hn : I64 n) (w : World) (hv : Sl w 3 1 eInt v [n]) (hT : Tabs w) : Calls Tryd.prog 19 #[.string ⟨#[97, 116]⟩, v] w fun e w' => e = .returned (.string ⟨(lineL [(sAt, n)]).toArray⟩) ∧ Below w.heap.size w w' :=
  line_any ⟨#[97, 116]⟩ v [(sAt, n)] w (by decide) (ascii_of rfl) rfl (good_of _ (by simp) (by simp) (by simpa using hn) rfl) hv hT
theorem line_new {W w1 : World} {n : Int} (hn : I64 n) (hT : Tabs W) (hb : Below W.heap.size W w1) :
    Calls Tryd.prog 19 #[.string ⟨#[97, 116]⟩, .slice (some ⟨w1.heap.size, 0, none⟩) 1 1] (w1.alloc (.cells #[.int .i64 n] 3)) fun e w' => e = .returned (.string ⟨(lineL [(sAt, n)]).toArray⟩) ∧ Below W.heap.size W w' := by
  have h1 : Below W.heap.size W (w1.alloc (.cells #[.int .i64 n] 3)) := hb.alloc hb.size _
  exact (line_at _ n hn _ (sl_ints w1 [n] _ rfl _ _ rfl rfl (by unfold maxLen; simp)) (hT.below h1)).mono fun e w' ⟨he, hb'⟩ => ⟨he, h1.trans (hb'.mono h1.size)⟩
theorem line_old {W w1 : World} {n : Int} (hn : I64 n) (hT : Tabs W) (hb : Below W.heap.size W w1) (hs : Sl w1 3 1 eInt (.slice (some ⟨W.heap.size, 0, none⟩) 1 1) [n]) :
    Calls Tryd.prog 19 #[.string ⟨#[97, 116]⟩, .slice (some ⟨W.heap.size, 0, none⟩) 1 1] w1 fun e w' => e = .returned (.string ⟨(lineL [(sAt, n)]).toArray⟩) ∧ Below W.heap.size W w' :=
  (line_at _ n hn _ hs (hT.below hb)).mono fun e w' ⟨he, hb'⟩ => ⟨he, hb.trans (hb'.mono hb.size)⟩
theorem sl_old {W w1 : World} {n : Int} (h : Below ((W.alloc (.cells #[.int .i64 n] 3)).drew).heap.size (W.alloc (.cells #[.int .i64 n] 3)).drew w1) : Sl w1 3 1 eInt (.slice (some ⟨W.heap.size, 0, none⟩) 1 1) [n] :=
  (sl_ints W [n] _ rfl _ _ rfl rfl (by unfold maxLen; simp) : Sl (W.alloc (.cells #[.int .i64 n] 3)) 3 1 eInt (.slice (some ⟨W.heap.size, 0, none⟩) 1 1) [n]).below ⟨h.os, h.tape, h.output, h.size, h.block⟩

set_option maxRecDepth 100000 in
set_option maxHeartbeats 2000000 in
theorem pline_reply (o : Ou) (ho : o.Ok) (hk : o.kind = 4) (hr : o.reply.size ≤ 4096) (w : World) (hT : Tabs w) : Calls Tryd.prog 7 #[o.v] w fun e w' => e = .returned (.string ⟨(outL o).toArray⟩) ∧ Below w.heap.size w w' := by
  have hL : outL o = sReply ++ [32] ++ hex o.reply.data.toList ++ [32] ++ lineL [(sAt, o.now)] := by
    unfold outL
    rw [if_neg (by omega), if_neg (by omega), if_neg (by omega), if_pos hk]
  have HL := Lib.hid hL
  have e1 : (o.kind == 1) = false := by rw [hk]; rfl
  have e2 : (o.kind == 2) = false := by rw [hk]; rfl
  have e3 : (o.kind == 3) = false := by rw [hk]; rfl
  have e4 : (o.kind == 4) = true := by rw [hk]; rfl
  have hB := Blk.new w 23 o.cs
  have c5 := hB.cell 5
  have c7 := hB.cell 7
  simp only [List.getElem?_toArray, List.getElem?_cons_zero, List.getElem?_cons_succ] at c5 c7
  have HR := Lib.hid hr
  have HT := Lib.hid hT
  have hsz : (w.alloc (.cells o.cs 23)).heap.size = w.heap.size + 1 := by simp
  have HSZ := Lib.hid hsz
  have l7 : (hex o.reply.data.toList).length ≤ 8192 := hex_len hr
  have l5 : (lineL [(sAt, o.now)]).length ≤ 352 := (good_of [(sAt, o.now)] (by simp) (by simp) (by simpa using ho.n) rfl).line
  clear hL hk hB hsz hr hT
  go_enter Tryd.func7, Tryd.ntmps7
  go_upto_region 9 with (fail)
  have hTW : Tabs (w.alloc (.cells o.cs 23)) := HT.out.below ((Below.refl _ _).alloc (Nat.le_refl _) _)
  have HTW := Lib.hid hTW
  have hlt : w.heap.size < (w.alloc (.cells o.cs 23)).heap.size := by rw [HSZ.out]; omega
  have hbw : Below w.heap.size w (w.alloc (.cells o.cs 23)) := (Below.refl _ _).alloc (Nat.le_refl _) _
  have HBW := Lib.hid hbw
  have HI := Lib.hid ho.n
  clear ho hTW hbw
  have n1 : ¬ 9223372036854775807 < 6 + (hex o.reply.data.toList).length := by omega
  have n2 : ¬ 9223372036854775807 < 6 + (hex o.reply.data.toList).length + 1 := by omega
  have n3 : ¬ 9223372036854775807 < 6 + (hex o.reply.data.toList).length + 1 + (lineL [(sAt, o.now)]).length := by omega
  generalize hW : w.alloc (.cells o.cs 23) = W at *
  clear hW HSZ
  go_region_held3 (fun w' => w'.cell? ⟨w.heap.size, 5, none⟩ = some (.int .i64 o.now) ∧ w'.cell? ⟨w.heap.size, 7, none⟩ = some (.string o.reply))
    (first | exact ⟨c5, c7⟩ | exact ⟨(hK.cell (p := ⟨w.heap.size, 5, none⟩) hlt).trans c5, (hK.cell (p := ⟨w.heap.size, 7, none⟩) hlt).trans c7⟩ | go_keep)
    ((first
      | (go_at_call 11; refine (hex_any _ HR.out _).mono ?_; rintro e w1 ⟨rfl, hb1⟩; (first | (have hK := bel_alloc hb1; have hS := Lib.hid (sl_old hb1)) | (have hK := bel_drew hb1)); clear hb1)
      | (go_at_call 19; (first | with_reducible refine (line_new HI.out HTW.out hK).mono ?_ | with_reducible refine (line_old HI.out HTW.out hK hS.out).mono ?_); rintro e w2 ⟨rfl, hb2⟩; have hK := hb2)))
  all_goals
    have HK := Lib.hid hK
    clear hK
    go_wp2_with fail
    go_ret
    refine ⟨ret_str (str_eq ?_), HBW.out.trans (HK.out.mono (Nat.le_of_lt hlt))⟩
    rw [HL.out]
    simp [app_list, sReply, sAt]
theorem pline_any (o : Ou) (ho : o.Ok) (hr : o.reply.size ≤ 4096) (w : World) (hT : Tabs w) : Calls Tryd.prog 7 #[o.v] w fun e w' => e = .returned (.string ⟨(outL o).toArray⟩) ∧ Below w.heap.size w w' := by
  by_cases h1 : o.kind = 1
  · exact pline_packet o ho h1 w hT
  by_cases h2 : o.kind = 2
  · exact pline_sent o ho h2 w hT
  by_cases h3 : o.kind = 3
  · exact pline_time o ho h3 w hT
  by_cases h4 : o.kind = 4
  · exact pline_reply o ho h4 hr w hT
  exact pline_none o ho h1 h2 h3 h4 w hT
end Go.Proofs.YtkfkkihdlkhbnaaDoor.Str
