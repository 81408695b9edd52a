/- The plain law of the lines, and the reference's Line and Stat. -/
import Derived.Test.YtkfkkihdlkhbnaaDoorLine
namespace Go.Proofs.YtkfkkihdlkhbnaaDoor.Str
open Go.RowKit

/-- An output. -/
structure Ou where
  kind : Int
  seq : Int
  leaf : Int
  lender : Int
  reason : Int
  now : Int
  wake : Int
  reply : ByteArray
@[reducible] def Ou.cs (o : Ou) : Array Value := #[.int .i64 o.kind, .int .i64 o.seq, .int .i64 o.leaf, .int .i64 o.lender, .int .i64 o.reason, .int .i64 o.now, .int .i64 o.wake, .string o.reply]
@[reducible] def Ou.v (o : Ou) : Value := .agg o.cs
structure Ou.Ok (o : Ou) : Prop where
  k : I64 o.kind
  s : I64 o.seq
  l : I64 o.leaf
  d : I64 o.lender
  r : I64 o.reason
  n : I64 o.now
  w : I64 o.wake

def sPacket : List UInt8 := [112, 97, 99, 107, 101, 116]
def sLeaf : List UInt8 := [108, 101, 97, 102]
def sLost : List UInt8 := [108, 111, 115, 116]
def sAt : List UInt8 := [97, 116]
def sSent : List UInt8 := [115, 101, 110, 116]
def sBy : List UInt8 := [98, 121]
def sWake : List UInt8 := [119, 97, 107, 101]
def sTime : List UInt8 := [116, 105, 109, 101]
def sReply : List UInt8 := [114, 101, 112, 108, 121]
def sNone : List UInt8 := [110, 111, 110, 101]
def sGot : List UInt8 := [103, 111, 116]
def sBytes : List UInt8 := [98, 121, 116, 101, 115]
def sWaiting : List UInt8 := [119, 97, 105, 116, 105, 110, 103]

def psPacket (o : Ou) : List (List UInt8 × Int) := [(sPacket, o.seq), (sLeaf, o.leaf), (sLost, o.reason), (sAt, o.now)]
def psSent (o : Ou) : List (List UInt8 × Int) := [(sSent, o.seq), (sLeaf, o.leaf), (sBy, o.lender), (sWake, o.wake), (sAt, o.now)]
def outL (o : Ou) : List UInt8 :=
  if o.kind = 1 then lineL (psPacket o) else if o.kind = 2 then lineL (psSent o) else if o.kind = 3 then lineL [(sTime, o.now)]
  else if o.kind = 4 then sReply ++ [32] ++ hex o.reply.data.toList ++ [32] ++ lineL [(sAt, o.now)] else lineL [(sNone, o.kind)]

theorem line_one (a : List UInt8) (n : Int) : lineL [(a, n)] = a ++ [32] ++ Lib.itoa n := by
  simp [lineL, words, Lib.join_cons, Lib.joinTail]
theorem line_cons (a : List UInt8) (n : Int) (p : List UInt8 × Int) (ps : List (List UInt8 × Int)) : lineL ((a, n) :: p :: ps) = a ++ [32] ++ Lib.itoa n ++ [32] ++ lineL (p :: ps) := by
  simp [lineL, words, Lib.join_cons, Lib.joinTail]

theorem app_list (a b : ByteArray) : (a ++ b).data.toList = a.data.toList ++ b.data.toList := by
  rw [← ByteArray.append_eq]
  simp
theorem str_eq {a b : ByteArray} (h : a.data.toList = b.data.toList) : a = b := ByteArray.ext (Array.ext' h)

set_option maxRecDepth 100000 in
set_option maxHeartbeats 2000000 in
theorem rline_packet (o : Ou) (ho : o.Ok) (hk : o.kind = 1) (w : World) : Calls Tryd.prog 8 #[o.v] w fun e w' => e = .returned (.string ⟨(outL o).toArray⟩) ∧ Below w.heap.size w w' := by
  have hL : outL o = sPacket ++ [32] ++ Lib.itoa o.seq ++ [32] ++ sLeaf ++ [32] ++ Lib.itoa o.leaf ++ [32] ++ sLost ++ [32] ++ Lib.itoa o.reason ++ [32] ++ sAt ++ [32] ++ Lib.itoa o.now := by
    unfold outL psPacket
    rw [if_pos hk, line_cons, line_cons, line_cons, line_one]
    simp
  have HL := Lib.hid hL
  have e1 : (o.kind == 1) = true := by rw [hk]; rfl
  obtain ⟨-, i1, i2, -, i4, i5, -⟩ := ho
  have l1 := itoa_len i1
  have l2 := itoa_len i2
  have l4 := itoa_len i4
  have l5 := itoa_len i5
  have u1 := fun z : Ext (w.alloc (.cells o.cs 23)) => (Ext.blk_al z).cell 1
  have u2 := fun z : Ext (w.alloc (.cells o.cs 23)) => (Ext.blk_al z).cell 2
  have u4 := fun z : Ext (w.alloc (.cells o.cs 23)) => (Ext.blk_al z).cell 4
  have u5 := fun z : Ext (w.alloc (.cells o.cs 23)) => (Ext.blk_al z).cell 5
  simp only [List.getElem?_toArray, List.getElem?_cons_zero, List.getElem?_cons_succ] at u1 u2 u4 u5
  clear hL hk
  go_enter Tryd.func8, Tryd.ntmps8
  go_wp2_with fail
  refine wp_region_ext (by kernel_rfl) (by kernel_rfl) ?_
  repeat (go_big_quiet_step ((go_at_call 20; exact ext_call (int_any _ (by assumption) _))))
  refine wpQuiet_nil ?_
  intro _ hw'
  obtain ⟨z, rfl⟩ := hw'
  clear u1 u2 u4 u5
  go_wp2_with fail
  go_ret
  refine ⟨ret_str (str_eq ?_), z.kept_al.toBelow'⟩
  rw [HL.out]
  simp [app_list, sPacket, sLeaf, sLost, sAt]
theorem hex_len {s : ByteArray} (h : s.size ≤ 4096) : (hex s.data.toList).length ≤ 8192 := by
  unfold hex
  split
  · simp
  · rw [hexL_len]
    have : s.data.toList.length = s.size := by simp
    omega
set_option maxRecDepth 100000 in
set_option maxHeartbeats 4000000 in
theorem rline_sent (o : Ou) (ho : o.Ok) (hk : o.kind = 2) (w : World) : Calls Tryd.prog 8 #[o.v] w fun e w' => e = .returned (.string ⟨(outL o).toArray⟩) ∧ Below w.heap.size w w' := by
  have hL : outL o = sSent ++ [32] ++ Lib.itoa o.seq ++ [32] ++ sLeaf ++ [32] ++ Lib.itoa o.leaf ++ [32] ++ sBy ++ [32] ++ Lib.itoa o.lender ++ [32] ++ sWake ++ [32] ++ Lib.itoa o.wake ++ [32] ++ sAt ++ [32] ++ Lib.itoa o.now := by
    unfold outL
    rw [if_neg (by omega), if_pos hk, psSent, line_cons, line_cons, line_cons, line_cons, line_one]
    try simp
  have HL := Lib.hid hL
  have e1 : (o.kind == 1) = false := by rw [hk]; rfl
  have e2 : (o.kind == 2) = true := by rw [hk]; rfl
  obtain ⟨i0, i1, i2, i3, i4, i5, i6⟩ := ho
  have l1 := itoa_len (n := o.seq) (by assumption)
  have l2 := itoa_len (n := o.leaf) (by assumption)
  have l3 := itoa_len (n := o.lender) (by assumption)
  have l5 := itoa_len (n := o.now) (by assumption)
  have l6 := itoa_len (n := o.wake) (by assumption)
  have u1 := fun z : Ext (w.alloc (.cells o.cs 23)) => (Ext.blk_al z).cell 1
  have u2 := fun z : Ext (w.alloc (.cells o.cs 23)) => (Ext.blk_al z).cell 2
  have u3 := fun z : Ext (w.alloc (.cells o.cs 23)) => (Ext.blk_al z).cell 3
  have u5 := fun z : Ext (w.alloc (.cells o.cs 23)) => (Ext.blk_al z).cell 5
  have u6 := fun z : Ext (w.alloc (.cells o.cs 23)) => (Ext.blk_al z).cell 6
  simp only [List.getElem?_toArray, List.getElem?_cons_zero, List.getElem?_cons_succ] at u1 u2 u3 u5 u6
  clear hL
  clear hk
  go_enter Tryd.func8, Tryd.ntmps8
  go_wp2_with fail
  refine wp_region_ext (by kernel_rfl) (by kernel_rfl) ?_
  repeat (go_big_quiet_step ((go_at_call 20; exact ext_call (int_any _ (by assumption) _))))
  refine wpQuiet_nil ?_
  intro _ hw'
  obtain ⟨z, rfl⟩ := hw'
  clear u1 u2 u3 u5 u6
  go_wp2_with fail
  go_ret
  refine ⟨ret_str (str_eq ?_), z.kept_al.toBelow'⟩
  rw [HL.out]
  simp [app_list, sSent, sLeaf, sBy, sWake, sAt]
set_option maxRecDepth 100000 in
set_option maxHeartbeats 4000000 in
theorem rline_time (o : Ou) (ho : o.Ok) (hk : o.kind = 3) (w : World) : Calls Tryd.prog 8 #[o.v] w fun e w' => e = .returned (.string ⟨(outL o).toArray⟩) ∧ Below w.heap.size w w' := by
  have hL : outL o = sTime ++ [32] ++ Lib.itoa o.now := by
    unfold outL
    rw [if_neg (by omega), if_neg (by omega), if_pos hk, line_one]
    try simp
  have HL := Lib.hid hL
  have e1 : (o.kind == 1) = false := by rw [hk]; rfl
  have e2 : (o.kind == 2) = false := by rw [hk]; rfl
  have e3 : (o.kind == 3) = true := by rw [hk]; rfl
  obtain ⟨i0, i1, i2, i3, i4, i5, i6⟩ := ho
  have l5 := itoa_len i5
  clear hL hk
  go_enter Tryd.func8, Tryd.ntmps8
  go_wp2_with fail
  refine (int_any _ i5 _).mono ?_
  rintro e w1 ⟨rfl, hb⟩
  have HB := Lib.hid hb
  clear hb
  go_wp2_with fail
  go_ret
  refine ⟨ret_str (str_eq ?_), ((Below.refl _ _).alloc (Nat.le_refl _) _).trans (HB.out.mono (by simp))⟩
  rw [HL.out]
  simp [app_list, sTime]
set_option maxRecDepth 100000 in
set_option maxHeartbeats 4000000 in
theorem rline_none (o : Ou) (ho : o.Ok) (h1 : o.kind ≠ 1) (h2 : o.kind ≠ 2) (h3 : o.kind ≠ 3) (h4 : o.kind ≠ 4) (w : World) : Calls Tryd.prog 8 #[o.v] w fun e w' => e = .returned (.string ⟨(outL o).toArray⟩) ∧ Below w.heap.size w w' := by
  have hL : outL o = sNone ++ [32] ++ Lib.itoa o.kind := by
    unfold outL
    rw [if_neg h1, if_neg h2, if_neg h3, if_neg h4, line_one]
    try simp
  have HL := Lib.hid hL
  have e1 : (o.kind == 1) = false := by simpa using h1
  have e2 : (o.kind == 2) = false := by simpa using h2
  have e3 : (o.kind == 3) = false := by simpa using h3
  have e4 : (o.kind == 4) = false := by simpa using h4
  obtain ⟨i0, i1, i2, i3, i4, i5, i6⟩ := ho
  have l0 := itoa_len i0
  clear hL h1 h2 h3 h4
  go_enter Tryd.func8, Tryd.ntmps8
  go_wp2_with fail
  refine (int_any _ i0 _).mono ?_
  rintro e w1 ⟨rfl, hb⟩
  have HB := Lib.hid hb
  clear hb
  go_wp2_with fail
  go_ret
  refine ⟨ret_str (str_eq ?_), ((Below.refl _ _).alloc (Nat.le_refl _) _).trans (HB.out.mono (by simp))⟩
  rw [HL.out]
  simp [app_list, sNone]
set_option maxRecDepth 100000 in
set_option maxHeartbeats 4000000 in
theorem rline_reply (o : Ou) (ho : o.Ok) (hk : o.kind = 4) (hr : o.reply.size ≤ 4096) (w : World) : Calls Tryd.prog 8 #[o.v] w fun e w' => e = .returned (.string ⟨(outL o).toArray⟩) ∧ Below w.heap.size w w' := by
  have hL : outL o = sReply ++ [32] ++ hex o.reply.data.toList ++ [32] ++ (sAt ++ [32] ++ Lib.itoa o.now) := by
    unfold outL
    rw [if_neg (by omega), if_neg (by omega), if_neg (by omega), if_pos hk, line_one]
    try simp
  have HL := Lib.hid hL
  have e1 : (o.kind == 1) = false := by rw [hk]; rfl
  have e2 : (o.kind == 2) = false := by rw [hk]; rfl
  have e3 : (o.kind == 3) = false := by rw [hk]; rfl
  have e4 : (o.kind == 4) = true := by rw [hk]; rfl
  obtain ⟨i0, i1, i2, i3, i4, i5, i6⟩ := ho
  have l5 := itoa_len i5
  have l7 : (hex o.reply.data.toList).length ≤ 8192 := hex_len hr
  have u5 := fun z : Ext (w.alloc (.cells o.cs 23)) => (Ext.blk_al z).cell 5
  have u7 := fun z : Ext (w.alloc (.cells o.cs 23)) => (Ext.blk_al z).cell 7
  simp only [List.getElem?_toArray, List.getElem?_cons_zero, List.getElem?_cons_succ] at u5 u7
  have HR := Lib.hid hr
  clear hL hk hr
  go_enter Tryd.func8, Tryd.ntmps8
  go_wp2_with fail
  refine wp_region_ext (by kernel_rfl) (by kernel_rfl) ?_
  repeat (go_big_quiet_step ((first | (go_at_call 20; exact ext_call (int_any _ (by assumption) _)) | (go_at_call 12; exact ext_call (rhex_any _ HR.out _)))))
  refine wpQuiet_nil ?_
  intro _ hw'
  obtain ⟨z, rfl⟩ := hw'
  clear u5 u7
  go_wp2_with fail
  go_ret
  refine ⟨ret_str (str_eq ?_), z.kept_al.toBelow'⟩
  rw [HL.out]
  simp [app_list, sReply, sAt]
theorem rline_any (o : Ou) (ho : o.Ok) (hr : o.reply.size ≤ 4096) (w : World) : Calls Tryd.prog 8 #[o.v] w fun e w' => e = .returned (.string ⟨(outL o).toArray⟩) ∧ Below w.heap.size w w' := by
  by_cases h1 : o.kind = 1
  · exact rline_packet o ho h1 w
  by_cases h2 : o.kind = 2
  · exact rline_sent o ho h2 w
  by_cases h3 : o.kind = 3
  · exact rline_time o ho h3 w
  by_cases h4 : o.kind = 4
  · exact rline_reply o ho h4 hr w
  exact rline_none o ho h1 h2 h3 h4 w

/-- Counts. -/
structure Sta where
  got : Int
  gotB : Int
  sent : Int
  sentB : Int
  lost : Int
  waiting : Int
@[reducible] def Sta.cs (o : Sta) : Array Value := #[.int .i64 o.got, .int .i64 o.gotB, .int .i64 o.sent, .int .i64 o.sentB, .int .i64 o.lost, .int .i64 o.waiting]
@[reducible] def Sta.v (o : Sta) : Value := .agg o.cs
structure Sta.Ok (o : Sta) : Prop where
  a : I64 o.got
  b : I64 o.gotB
  c : I64 o.sent
  d : I64 o.sentB
  e : I64 o.lost
  f : I64 o.waiting
def psStat (o : Sta) : List (List UInt8 × Int) := [(sGot, o.got), (sBytes, o.gotB), (sSent, o.sent), (sBytes, o.sentB), (sLost, o.lost), (sWaiting, o.waiting)]
set_option maxRecDepth 100000 in
set_option maxHeartbeats 4000000 in
theorem rstat_any (o : Sta) (ho : o.Ok) (w : World) : Calls Tryd.prog 10 #[o.v] w fun e w' => e = .returned (.string ⟨(lineL (psStat o)).toArray⟩) ∧ Below w.heap.size w w' := by
  have hL : lineL (psStat o) = sGot ++ [32] ++ Lib.itoa o.got ++ [32] ++ sBytes ++ [32] ++ Lib.itoa o.gotB ++ [32] ++ sSent ++ [32] ++ Lib.itoa o.sent ++ [32] ++ sBytes ++ [32] ++ Lib.itoa o.sentB ++ [32] ++ sLost ++ [32] ++ Lib.itoa o.lost ++ [32] ++ sWaiting ++ [32] ++ Lib.itoa o.waiting := by
    rw [psStat, line_cons, line_cons, line_cons, line_cons, line_cons, line_one]
    simp
  have HL := Lib.hid hL
  obtain ⟨i0, i1, i2, i3, i4, i5⟩ := ho
  have l0 := itoa_len i0
  have l1 := itoa_len i1
  have l2 := itoa_len i2
  have l3 := itoa_len i3
  have l4 := itoa_len i4
  have l5 := itoa_len i5
  have u0 := fun z : Ext (w.alloc (.cells o.cs 25)) => (Ext.blk_al z).cell 0
  have u1 := fun z : Ext (w.alloc (.cells o.cs 25)) => (Ext.blk_al z).cell 1
  have u2 := fun z : Ext (w.alloc (.cells o.cs 25)) => (Ext.blk_al z).cell 2
  have u3 := fun z : Ext (w.alloc (.cells o.cs 25)) => (Ext.blk_al z).cell 3
  have u4 := fun z : Ext (w.alloc (.cells o.cs 25)) => (Ext.blk_al z).cell 4
  have u5 := fun z : Ext (w.alloc (.cells o.cs 25)) => (Ext.blk_al z).cell 5
  simp only [List.getElem?_toArray, List.getElem?_cons_zero, List.getElem?_cons_succ] at u0 u1 u2 u3 u4 u5
  clear hL
  go_enter Tryd.func10, Tryd.ntmps10
  go_wp2_with fail
  refine wp_region_ext (by kernel_rfl) (by kernel_rfl) ?_
  repeat (go_big_quiet_step ((go_at_call 20; exact ext_call (int_any _ (by assumption) _))))
  refine wpQuiet_nil ?_
  intro _ hw'
  obtain ⟨z, rfl⟩ := hw'
  clear u0 u1 u2 u3 u4 u5
  go_wp2_with fail
  go_ret
  refine ⟨ret_str (str_eq ?_), z.kept_al.toBelow'⟩
  rw [HL.out]
  simp [app_list, sGot, sBytes, sSent, sLost, sWaiting]
end Go.Proofs.YtkfkkihdlkhbnaaDoor.Str
