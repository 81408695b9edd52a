/- The walk of the reference's Read. -/
import Derived.Test.YtkfkkihdlkhbnaaDoorRead
namespace Go.Proofs.YtkfkkihdlkhbnaaDoor.Str
open Go.RowKit

/-- The memory of the reference's Read: its result's row, its output's row, the words. -/
def Rst (w W : World) (G : Nat) (v : Value) (ws : List (List UInt8)) (o : Ou) : Prop :=
  Blk W G 23 o.cs ∧ Blk W w.heap.size 23 Ou.zero.cs ∧ Wd W v ws ∧ Below w.heap.size w W ∧ w.heap.size < G
section
variable {w W W' : World} {G : Nat} {v : Value} {ws : List (List UInt8)} {o : Ou}
theorem Rst.step (h : Rst w W G v ws o) (hb : Below W.heap.size W W') : Rst w W' G v ws o := by
  obtain ⟨h1, h2, h3, h4, h5⟩ := h
  have kp : Kept none_ W W' := Kept.below hb rfl
  exact ⟨h1.kept kp (fun h => h), h2.kept kp (fun h => h), h3.below hb, h4.trans (hb.mono h4.size), h5⟩
theorem Rst.set8 (h : Rst w W G v ws o) (x : Ou) : Rst w (set8 W G (.int .i64 x.kind) (.int .i64 x.seq) (.int .i64 x.leaf) (.int .i64 x.lender) (.int .i64 x.reason) (.int .i64 x.now) (.int .i64 x.wake) (.string x.reply)) G v ws x := by
  obtain ⟨h1, h2, h3, h4, h5⟩ := h
  have kp := Kept.set8 (Kept.refl (· = G) W) (g := G) (.inl rfl) (.int .i64 x.kind) (.int .i64 x.seq) (.int .i64 x.leaf) (.int .i64 x.lender) (.int .i64 x.reason) (.int .i64 x.now) (.int .i64 x.wake) (.string x.reply)
  exact ⟨Blk.set8 h1 _ _ _ _ _ _ _ _, h2.kept kp (by show w.heap.size ≠ G; omega), h3.kept kp (Off.one h1 (by decide)), Below.set8 h4 (by omega) _ _ _ _ _ _ _ _, h5⟩
theorem at_rst (h : Rst w W G v ws o) (hlen : ∀ x ∈ ws, x.length ≤ 300) (i : Nat) (hi : i ≤ 100) :
    Calls Tryd.prog 28 #[v, .int .i64 (i : Int)] W fun e w' => e = .returned (.int .i64 (atW ws i)) ∧ Rst w w' G v ws o := by
  refine (at_any v ws i W h.2.2.1 (fun x hx => by have := hlen x hx; omega) hi).mono ?_
  rintro e w' ⟨he, hb⟩
  exact ⟨he, h.step hb⟩
theorem unhex_rst (h : Rst w W G v ws o) (b : List UInt8) (hb : b.length ≤ 300) :
    Calls Tryd.prog 16 #[.string ⟨b.toArray⟩] W fun e w' => e = .returned (.tuple #[.string (unhG b), .bool (unhx b).isSome]) ∧ Rst w w' G v ws o := by
  refine (runhex_any ⟨b.toArray⟩ (by show b.toArray.size ≤ 4096; rw [List.size_toArray]; omega) W).mono ?_
  rintro e w' ⟨he, hb⟩
  exact ⟨he, h.step hb⟩
theorem line_rst (h : Rst w W G v ws o) (ho : o.Ok) (hr : o.reply.size ≤ 4096) :
    Calls Tryd.prog 8 #[o.v] W fun e w' => e = .returned (.string ⟨(outL o).toArray⟩) ∧ Rst w w' G v ws o := by
  refine (rline_any o ho hr W).mono ?_
  rintro e w' ⟨he, hb⟩
  exact ⟨he, h.step hb⟩
end
theorem wd_ne {W : World} {B O n c G : Nat} {ws : List (List UInt8)} {cs : Array Value} {x : List UInt8} (h : Wd W (.slice (some ⟨B, O, none⟩) n c) ws) (hx : ws[0]? = some x) (hG : Blk W G 23 cs) : B ≠ G := by
  obtain ⟨A', c', e, _, _, h3⟩ := h
  injection e with e1 e2 e3
  subst e1
  obtain ⟨b, off, cs', fr, hA, hb, hc⟩ := h3 (by rintro rfl; simp at hx)
  injection hA with hA
  injection hA with e4 e5
  subst e4 e5
  rintro rfl
  have hG' : W.heap[B]? = some (.cells cs 23 (0, 0)) := hG
  rw [hb] at hG'
  injection hG' with hG'
  injection hG' with _ e6
  cases e6
theorem ref_reply (ws : List (List UInt8)) (h : ∀ x ∈ ws, x.length ≤ 300) : (refO ws).reply.size ≤ 4096 := by
  have z : (⟨#[]⟩ : ByteArray).size ≤ 4096 := by show (#[] : Array UInt8).size ≤ 4096; simp
  unfold refO
  repeat' split
  all_goals first | exact z | skip
  rename_i hl
  have := unhG_size (ws.getD 1 [])
  have h1 := h (ws.getD 1 []) (by
    rw [List.getD_eq_getElem?_getD, List.getElem?_eq_getElem hl]
    exact List.getElem_mem hl)
  show (unhG (ws.getD 1 [])).size ≤ 4096
  omega


set_option maxRecDepth 100000 in
set_option maxHeartbeats 4000000 in
theorem rread_packet (s : ByteArray) (w : World) (hs : s.size ≤ 300) (ws : List (List UInt8)) (a0 : List UInt8) (hws : wordsL s.data.toList = ws) (h0 : ws[0]? = some a0) (hwl : ∀ x ∈ ws, x.length ≤ 300) (hlen : ws.length ≤ 301) (ha : a0 = sPacket) :
    Calls Tryd.prog 14 #[.string s] w fun e w' => e = .returned (readV (readR s.data.toList)) ∧ Below w.heap.size w w' := by
  have HF : firstW ws = a0 := by
    cases ws with
    | nil => simp at h0
    | cons a r => injection h0
  have t0 : (a0 == [112, 97, 99, 107, 101, 116]) = true := by rw [ha]; decide
  have t1 : (a0 == [115, 101, 110, 116]) = false := by rw [ha]; decide
  have t2 : (a0 == [116, 105, 109, 101]) = false := by rw [ha]; decide
  have t3 : (a0 == [114, 101, 112, 108, 121]) = false := by rw [ha]; decide
  have t4 : (a0 == [110, 111, 110, 101]) = false := by rw [ha]; decide
  have hx : refO ws = ⟨1, atW ws 1, atW ws 3, 0, atW ws 5, atW ws 7, 0, ⟨#[]⟩⟩ := by rw [refO, HF, if_pos ha]
  have HOK := Lib.hid (hx ▸ ref_ok ws)
  have HRZ := Lib.hid (hx ▸ ref_reply ws hwl)
  have hrr : readR s.data.toList = checkO (⟨1, atW ws 1, atW ws 3, 0, atW ws 5, atW ws 7, 0, ⟨#[]⟩⟩ : Ou) s.data.toList := by unfold readR; rw [hws, hx]
  generalize readR s.data.toList = R at *
  have HRR := Lib.hid hrr
  have HWS := Lib.hid (fun W => words_any s W (by omega))
  rw [hws] at HWS
  have H0 := Lib.hid h0
  have HWL := Lib.hid hwl
  have hne' : (0 : Int) < (ws.length : Int) := by have := (List.getElem?_eq_some_iff.1 h0).1; omega
  have hln : (ws.length : Int) ≤ 301 := by omega
  clear HF h0 hwl hlen hws hx hrr ha
  go_enter Tryd.func14, Tryd.ntmps14
  go_wp2_with fail
  refine (HWS.out _).mono ?_
  rintro e w1 ⟨v, rfl, hv, hb⟩
  obtain ⟨A, c, rfl, _⟩ := hv.form
  obtain ⟨B, O, rfl, hB, q0⟩ := hv.at1 H0.out rfl
  have BR : Blk w1 w.heap.size 23 Ou.zero.cs := (Blk.new w 23 Ou.zero.cs).kept (F := none_) (Kept.below hb rfl) (fun h => h)
  have hbw : Below w.heap.size w w1 := ((Below.refl _ _).alloc (Nat.le_refl _) _).trans (hb.mono (by simp))
  have HM := Lib.hid (start_mem BR hv hbw Ou.zero)
  clear hv hb BR q0 hB hbw HWS
  have hHM := HM.out (w1.alloc (.cells Ou.zero.cs 23)) rfl
  have HST : Hid (Rst w (w1.alloc (.cells #[.int .i64 0, .int .i64 0, .int .i64 0, .int .i64 0, .int .i64 0, .int .i64 0, .int .i64 0, .string ⟨#[]⟩] 23)) w1.heap.size (.slice (some ⟨B, O, none⟩) ws.length c) ws Ou.zero) := Lib.hid ⟨hHM.1, hHM.2.1, hHM.2.2.1, hHM.2.2.2.1, hHM.2.2.2.2.1⟩
  clear hHM HM
  obtain ⟨qa, hBl⟩ := wd_at HST.out.2.2.1 H0.out
  simp only [Nat.add_zero] at qa hBl
  go_wp2_with fail
  generalize World.alloc w1 _ = W2 at *
  generalize w1.heap.size = G at *
  refine (at_rst HST.out HWL.out 1 (by decide)).mono ?_
  rintro e w1 ⟨rfl, hst⟩
  have HST := Lib.hid hst
  clear hst
  clear qa hBl
  go_wp2_with fail
  refine (at_rst HST.out HWL.out 3 (by decide)).mono ?_
  rintro e w3 ⟨rfl, hst⟩
  have HST := Lib.hid hst
  clear hst
  go_wp2_with fail
  refine (at_rst HST.out HWL.out 5 (by decide)).mono ?_
  rintro e w5 ⟨rfl, hst⟩
  have HST := Lib.hid hst
  clear hst
  go_wp2_with fail
  refine (at_rst HST.out HWL.out 7 (by decide)).mono ?_
  rintro e w7 ⟨rfl, hst⟩
  have HST := Lib.hid hst
  clear hst
  have fr := HST.out.1.frozen
  have lt := HST.out.1.lt
  obtain ⟨e0, e1, e2, e3, e4, e5, e6, e7⟩ := ou_cells HST.out.1
  simp only [Ou.zero] at e0 e1 e2 e3 e4 e5 e6 e7
  obtain ⟨qa, hBl⟩ := wd_at HST.out.2.2.1 H0.out
  simp only [Nat.add_zero] at qa
  have hBG := wd_ne HST.out.2.2.1 H0.out HST.out.1
  go_wp2_with fail
  generalize hW : World.setCell _ _ _ = W5
  have hst : Rst w W5 G (.slice (some ⟨B, O, none⟩) ws.length c) ws ⟨1, atW ws 1, atW ws 3, 0, atW ws 5, atW ws 7, 0, ⟨#[]⟩⟩ := by rw [← hW]; exact Rst.set8 HST.out ⟨1, atW ws 1, atW ws 3, 0, atW ws 5, atW ws 7, 0, ⟨#[]⟩⟩
  have HST := Lib.hid hst
  clear hst hW qa hBl hBG fr lt e0 e1 e2 e3 e4 e5 e6 e7
  refine (line_rst (o := ⟨1, atW ws 1, atW ws 3, 0, atW ws 5, atW ws 7, 0, ⟨#[]⟩⟩) HST.out HOK.out HRZ.out).mono ?_
  rintro e w6 ⟨rfl, hst⟩
  have HST := Lib.hid hst
  clear hst
  obtain ⟨z0, z1, z2, z3, z4, z5, z6, z7⟩ := ou_cells HST.out.2.1
  simp only [Ou.zero] at z0 z1 z2 z3 z4 z5 z6 z7
  have fz := HST.out.2.1.frozen
  have ltz := HST.out.2.1.lt
  have N4 := Lib.hid HST.out.2.2.2.1
  by_cases heq : outL (⟨1, atW ws 1, atW ws 3, 0, atW ws 5, atW ws 7, 0, ⟨#[]⟩⟩ : Ou) = s.data.toList
  · have t5 := eq_list heq
    have hRo : R = some (⟨1, atW ws 1, atW ws 3, 0, atW ws 5, atW ws 7, 0, ⟨#[]⟩⟩ : Ou) := by rw [HRR.out]; unfold checkO; rw [if_pos heq]
    have HRO := Lib.hid hRo
    have fr := HST.out.1.frozen
    have lt := HST.out.1.lt
    obtain ⟨e0, e1, e2, e3, e4, e5, e6, e7⟩ := ou_cells HST.out.1
    dsimp only at e0 e1 e2 e3 e4 e5 e6 e7
    clear heq hRo
    go_wp2_with fail
    exact bodyPost_ret (v := .tuple #[(⟨1, atW ws 1, atW ws 3, 0, atW ws 5, atW ws 7, 0, ⟨#[]⟩⟩ : Ou).v, .bool true]) (by simp [results, Tryd.results14, go_sem, ltz, z0, z1, z2, z3, z4, z5, z6, z7, Ou.v, Ou.cs, Ou.zero]) rfl ⟨by rw [HRO.out]; rfl, Below.set8 N4.out (Nat.le_refl _) _ _ _ _ _ _ _ _⟩
  · have t5 := ne_list heq
    have hRo : R = none := by rw [HRR.out]; unfold checkO; rw [if_neg heq]
    have HRO := Lib.hid hRo
    clear heq hRo
    go_wp2_with fail
    exact bodyPost_ret (v := .tuple #[Ou.zero.v, .bool false]) (by simp [results, Tryd.results14, go_sem, ltz, z0, z1, z2, z3, z4, z5, z6, z7, Ou.v, Ou.cs, Ou.zero]) rfl ⟨by rw [HRO.out]; rfl, Below.set8 N4.out (Nat.le_refl _) _ _ _ _ _ _ _ _⟩

set_option maxRecDepth 100000 in
set_option maxHeartbeats 4000000 in
theorem rread_sent (s : ByteArray) (w : World) (hs : s.size ≤ 300) (ws : List (List UInt8)) (a0 : List UInt8) (hws : wordsL s.data.toList = ws) (h0 : ws[0]? = some a0) (hwl : ∀ x ∈ ws, x.length ≤ 300) (hlen : ws.length ≤ 301) (ha : a0 = sSent) :
    Calls Tryd.prog 14 #[.string s] w fun e w' => e = .returned (readV (readR s.data.toList)) ∧ Below w.heap.size w w' := by
  have HF : firstW ws = a0 := by
    cases ws with
    | nil => simp at h0
    | cons a r => injection h0
  have t0 : (a0 == [112, 97, 99, 107, 101, 116]) = false := by rw [ha]; decide
  have t1 : (a0 == [115, 101, 110, 116]) = true := by rw [ha]; decide
  have t2 : (a0 == [116, 105, 109, 101]) = false := by rw [ha]; decide
  have t3 : (a0 == [114, 101, 112, 108, 121]) = false := by rw [ha]; decide
  have t4 : (a0 == [110, 111, 110, 101]) = false := by rw [ha]; decide
  have hx : refO ws = ⟨2, atW ws 1, atW ws 3, atW ws 5, 0, atW ws 9, atW ws 7, ⟨#[]⟩⟩ := by rw [refO, HF, if_neg (by rw [ha]; decide), if_pos ha]
  have HOK := Lib.hid (hx ▸ ref_ok ws)
  have HRZ := Lib.hid (hx ▸ ref_reply ws hwl)
  have hrr : readR s.data.toList = checkO (⟨2, atW ws 1, atW ws 3, atW ws 5, 0, atW ws 9, atW ws 7, ⟨#[]⟩⟩ : Ou) s.data.toList := by unfold readR; rw [hws, hx]
  generalize readR s.data.toList = R at *
  have HRR := Lib.hid hrr
  have HWS := Lib.hid (fun W => words_any s W (by omega))
  rw [hws] at HWS
  have H0 := Lib.hid h0
  have HWL := Lib.hid hwl
  have hne' : (0 : Int) < (ws.length : Int) := by have := (List.getElem?_eq_some_iff.1 h0).1; omega
  have hln : (ws.length : Int) ≤ 301 := by omega
  clear HF h0 hwl hlen hws hx hrr ha
  go_enter Tryd.func14, Tryd.ntmps14
  go_wp2_with fail
  refine (HWS.out _).mono ?_
  rintro e w1 ⟨v, rfl, hv, hb⟩
  obtain ⟨A, c, rfl, _⟩ := hv.form
  obtain ⟨B, O, rfl, hB, q0⟩ := hv.at1 H0.out rfl
  have BR : Blk w1 w.heap.size 23 Ou.zero.cs := (Blk.new w 23 Ou.zero.cs).kept (F := none_) (Kept.below hb rfl) (fun h => h)
  have hbw : Below w.heap.size w w1 := ((Below.refl _ _).alloc (Nat.le_refl _) _).trans (hb.mono (by simp))
  have HM := Lib.hid (start_mem BR hv hbw Ou.zero)
  clear hv hb BR q0 hB hbw HWS
  have hHM := HM.out (w1.alloc (.cells Ou.zero.cs 23)) rfl
  have HST : Hid (Rst w (w1.alloc (.cells #[.int .i64 0, .int .i64 0, .int .i64 0, .int .i64 0, .int .i64 0, .int .i64 0, .int .i64 0, .string ⟨#[]⟩] 23)) w1.heap.size (.slice (some ⟨B, O, none⟩) ws.length c) ws Ou.zero) := Lib.hid ⟨hHM.1, hHM.2.1, hHM.2.2.1, hHM.2.2.2.1, hHM.2.2.2.2.1⟩
  clear hHM HM
  obtain ⟨qa, hBl⟩ := wd_at HST.out.2.2.1 H0.out
  simp only [Nat.add_zero] at qa hBl
  go_wp2_with fail
  generalize World.alloc w1 _ = W2 at *
  generalize w1.heap.size = G at *
  refine (at_rst HST.out HWL.out 1 (by decide)).mono ?_
  rintro e w1 ⟨rfl, hst⟩
  have HST := Lib.hid hst
  clear hst
  clear qa hBl
  go_wp2_with fail
  refine (at_rst HST.out HWL.out 3 (by decide)).mono ?_
  rintro e w3 ⟨rfl, hst⟩
  have HST := Lib.hid hst
  clear hst
  go_wp2_with fail
  refine (at_rst HST.out HWL.out 5 (by decide)).mono ?_
  rintro e w5 ⟨rfl, hst⟩
  have HST := Lib.hid hst
  clear hst
  go_wp2_with fail
  refine (at_rst HST.out HWL.out 7 (by decide)).mono ?_
  rintro e w7 ⟨rfl, hst⟩
  have HST := Lib.hid hst
  clear hst
  go_wp2_with fail
  refine (at_rst HST.out HWL.out 9 (by decide)).mono ?_
  rintro e w9 ⟨rfl, hst⟩
  have HST := Lib.hid hst
  clear hst
  have fr := HST.out.1.frozen
  have lt := HST.out.1.lt
  obtain ⟨e0, e1, e2, e3, e4, e5, e6, e7⟩ := ou_cells HST.out.1
  simp only [Ou.zero] at e0 e1 e2 e3 e4 e5 e6 e7
  obtain ⟨qa, hBl⟩ := wd_at HST.out.2.2.1 H0.out
  simp only [Nat.add_zero] at qa
  have hBG := wd_ne HST.out.2.2.1 H0.out HST.out.1
  go_wp2_with fail
  generalize hW : World.setCell _ _ _ = W5
  have hst : Rst w W5 G (.slice (some ⟨B, O, none⟩) ws.length c) ws ⟨2, atW ws 1, atW ws 3, atW ws 5, 0, atW ws 9, atW ws 7, ⟨#[]⟩⟩ := by rw [← hW]; exact Rst.set8 HST.out ⟨2, atW ws 1, atW ws 3, atW ws 5, 0, atW ws 9, atW ws 7, ⟨#[]⟩⟩
  have HST := Lib.hid hst
  clear hst hW qa hBl hBG fr lt e0 e1 e2 e3 e4 e5 e6 e7
  refine (line_rst (o := ⟨2, atW ws 1, atW ws 3, atW ws 5, 0, atW ws 9, atW ws 7, ⟨#[]⟩⟩) HST.out HOK.out HRZ.out).mono ?_
  rintro e w6 ⟨rfl, hst⟩
  have HST := Lib.hid hst
  clear hst
  obtain ⟨z0, z1, z2, z3, z4, z5, z6, z7⟩ := ou_cells HST.out.2.1
  simp only [Ou.zero] at z0 z1 z2 z3 z4 z5 z6 z7
  have fz := HST.out.2.1.frozen
  have ltz := HST.out.2.1.lt
  have N4 := Lib.hid HST.out.2.2.2.1
  by_cases heq : outL (⟨2, atW ws 1, atW ws 3, atW ws 5, 0, atW ws 9, atW ws 7, ⟨#[]⟩⟩ : Ou) = s.data.toList
  · have t5 := eq_list heq
    have hRo : R = some (⟨2, atW ws 1, atW ws 3, atW ws 5, 0, atW ws 9, atW ws 7, ⟨#[]⟩⟩ : Ou) := by rw [HRR.out]; unfold checkO; rw [if_pos heq]
    have HRO := Lib.hid hRo
    have fr := HST.out.1.frozen
    have lt := HST.out.1.lt
    obtain ⟨e0, e1, e2, e3, e4, e5, e6, e7⟩ := ou_cells HST.out.1
    dsimp only at e0 e1 e2 e3 e4 e5 e6 e7
    clear heq hRo
    go_wp2_with fail
    exact bodyPost_ret (v := .tuple #[(⟨2, atW ws 1, atW ws 3, atW ws 5, 0, atW ws 9, atW ws 7, ⟨#[]⟩⟩ : Ou).v, .bool true]) (by simp [results, Tryd.results14, go_sem, ltz, z0, z1, z2, z3, z4, z5, z6, z7, Ou.v, Ou.cs, Ou.zero]) rfl ⟨by rw [HRO.out]; rfl, Below.set8 N4.out (Nat.le_refl _) _ _ _ _ _ _ _ _⟩
  · have t5 := ne_list heq
    have hRo : R = none := by rw [HRR.out]; unfold checkO; rw [if_neg heq]
    have HRO := Lib.hid hRo
    clear heq hRo
    go_wp2_with fail
    exact bodyPost_ret (v := .tuple #[Ou.zero.v, .bool false]) (by simp [results, Tryd.results14, go_sem, ltz, z0, z1, z2, z3, z4, z5, z6, z7, Ou.v, Ou.cs, Ou.zero]) rfl ⟨by rw [HRO.out]; rfl, Below.set8 N4.out (Nat.le_refl _) _ _ _ _ _ _ _ _⟩

set_option maxRecDepth 100000 in
set_option maxHeartbeats 4000000 in
theorem rread_time (s : ByteArray) (w : World) (hs : s.size ≤ 300) (ws : List (List UInt8)) (a0 : List UInt8) (hws : wordsL s.data.toList = ws) (h0 : ws[0]? = some a0) (hwl : ∀ x ∈ ws, x.length ≤ 300) (hlen : ws.length ≤ 301) (ha : a0 = sTime) :
    Calls Tryd.prog 14 #[.string s] w fun e w' => e = .returned (readV (readR s.data.toList)) ∧ Below w.heap.size w w' := by
  have HF : firstW ws = a0 := by
    cases ws with
    | nil => simp at h0
    | cons a r => injection h0
  have t0 : (a0 == [112, 97, 99, 107, 101, 116]) = false := by rw [ha]; decide
  have t1 : (a0 == [115, 101, 110, 116]) = false := by rw [ha]; decide
  have t2 : (a0 == [116, 105, 109, 101]) = true := by rw [ha]; decide
  have t3 : (a0 == [114, 101, 112, 108, 121]) = false := by rw [ha]; decide
  have t4 : (a0 == [110, 111, 110, 101]) = false := by rw [ha]; decide
  have hx : refO ws = ⟨3, 0, 0, 0, 0, atW ws 1, 0, ⟨#[]⟩⟩ := by rw [refO, HF, if_neg (by rw [ha]; decide), if_neg (by rw [ha]; decide), if_pos ha]
  have HOK := Lib.hid (hx ▸ ref_ok ws)
  have HRZ := Lib.hid (hx ▸ ref_reply ws hwl)
  have hrr : readR s.data.toList = checkO (⟨3, 0, 0, 0, 0, atW ws 1, 0, ⟨#[]⟩⟩ : Ou) s.data.toList := by unfold readR; rw [hws, hx]
  generalize readR s.data.toList = R at *
  have HRR := Lib.hid hrr
  have HWS := Lib.hid (fun W => words_any s W (by omega))
  rw [hws] at HWS
  have H0 := Lib.hid h0
  have HWL := Lib.hid hwl
  have hne' : (0 : Int) < (ws.length : Int) := by have := (List.getElem?_eq_some_iff.1 h0).1; omega
  have hln : (ws.length : Int) ≤ 301 := by omega
  clear HF h0 hwl hlen hws hx hrr ha
  go_enter Tryd.func14, Tryd.ntmps14
  go_wp2_with fail
  refine (HWS.out _).mono ?_
  rintro e w1 ⟨v, rfl, hv, hb⟩
  obtain ⟨A, c, rfl, _⟩ := hv.form
  obtain ⟨B, O, rfl, hB, q0⟩ := hv.at1 H0.out rfl
  have BR : Blk w1 w.heap.size 23 Ou.zero.cs := (Blk.new w 23 Ou.zero.cs).kept (F := none_) (Kept.below hb rfl) (fun h => h)
  have hbw : Below w.heap.size w w1 := ((Below.refl _ _).alloc (Nat.le_refl _) _).trans (hb.mono (by simp))
  have HM := Lib.hid (start_mem BR hv hbw Ou.zero)
  clear hv hb BR q0 hB hbw HWS
  have hHM := HM.out (w1.alloc (.cells Ou.zero.cs 23)) rfl
  have HST : Hid (Rst w (w1.alloc (.cells #[.int .i64 0, .int .i64 0, .int .i64 0, .int .i64 0, .int .i64 0, .int .i64 0, .int .i64 0, .string ⟨#[]⟩] 23)) w1.heap.size (.slice (some ⟨B, O, none⟩) ws.length c) ws Ou.zero) := Lib.hid ⟨hHM.1, hHM.2.1, hHM.2.2.1, hHM.2.2.2.1, hHM.2.2.2.2.1⟩
  clear hHM HM
  obtain ⟨qa, hBl⟩ := wd_at HST.out.2.2.1 H0.out
  simp only [Nat.add_zero] at qa hBl
  go_wp2_with fail
  generalize World.alloc w1 _ = W2 at *
  generalize w1.heap.size = G at *
  refine (at_rst HST.out HWL.out 1 (by decide)).mono ?_
  rintro e w1 ⟨rfl, hst⟩
  have HST := Lib.hid hst
  clear hst
  clear qa hBl
  have fr := HST.out.1.frozen
  have lt := HST.out.1.lt
  obtain ⟨e0, e1, e2, e3, e4, e5, e6, e7⟩ := ou_cells HST.out.1
  simp only [Ou.zero] at e0 e1 e2 e3 e4 e5 e6 e7
  obtain ⟨qa, hBl⟩ := wd_at HST.out.2.2.1 H0.out
  simp only [Nat.add_zero] at qa
  have hBG := wd_ne HST.out.2.2.1 H0.out HST.out.1
  go_wp2_with fail
  generalize hW : World.setCell _ _ _ = W5
  have hst : Rst w W5 G (.slice (some ⟨B, O, none⟩) ws.length c) ws ⟨3, 0, 0, 0, 0, atW ws 1, 0, ⟨#[]⟩⟩ := by rw [← hW]; exact Rst.set8 HST.out ⟨3, 0, 0, 0, 0, atW ws 1, 0, ⟨#[]⟩⟩
  have HST := Lib.hid hst
  clear hst hW qa hBl hBG fr lt e0 e1 e2 e3 e4 e5 e6 e7
  refine (line_rst (o := ⟨3, 0, 0, 0, 0, atW ws 1, 0, ⟨#[]⟩⟩) HST.out HOK.out HRZ.out).mono ?_
  rintro e w6 ⟨rfl, hst⟩
  have HST := Lib.hid hst
  clear hst
  obtain ⟨z0, z1, z2, z3, z4, z5, z6, z7⟩ := ou_cells HST.out.2.1
  simp only [Ou.zero] at z0 z1 z2 z3 z4 z5 z6 z7
  have fz := HST.out.2.1.frozen
  have ltz := HST.out.2.1.lt
  have N4 := Lib.hid HST.out.2.2.2.1
  by_cases heq : outL (⟨3, 0, 0, 0, 0, atW ws 1, 0, ⟨#[]⟩⟩ : Ou) = s.data.toList
  · have t5 := eq_list heq
    have hRo : R = some (⟨3, 0, 0, 0, 0, atW ws 1, 0, ⟨#[]⟩⟩ : Ou) := by rw [HRR.out]; unfold checkO; rw [if_pos heq]
    have HRO := Lib.hid hRo
    have fr := HST.out.1.frozen
    have lt := HST.out.1.lt
    obtain ⟨e0, e1, e2, e3, e4, e5, e6, e7⟩ := ou_cells HST.out.1
    dsimp only at e0 e1 e2 e3 e4 e5 e6 e7
    clear heq hRo
    go_wp2_with fail
    exact bodyPost_ret (v := .tuple #[(⟨3, 0, 0, 0, 0, atW ws 1, 0, ⟨#[]⟩⟩ : Ou).v, .bool true]) (by simp [results, Tryd.results14, go_sem, ltz, z0, z1, z2, z3, z4, z5, z6, z7, Ou.v, Ou.cs, Ou.zero]) rfl ⟨by rw [HRO.out]; rfl, Below.set8 N4.out (Nat.le_refl _) _ _ _ _ _ _ _ _⟩
  · have t5 := ne_list heq
    have hRo : R = none := by rw [HRR.out]; unfold checkO; rw [if_neg heq]
    have HRO := Lib.hid hRo
    clear heq hRo
    go_wp2_with fail
    exact bodyPost_ret (v := .tuple #[Ou.zero.v, .bool false]) (by simp [results, Tryd.results14, go_sem, ltz, z0, z1, z2, z3, z4, z5, z6, z7, Ou.v, Ou.cs, Ou.zero]) rfl ⟨by rw [HRO.out]; rfl, Below.set8 N4.out (Nat.le_refl _) _ _ _ _ _ _ _ _⟩

set_option maxRecDepth 100000 in
set_option maxHeartbeats 4000000 in
theorem rread_none2 (s : ByteArray) (w : World) (hs : s.size ≤ 300) (ws : List (List UInt8)) (a0 : List UInt8) (hws : wordsL s.data.toList = ws) (h0 : ws[0]? = some a0) (hwl : ∀ x ∈ ws, x.length ≤ 300) (hlen : ws.length ≤ 301) (ha : a0 = sNone) :
    Calls Tryd.prog 14 #[.string s] w fun e w' => e = .returned (readV (readR s.data.toList)) ∧ Below w.heap.size w w' := by
  have HF : firstW ws = a0 := by
    cases ws with
    | nil => simp at h0
    | cons a r => injection h0
  have t0 : (a0 == [112, 97, 99, 107, 101, 116]) = false := by rw [ha]; decide
  have t1 : (a0 == [115, 101, 110, 116]) = false := by rw [ha]; decide
  have t2 : (a0 == [116, 105, 109, 101]) = false := by rw [ha]; decide
  have t3 : (a0 == [114, 101, 112, 108, 121]) = false := by rw [ha]; decide
  have t4 : (a0 == [110, 111, 110, 101]) = true := by rw [ha]; decide
  have hx : refO ws = ⟨atW ws 1, 0, 0, 0, 0, 0, 0, ⟨#[]⟩⟩ := by rw [refO, HF, if_neg (by rw [ha]; decide), if_neg (by rw [ha]; decide), if_neg (by rw [ha]; decide), if_neg (by rw [ha]; decide), if_pos ha]
  have HOK := Lib.hid (hx ▸ ref_ok ws)
  have HRZ := Lib.hid (hx ▸ ref_reply ws hwl)
  have hrr : readR s.data.toList = checkO (⟨atW ws 1, 0, 0, 0, 0, 0, 0, ⟨#[]⟩⟩ : Ou) s.data.toList := by unfold readR; rw [hws, hx]
  generalize readR s.data.toList = R at *
  have HRR := Lib.hid hrr
  have HWS := Lib.hid (fun W => words_any s W (by omega))
  rw [hws] at HWS
  have H0 := Lib.hid h0
  have HWL := Lib.hid hwl
  have hne' : (0 : Int) < (ws.length : Int) := by have := (List.getElem?_eq_some_iff.1 h0).1; omega
  have hln : (ws.length : Int) ≤ 301 := by omega
  clear HF h0 hwl hlen hws hx hrr ha
  go_enter Tryd.func14, Tryd.ntmps14
  go_wp2_with fail
  refine (HWS.out _).mono ?_
  rintro e w1 ⟨v, rfl, hv, hb⟩
  obtain ⟨A, c, rfl, _⟩ := hv.form
  obtain ⟨B, O, rfl, hB, q0⟩ := hv.at1 H0.out rfl
  have BR : Blk w1 w.heap.size 23 Ou.zero.cs := (Blk.new w 23 Ou.zero.cs).kept (F := none_) (Kept.below hb rfl) (fun h => h)
  have hbw : Below w.heap.size w w1 := ((Below.refl _ _).alloc (Nat.le_refl _) _).trans (hb.mono (by simp))
  have HM := Lib.hid (start_mem BR hv hbw Ou.zero)
  clear hv hb BR q0 hB hbw HWS
  have hHM := HM.out (w1.alloc (.cells Ou.zero.cs 23)) rfl
  have HST : Hid (Rst w (w1.alloc (.cells #[.int .i64 0, .int .i64 0, .int .i64 0, .int .i64 0, .int .i64 0, .int .i64 0, .int .i64 0, .string ⟨#[]⟩] 23)) w1.heap.size (.slice (some ⟨B, O, none⟩) ws.length c) ws Ou.zero) := Lib.hid ⟨hHM.1, hHM.2.1, hHM.2.2.1, hHM.2.2.2.1, hHM.2.2.2.2.1⟩
  clear hHM HM
  obtain ⟨qa, hBl⟩ := wd_at HST.out.2.2.1 H0.out
  simp only [Nat.add_zero] at qa hBl
  go_wp2_with fail
  generalize World.alloc w1 _ = W2 at *
  generalize w1.heap.size = G at *
  refine (at_rst HST.out HWL.out 1 (by decide)).mono ?_
  rintro e w1 ⟨rfl, hst⟩
  have HST := Lib.hid hst
  clear hst
  clear qa hBl
  have fr := HST.out.1.frozen
  have lt := HST.out.1.lt
  obtain ⟨e0, e1, e2, e3, e4, e5, e6, e7⟩ := ou_cells HST.out.1
  simp only [Ou.zero] at e0 e1 e2 e3 e4 e5 e6 e7
  obtain ⟨qa, hBl⟩ := wd_at HST.out.2.2.1 H0.out
  simp only [Nat.add_zero] at qa
  have hBG := wd_ne HST.out.2.2.1 H0.out HST.out.1
  go_wp2_with fail
  generalize hW : World.setCell _ _ _ = W5
  have hst : Rst w W5 G (.slice (some ⟨B, O, none⟩) ws.length c) ws ⟨atW ws 1, 0, 0, 0, 0, 0, 0, ⟨#[]⟩⟩ := by rw [← hW]; exact Rst.set8 HST.out ⟨atW ws 1, 0, 0, 0, 0, 0, 0, ⟨#[]⟩⟩
  have HST := Lib.hid hst
  clear hst hW qa hBl hBG fr lt e0 e1 e2 e3 e4 e5 e6 e7
  refine (line_rst (o := ⟨atW ws 1, 0, 0, 0, 0, 0, 0, ⟨#[]⟩⟩) HST.out HOK.out HRZ.out).mono ?_
  rintro e w6 ⟨rfl, hst⟩
  have HST := Lib.hid hst
  clear hst
  obtain ⟨z0, z1, z2, z3, z4, z5, z6, z7⟩ := ou_cells HST.out.2.1
  simp only [Ou.zero] at z0 z1 z2 z3 z4 z5 z6 z7
  have fz := HST.out.2.1.frozen
  have ltz := HST.out.2.1.lt
  have N4 := Lib.hid HST.out.2.2.2.1
  by_cases heq : outL (⟨atW ws 1, 0, 0, 0, 0, 0, 0, ⟨#[]⟩⟩ : Ou) = s.data.toList
  · have t5 := eq_list heq
    have hRo : R = some (⟨atW ws 1, 0, 0, 0, 0, 0, 0, ⟨#[]⟩⟩ : Ou) := by rw [HRR.out]; unfold checkO; rw [if_pos heq]
    have HRO := Lib.hid hRo
    have fr := HST.out.1.frozen
    have lt := HST.out.1.lt
    obtain ⟨e0, e1, e2, e3, e4, e5, e6, e7⟩ := ou_cells HST.out.1
    dsimp only at e0 e1 e2 e3 e4 e5 e6 e7
    clear heq hRo
    go_wp2_with fail
    exact bodyPost_ret (v := .tuple #[(⟨atW ws 1, 0, 0, 0, 0, 0, 0, ⟨#[]⟩⟩ : Ou).v, .bool true]) (by simp [results, Tryd.results14, go_sem, ltz, z0, z1, z2, z3, z4, z5, z6, z7, Ou.v, Ou.cs, Ou.zero]) rfl ⟨by rw [HRO.out]; rfl, Below.set8 N4.out (Nat.le_refl _) _ _ _ _ _ _ _ _⟩
  · have t5 := ne_list heq
    have hRo : R = none := by rw [HRR.out]; unfold checkO; rw [if_neg heq]
    have HRO := Lib.hid hRo
    clear heq hRo
    go_wp2_with fail
    exact bodyPost_ret (v := .tuple #[Ou.zero.v, .bool false]) (by simp [results, Tryd.results14, go_sem, ltz, z0, z1, z2, z3, z4, z5, z6, z7, Ou.v, Ou.cs, Ou.zero]) rfl ⟨by rw [HRO.out]; rfl, Below.set8 N4.out (Nat.le_refl _) _ _ _ _ _ _ _ _⟩

set_option maxRecDepth 100000 in
set_option maxHeartbeats 4000000 in
theorem rread_other (s : ByteArray) (w : World) (hs : s.size ≤ 300) (ws : List (List UInt8)) (a0 : List UInt8) (hws : wordsL s.data.toList = ws) (h0 : ws[0]? = some a0) (hwl : ∀ x ∈ ws, x.length ≤ 300) (hlen : ws.length ≤ 301) (n0 : a0 ≠ sPacket) (n1 : a0 ≠ sSent) (n2 : a0 ≠ sTime) (n3 : a0 ≠ sReply) (n4 : a0 ≠ sNone) :
    Calls Tryd.prog 14 #[.string s] w fun e w' => e = .returned (readV (readR s.data.toList)) ∧ Below w.heap.size w w' := by
  have HF : firstW ws = a0 := by
    cases ws with
    | nil => simp at h0
    | cons a r => injection h0
  have t0 : (a0 == [112, 97, 99, 107, 101, 116]) = false := by rw [beq_eq_false_iff_ne]; exact n0
  have t1 : (a0 == [115, 101, 110, 116]) = false := by rw [beq_eq_false_iff_ne]; exact n1
  have t2 : (a0 == [116, 105, 109, 101]) = false := by rw [beq_eq_false_iff_ne]; exact n2
  have t3 : (a0 == [114, 101, 112, 108, 121]) = false := by rw [beq_eq_false_iff_ne]; exact n3
  have t4 : (a0 == [110, 111, 110, 101]) = false := by rw [beq_eq_false_iff_ne]; exact n4
  have hx : refO ws = Ou.zero := by rw [refO, HF, if_neg n0, if_neg n1, if_neg n2, if_neg n3, if_neg n4]
  have HOK := Lib.hid (hx ▸ ref_ok ws)
  have HRZ := Lib.hid (hx ▸ ref_reply ws hwl)
  have hrr : readR s.data.toList = checkO Ou.zero s.data.toList := by unfold readR; rw [hws, hx]
  generalize readR s.data.toList = R at *
  have HRR := Lib.hid hrr
  have HWS := Lib.hid (fun W => words_any s W (by omega))
  rw [hws] at HWS
  have H0 := Lib.hid h0
  have HWL := Lib.hid hwl
  have hne' : (0 : Int) < (ws.length : Int) := by have := (List.getElem?_eq_some_iff.1 h0).1; omega
  have hln : (ws.length : Int) ≤ 301 := by omega
  clear HF h0 hwl hlen hws hx hrr n0 n1 n2 n3 n4
  go_enter Tryd.func14, Tryd.ntmps14
  go_wp2_with fail
  refine (HWS.out _).mono ?_
  rintro e w1 ⟨v, rfl, hv, hb⟩
  obtain ⟨A, c, rfl, _⟩ := hv.form
  obtain ⟨B, O, rfl, hB, q0⟩ := hv.at1 H0.out rfl
  have BR : Blk w1 w.heap.size 23 Ou.zero.cs := (Blk.new w 23 Ou.zero.cs).kept (F := none_) (Kept.below hb rfl) (fun h => h)
  have hbw : Below w.heap.size w w1 := ((Below.refl _ _).alloc (Nat.le_refl _) _).trans (hb.mono (by simp))
  have HM := Lib.hid (start_mem BR hv hbw Ou.zero)
  clear hv hb BR q0 hB hbw HWS
  have hHM := HM.out (w1.alloc (.cells Ou.zero.cs 23)) rfl
  have HST : Hid (Rst w (w1.alloc (.cells #[.int .i64 0, .int .i64 0, .int .i64 0, .int .i64 0, .int .i64 0, .int .i64 0, .int .i64 0, .string ⟨#[]⟩] 23)) w1.heap.size (.slice (some ⟨B, O, none⟩) ws.length c) ws Ou.zero) := Lib.hid ⟨hHM.1, hHM.2.1, hHM.2.2.1, hHM.2.2.2.1, hHM.2.2.2.2.1⟩
  clear hHM HM
  obtain ⟨qa, hBl⟩ := wd_at HST.out.2.2.1 H0.out
  simp only [Nat.add_zero] at qa hBl
  go_wp2_with fail
  generalize World.alloc w1 _ = W2 at *
  generalize w1.heap.size = G at *
  clear qa hBl
  refine (line_rst (o := Ou.zero) HST.out HOK.out HRZ.out).mono ?_
  rintro e w6 ⟨rfl, hst⟩
  have HST := Lib.hid hst
  clear hst
  obtain ⟨z0, z1, z2, z3, z4, z5, z6, z7⟩ := ou_cells HST.out.2.1
  simp only [Ou.zero] at z0 z1 z2 z3 z4 z5 z6 z7
  have fz := HST.out.2.1.frozen
  have ltz := HST.out.2.1.lt
  have N4 := Lib.hid HST.out.2.2.2.1
  by_cases heq : outL Ou.zero = s.data.toList
  · have t5 := eq_list heq
    have hRo : R = some Ou.zero := by rw [HRR.out]; unfold checkO; rw [if_pos heq]
    have HRO := Lib.hid hRo
    have fr := HST.out.1.frozen
    have lt := HST.out.1.lt
    obtain ⟨e0, e1, e2, e3, e4, e5, e6, e7⟩ := ou_cells HST.out.1
    simp only [Ou.zero] at e0 e1 e2 e3 e4 e5 e6 e7
    clear heq hRo
    go_wp2_with fail
    exact bodyPost_ret (v := .tuple #[Ou.zero.v, .bool true]) (by simp [results, Tryd.results14, go_sem, ltz, z0, z1, z2, z3, z4, z5, z6, z7, Ou.v, Ou.cs, Ou.zero]) rfl ⟨by rw [HRO.out]; rfl, Below.set8 N4.out (Nat.le_refl _) _ _ _ _ _ _ _ _⟩
  · have t5 := ne_list heq
    have hRo : R = none := by rw [HRR.out]; unfold checkO; rw [if_neg heq]
    have HRO := Lib.hid hRo
    clear heq hRo
    go_wp2_with fail
    exact bodyPost_ret (v := .tuple #[Ou.zero.v, .bool false]) (by simp [results, Tryd.results14, go_sem, ltz, z0, z1, z2, z3, z4, z5, z6, z7, Ou.v, Ou.cs, Ou.zero]) rfl ⟨by rw [HRO.out]; rfl, Below.set8 N4.out (Nat.le_refl _) _ _ _ _ _ _ _ _⟩

set_option maxRecDepth 100000 in
set_option maxHeartbeats 4000000 in
theorem rread_reply_short (s : ByteArray) (w : World) (hs : s.size ≤ 300) (ws : List (List UInt8)) (a0 : List UInt8) (hws : wordsL s.data.toList = ws) (h0 : ws[0]? = some a0) (hwl : ∀ x ∈ ws, x.length ≤ 300) (hlen : ws.length ≤ 301) (ha : a0 = sReply) (hl : ¬ 1 < ws.length) :
    Calls Tryd.prog 14 #[.string s] w fun e w' => e = .returned (readV (readR s.data.toList)) ∧ Below w.heap.size w w' := by
  have HF : firstW ws = a0 := by
    cases ws with
    | nil => simp at h0
    | cons a r => injection h0
  have t0 : (a0 == [112, 97, 99, 107, 101, 116]) = false := by rw [ha]; decide
  have t1 : (a0 == [115, 101, 110, 116]) = false := by rw [ha]; decide
  have t2 : (a0 == [116, 105, 109, 101]) = false := by rw [ha]; decide
  have t3 : (a0 == [114, 101, 112, 108, 121]) = true := by rw [ha]; decide
  have t4 : (a0 == [110, 111, 110, 101]) = false := by rw [ha]; decide
  have l1 : ¬ (1 : Int) < (ws.length : Int) := by omega
  have l2 : decide (1 < ws.length) = false := decide_eq_false hl
  have hx : refO ws = Ou.zero := by rw [refO, HF, if_neg (by rw [ha]; decide), if_neg (by rw [ha]; decide), if_neg (by rw [ha]; decide), if_pos ha, if_neg hl]
  have HOK := Lib.hid (hx ▸ ref_ok ws)
  have HRZ := Lib.hid (hx ▸ ref_reply ws hwl)
  have hrr : readR s.data.toList = checkO Ou.zero s.data.toList := by unfold readR; rw [hws, hx]
  generalize readR s.data.toList = R at *
  have HRR := Lib.hid hrr
  have HWS := Lib.hid (fun W => words_any s W (by omega))
  rw [hws] at HWS
  have H0 := Lib.hid h0
  have HWL := Lib.hid hwl
  have hne' : (0 : Int) < (ws.length : Int) := by have := (List.getElem?_eq_some_iff.1 h0).1; omega
  have hln : (ws.length : Int) ≤ 301 := by omega
  clear HF h0 hwl hlen hws hx hrr ha hl
  go_enter Tryd.func14, Tryd.ntmps14
  go_wp2_with fail
  refine (HWS.out _).mono ?_
  rintro e w1 ⟨v, rfl, hv, hb⟩
  obtain ⟨A, c, rfl, _⟩ := hv.form
  obtain ⟨B, O, rfl, hB, q0⟩ := hv.at1 H0.out rfl
  have BR : Blk w1 w.heap.size 23 Ou.zero.cs := (Blk.new w 23 Ou.zero.cs).kept (F := none_) (Kept.below hb rfl) (fun h => h)
  have hbw : Below w.heap.size w w1 := ((Below.refl _ _).alloc (Nat.le_refl _) _).trans (hb.mono (by simp))
  have HM := Lib.hid (start_mem BR hv hbw Ou.zero)
  clear hv hb BR q0 hB hbw HWS
  have hHM := HM.out (w1.alloc (.cells Ou.zero.cs 23)) rfl
  have HST : Hid (Rst w (w1.alloc (.cells #[.int .i64 0, .int .i64 0, .int .i64 0, .int .i64 0, .int .i64 0, .int .i64 0, .int .i64 0, .string ⟨#[]⟩] 23)) w1.heap.size (.slice (some ⟨B, O, none⟩) ws.length c) ws Ou.zero) := Lib.hid ⟨hHM.1, hHM.2.1, hHM.2.2.1, hHM.2.2.2.1, hHM.2.2.2.2.1⟩
  clear hHM HM
  obtain ⟨qa, hBl⟩ := wd_at HST.out.2.2.1 H0.out
  simp only [Nat.add_zero] at qa hBl
  go_wp2_with fail
  generalize World.alloc w1 _ = W2 at *
  generalize w1.heap.size = G at *
  clear qa hBl
  refine (line_rst (o := Ou.zero) HST.out HOK.out HRZ.out).mono ?_
  rintro e w6 ⟨rfl, hst⟩
  have HST := Lib.hid hst
  clear hst
  obtain ⟨z0, z1, z2, z3, z4, z5, z6, z7⟩ := ou_cells HST.out.2.1
  simp only [Ou.zero] at z0 z1 z2 z3 z4 z5 z6 z7
  have fz := HST.out.2.1.frozen
  have ltz := HST.out.2.1.lt
  have N4 := Lib.hid HST.out.2.2.2.1
  by_cases heq : outL Ou.zero = s.data.toList
  · have t5 := eq_list heq
    have hRo : R = some Ou.zero := by rw [HRR.out]; unfold checkO; rw [if_pos heq]
    have HRO := Lib.hid hRo
    have fr := HST.out.1.frozen
    have lt := HST.out.1.lt
    obtain ⟨e0, e1, e2, e3, e4, e5, e6, e7⟩ := ou_cells HST.out.1
    simp only [Ou.zero] at e0 e1 e2 e3 e4 e5 e6 e7
    clear heq hRo
    go_wp2_with fail
    exact bodyPost_ret (v := .tuple #[Ou.zero.v, .bool true]) (by simp [results, Tryd.results14, go_sem, ltz, z0, z1, z2, z3, z4, z5, z6, z7, Ou.v, Ou.cs, Ou.zero]) rfl ⟨by rw [HRO.out]; rfl, Below.set8 N4.out (Nat.le_refl _) _ _ _ _ _ _ _ _⟩
  · have t5 := ne_list heq
    have hRo : R = none := by rw [HRR.out]; unfold checkO; rw [if_neg heq]
    have HRO := Lib.hid hRo
    clear heq hRo
    go_wp2_with fail
    exact bodyPost_ret (v := .tuple #[Ou.zero.v, .bool false]) (by simp [results, Tryd.results14, go_sem, ltz, z0, z1, z2, z3, z4, z5, z6, z7, Ou.v, Ou.cs, Ou.zero]) rfl ⟨by rw [HRO.out]; rfl, Below.set8 N4.out (Nat.le_refl _) _ _ _ _ _ _ _ _⟩

set_option maxRecDepth 100000 in
set_option maxHeartbeats 4000000 in
theorem rread_reply_long (s : ByteArray) (w : World) (hs : s.size ≤ 300) (ws : List (List UInt8)) (a0 : List UInt8) (hws : wordsL s.data.toList = ws) (h0 : ws[0]? = some a0) (hwl : ∀ x ∈ ws, x.length ≤ 300) (hlen : ws.length ≤ 301) (ha : a0 = sReply) (hl : 1 < ws.length) :
    Calls Tryd.prog 14 #[.string s] w fun e w' => e = .returned (readV (readR s.data.toList)) ∧ Below w.heap.size w w' := by
  have HF : firstW ws = a0 := by
    cases ws with
    | nil => simp at h0
    | cons a r => injection h0
  have t0 : (a0 == [112, 97, 99, 107, 101, 116]) = false := by rw [ha]; decide
  have t1 : (a0 == [115, 101, 110, 116]) = false := by rw [ha]; decide
  have t2 : (a0 == [116, 105, 109, 101]) = false := by rw [ha]; decide
  have t3 : (a0 == [114, 101, 112, 108, 121]) = true := by rw [ha]; decide
  have t4 : (a0 == [110, 111, 110, 101]) = false := by rw [ha]; decide
  obtain ⟨b, hb⟩ : ∃ b, ws[1]? = some b := ⟨ws[1], List.getElem?_eq_getElem hl⟩
  have hbz : b.length ≤ 300 := hwl b (List.mem_of_getElem? hb)
  have hbd : ws.getD 1 [] = b := by rw [List.getD_eq_getElem?_getD, hb]; rfl
  have HBB := Lib.hid hb
  have l1 : (1 : Int) < (ws.length : Int) := by omega
  have l2 : decide (1 < ws.length) = true := decide_eq_true hl
  have hx : refO ws = ⟨4, 0, 0, 0, 0, atW ws 3, 0, unhG b⟩ := by rw [refO, HF, if_neg (by rw [ha]; decide), if_neg (by rw [ha]; decide), if_neg (by rw [ha]; decide), if_pos ha, if_pos hl, hbd]
  have HOK := Lib.hid (hx ▸ ref_ok ws)
  have HRZ := Lib.hid (hx ▸ ref_reply ws hwl)
  have hrr : readR s.data.toList = checkO (⟨4, 0, 0, 0, 0, atW ws 3, 0, unhG b⟩ : Ou) s.data.toList := by unfold readR; rw [hws, hx]
  generalize readR s.data.toList = R at *
  have HRR := Lib.hid hrr
  have HWS := Lib.hid (fun W => words_any s W (by omega))
  rw [hws] at HWS
  have H0 := Lib.hid h0
  have HWL := Lib.hid hwl
  have hne' : (0 : Int) < (ws.length : Int) := by have := (List.getElem?_eq_some_iff.1 h0).1; omega
  have hln : (ws.length : Int) ≤ 301 := by omega
  clear HF h0 hwl hlen hws hx hrr ha hl hb hbd
  go_enter Tryd.func14, Tryd.ntmps14
  go_wp2_with fail
  refine (HWS.out _).mono ?_
  rintro e w1 ⟨v, rfl, hv, hb⟩
  obtain ⟨A, c, rfl, _⟩ := hv.form
  obtain ⟨B, O, rfl, hB, q0⟩ := hv.at1 H0.out rfl
  have BR : Blk w1 w.heap.size 23 Ou.zero.cs := (Blk.new w 23 Ou.zero.cs).kept (F := none_) (Kept.below hb rfl) (fun h => h)
  have hbw : Below w.heap.size w w1 := ((Below.refl _ _).alloc (Nat.le_refl _) _).trans (hb.mono (by simp))
  have HM := Lib.hid (start_mem BR hv hbw Ou.zero)
  clear hv hb BR q0 hB hbw HWS
  have hHM := HM.out (w1.alloc (.cells Ou.zero.cs 23)) rfl
  have HST : Hid (Rst w (w1.alloc (.cells #[.int .i64 0, .int .i64 0, .int .i64 0, .int .i64 0, .int .i64 0, .int .i64 0, .int .i64 0, .string ⟨#[]⟩] 23)) w1.heap.size (.slice (some ⟨B, O, none⟩) ws.length c) ws Ou.zero) := Lib.hid ⟨hHM.1, hHM.2.1, hHM.2.2.1, hHM.2.2.2.1, hHM.2.2.2.2.1⟩
  clear hHM HM
  obtain ⟨qa, hBl⟩ := wd_at HST.out.2.2.1 H0.out
  simp only [Nat.add_zero] at qa hBl
  have hqb := (wd_at HST.out.2.2.1 HBB.out).1
  go_wp2_with fail
  generalize World.alloc w1 _ = W2 at *
  generalize w1.heap.size = G at *
  refine (unhex_rst HST.out b hbz).mono ?_
  rintro e w0 ⟨rfl, hst⟩
  have HST := Lib.hid hst
  clear hst qa hBl hqb
  generalize (unhx b).isSome = uq at *
  go_wp2_with fail
  refine (at_rst HST.out HWL.out 3 (by decide)).mono ?_
  rintro e w3 ⟨rfl, hst⟩
  have HST := Lib.hid hst
  clear hst
  have fr := HST.out.1.frozen
  have lt := HST.out.1.lt
  obtain ⟨e0, e1, e2, e3, e4, e5, e6, e7⟩ := ou_cells HST.out.1
  simp only [Ou.zero] at e0 e1 e2 e3 e4 e5 e6 e7
  obtain ⟨qa, hBl⟩ := wd_at HST.out.2.2.1 H0.out
  simp only [Nat.add_zero] at qa
  have hBG := wd_ne HST.out.2.2.1 H0.out HST.out.1
  go_wp2_with fail
  generalize hW : World.setCell _ _ _ = W5
  have hst : Rst w W5 G (.slice (some ⟨B, O, none⟩) ws.length c) ws ⟨4, 0, 0, 0, 0, atW ws 3, 0, unhG b⟩ := by rw [← hW]; exact Rst.set8 HST.out ⟨4, 0, 0, 0, 0, atW ws 3, 0, unhG b⟩
  have HST := Lib.hid hst
  clear hst hW qa hBl hBG fr lt e0 e1 e2 e3 e4 e5 e6 e7
  refine (line_rst (o := ⟨4, 0, 0, 0, 0, atW ws 3, 0, unhG b⟩) HST.out HOK.out HRZ.out).mono ?_
  rintro e w6 ⟨rfl, hst⟩
  have HST := Lib.hid hst
  clear hst
  obtain ⟨z0, z1, z2, z3, z4, z5, z6, z7⟩ := ou_cells HST.out.2.1
  simp only [Ou.zero] at z0 z1 z2 z3 z4 z5 z6 z7
  have fz := HST.out.2.1.frozen
  have ltz := HST.out.2.1.lt
  have N4 := Lib.hid HST.out.2.2.2.1
  by_cases heq : outL (⟨4, 0, 0, 0, 0, atW ws 3, 0, unhG b⟩ : Ou) = s.data.toList
  · have t5 := eq_list heq
    have hRo : R = some (⟨4, 0, 0, 0, 0, atW ws 3, 0, unhG b⟩ : Ou) := by rw [HRR.out]; unfold checkO; rw [if_pos heq]
    have HRO := Lib.hid hRo
    have fr := HST.out.1.frozen
    have lt := HST.out.1.lt
    obtain ⟨e0, e1, e2, e3, e4, e5, e6, e7⟩ := ou_cells HST.out.1
    dsimp only at e0 e1 e2 e3 e4 e5 e6 e7
    clear heq hRo
    go_wp2_with fail
    exact bodyPost_ret (v := .tuple #[(⟨4, 0, 0, 0, 0, atW ws 3, 0, unhG b⟩ : Ou).v, .bool true]) (by simp [results, Tryd.results14, go_sem, ltz, z0, z1, z2, z3, z4, z5, z6, z7, Ou.v, Ou.cs, Ou.zero]) rfl ⟨by rw [HRO.out]; rfl, Below.set8 N4.out (Nat.le_refl _) _ _ _ _ _ _ _ _⟩
  · have t5 := ne_list heq
    have hRo : R = none := by rw [HRR.out]; unfold checkO; rw [if_neg heq]
    have HRO := Lib.hid hRo
    clear heq hRo
    go_wp2_with fail
    exact bodyPost_ret (v := .tuple #[Ou.zero.v, .bool false]) (by simp [results, Tryd.results14, go_sem, ltz, z0, z1, z2, z3, z4, z5, z6, z7, Ou.v, Ou.cs, Ou.zero]) rfl ⟨by rw [HRO.out]; rfl, Below.set8 N4.out (Nat.le_refl _) _ _ _ _ _ _ _ _⟩

theorem rread_any (s : ByteArray) (w : World) (hs : s.size ≤ 300) :
    Calls Tryd.prog 14 #[.string s] w fun e w' => e = .returned (readV (readR s.data.toList)) ∧ Below w.heap.size w w' := by
  have hl : s.data.toList.length = s.size := by simp
  have hwl : ∀ x ∈ wordsL s.data.toList, x.length ≤ 300 := fun x hx => by
    have := word_len s.data.toList x hx
    omega
  have hlen : (wordsL s.data.toList).length ≤ 301 := by
    have := words_len' s.data.toList
    omega
  have hne : 0 < (wordsL s.data.toList).length := List.length_pos_iff.2 (words_ne _)
  obtain ⟨a0, h0⟩ : ∃ a0, (wordsL s.data.toList)[0]? = some a0 := ⟨_, List.getElem?_eq_getElem hne⟩
  by_cases n0 : a0 = sPacket
  · exact rread_packet s w hs _ a0 rfl h0 hwl hlen n0
  by_cases n1 : a0 = sSent
  · exact rread_sent s w hs _ a0 rfl h0 hwl hlen n1
  by_cases n2 : a0 = sTime
  · exact rread_time s w hs _ a0 rfl h0 hwl hlen n2
  by_cases n3 : a0 = sReply
  · by_cases hl : 1 < (wordsL s.data.toList).length
    · exact rread_reply_long s w hs _ a0 rfl h0 hwl hlen n3 hl
    · exact rread_reply_short s w hs _ a0 rfl h0 hwl hlen n3 hl
  by_cases n4 : a0 = sNone
  · exact rread_none2 s w hs _ a0 rfl h0 hwl hlen n4
  · exact rread_other s w hs _ a0 rfl h0 hwl hlen n0 n1 n2 n3 n4
end Go.Proofs.YtkfkkihdlkhbnaaDoor.Str
