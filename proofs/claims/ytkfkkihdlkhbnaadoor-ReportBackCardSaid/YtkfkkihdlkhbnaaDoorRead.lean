/- The walk of report.Read. -/
import Derived.Test.YtkfkkihdlkhbnaaDoorSet8
namespace Go.Proofs.YtkfkkihdlkhbnaaDoor.Str
open Go.RowKit

theorem start_mem {w w1 : World} {v : Value} {ws : List (List UInt8)} (BR : Blk w1 w.heap.size 23 Ou.zero.cs) (hv : Wd w1 v ws) (hb : Below w.heap.size w w1) (o : Ou) :
    ∀ W2, W2 = w1.alloc (.cells o.cs 23) → Blk W2 w1.heap.size 23 o.cs ∧ Blk W2 w.heap.size 23 Ou.zero.cs ∧ Wd W2 v ws ∧ Below w.heap.size w W2 ∧ w.heap.size < w1.heap.size ∧ w1.heap.size < W2.heap.size := by
  rintro W2 rfl
  have hlt := BR.lt
  have hB := Blk.new w1 23 o.cs
  exact ⟨hB, BR.alloc _, hv.alloc _, hb.trans (((Below.refl _ _).alloc (Nat.le_refl _) _).mono (by omega)), hlt, hB.lt⟩

theorem below_kept {a w w' : World} {G : Nat} (h : Below a.heap.size a w) (hk : Kept (· = G) w w') (hG : a.heap.size ≤ G) : Below a.heap.size a w' :=
  ⟨hk.os.trans h.os, hk.tape.trans h.tape, hk.output.trans h.output, Nat.le_trans h.size hk.size, fun i hi => (hk.block i (Nat.lt_of_lt_of_le hi h.size) (by intro e; omega)).trans (h.block i hi)⟩

/-- The loop's state, p words consumed. -/
def ReadR (w : World) (G : Nat) (v : Value) (ws : List (List UInt8)) (m : Nat) (i : Value) (wr : World) : Prop :=
  ∃ (p : Nat) (o : Ou), p + 2 * m = ws.length ∧ i = .int .i64 p ∧ Blk wr G 23 o.cs ∧ Blk wr w.heap.size 23 Ou.zero.cs ∧ Wd wr v ws ∧ Below w.heap.size w wr ∧ o.Ok ∧ o.reply.size ≤ 1000 ∧ foldP ws (startO ws) = foldP (ws.drop p) o

set_option maxRecDepth 100000 in
set_option maxHeartbeats 4000000 in
theorem read_odd (s : ByteArray) (w : World) (hs : s.size ≤ 1000) (hT : RTabs w) (hodd : ¬ (wordsL s.data.toList).length % 2 = 0) :
    Calls Tryd.prog 13 #[.string s] w fun e w' => e = .returned (readV (readP s.data.toList)) ∧ Below w.heap.size w w' := by
  have HT := Lib.hid hT
  clear hT
  have HS := Lib.hid (fun W (h : RTabs W) => split_any s W (by omega) h)
  have hR : readP s.data.toList = none := by unfold readP; rw [if_neg hodd]
  rw [hR]
  clear hR
  have t0 : (((wordsL s.data.toList).length : Int) % 2 != 0) = true := by simp; omega
  generalize hws : wordsL s.data.toList = ws at *
  clear hodd
  go_enter Tryd.func13, Tryd.ntmps13
  go_wp2_with fail
  have hTA : RTabs (w.alloc (.cells Ou.zero.cs 23)) := HT.out.below ((Below.refl _ _).alloc (Nat.le_refl _) _)
  refine (HS.out _ hTA).mono ?_
  rintro e w1 ⟨v, rfl, hv, hb⟩
  obtain ⟨A, c, rfl, _⟩ := hv.form
  have BR : Blk w1 w.heap.size 23 Ou.zero.cs := (Blk.new w 23 Ou.zero.cs).kept (F := none_) (Kept.below hb rfl) (fun h => h)
  have HBW : Hid (Below w.heap.size w w1) := Lib.hid (((Below.refl _ _).alloc (Nat.le_refl _) _).trans (hb.mono (by simp)))
  have fr := BR.frozen
  have lt := BR.lt
  obtain ⟨e0, e1, e2, e3, e4, e5, e6, e7⟩ := ou_cells BR
  simp only [Ou.zero] at e0 e1 e2 e3 e4 e5 e6 e7
  clear hv hb hTA HT HS BR
  go_wp2_with fail
  exact bodyPost_ret (v := .tuple #[Ou.zero.v, .bool false]) (by simp [results, Tryd.results13, go_sem, lt, e0, e1, e2, e3, e4, e5, e6, e7, Ou.v, Ou.cs, Ou.zero]) rfl ⟨rfl, Below.set8 HBW.out (Nat.le_refl _) _ _ _ _ _ _ _ _⟩

set_option maxRecDepth 100000 in
set_option maxHeartbeats 4000000 in
theorem read_even (s : ByteArray) (w : World) (hs : s.size ≤ 1000) (hT : RTabs w) (heven : (wordsL s.data.toList).length % 2 = 0) :
    Calls Tryd.prog 13 #[.string s] w fun e w' => e = .returned (readV (readP s.data.toList)) ∧ Below w.heap.size w w' := by
  have HT := Lib.hid hT
  clear hT
  have HS := Lib.hid (fun W (h : RTabs W) => split_any s W (by omega) h)
  have t0 : (((wordsL s.data.toList).length : Int) % 2 != 0) = false := by simp; omega
  have HW : Hid (∀ x ∈ wordsL s.data.toList, x.length ≤ 1000) := Lib.hid (fun x hx => by
    have := word_len s.data.toList x hx
    have hl : s.data.toList.length = s.size := by simp
    omega)
  have hlen : (wordsL s.data.toList).length ≤ 1001 := by
    have := words_len' s.data.toList
    have hl : s.data.toList.length = s.size := by simp
    omega
  have hne : 0 < (wordsL s.data.toList).length := List.length_pos_iff.2 (words_ne _)
  have HRN := Lib.hid (fun h => readP_none (l := s.data.toList) (ws := wordsL s.data.toList) rfl heven h)
  have HRS := Lib.hid (fun o h => readP_by (l := s.data.toList) (ws := wordsL s.data.toList) (o := o) rfl heven h)
  have HEV := Lib.hid heven
  generalize hR : readP s.data.toList = R at *
  generalize hws : wordsL s.data.toList = ws at *
  obtain ⟨a0, h0⟩ : ∃ a0, ws[0]? = some a0 := ⟨ws[0], List.getElem?_eq_getElem hne⟩
  have HF : Hid (firstW ws = a0) := Lib.hid (by
    cases ws with
    | nil => simp at hne
    | cons a r => injection h0)
  have H0 := Lib.hid h0
  have HK := Lib.hid (fun W => kind_any ⟨a0.toArray⟩ W)
  simp only [List.toList_toArray] at HK
  have HKI := Lib.hid (kind_i64 a0)
  have hne' : (0 : Int) < (ws.length : Int) := by omega
  have HLEN := Lib.hid hlen
  clear heven h0 hR hws hlen hne
  go_enter Tryd.func13, Tryd.ntmps13
  go_wp2_with fail
  have hTA : RTabs (w.alloc (.cells Ou.zero.cs 23)) := HT.out.below ((Below.refl _ _).alloc (Nat.le_refl _) _)
  refine (HS.out _ hTA).mono ?_
  rintro e w1 ⟨v, rfl, hv, hb⟩
  obtain ⟨A, c, rfl, _⟩ := hv.form
  obtain ⟨B, O, rfl, hB, q0⟩ := hv.at1 H0.out rfl
  have BR : Blk w1 w.heap.size 23 Ou.zero.cs := (Blk.new w 23 Ou.zero.cs).kept (F := none_) (Kept.below hb rfl) (fun h => h)
  have HBW : Hid (Below w.heap.size w w1) := Lib.hid (((Below.refl _ _).alloc (Nat.le_refl _) _).trans (hb.mono (by simp)))
  have HM := Lib.hid (start_mem BR hv HBW.out)
  clear hv hb hTA HS BR
  simp only [Nat.add_zero] at q0
  go_wp2_with fail
  refine (HK.out _).mono ?_
  rintro e _ ⟨rfl, rfl⟩
  have HST : Hid (∀ W2, W2 = w1.alloc (.cells (⟨kindOf a0, 0, 0, 0, 0, 0, 0, ⟨#[]⟩⟩ : Ou).cs 23) →
      Blk W2 w1.heap.size 23 (startO ws).cs ∧ Blk W2 w.heap.size 23 Ou.zero.cs ∧ Wd W2 (.slice (some ⟨B, O, none⟩) ws.length c) ws ∧ Below w.heap.size w W2 ∧ w.heap.size < w1.heap.size ∧ w1.heap.size < W2.heap.size) := Lib.hid (by
    have := HM.out (startO ws)
    unfold startO at this ⊢
    rw [HF.out] at this ⊢
    exact this)
  clear HK HM q0
  generalize kindOf a0 = k at *
  go_wp2_with fail
  generalize hW : World.alloc w1 _ = W2
  obtain ⟨b1, b2, b3, b4, hlt, hlt2⟩ := HST.out W2 hW.symm
  generalize w1.heap.size = G at *
  have HB1 := Lib.hid b1
  have HB2 := Lib.hid b2
  have HB3 := Lib.hid b3
  have HB4 := Lib.hid b4
  clear hW HST b1 b2 b3 b4 HBW HKI hB hlt2
  go_wp2_with fail
  go_loopg [6] (ws.length / 2) (fun m i wr => ReadR w G (.slice (some ⟨B, O, none⟩) ws.length c) ws m i wr)
  case atStart => exact ⟨0, startO ws, by have := HEV.out; omega, rfl, HB1.out, HB2.out, HB3.out, HB4.out, start_ok _, by show (#[] : Array UInt8).size ≤ 1000; simp, rfl⟩
  case round =>
    obtain ⟨p, o, hm, rfl, g1, g2, g3, g4, hok, hrs, hfo⟩ := hrel
    have HG1 := Lib.hid g1
    have HG2 := Lib.hid g2
    have HG3 := Lib.hid g3
    have HG4 := Lib.hid g4
    have HOK := Lib.hid hok
    have HRZ := Lib.hid hrs
    have HFO := Lib.hid hfo
    clear HB1 HB2 HB3 HB4 g1 g2 g3 g4 hok hrs hfo
    by_cases hp : p < ws.length
    · obtain ⟨a, ha⟩ : ∃ a, ws[p]? = some a := ⟨ws[p], List.getElem?_eq_getElem hp⟩
      obtain ⟨b, hb⟩ : ∃ b, ws[p + 1]? = some b := ⟨ws[p + 1]'(by omega), List.getElem?_eq_getElem (by omega)⟩
      have HD := Lib.hid (drop_two ha hb)
      obtain ⟨qa, hBl⟩ := wd_at HG3.out ha
      obtain ⟨qb, _⟩ := wd_at HG3.out hb
      have hbz : b.length ≤ 1000 := HW.out b (List.mem_of_getElem? hb)
      have i0 : (0 : Int) ≤ (p : Int) := by omega
      have i1 : (p : Int) < (ws.length : Int) := by omega
      have i2 : (p : Int) + 1 < (ws.length : Int) := by omega
      have i3 : (p : Int) ≤ 1001 := by have := HLEN.out; omega
      have fr := HG1.out.frozen
      have lt := HG1.out.lt
      obtain ⟨e0, e1, e2, e3, e4, e5, e6, e7⟩ := ou_cells HG1.out
      clear ha hb
      by_cases har : a = sReply
      · have t1 : (a == [114, 101, 112, 108, 121]) = true := by rw [har]; rfl
        have HU := Lib.hid (fun W => unhex_any ⟨b.toArray⟩ (by show b.toArray.size ≤ 4096; rw [List.size_toArray]; omega) W)
        simp only [List.toList_toArray, unhV] at HU
        have HAR := Lib.hid har
        clear har
        go_wp2_with fail
        refine (HU.out _).mono ?_
        rintro e w2 ⟨rfl, hb2⟩
        have kp : Kept none_ wr w2 := Kept.below hb2 rfl
        have n1 := HG1.out.kept (F := none_) kp (fun h => h)
        have n2 := HG2.out.kept (F := none_) kp (fun h => h)
        have n3 := HG3.out.below hb2
        have n4 := HG4.out.trans (hb2.mono HG4.out.size)
        have hR : ReadR w G (.slice (some ⟨B, O, none⟩) ws.length c) ws (gk - 1) (.int .i64 ((p : Int) + 2)) (w2.setCell ⟨G, 7, none⟩ (.string ⟨((unhx b).getD []).toArray⟩)) := by
          refine ⟨p + 2, { o with reply := unhG b }, by omega, by go_num, n1.set_ 7 _, n2.far (by show w.heap.size ≠ G; omega) _, n3.far (p := ⟨G, 7, none⟩) n1 (by decide) _, n4.setCell (p := ⟨G, 7, none⟩) (by show w.heap.size ≤ G; omega) _, ?_, ?_, ?_⟩
          · have h := HOK.out
            exact ⟨h.k, h.s, h.l, h.d, h.r, h.n, h.w⟩
          · have := unhG_size b
            show (unhG b).size ≤ 1000
            omega
          · rw [HFO.out, HD.out, fold_cons, if_pos HAR.out]
        have HR := Lib.hid hR
        obtain ⟨f0, f1, f2, f3, f4, f5, f6, f7⟩ := ou_cells n1
        have fr2 := n1.frozen
        have lt2 := n1.lt
        clear e0 e1 e2 e3 e4 e5 e6 e7 fr lt qa qb hR HU n1 n2 n3 n4 kp hb2
        generalize (unhx b).getD [] = ub at *
        generalize (unhx b).isSome = uq at *
        go_wp2_with fail
        go_roundg (gk - 1)
        case measure => omega
        case rel => exact HR.out
      · have t1 : (a == [114, 101, 112, 108, 121]) = false := by
          rw [beq_eq_false_iff_ne]
          exact har
        have HN := Lib.hid (fun W hT => number_any ⟨b.toArray⟩ W (by show b.toArray.size ≤ 4096; rw [List.size_toArray]; omega) hT)
        simp only [List.toList_toArray, numV] at HN
        have HAR := Lib.hid har
        have HTR := Lib.hid (HT.out.below HG4.out)
        have HHN := Lib.hid (fun (x : Option Int) (h : num b = x) => h)
        clear har
        go_wp2_with fail
        refine (HN.out _ HTR.out).mono ?_
        rintro e w2 ⟨rfl, hb2⟩
        have kp : Kept none_ wr w2 := Kept.below hb2 rfl
        have n1 := HG1.out.kept (F := none_) kp (fun h => h)
        have n2 := HG2.out.kept (F := none_) kp (fun h => h)
        have n3 := HG3.out.below hb2
        have n4 := HG4.out.trans (hb2.mono HG4.out.size)
        have N1 := Lib.hid n1
        have N2 := Lib.hid n2
        have N3 := Lib.hid n3
        have N4 := Lib.hid n4
        obtain ⟨z0, z1, z2, z3, z4, z5, z6, z7⟩ := ou_cells n2
        simp only [Ou.zero] at z0 z1 z2 z3 z4 z5 z6 z7
        have fz := n2.frozen
        have ltz := n2.lt
        have qa2 : w2.cell? ⟨B, O + p, none⟩ = some (.string ⟨a.toArray⟩) := (hb2.cell (p := ⟨B, O + p, none⟩) hBl).trans qa
        have hBl2 : B < w2.heap.size := Nat.lt_of_lt_of_le hBl hb2.size
        clear e0 e1 e2 e3 e4 e5 e6 e7 fr lt qa qb n1 n2 n3 n4 kp hb2 HN HHN HTR
        cases hnb : num b with
        | none =>
          have HRR : Hid (R = none) := Lib.hid (HRN.out (by rw [HFO.out, HD.out, fold_cons, if_neg HAR.out, hnb]))
          clear hnb
          go_wp2_with fail
          exact bodyPost_ret (v := .tuple #[Ou.zero.v, .bool false]) (by simp [results, Tryd.results13, go_sem, ltz, z0, z1, z2, z3, z4, z5, z6, z7, Ou.v, Ou.cs, Ou.zero]) rfl ⟨by rw [HRR.out]; rfl, Below.set8 N4.out (Nat.le_refl _) _ _ _ _ _ _ _ _⟩
        | some n =>
          have HNB := Lib.hid hnb
          have hni := (num_some hnb).2
          have HNI := Lib.hid hni
          have HTO := Lib.hid (told_ou G o a n w2 N1.out)
          clear hnb hni
          simp only [Option.getD_some, Option.isSome_some]
          go_wp2_with fail
          refine HTO.out.mono ?_
          rintro e w3 ⟨rfl, hb3, hk3⟩
          have n2 := N2.out.kept hk3 (by show w.heap.size ≠ G; omega)
          have n3 : Wd w3 (.slice (some ⟨B, O, none⟩) ws.length c) ws := N3.out.kept hk3 (Off.one N1.out (by decide))
          have n4 : Below w.heap.size w w3 := below_kept N4.out hk3 (by omega)
          obtain ⟨z0, z1, z2, z3, z4, z5, z6, z7⟩ := ou_cells n2
          simp only [Ou.zero] at z0 z1 z2 z3 z4 z5 z6 z7
          have fz := n2.frozen
          have ltz := n2.lt
          have M4 := Lib.hid n4
          cases hfa : (fieldOf a).isSome with
          | false =>
            have HRR : Hid (R = none) := Lib.hid (HRN.out (by rw [HFO.out, HD.out, fold_cons, if_neg HAR.out, HNB.out]; simp [hfa]))
            clear hfa HTO N1 N2 N3 N4 hb3 hk3 n2 n3 n4 qa2 hBl2
            go_wp2_with fail
            exact bodyPost_ret (v := .tuple #[Ou.zero.v, .bool false]) (by simp [results, Tryd.results13, go_sem, ltz, z0, z1, z2, z3, z4, z5, z6, z7, Ou.v, Ou.cs, Ou.zero]) rfl ⟨by rw [HRR.out]; rfl, Below.set8 M4.out (Nat.le_refl _) _ _ _ _ _ _ _ _⟩
          | true =>
            have hR : ReadR w G (.slice (some ⟨B, O, none⟩) ws.length c) ws (gk - 1) (.int .i64 ((p : Int) + 2)) w3 := by
              refine ⟨p + 2, toldO o a n, by omega, by go_num, hb3, n2, n3, n4, told_ok HOK.out HNI.out a, ?_, ?_⟩
              · rw [told_reply]; exact HRZ.out
              · rw [HFO.out, HD.out, fold_cons, if_neg HAR.out, HNB.out]
                simp [hfa]
            have HR := Lib.hid hR
            clear hfa HTO N1 N2 N3 N4 hb3 hk3 n2 n3 n4 qa2 hBl2 hR z0 z1 z2 z3 z4 z5 z6 z7 fz ltz
            go_wp2_with fail
            go_roundg (gk - 1)
            case measure => omega
            case rel => exact HR.out
    · obtain rfl : p = ws.length := by omega
      have hfe : foldP ws (startO ws) = some o := by
        rw [HFO.out, List.drop_length]
        rfl
      have HRR : Hid (R = checkO o s.data.toList) := Lib.hid (HRS.out o hfe)
      have fr := HG1.out.frozen
      have lt := HG1.out.lt
      obtain ⟨e0, e1, e2, e3, e4, e5, e6, e7⟩ := ou_cells HG1.out
      have HL := Lib.hid (fun W hT => pline_any o HOK.out (by have := HRZ.out; omega) W hT)
      have HTR := Lib.hid (HT.out.below HG4.out).t
      clear hfe
      go_wp2_with fail
      refine (HL.out _ HTR.out).mono ?_
      rintro e w2 ⟨rfl, hb2⟩
      have kp : Kept none_ wr w2 := Kept.below hb2 rfl
      have n1 := HG1.out.kept (F := none_) kp (fun h => h)
      have n2 := HG2.out.kept (F := none_) kp (fun h => h)
      have n4 := HG4.out.trans (hb2.mono HG4.out.size)
      have N4 := Lib.hid n4
      obtain ⟨z0, z1, z2, z3, z4, z5, z6, z7⟩ := ou_cells n2
      simp only [Ou.zero] at z0 z1 z2 z3 z4 z5 z6 z7
      have fz := n2.frozen
      have ltz := n2.lt
      by_cases heq : outL o = s.data.toList
      · have t2 := eq_list heq
        have hRo : R = some o := by rw [HRR.out]; unfold checkO; rw [if_pos heq]
        have HRO := Lib.hid hRo
        have fr2 := n1.frozen
        have lt2 := n1.lt
        obtain ⟨f0, f1, f2, f3, f4, f5, f6, f7⟩ := ou_cells n1
        clear heq hRo e0 e1 e2 e3 e4 e5 e6 e7 fr lt n1 n2 n4 kp hb2 HL HTR
        go_wp2_with fail
        exact bodyPost_ret (v := .tuple #[o.v, .bool true]) (by simp [results, Tryd.results13, go_sem, ltz, z0, z1, z2, z3, z4, z5, z6, z7, Ou.v, Ou.cs]) rfl ⟨by rw [HRO.out]; rfl, Below.set8 N4.out (Nat.le_refl _) _ _ _ _ _ _ _ _⟩
      · have t2 := ne_list heq
        have hRo : R = none := by rw [HRR.out]; unfold checkO; rw [if_neg heq]
        have HRO := Lib.hid hRo
        clear heq hRo e0 e1 e2 e3 e4 e5 e6 e7 fr lt n1 n2 n4 kp hb2 HL HTR
        go_wp2_with fail
        exact bodyPost_ret (v := .tuple #[Ou.zero.v, .bool false]) (by simp [results, Tryd.results13, go_sem, ltz, z0, z1, z2, z3, z4, z5, z6, z7, Ou.v, Ou.cs, Ou.zero]) rfl ⟨by rw [HRO.out]; rfl, Below.set8 N4.out (Nat.le_refl _) _ _ _ _ _ _ _ _⟩

theorem read_any (s : ByteArray) (w : World) (hs : s.size ≤ 1000) (hT : RTabs w) :
    Calls Tryd.prog 13 #[.string s] w fun e w' => e = .returned (readV (readP s.data.toList)) ∧ Below w.heap.size w w' := by
  by_cases h : (wordsL s.data.toList).length % 2 = 0
  · exact read_even s w hs hT h
  · exact read_odd s w hs hT h
end Go.Proofs.YtkfkkihdlkhbnaaDoor.Str
