/- report.Number and the reference's Number. -/
import Derived.Test.YtkfkkihdlkhbnaaDoorNumLaw
import Derived.Test.YtkfkkihdlkhbnaaDoorLine
import Derived.Test.YtkfkkihdlkhbnaaDoorShelfR
import Derived.Lib.AtoiErrMem
namespace Go.Proofs.YtkfkkihdlkhbnaaDoor.Str
open Go.RowKit

/-- What the library's variables hold, for Read. -/
structure RTabs (w : World) : Prop where
  t : Tabs w
  syn : ∃ te pe, w.cell? ⟨2, 0, none⟩ = some (.iface te pe)
  rng : ∃ te pe, w.cell? ⟨3, 0, none⟩ = some (.iface te pe)
  max : ∃ m, w.cell? ⟨4, 0, none⟩ = some (.int .i64 m)
theorem RTabs.below {w w' : World} (h : RTabs w) (hb : Below w.heap.size w w') : RTabs w' := by
  obtain ⟨h1, ⟨te, pe, h2⟩, ⟨te', pe', h3⟩, ⟨m, h4⟩⟩ := h
  exact ⟨h1.below hb, ⟨te, pe, (hb.cell (p := ⟨2, 0, none⟩) (World.block_lt_of_cell? w _ h2)).trans h2⟩, ⟨te', pe', (hb.cell (p := ⟨3, 0, none⟩) (World.block_lt_of_cell? w _ h3)).trans h3⟩, ⟨m, (hb.cell (p := ⟨4, 0, none⟩) (World.block_lt_of_cell? w _ h4)).trans h4⟩⟩

def numV (o : Option Int) : Value := .tuple #[.int .i64 (o.getD 0), .bool o.isSome]

theorem eq_list {s : ByteArray} {l : List UInt8} (h : l = s.data.toList) : (l == s.toList) = true := by rw [Lib.toList_data, h]; simp
theorem ne_list {s : ByteArray} {l : List UInt8} (h : l ≠ s.data.toList) : (l == s.toList) = false := by rw [Lib.toList_data]; simpa using h

set_option maxRecDepth 100000 in
set_option maxHeartbeats 1000000 in
theorem number_ok (s : ByteArray) (v : Int) (w : World) (hs : s.size ≤ 4096) (h : Lib.atoiAll s.data.toList = .ok v) (hT : Tabs w) :
    Calls Tryd.prog 17 #[.string s] w fun e w' => e = .returned (numV (num s.data.toList)) ∧ Below w.heap.size w w' := by
  have C := Lib.hid (Tryd.strconv_Atoi_ok s (by omega) v h w)
  have HT := Lib.hid hT
  have HI := Lib.hid (atoi_range h)
  by_cases he : Lib.itoa v = s.data.toList
  case' pos =>
    have hn : num s.data.toList = some v := by rw [num_ok h, if_pos he]
    have t1 := eq_list he
  case' neg =>
    have hn : num s.data.toList = none := by rw [num_ok h, if_neg he]
    have t1 := ne_list he
  all_goals
    have HN := Lib.hid hn
    clear h he hs hT hn
    go_enter Tryd.func17, Tryd.ntmps17
    go_wp2_with fail
    refine C.out.mono ?_
    rintro e w1 ⟨rfl, hw⟩
    have hb1 : Below w.heap.size w w1 := by
      rcases hw with rfl | ⟨t, rfl⟩
      · exact Below.refl _ _
      · exact Lib.bytesWorld_below w 5 t
    have HB1 := Lib.hid hb1
    clear hb1 hw C
    go_wp2_with fail
    refine (itoa_any v HI.out w1 (HT.out.below HB1.out)).mono ?_
    rintro e w2 ⟨rfl, hb2⟩
    have HB2 := Lib.hid hb2
    clear hb2
    go_wp2_with fail
    go_ret2
    exact ⟨by rw [HN.out]; rfl, HB1.out.trans (HB2.out.mono HB1.out.size)⟩
set_option maxRecDepth 100000 in
set_option maxHeartbeats 1000000 in
theorem number_err (s : ByteArray) (w : World) (n : Int) (hn : num s.data.toList = none)
    (hC : Calls Tryd.prog 31 #[.string s] w fun e w' => ∃ N, e = .returned (.tuple #[.int .i64 n, .iface 83 (.pointer (some ⟨N, 0, none⟩))]) ∧ Below w.heap.size w w') :
    Calls Tryd.prog 17 #[.string s] w fun e w' => e = .returned (numV (num s.data.toList)) ∧ Below w.heap.size w w' := by
  have C := Lib.hid hC
  rw [hn]
  clear hn hC
  go_enter Tryd.func17, Tryd.ntmps17
  go_wp2_with fail
  refine C.out.mono ?_
  rintro e w1 ⟨N, rfl, hb⟩
  have HB := Lib.hid hb
  clear hb C
  go_wp2_with fail
  go_ret2
  exact ⟨rfl, HB.out⟩
theorem number_any (s : ByteArray) (w : World) (hs : s.size ≤ 4096) (hT : RTabs w) :
    Calls Tryd.prog 17 #[.string s] w fun e w' => e = .returned (numV (num s.data.toList)) ∧ Below w.heap.size w w' := by
  cases h : Lib.atoiAll s.data.toList with
  | ok v => exact number_ok s v w hs h hT.t
  | range =>
    obtain ⟨te, pe, hv⟩ := hT.rng
    exact number_err s w _ (num_bad (fun v => by rw [h]; intro e; cases e)) ((Tryd.strconv_Atoi_range s (by omega) h _ w hv (.inr ⟨te, pe, rfl⟩)).mono fun e w' ⟨N, he, _, _, hb⟩ => ⟨N, he, hb⟩)
  | _ =>
    obtain ⟨te, pe, hv⟩ := hT.syn
    exact number_err s w _ (num_bad (fun v => by rw [h]; intro e; cases e)) ((Tryd.strconv_Atoi_bad s (by omega) (fun v e => by rw [h] at e; cases e) (fun e => by rw [h] at e; cases e) _ w hv (.inr ⟨te, pe, rfl⟩)).mono fun e w' ⟨N, he, _, _, hb⟩ => ⟨N, he, hb⟩)

/-- The reference's loop. -/
def rmid (l : List UInt8) (k : Nat) : Int := rfold (l.take k)
set_option maxRecDepth 100000 in
set_option maxHeartbeats 2000000 in
theorem rnumber_any (s : ByteArray) (w : World) (hs : s.size ≤ 4096) :
    Calls Tryd.prog 18 #[.string s] w fun e w' => e = .returned (numV (num s.data.toList)) ∧ Below w.heap.size w w' := by
  have hlen : s.data.toList.length = s.size := by simp
  have HL := Lib.hid hlen
  clear hlen
  go_enter Tryd.func18, Tryd.ntmps18
  go_wp2_with fail
  go_loopg [4, 5] s.size (fun m n i wr => ∃ k : Nat, m + k = s.size ∧ i = .int .i64 k ∧ n = .int .u64 (rfold (s.data.toList.take k)) ∧ w = wr ∧ (k = 0 ∨ s.size ≤ 20))
  case atStart => exact ⟨0, by omega, rfl, rfl, rfl, .inl rfl⟩
  case round =>
    obtain ⟨k, hm, rfl, rfl, rfl, hk20⟩ := hrel
    by_cases hlt : k < s.size ∧ s.size ≤ 20
    · obtain ⟨hlt, h20⟩ := hlt
      have hts : rfold (s.data.toList.take (k + 1)) = rstep (rfold (s.data.toList.take k)) s[k] := by rw [take_snoc s k hlt, rfold_snoc]
      have HTS := Lib.hid hts
      have t20 : decide ((s.size : Int) ≤ 20) = true := by simp; omega
      clear hts hk20
      generalize rfold (s.data.toList.take k) = n at *
      have b0 : (0 : Int) ≤ (s[k].toNat : Int) := by omega
      have b1 : (s[k].toNat : Int) ≤ 255 := by have := s[k].toNat_lt; omega
      by_cases hd : 48 ≤ s[k].toNat ∧ s[k].toNat ≤ 57
      · have d1 : 48 ≤ (s[k].toNat : Int) := by omega
        have d2 : (s[k].toNat : Int) ≤ 57 := by omega
        have HD : Hid (rstep n s[k] = IntKind.u64.wrap (IntKind.u64.wrap (10 * n) + ((s[k].toNat : Int) - 48))) := Lib.hid (by unfold rstep; rw [if_pos hd])
        clear hd
        go_wp2_with fail
        go_roundg (gk - 1)
        case measure => omega
        case rel => exact ⟨k + 1, by omega, by go_num, by rw [HTS.out, HD.out], rfl, .inr h20⟩
      · have HD : Hid (rstep n s[k] = n) := Lib.hid (by unfold rstep; rw [if_neg hd])
        by_cases hd1 : s[k].toNat < 48
        · have d1 : (s[k].toNat : Int) < 48 := by omega
          clear hd hd1
          go_wp2_with fail
          go_roundg (gk - 1)
          case measure => omega
          case rel => exact ⟨k + 1, by omega, by go_num, by rw [HTS.out, HD.out], rfl, .inr h20⟩
        · have d1 : 48 ≤ (s[k].toNat : Int) := by omega
          have d2 : 57 < (s[k].toNat : Int) := by omega
          clear hd hd1
          go_wp2_with fail
          go_roundg (gk - 1)
          case measure => omega
          case rel => exact ⟨k + 1, by omega, by go_num, by rw [HTS.out, HD.out], rfl, .inr h20⟩
    · have hrn : rfold (s.data.toList.take k) = rnum s.data.toList := by
        unfold rnum
        by_cases h20 : s.size ≤ 20
        · rw [if_pos (by rw [HL.out]; exact h20), List.take_of_length_le (by rw [HL.out]; omega)]
        · have : k = 0 := by omega
          subst this
          rw [if_neg (by rw [HL.out]; exact h20)]
          rfl
      rw [hrn]
      have HX := Lib.hid (rx_i64 s.data.toList)
      have hnum : num s.data.toList = if Lib.itoa (rx s.data.toList) = s.data.toList then some (rx s.data.toList) else none := rfl
      have t9 : decide (k < s.size) = false ∨ (decide (k < s.size) = true ∧ decide ((s.size : Int) ≤ 20) = false) := by
        by_cases hk : k < s.size
        · exact .inr ⟨by simpa using hk, by simp; omega⟩
        · exact .inl (by simpa using hk)
      have hrx : rx s.data.toList = if s.data.toList.head? = some 45 then wrap64 (-(wrap64 (rnum s.data.toList))) else wrap64 (rnum s.data.toList) := rfl
      clear hrn hk20
      have hhead : (s.size = 0 ∧ s.data.toList.head? = none) ∨ ∃ h : 0 < s.size, s.data.toList.head? = some s[0] := by
        by_cases h0 : s.size = 0
        · exact .inl ⟨h0, by rw [List.eq_nil_of_length_eq_zero (l := s.data.toList) (by rw [HL.out]; exact h0)]; rfl⟩
        · refine .inr ⟨by omega, ?_⟩
          rw [List.head?_eq_getElem?, List.getElem?_eq_getElem (by rw [HL.out]; omega)]
          rfl
      clear hlt
      rcases hhead with ⟨h0, hh⟩ | ⟨h0, hh⟩
      · have t1 : decide (0 < s.size) = false := by rw [h0]; rfl
        rw [hh, if_neg (by simp)] at hrx
        rw [hrx] at hnum
        clear hh h0
        by_cases he : Lib.itoa (wrap64 (rnum s.data.toList)) = s.data.toList
        case' pos =>
          have tE := eq_list he
          rw [if_pos he] at hnum
        case' neg =>
          have tE := ne_list he
          rw [if_neg he] at hnum
        all_goals
          have HV := Lib.hid hnum
          have hI := wrap64_i64 (rnum s.data.toList)
          clear he hnum hrx
          generalize rnum s.data.toList = n at *
          rcases t9 with t9 | ⟨t9, t9'⟩
          all_goals
            go_wp2_with fail
            refine (int_any _ hI _).mono ?_
            rintro e w1 ⟨rfl, hb⟩
            have HB := Lib.hid hb
            clear hb
            go_wp2_with fail
            go_ret2
            exact ⟨by rw [HV.out]; rfl, HB.out⟩
      · have t1 : decide (0 < s.size) = true := by simpa using h0
        have t1' : (0 : Int) < (s.size : Int) := by omega
        by_cases h45 : s[0] = 45
        · have t2 : ((s[0].toNat : Int) == 45) = true := by rw [h45]; rfl
          have t2' : (s[0] == 45) = true := by rw [h45]; rfl
          have t2'' : (s[0].toNat == 45) = true := by rw [h45]; rfl
          rw [hh, if_pos (by rw [h45])] at hrx
          rw [hrx] at hnum
          clear hh
          by_cases he : Lib.itoa (wrap64 (-(wrap64 (rnum s.data.toList)))) = s.data.toList
          case' pos =>
            have tE := eq_list he
            rw [if_pos he] at hnum
          case' neg =>
            have tE := ne_list he
            rw [if_neg he] at hnum
          all_goals
            have HV := Lib.hid hnum
            have hI := wrap64_i64 (-(wrap64 (rnum s.data.toList)))
            clear he hnum hrx h45
            generalize rnum s.data.toList = n at *
            rcases t9 with t9 | ⟨t9, t9'⟩
            all_goals
              go_wp2_with fail
              refine (int_any _ hI _).mono ?_
              rintro e w1 ⟨rfl, hb⟩
              have HB := Lib.hid hb
              clear hb
              go_wp2_with fail
              go_ret2
              exact ⟨by rw [HV.out]; rfl, HB.out⟩
        · have t2 : ((s[0].toNat : Int) == 45) = false := by
            have : s[0].toNat ≠ 45 := fun h => h45 (UInt8.toNat_inj.1 h)
            simp
            omega
          have t2' : (s[0] == 45) = false := by simpa using h45
          have t2'' : (s[0].toNat == 45) = false := by
            have : s[0].toNat ≠ 45 := fun h => h45 (UInt8.toNat_inj.1 h)
            simpa using this
          rw [hh, if_neg (fun h => h45 (by injection h))] at hrx
          rw [hrx] at hnum
          clear hh
          by_cases he : Lib.itoa (wrap64 (rnum s.data.toList)) = s.data.toList
          case' pos =>
            have tE := eq_list he
            rw [if_pos he] at hnum
          case' neg =>
            have tE := ne_list he
            rw [if_neg he] at hnum
          all_goals
            have HV := Lib.hid hnum
            have hI := wrap64_i64 (rnum s.data.toList)
            clear he hnum hrx h45
            generalize rnum s.data.toList = n at *
            rcases t9 with t9 | ⟨t9, t9'⟩
            all_goals
              go_wp2_with fail
              refine (int_any _ hI _).mono ?_
              rintro e w1 ⟨rfl, hb⟩
              have HB := Lib.hid hb
              clear hb
              go_wp2_with fail
              go_ret2
              exact ⟨by rw [HV.out]; rfl, HB.out⟩
end Go.Proofs.YtkfkkihdlkhbnaaDoor.Str
