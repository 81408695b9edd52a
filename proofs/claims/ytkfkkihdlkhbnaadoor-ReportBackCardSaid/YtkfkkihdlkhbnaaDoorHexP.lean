/- report.Hex. -/
import Derived.Test.YtkfkkihdlkhbnaaDoorHexR
import Derived.Test.YtkfkkihdlkhbnaaDoorShelfW
namespace Go.Proofs.YtkfkkihdlkhbnaaDoor.Str
open Go.RowKit

theorem tab_all : ∀ n : Fin 16, (⟨#[48, 49, 50, 51, 52, 53, 54, 55, 56, 57, 97, 98, 99, 100, 101, 102]⟩ : ByteArray)[n.val]'n.isLt = hexDig n.val := by decide
theorem tab_at (n : Nat) (h : n < 16) (h' : n < (⟨#[48, 49, 50, 51, 52, 53, 54, 55, 56, 57, 97, 98, 99, 100, 101, 102]⟩ : ByteArray).size) : (⟨#[48, 49, 50, 51, 52, 53, 54, 55, 56, 57, 97, 98, 99, 100, 101, 102]⟩ : ByteArray)[n]'h' = hexDig n := tab_all ⟨n, h⟩
theorem bytes2 (l : List UInt8) (a b : UInt8) : Lib.byteCells l ++ [Value.int .u8 (a.toNat : Int)] ++ [Value.int .u8 (b.toNat : Int)] = Lib.byteCells (l ++ [a, b]) := by simp [Lib.byteCells]

set_option maxRecDepth 100000 in
set_option maxHeartbeats 1000000 in
theorem hex_any (s : ByteArray) (hs : s.size ≤ 4096) (w : World) : Calls Tryd.prog 11 #[.string s] w fun e w' => e = .returned (.string ⟨(hex s.data.toList).toArray⟩) ∧ Below w.heap.size w w' := by
  have hlen : s.data.toList.length = s.size := by simp
  by_cases h0 : s.data.toList = []
  · have hh : hex s.data.toList = [45] := by unfold hex; rw [if_pos h0]
    rw [hh]
    have he : s.toList.isEmpty = true := by rw [Lib.toList_data, h0]; rfl
    have he' : s.toList = [] := by rw [Lib.toList_data, h0]
    clear hh hlen hs h0
    go_enter Tryd.func11, Tryd.ntmps11
    go_wp2_with fail
    go_ret
    exact ⟨rfl, Below.refl _ _⟩
  · have hh : hex s.data.toList = hexL s.data.toList := by unfold hex; rw [if_neg h0]
    have he : s.toList.isEmpty = false := by
      rw [Lib.toList_data]
      cases h : s.data.toList with
      | nil => exact absurd h h0
      | cons _ _ => rfl
    rw [hh]
    have HL := Lib.hid hlen
    have hB0 := Lib.IsBuilderF.of (Lib.fresh_isBuilder 44 5 w)
    have HB0 := Lib.hid hB0
    clear hh hlen hB0 h0
    go_enter Tryd.func11, Tryd.ntmps11
    go_wp2_with fail
    go_loopg [9] s.size (fun m i wr => ∃ k : Nat, m + k = s.size ∧ i = .int .i64 k ∧ Lib.IsBuilderF 44 5 w.heap.size w.heap.size (Lib.byteCells (hexL (s.data.toList.take k))) wr ∧ Below w.heap.size w wr)
    case atStart => exact ⟨0, by omega, rfl, HB0.out, (Below.refl _ _).alloc (Nat.le_refl _) _⟩
    case round =>
      obtain ⟨k, hm, rfl, hB, hb⟩ := hrel
      by_cases hlt : k < s.size
      · have hts : hexL (s.data.toList.take (k + 1)) = hexL (s.data.toList.take k) ++ hex2 s[k] := by rw [take_snoc s k hlt]; unfold hexL; simp
        have HTS := Lib.hid hts
        have hl := hexL_len (s.data.toList.take k)
        rw [List.length_take] at hl
        have hl' : (hexL (s.data.toList.take k)).length ≤ 8192 := by omega
        have HB := Lib.hid hb
        have HBB := Lib.hid hB
        clear hts hl hb hB
        have b0 : (0 : Int) ≤ (s[k].toNat : Int) := by omega
        have b1 : (s[k].toNat : Int) ≤ 255 := by have := s[k].toNat_lt; omega
        go_wp2_with fail
        refine (Tryd.Builder_WriteByte_k _ _ _ _ _ HBB.out (by simp [Lib.byteCells]; omega) HB.out.size).mono ?_
        rintro e w1 ⟨rfl, hB1, hb1, _⟩
        have HB1 := Lib.hid (HB.out.trans hb1)
        have HBB1 := Lib.hid hB1
        clear hB1 hb1
        go_wp2_with fail
        refine (Tryd.Builder_WriteByte_k _ _ _ _ _ (.inr HBB1.out) (by simp [Lib.byteCells]; omega) HB1.out.size).mono ?_
        rintro e w2 ⟨rfl, hB2, hb2, _⟩
        have HB2 := Lib.hid (HB1.out.trans hb2)
        have h16 : s[k].toNat / 16 < 16 := by omega
        have h16' : s[k].toNat % 16 < 16 := by omega
        rw [tab_at _ h16, tab_at _ h16', bytes2] at hB2
        have hB3 : Lib.IsBuilderF 44 5 w.heap.size w.heap.size (Lib.byteCells (hexL (List.take (k + 1) s.data.toList))) w2 := by rw [HTS.out]; exact .inr hB2
        have HB3 := Lib.hid hB3
        clear hB2 hb2 hB3 h16 h16'
        go_wp2_with fail
        go_roundg (gk - 1)
        case measure => omega
        case rel => exact ⟨k + 1, by omega, by go_num, HB3.out, HB2.out⟩
      · obtain rfl : k = s.size := by omega
        have hfull : List.take s.size s.data.toList = s.data.toList := List.take_of_length_le (by rw [HL.out]; omega)
        rw [hfull] at hB
        have HB := Lib.hid hb
        have HBB := Lib.hid hB
        clear hb hB hfull
        go_wp2_with fail
        refine (Tryd.Builder_String_any_k _ _ _ _ HBB.out HB.out.size).mono ?_
        rintro e w2 ⟨rfl, _, hb2, _⟩
        have HB2 := Lib.hid (HB.out.trans hb2)
        clear hb2
        go_wp2_with fail
        go_ret
        exact ⟨rfl, HB2.out⟩
end Go.Proofs.YtkfkkihdlkhbnaaDoor.Str
