/- The reference's digit and Hex. -/
import Derived.Test.YtkfkkihdlkhbnaaDoorStr
import Derived.Test.YtkfkkihdlkhbnaaDoorExt
import Derived.Deep.LoopGhost
namespace Go.Proofs.YtkfkkihdlkhbnaaDoor.Str
open Go.RowKit

def hexDig (n : Nat) : UInt8 := if n < 10 then 48 + UInt8.ofNat n else 87 + UInt8.ofNat n
def hex2 (b : UInt8) : List UInt8 := [hexDig (b.toNat / 16), hexDig (b.toNat % 16)]
def hexL (l : List UInt8) : List UInt8 := l.flatMap hex2
def hex (l : List UInt8) : List UInt8 := if l = [] then [45] else hexL l
theorem hexL_len (l : List UInt8) : (hexL l).length = 2 * l.length := by
  induction l with
  | nil => rfl
  | cons b l ih => unfold hexL at *; simp [hex2, ih]; omega
theorem take_snoc (s : ByteArray) (k : Nat) (h : k < s.size) : s.data.toList.take (k + 1) = s.data.toList.take k ++ [s[k]] := by
  rw [List.take_succ_eq_append_getElem (by simpa using h)]; rfl

set_option maxRecDepth 100000 in
set_option maxHeartbeats 1000000 in
theorem digit_any (n : Nat) (hn : n < 16) (w : World) : Calls Tryd.prog 23 #[.int .u8 (n : Int)] w fun e w' => e = .returned (.string ⟨#[hexDig n]⟩) ∧ Below w.heap.size w w' := by
  have h0 : (0 : Int) ≤ (n : Int) := by omega
  have h1 : (n : Int) < 16 := by omega
  by_cases h : n < 10
  · have t1 : decide (n < 10) = true := by simpa using h
    have kc := one_conv w (48 + (n : Int)) w.heap.size rfl (by omega) (by omega)
    have hd : hexDig n = 48 + UInt8.ofNat n := by unfold hexDig; rw [if_pos h]
    have hk : (48 + (n : Int)).toNat = 48 + n := by omega
    rw [hk] at kc
    rw [hd]
    have h2 : (n : Int) < 10 := by omega
    clear h hd hn hk
    go_enter Tryd.func23, Tryd.ntmps23
    go_wp2_with fail
    go_ret
    exact ⟨rfl, (Below.refl _ _).alloc (Nat.le_refl _) _⟩
  · have t1 : decide (n < 10) = false := by simpa using h
    have kc := one_conv w (97 + (n : Int) - 10) w.heap.size rfl (by omega) (by omega)
    have hd : hexDig n = 87 + UInt8.ofNat n := by unfold hexDig; rw [if_neg h]
    have hk : (97 + (n : Int) - 10).toNat = 87 + n := by omega
    rw [hk] at kc
    rw [hd]
    have h2 : 10 ≤ (n : Int) := by omega
    clear h hd hn hk
    go_enter Tryd.func23, Tryd.ntmps23
    go_wp2_with fail
    go_ret
    exact ⟨rfl, (Below.refl _ _).alloc (Nat.le_refl _) _⟩

theorem app3 (l : List UInt8) (a b : UInt8) : (⟨l.toArray⟩ : ByteArray) ++ ⟨#[a]⟩ ++ ⟨#[b]⟩ = ⟨(l ++ [a, b]).toArray⟩ := by
  have h1 := app l [a]
  have h2 := app (l ++ [a]) [b]
  rw [← h1, List.append_assoc] at h2
  exact h2
theorem digit_i (z : Int) (h0 : 0 ≤ z) (h1 : z < 16) (w : World) : Calls Tryd.prog 23 #[.int .u8 z] w fun e w' => e = .returned (.string ⟨#[hexDig z.toNat]⟩) ∧ Below w.heap.size w w' := by
  obtain ⟨n, rfl⟩ := Int.eq_ofNat_of_zero_le h0
  exact digit_any n (by omega) w
set_option maxRecDepth 100000 in
set_option maxHeartbeats 1000000 in
theorem rhex_any (s : ByteArray) (hs : s.size ≤ 4096) (w : World) : Calls Tryd.prog 12 #[.string s] w fun e w' => e = .returned (.string ⟨(hex s.data.toList).toArray⟩) ∧ Below w.heap.size w w' := by
  have hlen : s.data.toList.length = s.size := by simp
  by_cases h0 : s.size = 0
  · have hh : hex s.data.toList = [45] := by unfold hex; rw [if_pos (List.eq_nil_of_length_eq_zero (by omega))]
    have t1 : ((s.size : Int) == 0) = true := by rw [h0]; rfl
    rw [hh]
    clear hh hlen h0
    go_enter Tryd.func12, Tryd.ntmps12
    go_wp2_with fail
    go_ret
    exact ⟨rfl, Below.refl _ _⟩
  · have hh : hex s.data.toList = hexL s.data.toList := by unfold hex; rw [if_neg (by intro h; rw [h] at hlen; simp at hlen; omega)]
    have t1 : ((s.size : Int) == 0) = false := beq_eq_false_iff_ne.2 (by omega)
    rw [hh]
    have HL := Lib.hid hlen
    clear hh hlen h0
    go_enter Tryd.func12, Tryd.ntmps12
    go_wp2_with fail
    go_loopg [3, 4] s.size (fun m t i wr => ∃ k : Nat, m + k = s.size ∧ i = .int .i64 k ∧ t = .string ⟨(hexL (s.data.toList.take k)).toArray⟩ ∧ Below w.heap.size w wr)
    case atStart => exact ⟨0, by omega, rfl, rfl, Below.refl _ _⟩
    case round =>
      obtain ⟨k, hm, rfl, rfl, hb⟩ := hrel
      by_cases hlt : k < s.size
      · have hts : hexL (s.data.toList.take (k + 1)) = hexL (s.data.toList.take k) ++ hex2 s[k] := by rw [take_snoc s k hlt]; unfold hexL; simp
        have HTS := Lib.hid hts
        have hl := hexL_len (s.data.toList.take k)
        rw [List.length_take] at hl
        have hl' : (hexL (s.data.toList.take k)).length ≤ 8192 := by omega
        have HB := Lib.hid hb
        clear hts hl hb
        have b0 : (0 : Int) ≤ (s[k].toNat : Int) := by omega
        have b1 : (s[k].toNat : Int) ≤ 255 := by have := s[k].toNat_lt; omega
        go_wp2_with fail
        refine wp_region_ext (by kernel_rfl) (by kernel_rfl) ?_
        repeat (go_big_quiet_step ((go_at_call 23; exact ext_call (digit_i _ (by omega) (by omega) _))))
        refine wpQuiet_nil ?_
        intro _ hw'
        obtain ⟨z, rfl⟩ := hw'
        go_wp2_with fail
        go_roundg (gk - 1)
        case measure => omega
        case rel =>
          refine ⟨k + 1, by omega, by go_num, ?_, HB.out.trans (z.below.mono HB.out.size)⟩
          rw [HTS.out]
          exact congrArg Value.string (app3 _ _ _)
      · obtain rfl : k = s.size := by omega
        have hfull : List.take s.size s.data.toList = s.data.toList := List.take_of_length_le (by rw [HL.out]; omega)
        rw [hfull]
        have HB := Lib.hid hb
        clear hb hfull
        go_wp2_with fail
        go_ret
        exact ⟨rfl, HB.out⟩
end Go.Proofs.YtkfkkihdlkhbnaaDoor.Str
