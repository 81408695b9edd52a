/- Strings as lists of bytes; contracts of the reference's Text and Int. -/
import Derived.Test.YtkfkkihdlkhbnaaDoorMem
import Derived.Test.YtkfkkihdlkhbnaaDoorChecked
import Derived.Lib.ItoaNum
import Derived.Lib.ItoaLen
import Derived.IntWalk
import Derived.Laws.IdiomStrings
namespace Go.Proofs.YtkfkkihdlkhbnaaDoor.Str
open Go.RowKit

theorem app (l m : List UInt8) : (⟨l.toArray⟩ : ByteArray) ++ ⟨m.toArray⟩ = ⟨(l ++ m).toArray⟩ := by
  rw [← ByteArray.append_eq]
  ext1
  simp

theorem one_conv (W : World) (z : Int) (g : Nat) (hg : W.heap.size = g) (h0 : 0 ≤ z) (h1 : z ≤ 255) : (convert 42 9 (.slice (some ⟨g, 0, none⟩) 1 1)).run Tryd.prog (W.alloc (.cells #[.int .u8 z] 5)) = .ok (.string ⟨#[UInt8.ofNat z.toNat]⟩) (W.alloc (.cells #[.int .u8 z] 5)) := by
  subst hg
  refine run_convert_bytes_back (P := Tryd.prog) (W.alloc (.cells #[.int .u8 z] 5)) 42 9 5 ⟨W.heap.size, 0, none⟩ 1 [UInt8.ofNat z.toNat] Tryd.underlying42 Tryd.underlying5 Tryd.underlying9 ?_
  intro j hj
  have : j = 0 := by simpa using hj
  subst this
  have hz : ((UInt8.ofNat z.toNat).toNat : Int) = z := by rw [UInt8.toNat_ofNat']; omega
  have h2 : (W.alloc (.cells #[.int .u8 z] 5)).cell? ⟨W.heap.size, 0, none⟩ = some (.int .u8 z) := (Blk.new W 5 #[.int .u8 z]).cell 0
  show (W.alloc (.cells #[.int .u8 z] 5)).cell? ⟨W.heap.size, 0, none⟩ = some (.int .u8 ((UInt8.ofNat z.toNat).toNat : Int))
  rw [h2, hz]

theorem nDigits_le : ∀ (k u : Nat), u < 10 ^ (k + 1) → Lib.nDigits u ≤ k + 1
  | 0, u, h => by rw [Lib.nDigits_small (by simpa using h)]; omega
  | k + 1, u, h => by
    by_cases hs : u < 10
    · rw [Lib.nDigits_small hs]; omega
    · rw [Lib.nDigits_big hs]
      have := nDigits_le k (u / 10) (by rw [Nat.pow_succ] at h; omega)
      omega
theorem digits_len {u : Nat} (h : u < 18446744073709551616) : (Lib.decDigits u).length ≤ 20 := by
  rw [Lib.decDigits_length]
  exact nDigits_le 19 u (by omega)

theorem ret_str {a b : ByteArray} (h : a = b) : Ending.returned (.string a) = .returned (.string b) := by rw [h]

set_option maxRecDepth 100000 in
set_option maxHeartbeats 1000000 in
theorem text_small (n : Nat) (hn : n < 10) (w : World) : Calls Tryd.prog 35 #[.int .u64 (n : Int)] w fun e w' => e = .returned (.string ⟨(Lib.decDigits n).toArray⟩) ∧ Below w.heap.size w w' := by
  have t1 : decide (n < 10) = true := by simpa using hn
  have h0 : (0 : Int) ≤ (n : Int) := by omega
  have h1 : (n : Int) < 10 := by omega
  have h2 : (n : Int) % 10 = n := by omega
  have kc := one_conv w (48 + (n : Int)) w.heap.size rfl (by omega) (by omega)
  have hd : Lib.decDigits n = [UInt8.ofNat (48 + n)] := by rw [Lib.decDigits, dif_pos hn]
  have HD := Lib.hid hd
  clear hn hd
  go_enter Tryd.func35, Tryd.ntmps35
  go_wp2_with fail
  refine bodyPost_ret (v := .string ⟨#[UInt8.ofNat (48 + n)]⟩) (by simp [results, Tryd.results35, go_sem]) rfl ?_
  exact ⟨by rw [HD.out], (Below.refl _ _).alloc (Nat.le_refl _) _⟩
set_option maxRecDepth 100000 in
set_option maxHeartbeats 1000000 in
theorem text_big (n : Nat) (hn : ¬ n < 10) (h63 : n < 18446744073709551616) (w : World)
    (ih : Calls Tryd.prog 35 #[.int .u64 ((n : Int) / 10)] (w.alloc (.cells #[.int .u8 (48 + (n : Int) % 10)] 5)) fun e w' => e = .returned (.string ⟨(Lib.decDigits (n / 10)).toArray⟩) ∧ Below (w.heap.size + 1) (w.alloc (.cells #[.int .u8 (48 + (n : Int) % 10)] 5)) w') :
    Calls Tryd.prog 35 #[.int .u64 (n : Int)] w fun e w' => e = .returned (.string ⟨(Lib.decDigits n).toArray⟩) ∧ Below w.heap.size w w' := by
  have t1 : decide (n < 10) = false := by simpa using hn
  have h0 : (0 : Int) ≤ (n : Int) := by omega
  have h1 : 10 ≤ (n : Int) := by omega
  have IH := Lib.hid ih
  have kc := one_conv w (48 + (n : Int) % 10) w.heap.size rfl (by omega) (by omega)
  have hw : IntKind.u64.wrap ((n : Int) / 10) = (n : Int) / 10 := IntWalk.u64_in _ (by omega)
  have hl : (Lib.decDigits (n / 10)).length ≤ 20 := digits_len (by omega)
  have hd : Lib.decDigits n = Lib.decDigits (n / 10) ++ [48 + UInt8.ofNat (n % 10)] := by
    rw [Lib.decDigits, dif_neg hn]
    congr 2
    exact UInt8.ofNat_add 48 (n % 10)
  have HD := Lib.hid hd
  clear hn ih h63 hd
  go_enter Tryd.func35, Tryd.ntmps35
  go_wp2_with fail
  refine IH.out.mono ?_
  rintro e w1 ⟨rfl, hb⟩
  have HB := Lib.hid hb
  clear hb hw
  go_wp2_with fail
  refine bodyPost_ret (v := .string ({ data := (Lib.decDigits (n / 10)).toArray } ++ { data := #[48 + UInt8.ofNat (n % 10)] })) (by simp [results, Tryd.results35, go_sem]) rfl ?_
  refine ⟨ret_str ?_, ((Below.refl _ _).alloc (Nat.le_refl _) _).trans (HB.out.mono (by omega))⟩
  rw [HD.out]
  exact app _ [48 + UInt8.ofNat (n % 10)]
theorem text_any (n : Nat) (h63 : n < 18446744073709551616) : ∀ (w : World), Calls Tryd.prog 35 #[.int .u64 (n : Int)] w fun e w' => e = .returned (.string ⟨(Lib.decDigits n).toArray⟩) ∧ Below w.heap.size w w' := by
  induction n using Nat.strongRecOn with
  | ind n ih =>
    intro w
    by_cases hn : n < 10
    · exact text_small n hn w
    · refine text_big n hn h63 w ?_
      have := ih (n / 10) (by omega) (by omega) (w.alloc (.cells #[.int .u8 (48 + (n : Int) % 10)] 5))
      simpa using this

set_option maxRecDepth 100000 in
set_option maxHeartbeats 1000000 in
theorem int_pos (n : Nat) (hn : n < 9223372036854775808) (w : World) : Calls Tryd.prog 20 #[.int .i64 (n : Int)] w fun e w' => e = .returned (.string ⟨(Lib.itoa (n : Int)).toArray⟩) ∧ Below w.heap.size w w' := by
  have t1 : decide ((n : Int) < 0) = false := by simp
  have h0 : (0 : Int) ≤ (n : Int) := by omega
  have hw : IntKind.u64.wrap (n : Int) = (n : Int) := IntWalk.u64_in _ (by omega)
  have C := Lib.hid (text_any n (by omega) w)
  have hi : Lib.itoa (n : Int) = Lib.decDigits n := by unfold Lib.itoa; rw [if_neg (by omega)]; rfl
  rw [hi]
  clear hn hi
  go_enter Tryd.func20, Tryd.ntmps20
  go_wp2_with fail
  refine C.out.mono ?_
  rintro e w1 ⟨rfl, hb⟩
  have HB := Lib.hid hb
  clear hb hw
  go_wp2_with fail
  go_ret
  exact ⟨rfl, HB.out⟩
set_option maxRecDepth 100000 in
set_option maxHeartbeats 1000000 in
theorem int_neg (m : Nat) (hm : m < 9223372036854775808) (n : Int) (hn : n = -((m : Int) + 1)) (w : World) : Calls Tryd.prog 20 #[.int .i64 n] w fun e w' => e = .returned (.string ⟨(Lib.itoa n).toArray⟩) ∧ Below w.heap.size w w' := by
  have t1 : decide (n < 0) = true := by simp; omega
  have hw1 : wrap64 (n + 1) = -(m : Int) := by unfold wrap64; omega
  have hw2 : wrap64 (m : Int) = (m : Int) := by unfold wrap64; omega
  have hw3 : IntKind.u64.wrap (m : Int) = (m : Int) := IntWalk.u64_in _ (by omega)
  have hw4 : IntKind.u64.wrap ((m : Int) + 1) = ((m + 1 : Nat) : Int) := IntWalk.u64_in _ (by omega)
  have C := Lib.hid (text_any (m + 1) (by omega) w)
  have hi : Lib.itoa n = 45 :: Lib.decDigits (m + 1) := by unfold Lib.itoa; rw [if_pos (by omega)]; congr 2; omega
  have hl := digits_len (u := m + 1) (by omega)
  rw [hi]
  have m0 : (0 : Int) ≤ (m : Int) := by omega
  clear hn hi hm
  go_enter Tryd.func20, Tryd.ntmps20
  go_wp2_with fail
  refine C.out.mono ?_
  rintro e w1 ⟨rfl, hb⟩
  have HB := Lib.hid hb
  clear hb
  go_wp2_with fail
  go_ret
  exact ⟨rfl, HB.out⟩
/-- A number that an int holds. -/
def I64 (n : Int) : Prop := -9223372036854775808 ≤ n ∧ n ≤ 9223372036854775807
theorem int_any (n : Int) (h : I64 n) (w : World) : Calls Tryd.prog 20 #[.int .i64 n] w fun e w' => e = .returned (.string ⟨(Lib.itoa n).toArray⟩) ∧ Below w.heap.size w w' := by
  obtain ⟨h0, h1⟩ := h
  by_cases hn : 0 ≤ n
  · obtain ⟨m, rfl⟩ := Int.eq_ofNat_of_zero_le hn
    exact int_pos m (by omega) w
  · exact int_neg (-(n + 1)).toNat (by omega) n (by omega) w
theorem itoa_len {n : Int} (h : I64 n) : (Lib.itoa n).length ≤ 21 := Lib.itoa_length_le n h.1 h.2
end Go.Proofs.YtkfkkihdlkhbnaaDoor.Str
