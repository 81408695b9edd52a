/- The plain law of numbers: what a text tells, as the reference has it and as the library has it. No program in sight. -/
import Derived.Test.YtkfkkihdlkhbnaaDoorStr
import Derived.Lib.AtoiAll
namespace Go.Proofs.YtkfkkihdlkhbnaaDoor.Str
open Go.RowKit

theorem digits_small {u : Nat} (h : u < 10) : Lib.decDigits u = [UInt8.ofNat (48 + u)] := by rw [Lib.decDigits, dif_pos h]
theorem digits_big {u : Nat} (h : ¬ u < 10) : Lib.decDigits u = Lib.decDigits (u / 10) ++ [UInt8.ofNat (48 + u % 10)] := by rw [Lib.decDigits, dif_neg h]
theorem digit_nat {d : Nat} (h : d < 10) : (UInt8.ofNat (48 + d)).toNat = 48 + d := by rw [UInt8.toNat_ofNat']; omega
theorem digits_all (u : Nat) : ∀ b ∈ Lib.decDigits u, 48 ≤ b.toNat ∧ b.toNat ≤ 57 := by
  induction u using Nat.strongRecOn with
  | ind u ih =>
    intro b hb
    by_cases h : u < 10
    · rw [digits_small h] at hb
      rw [List.mem_singleton.1 hb, digit_nat h]
      omega
    · rw [digits_big h] at hb
      rcases List.mem_append.1 hb with hb | hb
      · exact ih (u / 10) (by omega) b hb
      · rw [List.mem_singleton.1 hb, digit_nat (by omega)]
        omega
theorem digits_ne (u : Nat) : Lib.decDigits u ≠ [] := by
  by_cases h : u < 10
  · rw [digits_small h]; simp
  · rw [digits_big h]; simp

theorem parse_app : ∀ (l m : List UInt8) (acc v : Nat), Lib.parseUint10 acc l = .ok v → Lib.parseUint10 acc (l ++ m) = Lib.parseUint10 v m
  | [], m, acc, v, h => by
    simp only [Lib.parseUint10] at h
    injection h with h
    subst h
    rfl
  | c :: l, m, acc, v, h => by
    simp only [Lib.parseUint10, List.cons_append] at h ⊢
    split at h
    · split at h
      · cases h
      · split at h
        · cases h
        · rename_i h1 h2 h3
          rw [if_pos h1, if_neg h2, if_neg h3]
          exact parse_app l m _ v h
    · cases h
theorem parse_digits (u : Nat) (h : u < 18446744073709551616) : Lib.parseUint10 0 (Lib.decDigits u) = .ok u := by
  induction u using Nat.strongRecOn with
  | ind u ih =>
    by_cases hs : u < 10
    · rw [digits_small hs]
      unfold Lib.parseUint10
      rw [digit_nat hs, if_pos (by omega), if_neg (by omega), if_neg (by omega)]
      unfold Lib.parseUint10
      congr 1
      omega
    · rw [digits_big hs, parse_app _ _ _ _ (ih (u / 10) (by omega) (by omega))]
      unfold Lib.parseUint10
      rw [digit_nat (by omega), if_pos (by omega), if_neg (by omega), if_neg (by omega)]
      unfold Lib.parseUint10
      congr 1
      omega
theorem itoa_neg' {n : Int} (h : n < 0) : Lib.itoa n = 45 :: Lib.decDigits n.natAbs := by unfold Lib.itoa; rw [if_pos h]
theorem itoa_pos' {n : Int} (h : 0 ≤ n) : Lib.itoa n = Lib.decDigits n.toNat := by unfold Lib.itoa; rw [if_neg (by omega)]
theorem atoi_itoa {n : Int} (h : I64 n) : Lib.atoiAll (Lib.itoa n) = .ok n := by
  obtain ⟨h0, h1⟩ := h
  by_cases hn : n < 0
  · rw [itoa_neg' hn]
    unfold Lib.atoiAll
    have hm : Lib.parseMag (Lib.decDigits n.natAbs) = .ok n.natAbs := by
      unfold Lib.parseMag
      rw [if_neg (digits_ne _)]
      exact parse_digits _ (by omega)
    have h45 : ((45 : UInt8).toNat = 43 ∨ (45 : UInt8).toNat = 45) := .inr rfl
    simp only
    rw [if_pos h45, hm]
    show (if ¬ ((45 : UInt8).toNat = 45) ∧ 9223372036854775808 ≤ n.natAbs then Lib.NumEnd.range else if (45 : UInt8).toNat = 45 ∧ 9223372036854775808 < n.natAbs then .range else .ok (if (45 : UInt8).toNat = 45 then -(n.natAbs : Int) else n.natAbs)) = _
    rw [if_neg (fun h => h.1 rfl), if_neg (fun h => by have := h.2; omega), if_pos (show (45 : UInt8).toNat = 45 from rfl)]
    congr 1
    omega
  · rw [itoa_pos' (by omega)]
    have hm : Lib.parseMag (Lib.decDigits n.toNat) = .ok n.toNat := by
      unfold Lib.parseMag
      rw [if_neg (digits_ne _)]
      exact parse_digits _ (by omega)
    have hall := digits_all n.toNat
    cases hd : Lib.decDigits n.toNat with
    | nil => exact absurd hd (digits_ne _)
    | cons c r =>
      rw [hd] at hm hall
      have hc := hall c (by simp)
      unfold Lib.atoiAll
      simp only
      rw [if_neg (by omega), hm]
      simp only
      rw [if_neg (by omega), if_neg (by omega), if_neg (by omega)]
      congr 1
      omega
theorem atoi_range {l : List UInt8} {v : Int} (h : Lib.atoiAll l = .ok v) : I64 v := by
  unfold Lib.atoiAll at h
  cases l with
  | nil => cases h
  | cons c r =>
    simp only at h
    split at h
    · cases h
    · cases h
    · split at h
      · cases h
      · split at h
        · cases h
        · injection h with h
          rename_i h1 h2
          subst h
          split <;> exact ⟨by omega, by omega⟩

def rstep (n : Int) (b : UInt8) : Int := if 48 ≤ b.toNat ∧ b.toNat ≤ 57 then IntKind.u64.wrap (IntKind.u64.wrap (10 * n) + ((b.toNat : Int) - 48)) else n
def rfold (l : List UInt8) : Int := l.foldl rstep 0
def rnum (l : List UInt8) : Int := if l.length ≤ 20 then rfold l else 0
def rx (l : List UInt8) : Int := if l.head? = some 45 then wrap64 (-(wrap64 (rnum l))) else wrap64 (rnum l)
def num (l : List UInt8) : Option Int := if Lib.itoa (rx l) = l then some (rx l) else none
theorem wrap64_i64 (n : Int) : I64 (wrap64 n) := by unfold wrap64; exact ⟨by omega, by omega⟩
theorem rx_i64 (l : List UInt8) : I64 (rx l) := by unfold rx; split <;> exact wrap64_i64 _
theorem rfold_snoc (l : List UInt8) (b : UInt8) : rfold (l ++ [b]) = rstep (rfold l) b := by unfold rfold; rw [List.foldl_append]; rfl
theorem rfold_digits (u : Nat) (h : u < 18446744073709551616) : rfold (Lib.decDigits u) = (u : Int) := by
  induction u using Nat.strongRecOn with
  | ind u ih =>
    by_cases hs : u < 10
    · rw [digits_small hs]
      unfold rfold rstep
      simp only [List.foldl_cons, List.foldl_nil]
      rw [digit_nat hs, if_pos (by omega), IntWalk.u64_in (10 * 0) (by omega), IntWalk.u64_in _ (by omega)]
      omega
    · rw [digits_big hs, rfold_snoc, ih (u / 10) (by omega) (by omega)]
      unfold rstep
      rw [digit_nat (by omega), if_pos (by omega), IntWalk.u64_in (10 * _) (by omega), IntWalk.u64_in _ (by omega)]
      omega
theorem rx_itoa {n : Int} (h : I64 n) : rx (Lib.itoa n) = n := by
  obtain ⟨h0, h1⟩ := h
  by_cases hn : n < 0
  · rw [itoa_neg' hn]
    have hl : (Lib.decDigits n.natAbs).length ≤ 19 := by
      rw [Lib.decDigits_length]
      exact nDigits_le 18 _ (by omega)
    have hf : rfold (45 :: Lib.decDigits n.natAbs) = (n.natAbs : Int) := by
      have := rfold_digits n.natAbs (by omega)
      unfold rfold at this ⊢
      rw [List.foldl_cons, show rstep 0 45 = 0 from by unfold rstep; rw [if_neg (by decide)]]
      exact this
    unfold rx rnum
    rw [if_pos (show (45 :: Lib.decDigits n.natAbs).head? = some 45 from rfl), if_pos (by simp; omega), hf]
    unfold wrap64
    omega
  · rw [itoa_pos' (by omega)]
    have hl : (Lib.decDigits n.toNat).length ≤ 19 := by
      rw [Lib.decDigits_length]
      exact nDigits_le 18 _ (by omega)
    have hf := rfold_digits n.toNat (by omega)
    have hh : (Lib.decDigits n.toNat).head? ≠ some 45 := by
      intro hh
      have := digits_all n.toNat 45 (List.mem_of_mem_head? hh)
      revert this
      decide
    unfold rx rnum
    rw [if_neg hh, if_pos (by omega), hf]
    unfold wrap64
    omega
theorem num_itoa {n : Int} (h : I64 n) : num (Lib.itoa n) = some n := by
  unfold num
  rw [rx_itoa h, if_pos rfl]
theorem num_some {l : List UInt8} {v : Int} (h : num l = some v) : Lib.itoa v = l ∧ I64 v := by
  unfold num at h
  split at h
  · injection h with h
    subst h
    exact ⟨‹_›, rx_i64 l⟩
  · cases h
/-- As the library has it. -/
theorem num_ok {l : List UInt8} {v : Int} (h : Lib.atoiAll l = .ok v) : num l = if Lib.itoa v = l then some v else none := by
  split
  · rename_i he
    rw [← he]
    exact num_itoa (atoi_range h)
  · rename_i hne
    cases hx : num l with
    | none => rfl
    | some x =>
      obtain ⟨h1, h2⟩ := num_some hx
      have := atoi_itoa h2
      rw [h1, h] at this
      injection this with this
      subst this
      exact absurd h1 hne
theorem num_bad {l : List UInt8} (h : ∀ v, Lib.atoiAll l ≠ .ok v) : num l = none := by
  cases hx : num l with
  | none => rfl
  | some x =>
    obtain ⟨h1, h2⟩ := num_some hx
    have := atoi_itoa h2
    rw [h1] at this
    exact absurd this (h x)
end Go.Proofs.YtkfkkihdlkhbnaaDoor.Str
