/- The plain law of Unhex: what comes back, and when. No program in sight. -/
import Derived.Test.YtkfkkihdlkhbnaaDoorNib
namespace Go.Proofs.YtkfkkihdlkhbnaaDoor.Str
open Go.RowKit

def isHex (c : UInt8) : Bool := decide (48 ≤ c.toNat ∧ c.toNat ≤ 57) || decide (97 ≤ c.toNat ∧ c.toNat ≤ 102)
theorem isHex_iff {c : UInt8} : isHex c = true ↔ (48 ≤ c.toNat ∧ c.toNat ≤ 57) ∨ (97 ≤ c.toNat ∧ c.toNat ≤ 102) := by
  unfold isHex
  rw [Bool.or_eq_true, decide_eq_true_eq, decide_eq_true_eq]
theorem hexDig_hex {n : Nat} (h : n < 16) : isHex (hexDig n) = true := by
  rw [isHex_iff, hexDig_toNat h]
  split <;> omega
theorem hexDig_hval {c : UInt8} (h : isHex c = true) : hexDig (hval c.toNat) = c := by
  rw [isHex_iff] at h
  have h1 := hval_le c.toNat
  refine UInt8.toNat_inj.1 ?_
  rw [hexDig_toNat (by omega)]
  unfold hval
  split <;> split <;> omega
theorem hval_hexDig {n : Nat} (h : n < 16) : hval (hexDig n).toNat = n := by
  rw [hexDig_toNat h]
  unfold hval
  split <;> split <;> omega
theorem nibN_hex {c : UInt8} (h : isHex c = true) : nibN (c.toNat : Int) = (hval c.toNat : Int) := by
  rw [isHex_iff] at h
  unfold nibN hval
  split
  · split <;> omega
  · split
    · split <;> omega
    · omega
theorem nibN_not {c : UInt8} (h : isHex c = false) : nibN (c.toNat : Int) = -1 := by
  have h' : ¬ ((48 ≤ c.toNat ∧ c.toNat ≤ 57) ∨ (97 ≤ c.toNat ∧ c.toNat ≤ 102)) := fun e => by rw [isHex_iff.2 e] at h; cases h
  unfold nibN
  rw [if_neg (by omega), if_neg (by omega)]
theorem nibN_high {r : Int} (h : 128 ≤ r) : nibN r = -1 := by
  unfold nibN
  rw [if_neg (by omega), if_neg (by omega)]
theorem pair_toNat (a b : UInt8) : (pair a b).toNat = 16 * hval a.toNat + hval b.toNat := by
  have h1 := hval_le a.toNat
  have h2 := hval_le b.toNat
  unfold pair
  rw [UInt8.toNat_ofNat']
  omega
theorem hex2_pair {a b : UInt8} (ha : isHex a = true) (hb : isHex b = true) : hex2 (pair a b) = [a, b] := by
  have h1 := hval_le a.toNat
  have h2 := hval_le b.toNat
  unfold hex2
  rw [pair_toNat, show (16 * hval a.toNat + hval b.toNat) / 16 = hval a.toNat by omega, show (16 * hval a.toNat + hval b.toNat) % 16 = hval b.toNat by omega, hexDig_hval ha, hexDig_hval hb]
theorem hexL_rp : ∀ (l : List UInt8), l.length % 2 = 0 → (∀ c ∈ l, isHex c = true) → hexL (rp l) = l
  | [], _, _ => rfl
  | [_], h, _ => by simp at h
  | a :: b :: r, h, hc => by
    have ih := hexL_rp r (by simp at h; omega) (fun c hm => hc c (by simp [hm]))
    unfold hexL at ih ⊢
    simp only [rp, List.flatMap_cons]
    rw [ih, hex2_pair (hc a (by simp)) (hc b (by simp))]
    rfl
theorem rp_hexL : ∀ (t : List UInt8), rp (hexL t) = t
  | [] => rfl
  | b :: t => by
    have ih := rp_hexL t
    unfold hexL at ih ⊢
    have hb := b.toNat_lt
    rw [List.flatMap_cons]
    show rp (hexDig (b.toNat / 16) :: hexDig (b.toNat % 16) :: t.flatMap hex2) = b :: t
    simp only [rp]
    rw [ih]
    congr 1
    refine UInt8.toNat_inj.1 ?_
    rw [pair_toNat, hval_hexDig (by omega), hval_hexDig (by omega)]
    omega
theorem hexL_all (t : List UInt8) : ∀ c ∈ hexL t, isHex c = true := by
  intro c hc
  unfold hexL at hc
  obtain ⟨b, _, hb⟩ := List.mem_flatMap.1 hc
  have := b.toNat_lt
  simp [hex2] at hb
  rcases hb with rfl | rfl
  · exact hexDig_hex (by omega)
  · exact hexDig_hex (by omega)
theorem unhx_hex (t : List UInt8) : unhx (hex t) = some t := by
  unfold unhx
  have h : rp (hex t) = t := by
    unfold hex
    split
    · rename_i e; rw [e]; rfl
    · exact rp_hexL t
  rw [h, if_pos rfl]
theorem unhx_some {l t : List UInt8} (h : unhx l = some t) : hex t = l := by
  unfold unhx at h
  split at h
  · injection h with h
    rw [← h]
    assumption
  · cases h
theorem unhx_good {l : List UInt8} (h0 : l ≠ []) (h1 : l.length % 2 = 0) (h2 : ∀ c ∈ l, isHex c = true) : unhx l = some (rp l) := by
  have hL := hexL_rp l h1 h2
  have hne : rp l ≠ [] := by
    intro e
    rw [e] at hL
    exact h0 hL.symm
  unfold unhx hex
  rw [if_neg hne, if_pos hL]
theorem unhx_bad {l : List UInt8} (h45 : l ≠ [45]) (h : l.length % 2 ≠ 0 ∨ l = [] ∨ ∃ c ∈ l, isHex c = false) : unhx l = none := by
  cases hu : unhx l with
  | none => rfl
  | some t =>
    have he := unhx_some hu
    unfold hex at he
    split at he
    · exact absurd he.symm h45
    · rename_i hne
      rcases h with h | h | ⟨c, hc, hn⟩
      · rw [← he, hexL_len] at h
        omega
      · rw [h] at he
        have := hexL_len t
        rw [he] at this
        cases t with
        | nil => exact absurd rfl hne
        | cons _ _ => simp at this
      · rw [← he] at hc
        rw [hexL_all t c hc] at hn
        cases hn
end Go.Proofs.YtkfkkihdlkhbnaaDoor.Str
