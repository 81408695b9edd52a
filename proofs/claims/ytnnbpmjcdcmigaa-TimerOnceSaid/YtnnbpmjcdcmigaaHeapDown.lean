/- heap.down: its contract. -/
import Derived.Test.YtnnbpmjcdcmigaaHeapUp
namespace Go.Proofs.Ytnnbpmjcdcmigaa.Line
open Go.RowKit HeapLaw

section
variable {w w' : World} {t r n N : Nat} {v : Value} {l : List E} {f : Int → Option Value}
def DownP (w : World) (t r : Nat) (v : Value) (l : List E) (n N i0 : Nat) (e : Ending) (w' : World) : Prop :=
  ∃ (m : Bool) (l' : List E), e = .returned (.bool m) ∧ Moved w t r v l n N l' w' ∧ (m = true → Heap N l') ∧ (m = false → Up N l' i0)

theorem down_end {m : Bool} {l' : List E} {k i0 : Nat} {w3 : World} (hM : Moved w t r v l n N l' w3) (hD : Down N l' k m) (hik : i0 ≤ k) (hm : m = true ↔ i0 < k) (hs : ∀ q, 0 < q → q < N → par q = k → Ok l' k q) : DownP w t r v l n N i0 (.returned (.bool m)) w3 := by
  have h := hD.stop hs
  refine ⟨m, l', rfl, hM, h.2, fun hf => ?_⟩
  have : k = i0 := by
    have : ¬ i0 < k := fun h => by rw [hm.2 h] at hf; cases hf
    omega
  rw [← this]
  exact h.1

set_option maxRecDepth 100000 in
set_option maxHeartbeats 2000000 in
theorem down_any (h : Ln w t r v l f n) (hp : Place l f) {i0 : Nat} (hi0 : i0 ≤ N) (hN : N ≤ l.length) (hD : Down N l i0 false) :
    Calls Try.prog 22 #[.iface 58 (.pointer (some ⟨t, 0, none⟩)), .int .i64 (i0 : Int), .int .i64 (N : Int)] w (DownP w t r v l n N i0) := by
  have hN2 := h.len
  have HM := Lib.hid (Moved.start (N := N) h hp)
  have HD := Lib.hid hD
  clear h hp hD
  go_enter Try.func22, Try.ntmps22
  go_wp2_with fail
  go_loopw [7] (fun q wr => ∃ (k : Nat) (m : Bool) (l' : List E), q = .int .i64 k ∧ k ≤ N ∧ i0 ≤ k ∧ (m = true ↔ i0 < k) ∧ Moved w t r v l n N l' wr ∧ Down N l' k m) (fun q _ => N - (intOf q).toNat)
  case atStart => exact ⟨i0, false, l, rfl, hi0, Nat.le_refl _, by simp, HM.out, HD.out⟩
  case round =>
    clear HM HD
    obtain ⟨k, m, l', rfl, hk, hik, hm, hM, hD⟩ := hrel
    have HM := Lib.hid hM
    have HD := Lib.hid hD
    have HMI := Lib.hid hm
    have hm1 := less_m t
    have hm2 := swap_m t
    have tm : decide (i0 < k) = m := by cases m <;> simp at hm ⊢ <;> omega
    have TM := Lib.hid tm
    clear hM hD hm tm
    obtain ⟨f', hLn, hP, hPerm, hrest, hK⟩ := HM.out
    have hll := hPerm.length_eq
    have HL := Lib.hid hLn
    have HP := Lib.hid hP
    have HPM := Lib.hid hPerm
    have HR := Lib.hid hrest
    have HK := Lib.hid hK
    clear hLn hP hPerm hrest hK
    by_cases hj : 2 * k + 1 < N
    · obtain ⟨a, ha⟩ : ∃ a, l'[k]? = some a := ⟨l'[k]'(by omega), by simp⟩
      obtain ⟨b, hb⟩ : ∃ b, l'[2 * k + 1]? = some b := ⟨l'[2 * k + 1]'(by omega), by simp⟩
      have HA := Lib.hid ha
      have HB := Lib.hid hb
      clear ha hb
      have t1 : decide ((N : Int) ≤ 2 * (k : Int) + 1) = false := by simp; omega
      have t2 : decide (2 * (k : Int) + 1 < 0) = false := by simp; omega
      by_cases hj2 : 2 * k + 2 < N
      · obtain ⟨c, hc⟩ : ∃ c, l'[2 * k + 2]? = some c := ⟨l'[2 * k + 2]'(by omega), by simp⟩
        have HC := Lib.hid hc
        clear hc
        have t3 : (2 * (k : Int) + 1 + 1 < (N : Int)) := by omega
        have C0 := less_any HL.out HC.out HB.out
        rw [show (((2 * k + 2 : Nat)) : Int) = 2 * (k : Int) + 1 + 1 by omega, show (((2 * k + 1 : Nat)) : Int) = 2 * (k : Int) + 1 by omega] at C0
        have HC0 := Lib.hid C0
        clear C0
        go_wp2_with fail
        refine HC0.out.mono ?_
        rintro e w3 ⟨rfl, b3⟩
        have HL3 := Lib.hid (HL.out.ext (Kept.below b3 rfl))
        have HK3 := Lib.hid (HK.out.trans (Kept.below (F := fun j => j = r ∨ v.ownBlock = some j) b3 rfl))
        clear HC0 b3
        cases hcb : lessE c b with
        | true =>
          have HMIN : Hid (∀ q, 0 < q → q < N → par q = k → Ok l' (2 * k + 2) q) := Lib.hid fun q h0 hn hq x y hx hy => by
            rw [HC.out] at hx
            injection hx with hx
            subst hx
            rcases par_child hq h0 with rfl | rfl
            · rw [HB.out] at hy; injection hy with hy; subst hy; exact le_of_lt hcb
            · rw [HC.out] at hy; injection hy with hy; subst hy; exact le_refl _
          clear hcb
          have C1 := less_any HL3.out HC.out HA.out
          rw [show (((2 * k + 2 : Nat)) : Int) = 2 * (k : Int) + 1 + 1 by omega] at C1
          have HC1 := Lib.hid C1
          clear C1
          go_wp2_with fail
          refine HC1.out.mono ?_
          rintro e w5 ⟨rfl, b5⟩
          have HL5 := Lib.hid (HL3.out.ext (Kept.below b5 rfl))
          have HK5 := Lib.hid (HK3.out.trans (Kept.below (F := fun j => j = r ∨ v.ownBlock = some j) b5 rfl))
          clear HC1 b5
          cases hlt : lessE c a with
          | false =>
            have HLT := Lib.hid hlt
            have tm := TM.out
            clear hlt
            go_wp2_with fail
            go_ret
            exact down_end ⟨f', HL5.out, HP.out, HPM.out, HR.out, HK5.out⟩ HD.out hik HMI.out fun q h0 hn hq x y hx hy => by
              rw [HA.out] at hx
              injection hx with hx
              subst hx
              exact le_trans (show le a c from HLT.out) (HMIN.out q h0 hn hq c y HC.out hy)
          | true =>
            have HLT := Lib.hid hlt
            have hab : a.id ≠ c.id := fun e => by have := HP.out.inj HA.out HC.out e; omega
            have C2 := swap_any HL5.out HA.out HC.out (by omega) hab (by rw [HP.out.1 _ _ HA.out]; rfl) (by rw [HP.out.1 _ _ HC.out]; rfl)
            have HC2 : Hid (Calls Try.prog 43 #[.pointer (some ⟨t, 0, none⟩), .int .i64 (k : Int), .int .i64 (2 * (k : Int) + 1 + 1)] w5 fun e w' => e = .returned (.tuple #[]) ∧ Swapped w5 t r v ((l'.set k c).set (2 * k + 2) a) f' n a c k (2 * k + 2) w') := Lib.hid (by
              rw [show (((2 * k + 2 : Nat)) : Int) = 2 * (k : Int) + 1 + 1 by omega] at C2
              exact C2)
            clear hlt hab C2
            go_wp2_with fail
            refine HC2.out.mono ?_
            rintro e w6 ⟨rfl, hs⟩
            have HSW := Lib.hid hs
            clear hs HC2
            go_wp2_with fail
            go_roundw
            case rel =>
              refine ⟨2 * k + 2, true, sw l' k (2 * k + 2) a c, by congr 1 <;> omega, by omega, by omega, ⟨fun _ => by omega, fun _ => rfl⟩, Moved.swapped HL5.out HP.out HPM.out HR.out HK5.out HA.out HC.out (by omega) (by omega) (by omega) HSW.out, ?_⟩
              exact HD.out.step (by unfold par; omega) (by omega) (by omega) HA.out HC.out HLT.out HMIN.out
            case measure => simp [intOf]; omega
        | false =>
          have HMIN : Hid (∀ q, 0 < q → q < N → par q = k → Ok l' (2 * k + 1) q) := Lib.hid fun q h0 hn hq x y hx hy => by
            rw [HB.out] at hx
            injection hx with hx
            subst hx
            rcases par_child hq h0 with rfl | rfl
            · rw [HB.out] at hy; injection hy with hy; subst hy; exact le_refl _
            · rw [HC.out] at hy; injection hy with hy; subst hy; exact hcb
          clear hcb
          have C1 := less_any HL3.out HB.out HA.out
          rw [show (((2 * k + 1 : Nat)) : Int) = 2 * (k : Int) + 1 by omega] at C1
          have HC1 := Lib.hid C1
          clear C1
          go_wp2_with fail
          refine HC1.out.mono ?_
          rintro e w5 ⟨rfl, b5⟩
          have HL5 := Lib.hid (HL3.out.ext (Kept.below b5 rfl))
          have HK5 := Lib.hid (HK3.out.trans (Kept.below (F := fun j => j = r ∨ v.ownBlock = some j) b5 rfl))
          clear HC1 b5
          cases hlt : lessE b a with
          | false =>
            have HLT := Lib.hid hlt
            have tm := TM.out
            clear hlt
            go_wp2_with fail
            go_ret
            exact down_end ⟨f', HL5.out, HP.out, HPM.out, HR.out, HK5.out⟩ HD.out hik HMI.out fun q h0 hn hq x y hx hy => by
              rw [HA.out] at hx
              injection hx with hx
              subst hx
              exact le_trans (show le a b from HLT.out) (HMIN.out q h0 hn hq b y HB.out hy)
          | true =>
            have HLT := Lib.hid hlt
            have hab : a.id ≠ b.id := fun e => by have := HP.out.inj HA.out HB.out e; omega
            have C2 := swap_any HL5.out HA.out HB.out (by omega) hab (by rw [HP.out.1 _ _ HA.out]; rfl) (by rw [HP.out.1 _ _ HB.out]; rfl)
            have HC2 : Hid (Calls Try.prog 43 #[.pointer (some ⟨t, 0, none⟩), .int .i64 (k : Int), .int .i64 (2 * (k : Int) + 1)] w5 fun e w' => e = .returned (.tuple #[]) ∧ Swapped w5 t r v ((l'.set k b).set (2 * k + 1) a) f' n a b k (2 * k + 1) w') := Lib.hid (by
              rw [show (((2 * k + 1 : Nat)) : Int) = 2 * (k : Int) + 1 by omega] at C2
              exact C2)
            clear hlt hab C2
            go_wp2_with fail
            refine HC2.out.mono ?_
            rintro e w6 ⟨rfl, hs⟩
            have HSW := Lib.hid hs
            clear hs HC2
            go_wp2_with fail
            go_roundw
            case rel =>
              refine ⟨2 * k + 1, true, sw l' k (2 * k + 1) a b, by congr 1 <;> omega, by omega, by omega, ⟨fun _ => by omega, fun _ => rfl⟩, Moved.swapped HL5.out HP.out HPM.out HR.out HK5.out HA.out HB.out (by omega) (by omega) (by omega) HSW.out, ?_⟩
              exact HD.out.step (by unfold par; omega) (by omega) (by omega) HA.out HB.out HLT.out HMIN.out
            case measure => simp [intOf]; omega
      · have t3 : ¬ (2 * (k : Int) + 1 + 1 < (N : Int)) := by omega
        have HMIN : Hid (∀ q, 0 < q → q < N → par q = k → Ok l' (2 * k + 1) q) := Lib.hid fun q h0 hn hq x y hx hy => by
          rw [HB.out] at hx
          injection hx with hx
          subst hx
          rcases par_child hq h0 with rfl | rfl
          · rw [HB.out] at hy; injection hy with hy; subst hy; exact le_refl _
          · omega
        have C1 := less_any HL.out HB.out HA.out
        rw [show (((2 * k + 1 : Nat)) : Int) = 2 * (k : Int) + 1 by omega] at C1
        have HC1 := Lib.hid C1
        clear C1
        go_wp2_with fail
        refine HC1.out.mono ?_
        rintro e w5 ⟨rfl, b5⟩
        have HL5 := Lib.hid (HL.out.ext (Kept.below b5 rfl))
        have HK5 := Lib.hid (HK.out.trans (Kept.below (F := fun j => j = r ∨ v.ownBlock = some j) b5 rfl))
        clear HC1 b5
        cases hlt : lessE b a with
        | false =>
          have HLT := Lib.hid hlt
          have tm := TM.out
          clear hlt
          go_wp2_with fail
          go_ret
          exact down_end ⟨f', HL5.out, HP.out, HPM.out, HR.out, HK5.out⟩ HD.out hik HMI.out fun q h0 hn hq x y hx hy => by
            rw [HA.out] at hx
            injection hx with hx
            subst hx
            exact le_trans (show le a b from HLT.out) (HMIN.out q h0 hn hq b y HB.out hy)
        | true =>
          have HLT := Lib.hid hlt
          have hab : a.id ≠ b.id := fun e => by have := HP.out.inj HA.out HB.out e; omega
          have C2 := swap_any HL5.out HA.out HB.out (by omega) hab (by rw [HP.out.1 _ _ HA.out]; rfl) (by rw [HP.out.1 _ _ HB.out]; rfl)
          have HC2 : Hid (Calls Try.prog 43 #[.pointer (some ⟨t, 0, none⟩), .int .i64 (k : Int), .int .i64 (2 * (k : Int) + 1)] w5 fun e w' => e = .returned (.tuple #[]) ∧ Swapped w5 t r v ((l'.set k b).set (2 * k + 1) a) f' n a b k (2 * k + 1) w') := Lib.hid (by
            rw [show (((2 * k + 1 : Nat)) : Int) = 2 * (k : Int) + 1 by omega] at C2
            exact C2)
          clear hlt hab C2
          go_wp2_with fail
          refine HC2.out.mono ?_
          rintro e w6 ⟨rfl, hs⟩
          have HSW := Lib.hid hs
          clear hs HC2
          go_wp2_with fail
          go_roundw
          case rel =>
            refine ⟨2 * k + 1, true, sw l' k (2 * k + 1) a b, by congr 1 <;> omega, by omega, by omega, ⟨fun _ => by omega, fun _ => rfl⟩, Moved.swapped HL5.out HP.out HPM.out HR.out HK5.out HA.out HB.out (by omega) (by omega) (by omega) HSW.out, ?_⟩
            exact HD.out.step (by unfold par; omega) (by omega) (by omega) HA.out HB.out HLT.out HMIN.out
          case measure => simp [intOf]; omega
    · have t1 : decide ((N : Int) ≤ 2 * (k : Int) + 1) = true := by simp; omega
      have tm := TM.out
      go_wp2_with fail
      go_ret
      exact down_end HM.out HD.out hik HMI.out fun q h0 hn hq => by
        rcases par_child hq h0 with rfl | rfl <;> omega
end
end Go.Proofs.Ytnnbpmjcdcmigaa.Line
