/- heap.up: its contract. -/
import Derived.Test.YtnnbpmjcdcmigaaHeapLaw
namespace Go.Proofs.Ytnnbpmjcdcmigaa.Line
open Go.RowKit HeapLaw

/-- f says the place of each entry, and of nothing else. -/
def Place (l : List E) (f : Int → Option Value) : Prop := (∀ (i : Nat) (e : E), l[i]? = some e → f e.id = some (.int .i64 (i : Int))) ∧ (∀ d, (∀ e ∈ l, e.id ≠ d) → f d = none)
theorem Place.inj {l : List E} {f : Int → Option Value} (h : Place l f) {i k : Nat} {a b : E} (hi : l[i]? = some a) (hk : l[k]? = some b) (e : a.id = b.id) : i = k := by
  have h1 := h.1 i a hi
  have h2 := h.1 k b hk
  rw [e, h2] at h1
  injection h1 with h1
  injection h1 with h1
  omega
theorem sw_perm {l : List E} {i k : Nat} {a b : E} (hi : l[i]? = some a) (hk : l[k]? = some b) : (sw l i k a b).Perm l := by
  obtain ⟨h1, rfl⟩ := List.getElem?_eq_some_iff.1 hi
  obtain ⟨h2, rfl⟩ := List.getElem?_eq_some_iff.1 hk
  exact List.set_set_perm h1 h2
theorem Place.sw {l : List E} {f f' : Int → Option Value} (h : Place l f) {i k : Nat} {a b : E} (hi : l[i]? = some a) (hk : l[k]? = some b) (hne : i ≠ k) (h1 : f' b.id = some (.int .i64 (i : Int))) (h2 : f' a.id = some (.int .i64 (k : Int))) (h3 : ∀ d, d ≠ a.id → d ≠ b.id → f' d = f d) : Place (sw l i k a b) f' := by
  refine ⟨fun j e hj => ?_, fun d hd => ?_⟩
  · by_cases hji : j = i
    · subst hji
      rw [sw_at_i hi hne] at hj
      injection hj with hj
      subst hj
      exact h1
    · by_cases hjk : j = k
      · subst hjk
        rw [sw_at_k hk] at hj
        injection hj with hj
        subst hj
        exact h2
      · rw [sw_at hji hjk] at hj
        rw [h3 e.id (fun e' => hji (h.inj hj hi e')) (fun e' => hjk (h.inj hj hk e'))]
        exact h.1 j e hj
  · have hp := sw_perm hi hk
    have hd' : ∀ e ∈ l, e.id ≠ d := fun e he => hd e (hp.mem_iff.2 he)
    rw [h3 d (Ne.symm (hd' a (List.mem_of_getElem? hi))) (Ne.symm (hd' b (List.mem_of_getElem? hk)))]
    exact h.2 d hd'

section
variable {w w' : World} {t r n N : Nat} {v : Value} {l : List E} {f : Int → Option Value}
/-- What is kept from step to step: the first N are moved about. -/
def Moved (w : World) (t r : Nat) (v : Value) (l : List E) (n N : Nat) (l' : List E) (w' : World) : Prop :=
  ∃ f', Ln w' t r v l' f' n ∧ Place l' f' ∧ l'.Perm l ∧ (∀ k, N ≤ k → l'[k]? = l[k]?) ∧ Kept (fun j => j = r ∨ v.ownBlock = some j) w w'
theorem Moved.start (h : Ln w t r v l f n) (hp : Place l f) : Moved w t r v l n N l w := ⟨f, h, hp, List.Perm.refl _, fun _ _ => rfl, Kept.refl _ _⟩
theorem Moved.ext {w1 w2 : World} {l' : List E} (h : Moved w t r v l n N l' w1) (b : Below w1.heap.size w1 w2) : Moved w t r v l n N l' w2 := by
  obtain ⟨f', h1, h2, h3, h4, h5⟩ := h
  exact ⟨f', h1.ext (Kept.below b rfl), h2, h3, h4, h5.trans ((Kept.below (F := fun j => j = r ∨ v.ownBlock = some j) b rfl).mono fun _ _ h => h)⟩
theorem Moved.swapped {w1 w2 : World} {l' : List E} {f' : Int → Option Value} (h1 : Ln w1 t r v l' f' n) (h2 : Place l' f') (h3 : l'.Perm l) (h4 : ∀ k, N ≤ k → l'[k]? = l[k]?) (h5 : Kept (fun j => j = r ∨ v.ownBlock = some j) w w1) {i k : Nat} {a b : E} (hi : l'[i]? = some a) (hk : l'[k]? = some b) (hne : i ≠ k) (hiN : i < N) (hkN : k < N)
    (hs : Swapped w1 t r v ((l'.set i b).set k a) f' n a b i k w2) : Moved w t r v l n N (sw l' i k a b) w2 := by
  obtain ⟨f2, s1, s2, s3, s4, s5⟩ := hs
  exact ⟨f2, s1, h2.sw hi hk hne s2 s3 s4, (sw_perm hi hk).trans h3, fun q hq => by rw [sw_at (by omega) (by omega)]; exact h4 q hq, h5.trans s5⟩

theorem less_m (t : Nat) (w : World) : (method 183 58 (.pointer (some ⟨t, 0, none⟩)) "Less").run Try.prog w = .ok (40, .pointer (some ⟨t, 0, none⟩)) w := by kernel_rfl
theorem swap_m (t : Nat) (w : World) : (method 183 58 (.pointer (some ⟨t, 0, none⟩)) "Swap").run Try.prog w = .ok (43, .pointer (some ⟨t, 0, none⟩)) w := by kernel_rfl
theorem len_m (t : Nat) (w : World) : (method 183 58 (.pointer (some ⟨t, 0, none⟩)) "Len").run Try.prog w = .ok (21, .pointer (some ⟨t, 0, none⟩)) w := by kernel_rfl
theorem push_m (t : Nat) (w : World) : (method 183 58 (.pointer (some ⟨t, 0, none⟩)) "Push").run Try.prog w = .ok (42, .pointer (some ⟨t, 0, none⟩)) w := by kernel_rfl
theorem pop_m (t : Nat) (w : World) : (method 183 58 (.pointer (some ⟨t, 0, none⟩)) "Pop").run Try.prog w = .ok (41, .pointer (some ⟨t, 0, none⟩)) w := by kernel_rfl

set_option maxRecDepth 100000 in
set_option maxHeartbeats 1000000 in
theorem up_any (h : Ln w t r v l f n) (hp : Place l f) {j : Nat} (hj : j < N) (hN : N ≤ l.length) (hU : Up N l j) :
    Calls Try.prog 23 #[.iface 58 (.pointer (some ⟨t, 0, none⟩)), .int .i64 (j : Int)] w fun e w' => e = .returned (.tuple #[]) ∧ ∃ l', Moved w t r v l n N l' w' ∧ Heap N l' := by
  have hN2 := h.len
  have HM := Lib.hid (Moved.start (N := N) h hp)
  have HU := Lib.hid hU
  clear h hp hU
  go_enter Try.func23, Try.ntmps23
  go_wp2_with fail
  go_loopw [1] (fun q wr => ∃ (k : Nat) (l' : List E), q = .int .i64 k ∧ k < N ∧ Moved w t r v l n N l' wr ∧ Up N l' k) (fun q _ => (intOf q).toNat)
  case atStart => exact ⟨j, l, rfl, hj, HM.out, HU.out⟩
  case round =>
    clear HM HU
    obtain ⟨k, l', rfl, hk, hM, hU⟩ := hrel
    have HM := Lib.hid hM
    have HU := Lib.hid hU
    clear hM hU
    by_cases h0 : k = 0
    · subst h0
      go_wp2_with fail
      refine bodyPost_end (results_none rfl _ _ _) rfl ?_
      exact ⟨rfl, l', HM.out, HU.out.stop (.inl rfl)⟩
    · obtain ⟨f', hLn, hP, hPerm, hrest, hK⟩ := HM.out
      have hpk := par_lt (by omega : 0 < k)
      have hll := hPerm.length_eq
      obtain ⟨b, hb⟩ : ∃ b, l'[k]? = some b := ⟨l'[k]'(by omega), by simp⟩
      obtain ⟨a, ha⟩ : ∃ a, l'[par k]? = some a := ⟨l'[par k]'(by omega), by simp⟩
      have hi : ((k : Int) - 1) / 2 = ((par k : Nat) : Int) := by unfold par; omega
      have t1 : (((par k : Nat) : Int) == (k : Int)) = false := by simp; omega
      have C := Lib.hid (less_any hLn hb ha)
      have hm1 := less_m t
      have hm2 := swap_m t
      have HB := Lib.hid hb
      have HA := Lib.hid ha
      have HL := Lib.hid hLn
      have HP := Lib.hid hP
      have HPM := Lib.hid hPerm
      have HR := Lib.hid hrest
      have HK := Lib.hid hK
      clear hLn hP hPerm hrest hK hb ha hll HM h0
      generalize hpar : par k = p at *
      have HPAR := Lib.hid hpar
      clear hpar
      go_wp2_with fail
      refine C.out.mono ?_
      rintro e w3 ⟨rfl, b3⟩
      have HL3 := Lib.hid (HL.out.ext (Kept.below b3 rfl))
      have HK3 := Lib.hid (HK.out.trans ((Kept.below (F := fun j => j = r ∨ v.ownBlock = some j) b3 rfl)))
      clear C b3
      cases hlt : lessE b a with
      | false =>
        have HLT := Lib.hid hlt
        clear hlt
        go_wp2_with fail
        refine bodyPost_end (results_none rfl _ _ _) rfl ?_
        refine ⟨rfl, l', ⟨f', HL3.out, HP.out, HPM.out, HR.out, HK3.out⟩, HU.out.stop (.inr fun x y hx hy => ?_)⟩
        rw [HPAR.out, HA.out] at hx
        rw [HB.out] at hy
        injection hx with hx
        injection hy with hy
        subst hx hy
        exact HLT.out
      | true =>
        have HLT := Lib.hid hlt
        have hab : a.id ≠ b.id := fun e => by have := HP.out.inj HA.out HB.out e; omega
        have C2 := Lib.hid (swap_any HL3.out HA.out HB.out (by omega) hab (by rw [HP.out.1 _ _ HA.out]; rfl) (by rw [HP.out.1 _ _ HB.out]; rfl))
        clear hlt hab
        go_wp2_with fail
        refine C2.out.mono ?_
        rintro e w4 ⟨rfl, hs⟩
        have HSW := Lib.hid hs
        clear hs C2
        go_wp2_with fail
        go_roundw
        case rel =>
          refine ⟨p, sw l' p k a b, rfl, by omega, Moved.swapped HL3.out HP.out HPM.out HR.out HK3.out HA.out HB.out (by omega) (by omega) hk HSW.out, ?_⟩
          have := HU.out.step (by omega) hk (by rw [HPAR.out]; exact HA.out) HB.out HLT.out
          rwa [HPAR.out] at this
        case measure => simp [intOf]; omega
end
end Go.Proofs.Ytnnbpmjcdcmigaa.Line
