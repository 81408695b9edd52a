/- heap.Remove: its walk. -/
import Derived.Test.YtnnbpmjcdcmigaaHeapRem
namespace Go.Proofs.Ytnnbpmjcdcmigaa.Line
open Go.RowKit HeapLaw

section
variable {w w' : World} {t r n m i : Nat} {v : Value} {l : List E} {a : E} {f : Int → Option Value}
set_option maxRecDepth 100000 in
set_option maxHeartbeats 1000000 in
theorem rem_any (h : Ln w t r v l f n) (hp : Place l f) (hl : l.length = m + 1) (hH : Heap (m + 1) l) (ha : l[i]? = some a) :
    Calls Try.prog 20 #[.iface 58 (.pointer (some ⟨t, 0, none⟩)), .int .i64 (i : Int)] w fun en w' => en = .returned (.iface 56 (.agg #[.int .i64 a.id, .int .i64 a.at_])) ∧ ∃ l', (l' ++ [a]).Perm l ∧ After w t r v l' w' := by
  have hi := (List.getElem?_eq_some_iff.1 ha).1
  have hlen := h.len
  have hm200 : m ≤ 199 := by omega
  have C0 := len_any h
  rw [hl] at C0
  have HC0 := Lib.hid C0
  have hm1 := len_m t
  have hm2 := swap_m t
  have hm3 := pop_m t
  have hcast : ((m + 1 : Nat) : Int) = (m : Int) + 1 := by omega
  by_cases him : i = m
  · subst him
    have t1 : ((i : Int) != (i : Int)) = false := by simp
    have HC := Lib.hid (rem_pop hl (List.Perm.refl _) ha (fun k h0 hk => hH k h0 (by omega)) h hp (Kept.refl _ _))
    clear h hp hl hH ha C0 hi
    go_enter Try.func20, Try.ntmps20
    go_wp2_with fail
    refine HC0.out.mono ?_
    rintro en w1 ⟨rfl, rfl⟩
    go_wp2_with fail
    refine HC.out.mono ?_
    rintro en w2 ⟨rfl, hR⟩
    have HR := Lib.hid hR
    clear HC HC0 hR
    go_wp2_with fail
    go_ret
    exact ⟨rfl, HR.out⟩
  · have him' : i < m := by omega
    obtain ⟨b, hb⟩ : ∃ b, l[m]? = some b := ⟨l[m]'(by omega), by simp⟩
    have hab : a.id ≠ b.id := fun e => him (hp.inj ha hb e)
    have t1 : ((m : Int) != (i : Int)) = true := by simp; omega
    have HS := Lib.hid (swap_any h ha hb him hab (by rw [hp.1 _ _ ha]; rfl) (by rw [hp.1 _ _ hb]; rfl))
    have HP := Lib.hid hp
    have HA := Lib.hid ha
    have HB := Lib.hid hb
    have HD := Lib.hid (down_remove (b := b) hH him' ha)
    have HLL := Lib.hid hl
    clear h hp hl hH ha hb hab C0 hi
    go_enter Try.func20, Try.ntmps20
    go_wp2_with fail
    refine HC0.out.mono ?_
    rintro en w1 ⟨rfl, rfl⟩
    go_wp2_with fail
    refine HS.out.mono ?_
    rintro en w1 ⟨rfl, f1, s1, s2, s3, s4, s5⟩
    have hP1 : Place (sw l i m a b) f1 := HP.out.sw HA.out HB.out him s2 s3 s4
    have hlen1 : (sw l i m a b).length = m + 1 := by rw [sw_len]; exact HLL.out
    have HC2 := Lib.hid (down_any (N := m) (l := sw l i m a b) s1 hP1 (Nat.le_of_lt him') (by omega) HD.out)
    have HK1 := Lib.hid s5
    clear s1 s2 s3 s4 s5 hP1 hlen1 HS HC0
    go_wp2_with fail
    refine HC2.out.mono ?_
    rintro en w2 ⟨mv, l2, rfl, ⟨f2, a1, a2, a3, a4, a5⟩, d1, d2⟩
    have hp2 : l2.Perm l := a3.trans (sw_perm HA.out HB.out)
    have hm2' : l2[m]? = some a := by rw [a4 m (Nat.le_refl _)]; exact sw_at_k HB.out
    have hK2 := HK1.out.trans a5
    cases mv with
    | true =>
      have HC := Lib.hid (rem_pop HLL.out hp2 hm2' (d1 rfl) a1 a2 hK2)
      clear a1 a2 a3 a4 a5 d1 d2 hp2 hm2' hK2 HC2
      go_wp2_with fail
      refine HC.out.mono ?_
      rintro en w3 ⟨rfl, hR⟩
      have HR := Lib.hid hR
      clear HC hR
      go_wp2_with fail
      go_ret
      exact ⟨rfl, HR.out⟩
    | false =>
      have HC3 := Lib.hid (up_any (N := m) a1 a2 him' (by rw [hp2.length_eq, HLL.out]; omega) (d2 rfl))
      have HP2 := Lib.hid hp2
      have HM2 := Lib.hid hm2'
      have HK2 := Lib.hid hK2
      clear a1 a2 a3 a4 a5 d1 d2 hp2 hm2' hK2 HC2
      go_wp2_with fail
      refine HC3.out.mono ?_
      rintro en w3 ⟨rfl, l3, ⟨f3, c1, c2, c3, c4, c5⟩, hH3⟩
      have HC := Lib.hid (rem_pop HLL.out (c3.trans HP2.out) (by rw [c4 m (Nat.le_refl _)]; exact HM2.out) hH3 c1 c2 (HK2.out.trans c5))
      clear c1 c2 c3 c4 c5 hH3 HC3
      go_wp2_with fail
      refine HC.out.mono ?_
      rintro en w4 ⟨rfl, hR⟩
      have HR := Lib.hid hR
      clear HC hR
      go_wp2_with fail
      go_ret
      exact ⟨rfl, HR.out⟩
end
end Go.Proofs.Ytnnbpmjcdcmigaa.Line
