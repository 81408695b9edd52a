/- report.Unhex. -/
import Derived.Test.YtkfkkihdlkhbnaaDoorUnhLaw
namespace Go.Proofs.YtkfkkihdlkhbnaaDoor.Str
open Go.RowKit

/-- The loop's state, p bytes consumed. -/
def UnhR (w : World) (s : ByteArray) (m : Nat) (b high : Value) (wr : World) : Prop :=
  ∃ p : Nat, m + p = s.size ∧ wr.heap[w.heap.size]? = some (.stringIter s p) ∧ (∀ c ∈ s.data.toList.take p, isHex c = true) ∧ Own wr (w.heap.size + 1) 5 1 eByte b (rp (s.data.toList.take p)) ∧
    (p % 2 = 1 → ∀ c, s.data.toList[p - 1]? = some c → high = .int .i64 (hval c.toNat)) ∧ Below w.heap.size w wr ∧ w.heap.size < wr.heap.size

theorem rp_take_odd : ∀ (j : Nat) (l : List UInt8), rp (l.take (2 * j + 1)) = rp (l.take (2 * j))
  | 0, l => by cases l <;> rfl
  | j + 1, l => by
    match l with
    | [] => simp
    | [_] => rw [show 2 * (j + 1) = 2 * j + 1 + 1 by omega]; simp [rp]
    | x :: y :: r =>
      rw [show 2 * (j + 1) + 1 = 2 * j + 1 + 1 + 1 by omega, show 2 * (j + 1) = 2 * j + 1 + 1 by omega]
      simp only [List.take_succ_cons, rp]
      rw [rp_take_odd j r]

theorem or_all : ∀ x y : Fin 16, bits .or .i64 ((x.val : Int) * 16) (y.val : Int) = 16 * (x.val : Int) + (y.val : Int) := by decide +kernel
theorem or_pair (a b : UInt8) : bits .or .i64 ((hval a.toNat : Int) * 16) (hval b.toNat : Int) = ((pair a b).toNat : Int) := by
  have h1 := hval_le a.toNat
  have h2 := hval_le b.toNat
  have := or_all ⟨hval a.toNat, by omega⟩ ⟨hval b.toNat, by omega⟩
  simp only at this
  rw [this, pair_toNat]
  omega
set_option maxRecDepth 100000 in
set_option maxHeartbeats 2000000 in
theorem unhex_any (s : ByteArray) (hs : s.size ≤ 4096) (w : World) : Calls Tryd.prog 15 #[.string s] w fun e w' => e = .returned (unhV (unhx s.data.toList)) ∧ Below w.heap.size w w' := by
  obtain ⟨i0, hi0, hz0, hz1, hz2⟩ := info_parts' info5
  have hlen : s.data.toList.length = s.size := by simp
  by_cases h45 : s.data.toList = [45]
  · have hV : unhx s.data.toList = some [] := by rw [h45]; exact unhx_hex []
    have t0 : (s.toList == [45]) = true := by rw [Lib.toList_data, h45]; rfl
    have t0' : s.toList = [45] := by rw [Lib.toList_data, h45]
    rw [hV]
    clear hV hlen hs h45
    go_enter Tryd.func15, Tryd.ntmps15
    go_wp2_with fail
    go_ret2
    exact ⟨rfl, Below.refl _ _⟩
  have t0 : (s.toList == [45]) = false := by rw [Lib.toList_data]; simpa using h45
  by_cases h0 : s.data.toList = []
  · have hV : unhx s.data.toList = none := unhx_bad h45 (.inr (.inl h0))
    have t1 : s.toList.isEmpty = true := by rw [Lib.toList_data, h0]; rfl
    rw [hV]
    clear hV hlen hs h45 h0
    go_enter Tryd.func15, Tryd.ntmps15
    go_wp2_with fail
    go_ret2
    exact ⟨rfl, Below.refl _ _⟩
  have t1 : s.toList.isEmpty = false := by
    rw [Lib.toList_data]
    cases h : s.data.toList with
    | nil => exact absurd h h0
    | cons _ _ => rfl
  by_cases hodd : s.size % 2 = 1
  · have hV : unhx s.data.toList = none := unhx_bad h45 (.inl (by omega))
    have t2 : ((s.size : Int) % 2 != 0) = true := by simp; omega
    rw [hV]
    clear hV hlen hs h45 h0 hodd
    go_enter Tryd.func15, Tryd.ntmps15
    go_wp2_with fail
    go_ret2
    exact ⟨rfl, Below.refl _ _⟩
  have t2 : ((s.size : Int) % 2 != 0) = false := by simp; omega
  have HBAD := Lib.hid (fun (c : UInt8) (hc : c ∈ s.data.toList) (hn : isHex c = false) => unhx_bad h45 (.inr (.inr ⟨c, hc, hn⟩)))
  have HGOOD := Lib.hid (fun h => unhx_good h0 (by omega) h)
  have HL := Lib.hid hlen
  clear h45 h0 hodd hlen
  go_enter Tryd.func15, Tryd.ntmps15
  go_wp2_with fail
  go_loopg [4, 5] s.size (fun m b high wr => UnhR w s m b high wr)
  case atStart => exact ⟨0, by omega, iter_heap w s 0, by simp, Own.nil _ _, fun h => by omega, iter_below w s 0, by simp [World.iter]⟩
  case round =>
    obtain ⟨p, hm, hit, hx, ho, hh, hb, hsz⟩ := hrel
    obtain ⟨B, N, c, rfl⟩ := ho.form'
    have HB := Lib.hid hb
    have HX := Lib.hid hx
    have HO := Lib.hid ho
    have HH := Lib.hid hh
    by_cases hp : p < s.size
    · have hmem : s[p] ∈ s.data.toList := by
        have : s.data.toList[p]? = some s[p] := by rw [List.getElem?_eq_getElem (by rw [HL.out]; exact hp)]; rfl
        exact List.mem_of_getElem? this
      by_cases hhex : isHex s[p] = true
      · have ha : (s[p]'hp).toNat < 128 := by rw [isHex_iff] at hhex; omega
        have hnx : ∀ ty, (Instr.next (.pointer (some ⟨w.heap.size, 0, none⟩)) true ty).run Tryd.prog wr = .ok (.tuple #[.bool true, .int .i64 (p : Int), .int .i32 (s[p].toNat : Int)]) (wr.iterAt w.heap.size s (p + 1)) := fun ty => Lib.run_next_ascii_at wr w.heap.size s p ty hit hp ha
        have hit2 := Lib.iterAt_heap wr w.heap.size s p (p + 1) hit
        have HI2 := Lib.hid hit2
        have hb2 := Lib.below_iterAt hb (Nat.le_refl _) s (p + 1)
        have HB2 := Lib.hid hb2
        have ho2 : Own (wr.iterAt w.heap.size s (p + 1)) (w.heap.size + 1) 5 1 eByte (.slice B N c) (rp (s.data.toList.take p)) := by
          obtain ⟨q1, q2⟩ := ho
          refine ⟨q1, ?_⟩
          rcases q2 with q2 | ⟨g, cap, cur, hv, hg, hhh, rr⟩
          · exact .inl q2
          · exact .inr ⟨g, cap, cur, hv, hg, (Lib.iterAt_other wr w.heap.size g s (p + 1) (by omega)).trans hhh, rr⟩
        have HO2 := Lib.hid ho2
        have hs2 : (wr.iterAt w.heap.size s (p + 1)).heap.size = wr.heap.size := Lib.iterAt_size _ _ _ _
        have hn : nibN (s[p].toNat : Int) = (hval s[p].toNat : Int) := nibN_hex hhex
        have hv15 := hval_le s[p].toNat
        have HXN : Hid (∀ c ∈ s.data.toList.take (p + 1), isHex c = true) := Lib.hid (by
          rw [take_snoc s p hp]
          intro c hc
          rcases List.mem_append.1 hc with hc | hc
          · exact hx c hc
          · rw [List.mem_singleton.1 hc]; exact hhex)
        have HC := Lib.hid (nibble_any (s[p].toNat : Int) (wr.iterAt w.heap.size s (p + 1)))
        have hlt2 : (rp (s.data.toList.take p)).length ≤ 4096 := by have := rp_len (s.data.toList.take p); rw [List.length_take] at this; omega
        have HLT := Lib.hid hlt2
        clear hit hx ho hh hb hhex ha hmem hit2 hb2 ho2 hlt2
        rw [hn] at HC
        have HHV := Lib.hid hn
        generalize hW : wr.iterAt w.heap.size s (p + 1) = W at *
        clear hn hW
        go_wp2_with fail
        refine HC.out.mono ?_
        rintro e w2 ⟨rfl, hb3⟩
        have HB3 := Lib.hid (HB2.out.trans (hb3.mono HB2.out.size))
        have HI3 : Hid (w2.heap[w.heap.size]? = some (.stringIter s (p + 1))) := Lib.hid ((hb3.block w.heap.size (by omega)).trans HI2.out)
        have HO3 := Lib.hid (HO2.out.kept (F := none_) (Kept.below hb3 rfl) Off.none_)
        have hs3 : w.heap.size < w2.heap.size := by have := hb3.size; omega
        have v0 : (0 : Int) ≤ (hval s[p].toNat : Int) := by omega
        have v1 : (hval s[p].toNat : Int) ≤ 15 := by omega
        have p0 : (0 : Int) ≤ (p : Int) := by omega
        have p1 : (p : Int) < (s.size : Int) := by omega
        clear hb3 HI2 HO2 HB2 HC hnx
        by_cases hpar : p % 2 = 0
        · have t3 : ((p : Int) % 2 == 0) = true := by simp; omega
          have hR : UnhR w s (gk - 1) (.slice B N c) (.int .i64 (hval s[p].toNat : Int)) w2 := by
            refine ⟨p + 1, by omega, HI3.out, HXN.out, ?_, fun _ c hc => ?_, HB3.out, hs3⟩
            · obtain ⟨j, rfl⟩ : ∃ j, p = 2 * j := ⟨p / 2, by omega⟩
              rw [rp_take_odd]
              exact HO3.out
            · rw [Nat.add_sub_cancel, List.getElem?_eq_getElem (by rw [HL.out]; exact hp)] at hc
              injection hc with hc
              rw [← hc]
              rfl
          have HR := Lib.hid hR
          clear hR HI3 HO3
          go_wp2_with fail
          go_roundg (gk - 1)
          case measure => omega
          case rel => exact HR.out
        · have t3 : ((p : Int) % 2 == 0) = false := by simp; omega
          obtain ⟨a, ha⟩ : ∃ a, s.data.toList[p - 1]? = some a := ⟨s.data.toList[p - 1]'(by rw [HL.out]; omega), List.getElem?_eq_getElem _⟩
          have hhigh := HH.out (by omega) a ha
          subst hhigh
          have hva := hval_le a.toNat
          have a0 : (0 : Int) ≤ (hval a.toNat : Int) := by omega
          have a1 : (hval a.toNat : Int) ≤ 15 := by omega
          have HA := Lib.hid ha
          clear ha
          have hor := or_pair a s[p]
          have HP : Hid (rp (s.data.toList.take (p + 1)) = rp (s.data.toList.take p) ++ [pair a s[p]]) := Lib.hid (by
            obtain ⟨j, rfl⟩ : ∃ j, p = 2 * j + 1 := ⟨p / 2, by omega⟩
            rw [rp_take_odd, show 2 * j + 1 + 1 = 2 * (j + 1) by omega]
            refine rp_take j _ _ _ HA.out ?_
            rw [List.getElem?_eq_getElem (by rw [HL.out]; exact hp)]
            rfl)
          have z0 : (0 : Int) ≤ ((pair a s[p]).toNat : Int) := by omega
          have z1 : ((pair a s[p]).toNat : Int) ≤ 255 := by have := (pair a s[p]).toNat_lt; omega
          clear HH HX HO
          go_wp2_with (at_builtin; refine wpList_append_sl _ rfl (.tmp 33) (.tmp 39) 42 rfl (w.heap.size + 1) 5 i0 (.int .u8 0) 1 1 Tryd.underlying42 hi0 hz0 hz1 hz2 rfl (by decide) eByte_len eByte_one (.slice B N c) _ rfl (HO3.out.alloc _) _ [pair a s[p]] rfl (sl_byte w2 (pair a s[p]) _ _ rfl rfl) (by have := HLT.out; unfold maxLen; simp; omega) (by have := HLT.out; simp; omega) (by simp; omega) ?_; intro v' w3 hown' hgrow hat)
          have hR : UnhR w s (gk - 1) v' (.int .i64 (hval a.toNat : Int)) w3 := by
            have hne : some w.heap.size ≠ (Value.slice B N c).ownBlock := fun e => by
              have := (HO3.out.lt _ e.symm).1
              omega
            refine ⟨p + 1, by omega, ?_, HXN.out, by rw [HP.out]; exact hown', fun h => by omega, (HB3.out.alloc (by omega) _).grown hgrow (by simp; omega) (fun q hq => by have := (HO3.out.lt q hq).1; omega), by have := hgrow.size; simp at this; omega⟩
            rw [hgrow.block w.heap.size (by simp; omega) hne, heap_alloc_old _ _ hs3]
            exact HI3.out
          have HR := Lib.hid hR
          obtain ⟨B', N', c', rfl⟩ := hown'.form'
          clear hR hown' hgrow hat HI3 HO3
          go_wp2_with fail
          go_roundg (gk - 1)
          case measure => omega
          case rel => exact HR.out
      · have hhex' : isHex s[p] = false := by simpa using hhex
        have HV := Lib.hid (HBAD.out _ hmem hhex')
        obtain ⟨r, n', W, hnx, hr, hbW⟩ : ∃ (r : Int) (n' : Nat) (W : World), (∀ ty, (Instr.next (.pointer (some ⟨w.heap.size, 0, none⟩)) true ty).run Tryd.prog wr = .ok (.tuple #[.bool true, .int .i64 (p : Int), .int .i32 r]) W) ∧ nibN r = -1 ∧ Below w.heap.size w W := by
          by_cases ha : (s[p]'hp).toNat < 128
          · exact ⟨_, p + 1, _, fun ty => Lib.run_next_ascii_at wr w.heap.size s p ty hit hp ha, nibN_not hhex', Lib.below_iterAt hb (Nat.le_refl _) s _⟩
          · have := (decode_high s p hp (by omega)).1
            exact ⟨_, 0, _, fun ty => Lib.run_next_any_at wr w.heap.size s p ty hit hp, nibN_high (by omega), Lib.below_iterAt hb (Nat.le_refl _) s _⟩
        have HC := nibble_any r W
        rw [hr] at HC
        have HC := Lib.hid HC
        have HBW := Lib.hid hbW
        clear hit hx ho hh hb hhex hmem hhex' hr hbW
        go_wp2_with fail
        refine HC.out.mono ?_
        rintro e w2 ⟨rfl, hb3⟩
        have HB3 := Lib.hid (HBW.out.trans (hb3.mono HBW.out.size))
        clear hb3
        go_wp2_with fail
        go_ret2
        exact ⟨by rw [HV.out]; rfl, HB3.out⟩
    · obtain rfl : p = s.size := by omega
      have hfull : s.data.toList.take s.size = s.data.toList := List.take_of_length_le (by rw [HL.out]; omega)
      have hall := HX.out
      have hown := HO.out
      rw [hfull] at hall hown
      have HV := Lib.hid (HGOOD.out hall)
      have kc := conv_own hown
      have hnx : ∀ ty, (Instr.next (.pointer (some ⟨w.heap.size, 0, none⟩)) true ty).run Tryd.prog wr = .ok (.tuple #[.bool false]) wr := fun ty => Lib.run_next_end_at wr w.heap.size s s.size ty hit (by omega)
      clear hit hx ho hh hb hall hown hfull
      go_wp2_with fail
      go_ret2
      exact ⟨by rw [HV.out]; rfl, HB.out⟩
end Go.Proofs.YtkfkkihdlkhbnaaDoor.Str
