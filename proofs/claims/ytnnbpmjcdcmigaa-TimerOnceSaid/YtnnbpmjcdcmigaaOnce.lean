/- The law TimerOnce: its walk. -/
import Derived.Test.YtnnbpmjcdcmigaaTimJ
namespace Go.Proofs.Ytnnbpmjcdcmigaa.WTimerOnce
open Go.RowKit Line HeapLaw TimLaw RefT WTimer

def eB (b : UInt8) : List Value := [.int .u8 (b.toNat : Int)]
def nums (l : List UInt8) : List Int := l.map (fun b => (b.toNat : Int))

set_option maxRecDepth 100000 in
set_option maxHeartbeats 1000000 in
/-- The call for a timer that is not there, or too many of them. -/
theorem law_off (A A2 : Option Addr) (cap cap2 n n2 : Nat) (w : World) (h : 60 < n ∨ 60 < n2) :
    Calls Try.prog 4 #[.slice A n cap, .slice A2 n2 cap2] w fun e w' => e = .returned (.bool true) ∧ Below w.heap.size w w' := by
  by_cases h1 : 60 < n
  · have t1 : decide (60 < (n : Int)) = true := by simp; omega
    clear h h1
    go_enter Try.func4, Try.ntmps4
    go_wp2_with fail
    refine (set_nil _ _ _).mono ?_
    rintro e w1 ⟨rfl, rfl⟩
    go_wp2_with fail
    refine (at_nil _ _).mono ?_
    rintro e w1 ⟨rfl, rfl⟩
    go_wp2_with fail
    refine (next_nil _).mono ?_
    rintro e w1 ⟨rfl, rfl⟩
    go_wp2_with fail
    refine (stop_nil _ _).mono ?_
    rintro e w1 ⟨rfl, rfl⟩
    go_wp2_with fail
    refine (due_nil _ _).mono ?_
    rintro e w1 ⟨rfl, rfl⟩
    go_wp2_with fail
    refine (tlen_nil _).mono ?_
    rintro e w1 ⟨rfl, rfl⟩
    go_wp2_with fail
    refine (lives _).mono ?_
    rintro e w1 ⟨rfl, hb⟩
    go_wp2_with fail
    go_ret
    exact ⟨rfl, hb⟩
  · have h2 : 60 < n2 := by omega
    have t1 : decide (60 < (n : Int)) = false := by simp; omega
    have t2 : decide (60 < (n2 : Int)) = true := by simp; omega
    clear h h1 h2
    go_enter Try.func4, Try.ntmps4
    go_wp2_with fail
    refine (set_nil _ _ _).mono ?_
    rintro e w1 ⟨rfl, rfl⟩
    go_wp2_with fail
    refine (at_nil _ _).mono ?_
    rintro e w1 ⟨rfl, rfl⟩
    go_wp2_with fail
    refine (next_nil _).mono ?_
    rintro e w1 ⟨rfl, rfl⟩
    go_wp2_with fail
    refine (stop_nil _ _).mono ?_
    rintro e w1 ⟨rfl, rfl⟩
    go_wp2_with fail
    refine (due_nil _ _).mono ?_
    rintro e w1 ⟨rfl, rfl⟩
    go_wp2_with fail
    refine (tlen_nil _).mono ?_
    rintro e w1 ⟨rfl, rfl⟩
    go_wp2_with fail
    refine (lives _).mono ?_
    rintro e w1 ⟨rfl, hb⟩
    go_wp2_with fail
    go_ret
    exact ⟨rfl, hb⟩

def Fill (w : World) (ta ra tb rb : Nat) (L : List Int) (m : Nat) (i : Value) (wr : World) : Prop :=
  ∃ (k : Nat) (xa xb : List E), m + k = L.length ∧ i = .int .i64 k ∧ Two w wr ta ra tb rb xa xb ∧ Filled L (fun i => i) k xa ∧ Filled L (fun i => L.length - 1 - i) k xb
def Outer (w : World) (ta ra tb rb : Nat) (X : List E) (ns m : Nat) (now all i : Value) (wr : World) : Prop :=
  ∃ (k : Nat) (done cur : List E) (n : Int), m + k = ns ∧ i = .int .i64 k ∧ now = .int .i64 n ∧ Own wr w.heap.size 3 1 eInt all (done.map E.id) ∧ Two w wr ta ra tb rb cur X ∧ Woken X k n done cur
def Inner (w : World) (ta ra tb rb : Nat) (X done D cur : List E) (base : Nat) (o : Value) (m : Nat) (all i : Value) (wr : World) : Prop :=
  ∃ q : Nat, m + q = D.length ∧ i = .int .i64 q ∧ Own wr w.heap.size 3 1 eInt all ((done ++ D.take q).map E.id) ∧ Own wr base 3 1 eInt o (D.map E.id) ∧ (o.ownBlock = none ∨ o.ownBlock ≠ all.ownBlock) ∧ Two w wr ta ra tb rb cur X

/-- One of all. -/
theorem filled_at {L : List Int} {X : List E} (h : Filled L (fun i => i) L.length X) {e : E} (he : e ∈ X) : ∃ i : Nat, i < L.length ∧ e = ⟨(i : Int), L.getD i 0⟩ := by
  obtain ⟨i, hi, rfl⟩ := (h.2 e).1 he
  exact ⟨i, hi, rfl⟩
theorem nums_at {l : List UInt8} {i : Nat} {b : UInt8} (h : l[i]? = some b) : (nums l).getD i 0 = (b.toNat : Int) := by
  unfold nums
  rw [List.getD_eq_getElem?_getD, List.getElem?_map, h]
  rfl
theorem byte_cell {w : World} {A : Option Addr} {l : List UInt8} {i : Nat} {b : UInt8} (h : RowsAt w 1 eB A l) (hi : l[i]? = some b) : ∃ ab aoff, A = some ⟨ab, aoff, none⟩ ∧ ab < w.heap.size ∧ ∀ j (c : UInt8), l[j]? = some c → w.cell? ⟨ab, aoff + j, none⟩ = some (.int .u8 (c.toNat : Int)) := by
  obtain ⟨ab, aoff, e, hlt, hc⟩ := h (by rintro rfl; simp at hi)
  refine ⟨ab, aoff, e, hlt, fun j c hj => ?_⟩
  have := hc j c hj 0 _ rfl
  simpa using this

theorem byte_at {w : World} {ab aoff i : Nat} {l : List UInt8} {b : UInt8} (h : RowsAt w 1 eB (some ⟨ab, aoff, none⟩) l) (hi : l[i]? = some b) : w.cell? ⟨ab, aoff + i, none⟩ = some (.int .u8 (b.toNat : Int)) ∧ ab < w.heap.size := by
  obtain ⟨ab', aoff', e, hlt, hc⟩ := byte_cell h hi
  injection e with e
  injection e with e1 e2
  subst e1 e2
  exact ⟨hc i b hi, hlt⟩

set_option maxRecDepth 100000 in
set_option maxHeartbeats 4000000 in
theorem law_any (A A2 : Option Addr) (cap cap2 : Nat) (l s : List UInt8) (w : World) (hc : RowsAt w 1 eB A l) (hc2 : RowsAt w 1 eB A2 s) :
    Calls Try.prog 4 #[.slice A l.length cap, .slice A2 s.length cap2] w fun e w' => e = .returned (.bool true) ∧ Below w.heap.size w w' := by
  by_cases hoff : 60 < l.length ∨ 60 < s.length
  · exact law_off A A2 cap cap2 _ _ w hoff
  have h1 : l.length ≤ 60 := by omega
  have h2 : s.length ≤ 60 := by omega
  have t1 : decide (60 < (l.length : Int)) = false := by simp; omega
  have t2 : decide (60 < (s.length : Int)) = false := by simp; omega
  obtain ⟨i0, hi0, hz0, hz1, hz2⟩ := info_parts' info3
  have HC := Lib.hid hc
  have HC2 := Lib.hid hc2
  have hln : (nums l).length = l.length := by simp [nums]
  have HLN := Lib.hid hln
  have HNew := Lib.hid tnew
  clear hoff hc hc2 hln
  go_enter Try.func4, Try.ntmps4
  go_wp2_with fail
  refine (set_nil _ _ _).mono ?_
  rintro e w1 ⟨rfl, rfl⟩
  go_wp2_with fail
  refine (at_nil _ _).mono ?_
  rintro e w1 ⟨rfl, rfl⟩
  go_wp2_with fail
  refine (next_nil _).mono ?_
  rintro e w1 ⟨rfl, rfl⟩
  go_wp2_with fail
  refine (stop_nil _ _).mono ?_
  rintro e w1 ⟨rfl, rfl⟩
  go_wp2_with fail
  refine (due_nil _ _).mono ?_
  rintro e w1 ⟨rfl, rfl⟩
  go_wp2_with fail
  refine (tlen_nil _).mono ?_
  rintro e w1 ⟨rfl, rfl⟩
  go_wp2_with fail
  refine (HNew.out _).mono ?_
  rintro e w1 ⟨ta, ra, va, rfl, g1, g2, g3⟩
  have G1 := Lib.hid g1
  have G2 := Lib.hid g2
  have G3 := Lib.hid g3
  clear g1 g2 g3
  go_wp2_with fail
  refine (HNew.out _).mono ?_
  rintro e w2 ⟨tb, rb, vb, rfl, g4, g5, g6⟩
  have HT := Lib.hid (two_mk G1.out G2.out G3.out g4 g5 g6)
  clear g4 g5 g6 G1 G2 G3 HNew
  go_wp2_with fail
  go_loopg [79] l.length (fun m i wr => Fill w ta ra tb rb (nums l) m i wr)
  case atStart => exact ⟨0, [], [], by have := HLN.out; omega, rfl, HT.out, Filled.start _ _, Filled.start _ _⟩
  case round =>
    clear HT
    obtain ⟨k, xa, xb, hm, rfl, hT, hfa, hfb⟩ := hrel
    rw [HLN.out] at hm
    by_cases hlt : k < l.length
    · obtain ⟨y, hy⟩ : ∃ y, l[k]? = some y := ⟨l[k]'hlt, List.getElem?_eq_getElem hlt⟩
      obtain ⟨z, hz⟩ : ∃ z, l[l.length - 1 - k]? = some z := ⟨l[l.length - 1 - k]'(by omega), List.getElem?_eq_getElem (by omega)⟩
      obtain ⟨ab, aoff, rfl, hab, hcell⟩ := byte_cell (HC.out.below hT.below) hy
      have q0 := hcell k y hy
      have q1 := hcell _ z hz
      have y0 : (0 : Int) ≤ (y.toNat : Int) := by omega
      have y1 : (y.toNat : Int) ≤ 255 := by have := y.toNat_lt; omega
      have z0 : (0 : Int) ≤ (z.toNat : Int) := by omega
      have z1 : (z.toNat : Int) ≤ 255 := by have := z.toNat_lt; omega
      have k0 : (0 : Int) ≤ (k : Int) := by omega
      have k1 : (k : Int) < (l.length : Int) := by omega
      have k2 : (0 : Int) ≤ (l.length : Int) - 1 - (k : Int) := by omega
      have k3 : (l.length : Int) - 1 - (k : Int) < (l.length : Int) := by omega
      have hsub2 : (((l.length - 1 - k : Nat) : Nat) : Int) = (l.length : Int) - 1 - (k : Int) := by omega
      have hfa' := hfa.step (fun i hi => by omega)
      rw [nums_at hy] at hfa'
      have hfb' := hfb.step (fun i hi => by have := HLN.out; omega)
      simp only [HLN.out] at hfb'
      rw [nums_at hz, hsub2] at hfb'
      have HFA := Lib.hid hfa'
      have HFB := Lib.hid hfb'
      have HA1 := Lib.hid hfa.1
      have HB1 := Lib.hid hfb.1
      have HTT := Lib.hid hT
      have HQ : Hid (∀ W, Below w.heap.size w W → W.cell? ⟨ab, aoff + (l.length - 1 - k), none⟩ = some (.int .u8 (z.toNat : Int)) ∧ ab < W.heap.size) := Lib.hid fun W hW => by
        exact byte_at (HC.out.below hW) hz
      clear hcell hy hz hsub2 hfa hfb hfa' hfb' hT q1
      generalize (y.toNat : Int) = yv at *
      generalize (z.toNat : Int) = zv at *
      go_wp2_with fail
      refine (two_set HTT.out (by have := HA1.out; omega) _ _).mono ?_
      rintro e w3 ⟨rfl, hT3, _⟩
      have HT3 := Lib.hid hT3
      obtain ⟨q1, hab3⟩ := HQ.out _ hT3.below
      clear hT3 q0 hab
      go_wp2_with fail
      refine (two_set HT3.out.swap (by have := HB1.out; omega) _ _).mono ?_
      rintro e w4 ⟨rfl, hT4, _⟩
      have HT4 := Lib.hid hT4.swap
      clear hT4 q1 hab3
      go_wp2_with fail
      go_roundg (gk - 1)
      case measure => omega
      case rel => exact ⟨k + 1, _, _, by have := HLN.out; omega, by go_num, HT4.out, HFA.out, by simp only [HLN.out]; exact HFB.out⟩
    · obtain rfl : k = l.length := by omega
      have hX : xa = xb := by
        rw [← HLN.out] at hfa hfb
        exact hfa.eq hfb hT.srt hT.swap.srt
      subst hX
      have HX := Lib.hid hfa
      have HT := Lib.hid hT
      clear hfa hfb hT hlt hm
      go_wp2_with fail
      go_loopg [15, 16, 108] s.length (fun m now all i wr => Outer w ta ra tb rb xa s.length m now all i wr)
      case atStart => exact ⟨0, [], xa, 0, by omega, rfl, rfl, Own.nil _ _, HT.out, Woken.start xa⟩
      case round =>
        clear HT
        obtain ⟨k, done, cur, now, hm, rfl, rfl, ho, hT, hW⟩ := hrel
        obtain ⟨B, N, c, rfl⟩ := ho.form'
        have n0 := hW.now0
        have n1 : now ≤ 15300 := by have := hW.now1; omega
        have HO := Lib.hid ho
        have HT := Lib.hid hT
        have HW := Lib.hid hW
        clear ho hT hW
        obtain ⟨W1, hW1⟩ : ∃ W1, W1 = wr := ⟨wr, rfl⟩
        subst hW1
        obtain ⟨G, hG⟩ : ∃ G, G = gk := ⟨gk, rfl⟩
        subst hG
        have hm0 := Lib.hid hm
        by_cases hlt : k < s.length
        · obtain ⟨y, hy⟩ : ∃ y, s[k]? = some y := ⟨s[k]'hlt, List.getElem?_eq_getElem hlt⟩
          obtain ⟨sb, soff, rfl, hsb, hcell⟩ := byte_cell (HC2.out.below HT.out.below) hy
          have q0 := hcell k y hy
          have y0 : (0 : Int) ≤ (y.toNat : Int) := by omega
          have y1 : (y.toNat : Int) ≤ 255 := by have := y.toNat_lt; omega
          have k0 : (0 : Int) ≤ (k : Int) := by omega
          have k1 : (k : Int) < (s.length : Int) := by omega
          obtain ⟨hw', hin⟩ := HW.out.step HT.out.srt y0 y1
          have HW2 := Lib.hid hw'
          have HIN := Lib.hid hin
          have HXL := Lib.hid (fun e he => filled_at (L := nums l) (HLN.out.symm ▸ HX.out) (HW.out.mem (e := e) (m := now + (y.toNat : Int)) he))
          have hsum : (0 : Int) ≤ now + (y.toNat : Int) := by omega
          clear hcell hy hw' hin
          generalize (y.toNat : Int) = yv at *
          have HHX := Lib.hid HX.out
          clear hm
          go_wp2_with fail
          refine (two_due HT.out (now + yv)).mono ?_
          rintro e w3 ⟨o3, rfl, ho3, hT3, hSp⟩
          have HO3 := Lib.hid ho3
          have HT3 := Lib.hid hT3
          have HOW := Lib.hid (hSp _ _ _ HO.out)
          have hap : o3.ownBlock = none ∨ o3.ownBlock ≠ (Value.slice B N c).ownBlock := by
            by_cases hn : o3.ownBlock = none
            · exact .inl hn
            · refine .inr fun he => ?_
              obtain ⟨g, hg⟩ := Option.ne_none_iff_exists'.1 hn
              have h1 := (ho3.lt g hg).1
              have h2 := (HO.out.lt g (he ▸ hg)).2
              omega
          have HAP := Lib.hid hap
          obtain ⟨B3, N3, c3, rfl⟩ := ho3.form'
          have hN3 := (ho3.sl eInt_len).len.1
          rw [List.length_map] at hN3
          generalize hD : TimLaw.due cur (now + yv) = D at *
          generalize hR : TimLaw.rest cur (now + yv) = cur' at *
          subst hN3
          have hsz1 := HT.out.below.size
          clear ho3 hT3 hSp hap q0 hsb HO HT hD hR
          go_wp2_with fail
          go_loopg [16, 121] D.length (fun m all i wr => Inner w ta ra tb rb xa done D cur' W1.heap.size (.slice B3 D.length c3) m all i wr)
          case atStart => exact ⟨0, by omega, rfl, by simpa using HOW.out, HO3.out, HAP.out, HT3.out⟩
          case round =>
            clear HOW HO3 HAP HT3
            obtain ⟨q, hq, rfl, ho, ho3, hap, hT⟩ := hrel
            obtain ⟨B4, N4, c4, rfl⟩ := ho.form'
            have HO := Lib.hid ho
            have HO3 := Lib.hid ho3
            have HAP := Lib.hid hap
            have HT := Lib.hid hT
            have hN4 := Lib.hid ((ho.sl eInt_len).len.1)
            have hX := HX.out.1
            have hdl := congrArg List.length HW2.out.all
            rw [List.length_append, List.length_append, hX] at hdl
            clear ho ho3 hap hT hX
            by_cases hql : q < D.length
            · obtain ⟨d, hd⟩ : ∃ d, D[q]? = some d := ⟨D[q]'hql, List.getElem?_eq_getElem hql⟩
              obtain ⟨d1, d2⟩ := HIN.out d (List.mem_of_getElem? hd)
              obtain ⟨i, hi, rfl⟩ := HXL.out d (List.mem_of_getElem? hd)
              rw [HLN.out] at hi
              obtain ⟨b, hb⟩ : ∃ b, l[i]? = some b := ⟨l[i]'hi, List.getElem?_eq_getElem hi⟩
              simp only [nums_at hb] at d1 d2 hd
              obtain ⟨eb, eoff, rfl, heb, q0⟩ := (HO3.out.sl eInt_len).at1 (k := q) (x := (i : Int)) (by rw [List.getElem?_map, hd]; rfl) rfl
              obtain ⟨ab, aoff, rfl, hab, hcell⟩ := byte_cell (HC.out.below HT.out.below) hb
              have q1 := hcell i b hb
              have b0 : (0 : Int) ≤ (b.toNat : Int) := by omega
              have b1 : (b.toNat : Int) ≤ 255 := by have := b.toNat_lt; omega
              have i0' : (0 : Int) ≤ (i : Int) := by omega
              have i1' : (i : Int) < (l.length : Int) := by omega
              have q0' : (0 : Int) ≤ (q : Int) := by omega
              have q1' : (q : Int) < (D.length : Int) := by omega
              have HD := Lib.hid (take_next hd)
              have hs := HT.out.below.size
              clear hcell hd hb hi
              generalize (b.toNat : Int) = bv at *
              have e1 : decide (now + yv < bv) = false := by simp; omega
              have hlen60 : ((done ++ D.take q).map E.id).length ≤ 60 := by rw [List.length_map, List.length_append, List.length_take]; omega
              have HL60 := Lib.hid hlen60
              have hD60 : D.length ≤ 60 := by omega
              have HLT := Lib.hid (fun g (hg : (Value.slice (some ⟨eb, eoff, none⟩) D.length c3).ownBlock = some g) => (HO3.out.lt g hg).2)
              clear hlen60 hdl
              by_cases hle : bv ≤ now
              case' pos =>
                have hz : now = 0 := d2 hle
                have e2 : decide (bv ≤ now) = true := by simpa using hle
                have e3 : decide (0 < now) = false := by simp; omega
                clear hle hz d2
              case' neg =>
                have e2 : decide (bv ≤ now) = false := by simpa using hle
                have e3 : True := trivial
                clear hle d2
              all_goals
                go_wp2_with (at_builtin; refine wpList_append_one _ rfl (.tmp 145) (.tmp 147) 35 rfl w.heap.size 3 i0 (.int .i64 0) 1 8 Try.underlying35 hi0 hz0 hz1 hz2 rfl (by decide) (.slice B4 N4 c4) _ rfl (HO.out.alloc _) wr.heap.size (i : Int) rfl rfl (new_cell_int wr _ 3) (eInt_one _) (by have := HL60.out; omega) (by have := HL60.out; unfold maxLen; omega) (by simp; omega) ?_; intro v' w5 hown' hgrow hat)
                have HT5 := Lib.hid ((HT.out.ext ((Kept.refl none_ wr).alloc (.cells #[.int .i64 (i : Int)] 3))).grown (HO.out.alloc _) (Nat.le_refl _) hgrow)
                have HO35 := Lib.hid (Own.grown_own (HO3.out.alloc (.cells #[.int .i64 (i : Int)] 3)) hgrow HAP.out (HO.out.alloc (.cells #[.int .i64 (i : Int)] 3)))
                have hap5 : (Value.slice (some ⟨eb, eoff, none⟩) D.length c3).ownBlock = none ∨ (Value.slice (some ⟨eb, eoff, none⟩) D.length c3).ownBlock ≠ v'.ownBlock := by
                  rcases hat with hat | hat
                  · rw [hat]; exact HAP.out
                  · refine .inr fun he => ?_
                    have := HLT.out _ (he.trans hat)
                    simp at this
                    omega
                have HAP5 := Lib.hid hap5
                have HO5 := Lib.hid hown'
                obtain ⟨B5, N5, c5, rfl⟩ := hown'.form'
                clear hown' hgrow hat hap5
                go_wp2_with fail
                go_roundg (gk - 1)
                case measure => omega
                case rel => exact ⟨q + 1, by omega, by go_num, by rw [HD.out]; simpa using HO5.out, HO35.out, HAP5.out, HT5.out⟩
            · obtain rfl : q = D.length := by omega
              have hdl' : N4 + cur'.length = l.length := by
                have := hN4.out
                rw [List.length_map, List.take_length, List.length_append] at this
                omega
              have e5 : ((N4 : Int) + (cur'.length : Int) != (l.length : Int)) = false := by simp; omega
              have HO' : Hid (Own wr w.heap.size 3 1 eInt (.slice B4 N4 c4) ((done ++ D).map E.id)) := Lib.hid (by have := HO.out; rwa [List.take_length] at this)
              have hgl : cur'.length ≤ 60 := by omega
              have hg2 : N4 ≤ 60 := by omega
              clear HO HO3 HAP HHX HXL HIN hN4 hdl' hdl hq
              go_wp2_with fail
              refine (two_len HT.out).mono ?_
              rintro e w6 ⟨rfl, rfl⟩
              go_wp2_with fail
              go_roundg (G - 1)
              case measure => have := hm0.out; omega
              case rel => exact ⟨k + 1, done ++ D, cur', now + yv, by have := hm0.out; omega, by go_num, rfl, HO'.out, HT.out, HW2.out⟩
        · obtain rfl : k = s.length := by omega
          have hfin : s.length ≠ 0 → TimLaw.due xa now = done := fun h => HW.out.final (by omega)
          have HF := Lib.hid hfin
          clear hfin hm hlt
          by_cases hs0 : s.length = 0
          · have e1 : ((s.length : Int) == 0) = true := by rw [hs0]; rfl
            clear hs0
            go_wp2_with fail
            refine (lives _).mono ?_
            rintro e w6 ⟨rfl, hb⟩
            have HB := Lib.hid hb
            clear hb
            go_wp2_with fail
            go_ret
            exact ⟨rfl, HT.out.below.trans (HB.out.mono HT.out.below.size)⟩
          · have e1 : ((s.length : Int) == 0) = false := beq_eq_false_iff_ne.2 (by omega)
            have HE := Lib.hid (HF.out hs0)
            clear hs0
            go_wp2_with fail
            refine (two_due HT.out.swap now).mono ?_
            rintro e w3 ⟨o3, rfl, ho3, hT3, hSp⟩
            have HT3 := Lib.hid hT3
            have HO1 := Lib.hid ((hSp _ _ _ HO.out).sl eInt_len)
            have HO3 : Hid (Sl w3 3 1 eInt o3 (done.map E.id)) := Lib.hid (by have := ho3.sl eInt_len; rwa [HE.out] at this)
            obtain ⟨B3, N3, c3, rfl⟩ := ho3.form'
            clear ho3 hT3 hSp
            go_wp2_with fail
            refine (same_yes _ _ _ _ HO1.out HO3.out).mono ?_
            rintro e w4 ⟨rfl, hb⟩
            have HT4 := Lib.hid (HT3.out.bel hb)
            clear hb
            go_wp2_with fail
            refine (lives _).mono ?_
            rintro e w6 ⟨rfl, hb⟩
            have HB := Lib.hid hb
            clear hb
            go_wp2_with fail
            go_ret
            exact ⟨rfl, HT4.out.below.trans (HB.out.mono HT4.out.below.size)⟩

theorem cells5 : Try.prog.cellsOf 5 = 1 := by kernel_rfl
theorem byte_dec {W : World} {cs : List Value} (h : Rd Try.prog W 5 cs) : ∃ x : UInt8, eB x = cs := by
  obtain ⟨n, rfl, hw⟩ := h.int Try.underlying5
  have hw' : 0 ≤ n ∧ n < 256 := by
    simp [Lit.wf, IntKind.bits, IntKind.signed, IntKind.min, IntKind.max] at hw
    omega
  refine ⟨UInt8.ofNat n.toNat, ?_⟩
  unfold eB
  rw [UInt8.toNat_ofNat']
  congr 2
  omega

open Go.ChangeShapes Go.WideShapes Go.ChangeAt in
theorem walk (v0 v1 : Value) (W : World) (k0 : IsArg Try.prog W 47 v0) (k1 : IsArg Try.prog W 47 v1) :
    Calls Try.prog 4 #[v0, v1] W fun e W' => e = .returned (.bool true) ∧ Below W.heap.size W W' := by
  obtain ⟨A, cap, l, rfl, _, _, hr⟩ := k0.slice eB Try.underlying47 cells5 (by decide) (fun cs h => byte_dec h)
  obtain ⟨A2, cap2, l2, rfl, _, _, hr2⟩ := k1.slice eB Try.underlying47 cells5 (by decide) (fun cs h => byte_dec h)
  exact law_any A A2 cap cap2 l l2 W hr hr2
end Go.Proofs.Ytnnbpmjcdcmigaa.WTimerOnce
