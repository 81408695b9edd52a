/- The law ChainPlays: its walk. -/
import Derived.Test.YtjblhgljajjdgaaPlaysO
namespace Go.Proofs.Ytjblhgljajjdgaa.WChainPlays
open Go.RowKit ChainLaw ChainP Refs
open Chain (Rd_ AllP same_yes Of3)

set_option maxRecDepth 100000 in
set_option maxHeartbeats 4000000 in
theorem law_any (n0 m0 : Int) (A : Option Addr) (cap : Nat) (es : List Ax) (w : World) (hl : es.length ≤ maxLen) (hc : RowsAt w 3 Ax.enc A es) :
    Calls Try.prog 3 #[.int .i64 n0, .int .i64 m0, .slice A es.length cap] w fun e w' => e = .returned (.bool true) ∧ Below w.heap.size w w' := by
  by_cases hoff : n0 < 1 ∨ 30 < n0 ∨ m0 < 1 ∨ 8 < m0 ∨ 80 < es.length
  · exact law_off n0 m0 A cap es.length w hl hoff
  unfold maxLen at hl
  have HC := Lib.hid hc
  clear hc
  obtain ⟨n, rfl⟩ := Int.eq_ofNat_of_zero_le (by omega : 0 ≤ n0)
  obtain ⟨m, rfl⟩ := Int.eq_ofNat_of_zero_le (by omega : 0 ≤ m0)
  have h1 : 1 ≤ n := by omega
  have h2 : n ≤ 4096 := by omega
  have h3 : 1 ≤ m := by omega
  have h4 : m ≤ 256 := by omega
  have t1 : decide ((n : Int) < 1) = false := by simp; omega
  have t3 : decide ((m : Int) < 1) = false := by simp; omega
  have h5 : n ≤ 30 := by omega
  have h6 : m ≤ 8 := by omega
  have h7 : es.length ≤ 80 := by omega
  clear hoff
  have t5 : decide (30 < (n : Int)) = false := by simp; omega
  have t6 : decide (8 < (m : Int)) = false := by simp; omega
  have t7 : decide (80 < (es.length : Int)) = false := by simp; omega
  obtain ⟨i0, hi, hz0, hz1, hz2⟩ := info_parts info40
  have hmk : ∀ W : World, (Instr.makeSlice 26 (.int .i64 (m : Int)) (.int .i64 (m : Int))).run Try.prog W = .ok (.slice (some ⟨W.heap.size, 0, none⟩) m m) (W.alloc (.cells (madeCells #[.slice none 0 0] (m * 1)) 40)) := fun W => by
    have := run_make_rows (P := Try.prog) 26 40 i0 _ Try.underlying26 hi hz0 .i64 .i64 m m (Nat.le_refl _) (by rw [hz2]; omega) (by omega) W
    rw [hz1] at this
    exact this
  clear i0 hi hz0 hz1 hz2
  go_enter Try.func3, Try.ntmps3
  go_wp2_with fail
  refine (new_good n m _ h1 h2 h3 h4).mono ?_
  rintro e w1 ⟨c, g1, g2, g3, rfl, hcs, hb, hcc, hg1, hg2, hg3⟩
  have HS : Hid (St w (w1.alloc (.cells (madeCells #[.slice none 0 0] m) 40)) c g1 g2 g3 n (.slice (some ⟨w1.heap.size, 0, none⟩) m m) (List.replicate m [])) := Lib.hid
    { ch := hcs.ext ((Kept.refl _ _).alloc _), ll := ll_made w1 m h6 _ (fun j hj => by obtain ⟨_, a, b, d⟩ := hcs.lt; rcases hj with rfl | rfl | rfl <;> assumption), below := hb.alloc hb.size _,
      h1 := hg1, h2 := hg2, h3 := hg3, n1 := h1, n2 := h5, l1 := by simpa using h3, l2 := by simpa using h6 }
  clear hcs hb hcc hg1 hg2 hg3
  go_wp2_with fail
  clear hmk
  go_loopg [7, 8, 73] es.length (fun q sp v i wr => ∃ (k c g1 g2 g3 : Nat) (L : List (List Nat)), q + k = es.length ∧ sp = .pointer (some ⟨c, 0, none⟩) ∧ i = .int .i64 k ∧ St w wr c g1 g2 g3 n v L)
  case atStart => exact ⟨0, c, g1, g2, g3, _, by omega, rfl, rfl, HS.out⟩
  case round =>
    clear HS
    obtain ⟨k, c, g1, g2, g3, L, hm, rfl, rfl, hS⟩ := hrel
    by_cases hlt : k < es.length
    · obtain ⟨ev, hev⟩ : ∃ ev, es[k]? = some ev := ⟨es[k]'(by omega), by simp⟩
      obtain ⟨ab, aoff, rfl, hab, hcc⟩ := (HC.out.below hS.below) (by rintro rfl; simp at hev)
      have q0 := hcc k ev hev 0 _ rfl
      have q1 := hcc k ev hev 1 _ rfl
      have q2 := hcc k ev hev 2 _ rfl
      rw [Nat.add_zero] at q0
      clear hcc hev
      have hk0 : (0 : Int) ≤ (k : Int) := by omega
      have hk1 : (k : Int) < (es.length : Int) := by omega
      have HS := Lib.hid hS
      clear hS
      go_upto_block 2 with (fail)
      have hfar : ¬ Of3 g1 g2 g3 wr.heap.size := fun h => Nat.lt_irrefl _ (HS.out.far _ h)
      have HF := Lib.hid hfar
      have HS1 : Hid (St w (wr.alloc (.cells ev.cs 28)) c g1 g2 g3 n _ L) := Lib.hid (HS.out.al (.cells ev.cs 28))
      have HA1 : Hid (Ev (wr.alloc (.cells ev.cs 28)) wr.heap.size ev) := Lib.hid (Blk.new wr 28 ev.cs)
      clear q0 q1 q2 hfar hab
      go_cut [7, 8] (After w n wr.heap.size ev)
      case first =>
        by_cases d0 : ev.do_ = 0
        · have d0' : (ev.do_ == 0) = true := by simp [d0]
          clear d0
          by_cases hb : BadPush L n ev.list ev.node
          · obtain ⟨C1, C2⟩ := push_no HS1.out ev.list ev.node hb
            have HC1 := Lib.hid C1
            have HC2 := Lib.hid C2
            clear hb C1 C2
            go_wp2_with fail
            refine HC1.out.mono ?_
            rintro e w3 ⟨rfl, k3⟩
            have HA3 := Lib.hid (HA1.out.ext k3)
            have HS3 := Lib.hid (HS1.out.ext k3)
            obtain ⟨e0, e1, e2⟩ := HA3.out.at_
            have la := HA3.out.lt
            have C3 := Lib.hid (HC2.out _ k3)
            clear HC1 HC2 k3
            go_wp2_with fail
            refine C3.out.mono ?_
            rintro e w4 ⟨rfl, rfl⟩
            go_wp2_with fail
            go_meet
            case rel => exact After.mk_ HS3.out HA3.out
          · have HC1 := Lib.hid (push_yes HS1.out ev.list ev.node hb)
            clear hb
            go_wp2_with fail
            refine HC1.out.mono ?_
            rintro e w3 ⟨v3, rfl, k3, C2⟩
            have HA3 := Lib.hid (HA1.out.ext k3)
            obtain ⟨e0, e1, e2⟩ := HA3.out.at_
            have la := HA3.out.lt
            have C3 := Lib.hid C2
            clear HC1 k3 C2
            go_wp2_with fail
            refine C3.out.mono ?_
            rintro e w4 ⟨rfl, k4, L4, hS4⟩
            have HS4 := Lib.hid hS4
            have HA4 := Lib.hid (HA3.out.did k4 HF.out)
            clear C3 k4 hS4 e0 e1 e2 la
            go_wp2_with fail
            go_meet
            case rel => exact After.mk_ HS4.out HA4.out
        have d0' : (ev.do_ == 0) = false := by simp [d0]
        clear d0
        by_cases d1 : ev.do_ = 1
        · have d1' : (ev.do_ == 1) = true := by simp [d1]
          clear d1
          by_cases hb : BadPop L ev.list
          · obtain ⟨C1, C2, C3⟩ := first_pop_no HS1.out ev.list hb
            have HC1 := Lib.hid C1
            have HC2 := Lib.hid C2
            have HC3 := Lib.hid C3
            clear hb C1 C2 C3
            go_wp2_with fail
            refine HC1.out.mono ?_
            rintro e w3 ⟨rfl, rfl⟩
            go_wp2_with fail
            refine HC2.out.mono ?_
            rintro e w3 ⟨rfl, rfl⟩
            go_wp2_with fail
            refine HC3.out.mono ?_
            rintro e w3 ⟨rfl, k3⟩
            have HA3 := Lib.hid (HA1.out.ext k3)
            have HS3 := Lib.hid (HS1.out.ext k3)
            clear HC1 HC2 HC3 k3
            go_wp2_with fail
            go_meet
            case rel => exact After.mk_ HS3.out HA3.out
          · obtain ⟨a, q, r, ha, hl⟩ := not_bad_pop hb
            have C := first_pop_yes HS1.out a q r hl
            rw [← ha] at C
            obtain ⟨C1, C2⟩ := C
            have HC1 := Lib.hid C1
            have HC2 := Lib.hid C2
            have t8 : ((q : Int) != (q : Int)) = false := by simp
            clear hb C1 C2 ha hl
            go_wp2_with fail
            refine HC1.out.mono ?_
            rintro e w3 ⟨rfl, rfl⟩
            go_wp2_with fail
            refine HC2.out.mono ?_
            rintro e w4 ⟨rfl, k4, C3⟩
            have HC3 := Lib.hid C3
            have HA4 := Lib.hid (HA1.out.did k4 HF.out)
            obtain ⟨e0, e1, e2⟩ := HA4.out.at_
            have la := HA4.out.lt
            clear HC1 HC2 k4 C3
            go_wp2_with fail
            refine HC3.out.mono ?_
            rintro e w5 ⟨v5, rfl, k5, L5, hS5⟩
            have HS5 := Lib.hid hS5
            have HA5 := Lib.hid (HA4.out.ext k5)
            clear HC3 k5 hS5 e0 e1 e2 la
            go_wp2_with fail
            go_meet
            case rel => exact After.mk_ HS5.out HA5.out
        have d1' : (ev.do_ == 1) = false := by simp [d1]
        clear d1
        by_cases d2 : ev.do_ = 2
        · have d2' : (ev.do_ == 2) = true := by simp [d2]
          clear d2
          by_cases hb : BadJoin L ev.list ev.node
          · obtain ⟨C1, C2⟩ := join_no HS1.out ev.list ev.node hb
            have HC1 := Lib.hid C1
            have HC2 := Lib.hid C2
            clear hb C1 C2
            go_wp2_with fail
            refine HC1.out.mono ?_
            rintro e w3 ⟨rfl, k3⟩
            have HA3 := Lib.hid (HA1.out.ext k3)
            have HS3 := Lib.hid (HS1.out.ext k3)
            obtain ⟨e0, e1, e2⟩ := HA3.out.at_
            have la := HA3.out.lt
            have C3 := Lib.hid (HC2.out _ k3)
            clear HC1 HC2 k3
            go_wp2_with fail
            refine C3.out.mono ?_
            rintro e w4 ⟨rfl, k4⟩
            have HA4 := Lib.hid (HA3.out.ext k4)
            have HS4 := Lib.hid (HS3.out.ext k4)
            clear C3 k4 e0 e1 e2 la
            go_wp2_with fail
            go_meet
            case rel => exact After.mk_ HS4.out HA4.out
          · obtain ⟨a, b, la_, lb_, ha, hb2, hne, hl, hm2⟩ := not_bad_join hb
            have C := join_yes HS1.out a b la_ lb_ hne hl hm2
            rw [← ha, ← hb2] at C
            have HC1 := Lib.hid C
            clear hb C ha hb2 hne hl hm2
            go_wp2_with fail
            refine HC1.out.mono ?_
            rintro e w3 ⟨v3, rfl, k3, C2⟩
            have HA3 := Lib.hid (HA1.out.ext k3)
            obtain ⟨e0, e1, e2⟩ := HA3.out.at_
            have la := HA3.out.lt
            have C3 := Lib.hid C2
            clear HC1 k3 C2
            go_wp2_with fail
            refine C3.out.mono ?_
            rintro e w4 ⟨rfl, k4, L4, hS4⟩
            have HS4 := Lib.hid hS4
            have HA4 := Lib.hid (HA3.out.did k4 HF.out)
            clear C3 k4 hS4 e0 e1 e2 la
            go_wp2_with fail
            go_meet
            case rel => exact After.mk_ HS4.out HA4.out
        have d2' : (ev.do_ == 2) = false := by simp [d2]
        clear d2
        have HC1 := Lib.hid (copy_any HS1.out.ch h1 h2 HS1.out.l1 (Nat.le_trans HS1.out.l2 (by omega)))
        go_wp2_with fail
        refine HC1.out.mono ?_
        rintro e w3 ⟨c', q1, q2, q3, rfl, hc3, b3, _, z1, z2, z3⟩
        have HC3 := Lib.hid hc3
        have HB3 := Lib.hid b3
        clear HC1 hc3 b3
        go_wp2_with fail
        refine (pop_some HC3.out h2 HS1.out.l1).mono ?_
        rintro e w4 ⟨r4, L4, rfl, hl4, hc4, k4⟩
        have HC4 := Lib.hid hc4
        have HK4 := Lib.hid k4
        clear hc4 k4
        go_wp2_with fail
        refine (push_some HC4.out h1 h2 hl4).mono ?_
        rintro e w5 ⟨r5, rfl, k5⟩
        have K : Kept none_ (wr.alloc (.cells ev.cs 28)) w5 := (Kept.below HB3.out rfl).trans' (HK4.out.trans k5) (fun i hi => .inr (by rcases hi with rfl | rfl | rfl <;> assumption))
        have HS5 := Lib.hid (HS1.out.ext K)
        have HA5 := Lib.hid (HA1.out.ext K)
        clear K k5 HC3 HC4 HK4 HB3 z1 z2 z3
        go_wp2_with fail
        refine (copy_any HS5.out.ch h1 h2 HS5.out.l1 (Nat.le_trans HS5.out.l2 (by omega))).mono ?_
        rintro e w6 ⟨c6, p1, p2, p3, rfl, hc6, b6, _, z1, z2, z3⟩
        have HS6 := Lib.hid (HS5.out.copied hc6 b6 z1 z2 z3)
        have HA6 := Lib.hid (HA5.out.ext (Kept.below b6 rfl))
        clear hc6 b6 z1 z2 z3
        go_wp2_with fail
        go_meet
        case rel => exact After.mk_ HS6.out HA6.out
      case rest =>
        clear HS HF HS1 HA1
        obtain ⟨c, g1, g2, g3, L, rfl, hE, hS⟩ := hcut
        obtain ⟨a, b, C1, C2⟩ := where_in hS ev.node
        obtain ⟨e0, e1, e2⟩ := hE.at_
        have la := hE.lt
        have HC1 := Lib.hid C1
        have HC2 := Lib.hid C2
        have HS := Lib.hid hS
        have HE := Lib.hid hE
        clear C1 C2 hS hE
        go_wp2_with fail
        refine HC1.out.mono ?_
        rintro e w3 ⟨rfl, rfl⟩
        go_wp2_with fail
        refine HC2.out.mono ?_
        rintro e w3 ⟨rfl, k3⟩
        have HS3 := Lib.hid (HS.out.ext k3)
        have HE3 := Lib.hid (HE.out.ext k3)
        obtain ⟨l, A5, c5, hsl, K17, K18, K20⟩ := reads HS3.out ev.list
        have HK17 := Lib.hid K17
        have HK18 := Lib.hid K18
        have HK20 := Lib.hid K20
        have HSL := Lib.hid hsl
        have t8 : (a != a) = false := by simp
        have t9 : (b != b) = false := by simp
        have t10 : ((l.length : Int) != (l.length : Int)) = false := by simp
        have hK : Kept none_ w3 w3.drew := (Kept.refl _ _).drew
        clear e0 e1 e2 la k3 HC1 HC2 HS HE K17 K18 K20 hsl
        obtain ⟨e0, e1, e2⟩ := HE3.out.at_
        have la := HE3.out.lt
        go_wp2_with fail
        go_region_held3 (fun w' => w'.cell? ⟨wr.heap.size, 1, none⟩ = some (.int .i64 ev.list))
          (first
            | exact e1
            | exact (hK.cell (p := ⟨wr.heap.size, 1, none⟩) la (fun h => h)).trans e1
            | go_keep)
          (first
            | (go_at_call 17; refine (HK17.out _ hK).mono ?_; rintro e w5 ⟨rfl, rfl⟩)
            | (go_at_call 18; refine (HK18.out _ hK).mono ?_; rintro e w5 ⟨rfl, rfl⟩)
            | (go_at_call 20; refine (HK20.out _ hK).mono ?_; rintro e w5 ⟨v6, rfl, hs6, b6⟩; have hK := hK.trans (Kept.below b6 rfl); have HS6 := Lib.hid hs6; clear b6 hs6)
            | (go_at_call 19; refine (same_yes _ _ (ns l) _ HS6.out (HSL.out.ext hK).1).mono ?_; rintro e w5 ⟨rfl, b7⟩; have hK := hK.trans (Kept.below b7 rfl); clear b7))
        have HK := Lib.hid hK
        clear hK
        go_wp2_with fail
        go_roundg (gk - 1)
        case measure => omega
        case rel => exact ⟨k + 1, c, g1, g2, g3, L, by omega, rfl, by go_num, HS3.out.ext HK.out⟩
    · go_wp2_with fail
      refine (WChainOrders.lives _).mono ?_
      rintro e w6 ⟨rfl, hb6⟩
      go_wp2_with fail
      go_ret
      exact ⟨rfl, hS.below.trans (hb6.mono hS.below.size)⟩

theorem cells3 : Try.prog.cellsOf 3 = 1 := by kernel_rfl
theorem cells28 : Try.prog.cellsOf 28 = 3 := by kernel_rfl
theorem act_dec {W : World} {cs : List Value} (h : Rd Try.prog W 28 cs) : ∃ x : Ax, x.enc = cs := by
  have hl := h.length Try.underlying28 cells28
  match cs, hl with
  | [a, b, c], _ =>
    have f0 : Rd Try.prog W 3 [a] := h.field Try.underlying28 0 rfl rfl rfl cells3
    have f1 : Rd Try.prog W 3 [b] := h.field Try.underlying28 1 rfl rfl rfl cells3
    have f2 : Rd Try.prog W 3 [c] := h.field Try.underlying28 2 rfl rfl rfl cells3
    obtain ⟨n0, e0, _⟩ := f0.int Try.underlying3
    obtain ⟨n1, e1, _⟩ := f1.int Try.underlying3
    obtain ⟨n2, e2, _⟩ := f2.int Try.underlying3
    simp only [List.cons.injEq, and_true] at e0 e1 e2
    subst e0 e1 e2
    exact ⟨⟨n0, n1, n2⟩, rfl⟩

open Go.ChangeShapes Go.WideShapes Go.ChangeAt in
theorem walk (v0 v1 v2 : Value) (W : World) (k0 : IsArg Try.prog W 3 v0) (k1 : IsArg Try.prog W 3 v1) (k2 : IsArg Try.prog W 22 v2) :
    Calls Try.prog 3 #[v0, v1, v2] W fun e W' => e = .returned (.bool true) ∧ Below W.heap.size W W' := by
  obtain ⟨a, rfl, _⟩ := k0.int Try.underlying3
  obtain ⟨b, rfl, _⟩ := k1.int Try.underlying3
  obtain ⟨A, cap, l, rfl, h1, h2, hr⟩ := k2.slice Ax.enc Try.underlying22 cells28 (by decide) (fun cs h => act_dec h)
  exact law_any a b A cap l W (Nat.le_trans h1 h2) hr
end Go.Proofs.Ytjblhgljajjdgaa.WChainPlays
