/- The law TimerPlays: its walk. -/
import Derived.Test.YtnnbpmjcdcmigaaTimI
import Derived.Test.YtnnbpmjcdcmigaaArg
namespace Go.Proofs.Ytnnbpmjcdcmigaa.WTimerPlays
open Go.RowKit Line HeapLaw TimLaw RefT WTimer

structure Ax where
  do_ : Int
  id : Int
  n : Int
def Ax.enc (y : Ax) : List Value := [.int .i64 y.do_, .int .i64 y.id, .int .i64 y.n]
@[reducible] def Ax.cs (y : Ax) : Array Value := #[.int .i64 y.do_, .int .i64 y.id, .int .i64 y.n]

/-- The loop's state: the timer, the rows. -/
def St (w wr : World) (t r : Nat) (v vx : Value) (x : List E) : Prop := Tb w wr t r v x ∧ Rw wr vx x
section
variable {w wr w' : World} {t r : Nat} {v vx : Value} {x x' : List E}
theorem St.ext (h : St w wr t r v vx x) (hk : Kept none_ wr w') : St w w' t r v vx x := ⟨h.1.ext hk, h.2.kept hk Off.none_⟩
theorem St.bel (h : St w wr t r v vx x) (hb : Below wr.heap.size wr w') : St w w' t r v vx x := h.ext (Kept.below hb rfl)
end

theorem box {w : World} {g : Nat} {y : Ax} (h : Blk w g 28 y.cs) : w.cell? ⟨g, 0, none⟩ = some (.int .i64 y.do_) ∧ w.cell? ⟨g, 1, none⟩ = some (.int .i64 y.id) ∧ w.cell? ⟨g, 2, none⟩ = some (.int .i64 y.n) ∧ g < w.heap.size := ⟨h.cell 0, h.cell 1, h.cell 2, h.lt⟩

def Loop (w : World) (t r : Nat) (es : List Ax) (m : Nat) (vx i : Value) (wr : World) : Prop :=
  ∃ (k : Nat) (v : Value) (x : List E), m + k = es.length ∧ i = .int .i64 k ∧ St w wr t r v vx x ∧ x.length ≤ k

set_option maxRecDepth 100000 in
set_option maxHeartbeats 4000000 in
theorem law_any (A : Option Addr) (cap : Nat) (es : List Ax) (w : World) (hl : es.length ≤ maxLen) (hc : RowsAt w 3 Ax.enc A es) :
    Calls Try.prog 3 #[.slice A es.length cap] w fun e w' => e = .returned (.bool true) ∧ Below w.heap.size w w' := by
  unfold maxLen at hl
  have HC := Lib.hid hc
  clear hc
  by_cases hoff : 80 < es.length
  · have t1 : decide (80 < (es.length : Int)) = true := by simp; omega
    clear hoff HC
    go_enter Try.func3, Try.ntmps3
    go_wp2_with fail
    refine (lives _).mono ?_
    rintro e w1 ⟨rfl, hb⟩
    go_wp2_with fail
    go_ret
    exact ⟨rfl, hb⟩
  have h80 : es.length ≤ 80 := by omega
  have t1 : decide (80 < (es.length : Int)) = false := by simp; omega
  clear hoff
  have HNew := Lib.hid (tnew w)
  go_enter Try.func3, Try.ntmps3
  go_wp2_with fail
  refine HNew.out.mono ?_
  rintro e w1 ⟨t, r, v, rfl, h1, hb, hF⟩
  have HS : Hid (St w w1 t r v (.slice none 0 0) []) := Lib.hid ⟨Tb.mk h1 hb hF, Sl.nil 0 (Nat.zero_le _) none⟩
  clear HNew h1 hb hF
  go_wp2_with fail
  go_loopg [4, 25] es.length (fun m vx i wr => Loop w t r es m vx i wr)
  case atStart => exact ⟨0, v, [], by omega, rfl, HS.out, Nat.le_refl _⟩
  case round =>
    clear HS
    obtain ⟨k, v, x, hm, rfl, hS, hxk⟩ := hrel
    obtain ⟨B, N, c, rfl⟩ := hS.2.form'
    by_cases hlt : k < es.length
    · obtain ⟨ev, hev⟩ : ∃ ev, es[k]? = some ev := ⟨es[k]'(by omega), by simp⟩
      obtain ⟨ab, aoff, rfl, hab, hcc⟩ := (HC.out.below hS.1.below) (by rintro rfl; simp at hev)
      have q0 := hcc k ev hev 0 _ rfl
      have q1 := hcc k ev hev 1 _ rfl
      have q2 := hcc k ev hev 2 _ rfl
      rw [Nat.add_zero] at q0
      clear hcc hev
      have hk0 : (0 : Int) ≤ (k : Int) := by omega
      have hk1 : (k : Int) < (es.length : Int) := by omega
      have hB := Blk.new wr 28 ev.cs
      have hS1 := hS.ext ((Kept.refl none_ wr).alloc (.cells ev.cs 28))
      have HB := Lib.hid hB
      have HS := Lib.hid hS1
      have HX := Lib.hid hxk
      clear hS hS1 hB hxk
      obtain ⟨c0, c1, c2, lb⟩ := box HB.out
      by_cases d0 : ev.do_ = 0
      case' pos =>
        have e0 : (ev.do_ == 0) = true := by simpa using d0
        clear d0
        go_wp2_with fail
        refine (RefT.set_any HS.out.2 (by have := HX.out; omega) ev.id ev.n).mono ?_
        rintro e w2 ⟨o2, rfl, ho, hb⟩
        have HO := Lib.hid (ho.sl enc_len)
        have HT2 := Lib.hid (HS.out.1.bel hb)
        have HB2 := Lib.hid (HB.out.kept (F := none_) (Kept.below hb rfl) (fun h => h))
        obtain ⟨B9, N9, c9, rfl⟩ := ho.form'
        clear ho hb c0 c1 c2 lb
        obtain ⟨c0, c1, c2, lb⟩ := box HB2.out
        go_wp2_with fail
        refine (tset HT2.out.tm (by have := HX.out; omega) ev.id ev.n).mono ?_
        rintro e w9 ⟨rfl, hA⟩
        obtain ⟨v9, t9⟩ := HT2.out.aft hA
        have HFin : Hid (∃ v9 x9, St w w9 t r v9 (.slice B9 N9 c9) x9 ∧ x9.length ≤ k + 1 ∧ Blk w9 wr.heap.size 28 ev.cs) := Lib.hid
          ⟨v9, _, ⟨t9, HT2.out.sl hA (by decide) (by decide) HO.out⟩, by have := setL_len x ev.id ev.n; have := HX.out; omega, HT2.out.blk hA (by decide) (by decide) HB2.out⟩
        clear hA t9 v9 c0 c1 c2 lb HB HS HO HT2 HB2 HX
      case' neg =>
        have e0 : (ev.do_ == 0) = false := by simpa using d0
        clear d0
        by_cases d1 : ev.do_ = 1
        case' pos =>
          have e1 : (ev.do_ == 1) = true := by simpa using d1
          clear d1
          have t2 : ((TimLaw.find x ev.id).isSome != (TimLaw.find x ev.id).isSome) = false := by simp
          go_wp2_with fail
          refine (RefT.at_any HS.out.2 (by have := HX.out; omega) ev.id).mono ?_
          rintro e w1 ⟨rfl, rfl⟩
          go_wp2_with fail
          refine (RefT.without_any HS.out.2 (by have := HX.out; omega) ev.id).mono ?_
          rintro e w2 ⟨o2, rfl, ho, hb⟩
          have HO := Lib.hid (ho.sl enc_len)
          have HT2 := Lib.hid (HS.out.1.bel hb)
          have HB2 := Lib.hid (HB.out.kept (F := none_) (Kept.below hb rfl) (fun h => h))
          obtain ⟨B9, N9, c9, rfl⟩ := ho.form'
          clear ho hb c0 c1 c2 lb
          obtain ⟨c0, c1, c2, lb⟩ := box HB2.out
          go_wp2_with fail
          refine (tstop HT2.out.tm ev.id).mono ?_
          rintro e w9 ⟨rfl, hA⟩
          obtain ⟨v9, t9⟩ := HT2.out.aft hA
          have HFin : Hid (∃ v9 x9, St w w9 t r v9 (.slice B9 N9 c9) x9 ∧ x9.length ≤ k + 1 ∧ Blk w9 wr.heap.size 28 ev.cs) := Lib.hid
            ⟨v9, _, ⟨t9, HT2.out.sl hA (by decide) (by decide) HO.out⟩, by have := without_len x ev.id; have := HX.out; omega, HT2.out.blk hA (by decide) (by decide) HB2.out⟩
          clear hA t9 v9 c0 c1 c2 lb HB HS HO HT2 HB2 HX
        case' neg =>
          have e1 : (ev.do_ == 1) = false := by simpa using d1
          clear d1
          have t2 : True := trivial
          go_wp2_with fail
          refine (RefT.due_any HS.out.2 (by have := HX.out; omega) ev.n).mono ?_
          rintro e w2 ⟨o2, vx2, rfl, ho, hR, hb⟩
          have HO := Lib.hid (ho.sl eInt_len)
          have HR := Lib.hid hR
          have HT2 := Lib.hid (HS.out.1.bel hb)
          have HB2 := Lib.hid (HB.out.kept (F := none_) (Kept.below hb rfl) (fun h => h))
          obtain ⟨B8, N8, c8, rfl⟩ := ho.form'
          obtain ⟨B9, N9, c9, rfl⟩ := hR.form'
          clear ho hb hR c0 c1 c2 lb
          obtain ⟨c0, c1, c2, lb⟩ := box HB2.out
          go_wp2_with fail
          refine (Line.due_any HT2.out.tm ev.n).mono ?_
          rintro e w3 ⟨o3, rfl, ho3, hA⟩
          obtain ⟨v3, t3⟩ := HT2.out.aft hA
          have HT3 := Lib.hid t3
          have HO3 := Lib.hid (ho3.sl eInt_len)
          have HO' := Lib.hid (HT2.out.sl hA (by decide) (by decide) HO.out)
          have HR3 := Lib.hid (HT2.out.sl hA (by decide) (by decide) HR.out)
          have HB3 := Lib.hid (HT2.out.blk hA (by decide) (by decide) HB2.out)
          obtain ⟨B7, N7, c7, rfl⟩ := ho3.form'
          clear ho3 hA t3 c0 c1 c2 lb HB HS HO HR HT2 HB2
          go_wp2_with fail
          refine (same_yes _ _ _ _ HO3.out HO'.out).mono ?_
          rintro e w9 ⟨rfl, hb⟩
          have HFin : Hid (∃ v9 x9, St w w9 t r v9 (.slice B9 N9 c9) x9 ∧ x9.length ≤ k + 1 ∧ Blk w9 wr.heap.size 28 ev.cs) := Lib.hid
            ⟨v3, _, St.bel ⟨HT3.out, HR3.out⟩ hb, by have := congrArg List.length (due_rest x ev.n); rw [List.length_append] at this; have := HX.out; omega, HB3.out.kept (F := none_) (Kept.below hb rfl) (fun h => h)⟩
          clear hb HT3 HO3 HO' HR3 HB3 HX
      all_goals
        obtain ⟨v9, x9, hS9, hx9, hB9⟩ := HFin.out
        have HS9 := Lib.hid hS9
        have HX9 := Lib.hid hx9
        have HB9 := Lib.hid hB9
        have hN9 := hS9.2.len.1
        subst hN9
        obtain ⟨c0, c1, c2, lb⟩ := box hB9
        clear hS9 hx9 hB9 HFin
        go_wp2_with fail
        refine (tat HS9.out.1.tm ev.id).mono ?_
        rintro e w10 ⟨rfl, rfl⟩
        go_wp2_with fail
        refine (RefT.at_any HS9.out.2 (by have := HX9.out; omega) ev.id).mono ?_
        rintro e w10 ⟨rfl, rfl⟩
        have t3 : (atOf x9 ev.id != atOf x9 ev.id) = false := by simp
        have t4 : ((TimLaw.find x9 ev.id).isSome != (TimLaw.find x9 ev.id).isSome) = false := by simp
        have t5 : ((x9.length : Int) != (x9.length : Int)) = false := by simp
        generalize TimLaw.find x9 ev.id = fo at *
        generalize atOf x9 ev.id = ao at *
        by_cases hnil : x9 = []
        · subst hnil
          have HNx : Hid (Tm w9 t r v9 []) := Lib.hid HS9.out.1.tm
          clear t5
          go_wp2_with fail
          refine (tnext_nil HNx.out).mono ?_
          rintro e w11 ⟨rfl, hb⟩
          have HS11 := Lib.hid (HS9.out.bel hb)
          clear hb HNx HS9
          go_wp2_with fail
          refine (tlen HS11.out.1.tm).mono ?_
          rintro e w12 ⟨rfl, rfl⟩
          go_wp2_with fail
          go_roundg (gk - 1)
          case measure => omega
          case rel => exact ⟨k + 1, v9, [], by omega, by go_num, HS11.out, HX9.out⟩
        · obtain ⟨b9, y9, hcons⟩ := List.exists_cons_of_ne_nil hnil
          have HNx : Hid (Tm w9 t r v9 (b9 :: y9)) := Lib.hid (by rw [← hcons]; exact HS9.out.1.tm)
          have t6 : decide (0 < (x9.length : Int)) = true := by rw [hcons]; simp
          have t7 : (0 : Int) < (x9.length : Int) := by rw [hcons]; simp
          have t8 : (b9.id != b9.id) = false := by simp
          have t10 : (b9.at_ != b9.at_) = false := by simp
          have HE : Hid (x9[0]? = some b9) := Lib.hid (by rw [hcons]; rfl)
          clear hnil hcons
          go_wp2_with fail
          refine (tnext_cons HNx.out).mono ?_
          rintro e w11 ⟨rfl, hb⟩
          have HS11 := Lib.hid (HS9.out.bel hb)
          clear hb HNx HS9
          obtain ⟨b, off, rfl, hbl, _⟩ := HS11.out.2.atN HE.out
          obtain ⟨r0, r1, _⟩ := rw_cells HS11.out.2 HE.out
          rw [Nat.zero_mul, Nat.add_zero] at r0 r1
          go_wp2_with fail
          refine (tlen HS11.out.1.tm).mono ?_
          rintro e w12 ⟨rfl, rfl⟩
          go_wp2_with fail
          go_roundg (gk - 1)
          case measure => omega
          case rel => exact ⟨k + 1, v9, x9, by omega, by go_num, HS11.out, HX9.out⟩
    · go_wp2_with fail
      refine (lives _).mono ?_
      rintro e w6 ⟨rfl, hb6⟩
      go_wp2_with fail
      go_ret
      exact ⟨rfl, hS.1.below.trans (hb6.mono hS.1.below.size)⟩

theorem cells3 : Try.prog.cellsOf 3 = 1 := by kernel_rfl
theorem cells28 : Try.prog.cellsOf 28 = 3 := by kernel_rfl
theorem act_dec {W : World} {cs : List Value} (h : Rd Try.prog W 28 cs) : ∃ x : Ax, x.enc = cs := by
  have hl := h.length Try.underlying28 cells28
  match cs, hl with
  | [a, b, c], _ =>
    have f0 : Rd Try.prog W 3 [a] := h.field Try.underlying28 0 rfl rfl rfl cells3
    have f1 : Rd Try.prog W 3 [b] := h.field Try.underlying28 1 rfl rfl rfl cells3
    have f2 : Rd Try.prog W 3 [c] := h.field Try.underlying28 2 rfl rfl rfl cells3
    obtain ⟨n0, e0, _⟩ := f0.int Try.underlying3
    obtain ⟨n1, e1, _⟩ := f1.int Try.underlying3
    obtain ⟨n2, e2, _⟩ := f2.int Try.underlying3
    simp only [List.cons.injEq, and_true] at e0 e1 e2
    subst e0 e1 e2
    exact ⟨⟨n0, n1, n2⟩, rfl⟩

open Go.ChangeShapes Go.WideShapes Go.ChangeAt in
theorem walk (v0 : Value) (W : World) (k0 : IsArg Try.prog W 22 v0) :
    Calls Try.prog 3 #[v0] W fun e W' => e = .returned (.bool true) ∧ Below W.heap.size W W' := by
  obtain ⟨A, cap, l, rfl, h1, h2, hr⟩ := k0.slice Ax.enc Try.underlying22 cells28 (by decide) (fun cs h => act_dec h)
  exact law_any A cap l W (Nat.le_trans h1 h2) hr
end Go.Proofs.Ytnnbpmjcdcmigaa.WTimerPlays

