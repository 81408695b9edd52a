/- The timer's line in memory; contracts of its methods Len and Less. -/
import Derived.Test.YtnnbpmjcdcmigaaStm
import Derived.Test.YtnnbpmjcdcmigaaChecked
import Derived.Deep.RegionHeld3
import Derived.Deep.DeepCutAuto
import Derived.Deep.CutBlock
import Derived.BigQuiet
namespace Go.Proofs.Ytnnbpmjcdcmigaa.Line
open Go.RowKit

structure E where
  id : Int
  at_ : Int
def E.enc (e : E) : List Value := [.int .i64 e.id, .int .i64 e.at_]
theorem enc_len (e : E) : e.enc.length = 2 := rfl
def lessE (a b : E) : Bool := decide (a.at_ < b.at_) || (decide (a.at_ = b.at_) && decide (a.id < b.id))

/-- The line at block t: its entries l; f tells what the map says of an id. -/
structure Ln (w : World) (t r : Nat) (v : Value) (l : List E) (f : Int → Option Value) (n : Nat) : Prop where
  bx : Blk w t 54 #[v, .map (some r)]
  row : Own w 0 56 2 E.enc v l
  map : MapIs (Value.int .i64) w r f n
  stm : Stm w r
  len : l.length ≤ 200

section
variable {w w' : World} {t r n : Nat} {v : Value} {l : List E} {f : Int → Option Value} {F : Nat → Prop}
theorem Ln.ext (h : Ln w t r v l f n) (hk : Kept none_ w w') : Ln w' t r v l f n := ⟨h.bx.kept hk (fun h => h), h.row.kept hk Off.none_, h.map.kept hk (fun h => h), h.stm.kept hk (fun h => h), h.len⟩

theorem len_any (h : Ln w t r v l f n) : Calls Try.prog 21 #[.pointer (some ⟨t, 0, none⟩)] w fun e w' => e = .returned (.int .i64 (l.length : Int)) ∧ w = w' := by
  obtain ⟨A, c, rfl⟩ := h.row.form
  have p0 := h.bx.cell 0
  simp at p0
  have lt := h.bx.lt
  clear h
  go_enter Try.func21, Try.ntmps21
  go_wp2_with fail
  go_ret
  exact ⟨rfl, rfl⟩

theorem row_at (h : Ln w t r v l f n) {i : Nat} {a : E} (hi : l[i]? = some a) : ∃ g c, v = .slice (some ⟨g, 0, none⟩) l.length c ∧ g < w.heap.size ∧ g ≠ t ∧ w.cell? ⟨g, i * 2, none⟩ = some (.int .i64 a.id) ∧ w.cell? ⟨g, i * 2 + 1, none⟩ = some (.int .i64 a.at_) := by
  have hs := h.row.sl enc_len
  obtain ⟨h1, h2⟩ := h.row
  rcases h2 with ⟨rfl, hn⟩ | ⟨g, cap, cur, rfl, _, hh, _⟩
  · have : l = [] := List.eq_nil_of_length_eq_zero hn
    subst this; simp at hi
  · obtain ⟨b, off, hA, hb, _, hc⟩ := hs.atN hi
    injection hA with hA
    injection hA with hA1 hA2
    subst hA1 hA2
    have c0 := hc 0 _ rfl
    have c1 := hc 1 _ rfl
    refine ⟨g, cap, rfl, hb, ?_, by simpa using c0, by simpa using c1⟩
    rintro rfl
    exact Blk.ne_ h.bx (cs' := cur) hh (by decide) rfl

/-- Both entries in boxes of their own. -/
def Boxed (w : World) (a b : E) (p q : Value) (wx : World) : Prop := ∃ x y, p = .pointer (some ⟨x, 0, none⟩) ∧ q = .pointer (some ⟨y, 0, none⟩) ∧ Blk wx x 56 #[.int .i64 a.id, .int .i64 a.at_] ∧ Blk wx y 56 #[.int .i64 b.id, .int .i64 b.at_] ∧ Below w.heap.size w wx
theorem boxed1 (w : World) (a b : E) : Boxed w a b (.pointer (some ⟨w.heap.size, 0, none⟩)) (.pointer (some ⟨w.heap.size + 1, 0, none⟩)) ((w.alloc (.cells #[.int .i64 a.id, .int .i64 a.at_] 56)).alloc (.cells #[.int .i64 b.id, .int .i64 b.at_] 56)).drew :=
  ⟨_, _, rfl, rfl, (Blk.new w 56 _).alloc _, Blk.drew (by have := Blk.new (w.alloc (.cells #[.int .i64 a.id, .int .i64 a.at_] 56)) 56 #[.int .i64 b.id, .int .i64 b.at_]; simpa using this), (((Below.refl _ _).alloc (Nat.le_refl _) _).alloc (by simp) _).drew⟩
theorem boxed2 (w : World) (a b : E) : Boxed w a b (.pointer (some ⟨w.heap.size + 1, 0, none⟩)) (.pointer (some ⟨w.heap.size, 0, none⟩)) ((w.alloc (.cells #[.int .i64 b.id, .int .i64 b.at_] 56)).alloc (.cells #[.int .i64 a.id, .int .i64 a.at_] 56)).drew :=
  ⟨_, _, rfl, rfl, Blk.drew (by have := Blk.new (w.alloc (.cells #[.int .i64 b.id, .int .i64 b.at_] 56)) 56 #[.int .i64 a.id, .int .i64 a.at_]; simpa using this), (Blk.new w 56 _).alloc _, (((Below.refl _ _).alloc (Nat.le_refl _) _).alloc (by simp) _).drew⟩

set_option maxRecDepth 100000 in
set_option maxHeartbeats 1000000 in
theorem less_any (h : Ln w t r v l f n) {i k : Nat} {a b : E} (hi : l[i]? = some a) (hk : l[k]? = some b) :
    Calls Try.prog 40 #[.pointer (some ⟨t, 0, none⟩), .int .i64 (i : Int), .int .i64 (k : Int)] w fun e w' => e = .returned (.bool (lessE a b)) ∧ Below w.heap.size w w' := by
  obtain ⟨g, c, rfl, hg, _, q0, q1⟩ := row_at h hi
  obtain ⟨g', c', e, _, _, r0, r1⟩ := row_at h hk
  injection e with e1 e2 e3
  injection e1 with e1
  injection e1 with e1
  subst e1
  have p0 := h.bx.cell 0
  simp at p0
  have lt := h.bx.lt
  have i0 : (0 : Int) ≤ (i : Int) := by omega
  have i1 : (i : Int) < (l.length : Int) := by have := (List.getElem?_eq_some_iff.1 hi).1; omega
  have k0 : (0 : Int) ≤ (k : Int) := by omega
  have k1 : (k : Int) < (l.length : Int) := by have := (List.getElem?_eq_some_iff.1 hk).1; omega
  clear h hi hk e2 e3
  go_enter Try.func40, Try.ntmps40
  go_upto_region 1 with (fail)
  go_cut [7, 8] (Boxed w a b)
  case first =>
    go_region_held3 (fun w' => w'.cell? ⟨t, 0, none⟩ = some (.slice (some ⟨g, 0, none⟩) l.length c) ∧ w'.cell? ⟨g, i * 2, none⟩ = some (.int .i64 a.id) ∧ w'.cell? ⟨g, i * 2 + 1, none⟩ = some (.int .i64 a.at_) ∧ w'.cell? ⟨g, k * 2, none⟩ = some (.int .i64 b.id) ∧ w'.cell? ⟨g, k * 2 + 1, none⟩ = some (.int .i64 b.at_))
      (first | exact ⟨p0, q0, q1, r0, r1⟩ | go_keep) (fail)
    all_goals go_wp2_with fail
    all_goals go_meet
    all_goals first
      | (with_reducible exact boxed1 w a b)
      | (with_reducible exact boxed2 w a b)
  case rest =>
    obtain ⟨x, y, rfl, rfl, hx, hy, hb⟩ := hcut
    clear p0 q0 q1 r0 r1
    have x0 := hx.cell 0
    have x1 := hx.cell 1
    have y0 := hy.cell 0
    have y1 := hy.cell 1
    have lx := hx.lt
    have ly := hy.lt
    simp at x0 x1 y0 y1
    have HB := Lib.hid hb
    clear hx hy hb
    cases t1 : decide (a.at_ < b.at_) <;> cases t2 : (a.at_ == b.at_) <;> cases t3 : decide (a.id < b.id)
    all_goals
      have hL : lessE a b = (decide (a.at_ < b.at_) || ((a.at_ == b.at_) && decide (a.id < b.id))) := by unfold lessE; congr 2
      rw [t1, t2, t3] at hL
      have HL := Lib.hid hL
      clear hL
      go_wp2_with fail
      go_ret
      exact ⟨by rw [HL.out]; rfl, HB.out⟩
end
end Go.Proofs.Ytnnbpmjcdcmigaa.Line
