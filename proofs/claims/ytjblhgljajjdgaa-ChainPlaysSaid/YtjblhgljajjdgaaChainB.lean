/- The lists: contracts of Pop and New. -/
import Derived.Test.YtjblhgljajjdgaaChain
import Derived.Deep.DeepCutAuto
import Derived.Deep.CutBlock
namespace Go.Proofs.Ytjblhgljajjdgaa.Chain
open Go.RowKit

theorem pop_nil (i : Int) (w : World) : Calls Try.prog 10 #[.pointer none, .int .i64 i] w fun e' w' => e' = .returned (.tuple #[.int .i64 0, .bool false]) ∧ w = w' := by
  go_enter Try.func10, Try.ntmps10
  go_wp2_with fail
  refine (first_nil _ _).mono ?_
  rintro e' w1 ⟨rfl, rfl⟩
  go_wp2_with fail
  go_ret2
  exact ⟨rfl, rfl⟩
theorem pop_no (c g1 g2 g3 : Nat) (x : Ch) (i : Int) (w : World) (h : Is w c g1 g2 g3 x) (hb : i < 0 ∨ (x.lists.length : Int) ≤ i ∨ ∃ (k : Nat) (e : Ends), i = k ∧ x.lists[k]? = some e ∧ e.many = 0) :
    Calls Try.prog 10 #[.pointer (some ⟨c, 0, none⟩), .int .i64 i] w fun e' w' => e' = .returned (.tuple #[.int .i64 0, .bool false]) ∧ w = w' := by
  have C := Lib.hid (first_no c g1 g2 g3 x i w h hb)
  clear h hb
  go_enter Try.func10, Try.ntmps10
  go_wp2_with fail
  refine C.out.mono ?_
  rintro e' w1 ⟨rfl, rfl⟩
  go_wp2_with fail
  go_ret2
  exact ⟨rfl, rfl⟩

def pop (x : Ch) (i v : Nat) (e : Ends) (nv : Int) : Ch :=
  { next := x.next.set v (-1), where_ := x.where_.set v (-1), lists := x.lists.set i { first := nv, last := if e.many = 1 then -1 else e.last, many := e.many - 1 } }

set_option maxHeartbeats 1000000 in
theorem pop_yes (c g1 g2 g3 : Nat) (x : Ch) (i v : Nat) (e : Ends) (nv wv : Int) (w : World) (h : Is w c g1 g2 g3 x) (hi : x.lists[i]? = some e) (hf : e.first = (v : Int)) (hv : x.next[v]? = some nv) (hw : x.where_[v]? = some wv) (hm : 1 ≤ e.many ∧ e.many ≤ 4096) :
    Calls Try.prog 10 #[.pointer (some ⟨c, 0, none⟩), .int .i64 (i : Int)] w fun e' w' => e' = .returned (.tuple #[.int .i64 (v : Int), .bool true]) ∧ Is w' c g1 g2 g3 (pop x i v e nv) ∧ Kept (Of3 g1 g2 g3) w w' := by
  obtain ⟨ef, el, em⟩ := e
  simp only at hf hm
  subst hf
  obtain ⟨c1, c2, c3, p0, p1, p2⟩ := h.cells
  obtain ⟨lt0, lt1, lt2, lt3⟩ := h.lt
  obtain ⟨n1, n2, n3, n4, n5, n6⟩ := h.ne
  obtain ⟨fr1, fr2, fr3⟩ := h.frozen
  obtain ⟨e0, e1, e2⟩ := h.ends hi
  have hwc := h.where__ hw
  have hnc := h.next_ hv
  have hil := (List.getElem?_eq_some_iff.1 hi).1
  have hvl := (List.getElem?_eq_some_iff.1 hw).1
  have hnl := (List.getElem?_eq_some_iff.1 hv).1
  have C := Lib.hid (first_yes c g1 g2 g3 x i _ w h hi (by simp; omega))
  have i0 : (0 : Int) ≤ (i : Int) := by omega
  have i1 : (i : Int) < (x.lists.length : Int) := by omega
  have v0 : (0 : Int) ≤ (v : Int) := by omega
  have v1 : (v : Int) < (x.next.length : Int) := by omega
  have v2 : (v : Int) < (x.where_.length : Int) := by omega
  obtain ⟨m0, m1⟩ := hm
  have H := Lib.hid h
  have HI := Lib.hid hi
  have HW := Lib.hid hw
  have HN := Lib.hid hv
  clear h hi hw hv
  by_cases hz : em = 1
  · subst hz
    go_enter Try.func10, Try.ntmps10
    go_wp2_with fail
    refine C.out.mono ?_
    rintro e' w1 ⟨rfl, rfl⟩
    go_wp2_with fail
    go_region
    all_goals go_wp2_with fail
    go_ret2
    refine ⟨rfl, ?_, ?_⟩
    · have s1 := H.out.setEnds (u := .int .i64 nv) (e' := { first := nv, last := el, many := 1 }) HI.out (j := 0) (by decide) rfl
      have s2 := s1.setEnds (u := .int .i64 (0)) (e' := { first := nv, last := el, many := 0 }) (List.getElem?_set_self hil) (j := 2) (by decide) rfl
      have s3 := s2.setEnds (u := .int .i64 (-1)) (e' := { first := nv, last := -1, many := 0 }) (List.getElem?_set_self (by simpa using hil)) (j := 1) (by decide) rfl
      have s4 := ((s3.setNext (u := -1) HN.out).setWhere (u := -1) HW.out).drew
      simp only [List.set_set, Nat.add_zero] at s4
      unfold pop
      simp only [if_true]
      exact s4
    · exact ((((((Kept.refl _ _).setCell (.inl (.inr (.inr rfl))) _).setCell (.inl (.inr (.inr rfl))) _).setCell (.inl (.inr (.inr rfl))) _).setCell (.inl (.inl rfl)) _).setCell (.inl (.inr (.inl rfl))) _).drew
  · have t3 : (em - 1 == 0) = false := by simp; omega
    have HZ := Lib.hid hz
    clear hz
    go_enter Try.func10, Try.ntmps10
    go_wp2_with fail
    refine C.out.mono ?_
    rintro e' w1 ⟨rfl, rfl⟩
    go_wp2_with fail
    go_region
    all_goals go_wp2_with fail
    go_ret2
    refine ⟨rfl, ?_, ?_⟩
    · have s1 := H.out.setEnds (u := .int .i64 nv) (e' := { first := nv, last := el, many := em }) HI.out (j := 0) (by decide) rfl
      have s2 := s1.setEnds (u := .int .i64 (em - 1)) (e' := { first := nv, last := el, many := em - 1 }) (List.getElem?_set_self hil) (j := 2) (by decide) rfl
      have s4 := ((s2.setNext (u := -1) HN.out).setWhere (u := -1) HW.out).drew
      simp only [List.set_set, Nat.add_zero] at s4
      unfold pop
      simp only [if_neg HZ.out]
      exact s4
    · exact (((((Kept.refl _ _).setCell (.inl (.inr (.inr rfl))) _).setCell (.inl (.inr (.inr rfl))) _).setCell (.inl (.inl rfl)) _).setCell (.inl (.inr (.inl rfl))) _).drew

theorem info3 : (Try.prog.info? 3).map (fun i => (i.zero, i.size, i.bytes)) = some (some (.int .i64 0), 1, 8) := by kernel_rfl
theorem info55 : (Try.prog.info? 55).map (fun i => (i.zero, i.size, i.bytes)) = some (some (.agg #[.int .i64 0, .int .i64 0, .int .i64 0]), 3, 24) := by kernel_rfl

def zeroC (n m : Nat) : Ch := { next := List.replicate n 0, where_ := List.replicate n 0, lists := List.replicate m ⟨0, 0, 0⟩ }
/-- A new struct of new rows. -/
def MadeC (w : World) (x : Ch) (sp : Value) (wx : World) : Prop :=
  ∃ c g1 g2 g3, sp = .pointer (some ⟨c, 0, none⟩) ∧ Is wx c g1 g2 g3 x ∧ Below w.heap.size w wx ∧ w.heap.size ≤ c ∧ w.heap.size ≤ g1 ∧ w.heap.size ≤ g2 ∧ w.heap.size ≤ g3

section
variable {w : World} {n m : Nat}
theorem int_row (w : World) (n : Nat) : RowsIn (w.alloc (.cells (madeCells #[.int .i64 0] n) 3)) w.heap.size 3 1 eInt (List.replicate n 0) := by
  have := RowsIn.made (t := 3) (size := 1) (enc := eInt) w #[.int .i64 0] 0 n rfl rfl (by decide)
  simpa using this
theorem end_row (w : World) (m : Nat) : RowsIn (w.alloc (.cells (madeCells #[.int .i64 0, .int .i64 0, .int .i64 0] (m * 3)) 55)) w.heap.size 55 3 Ends.enc (List.replicate m ⟨0, 0, 0⟩) :=
  RowsIn.made (t := 55) (size := 3) (enc := Ends.enc) w #[.int .i64 0, .int .i64 0, .int .i64 0] ⟨0, 0, 0⟩ m rfl rfl (by decide)
theorem row_at {α : Type} {w : World} {g g' : Nat} {t : TypeId} {size : Nat} {enc : α → List Value} {l : List α} (h : RowsIn w g t size enc l) (e : g = g') : RowsIn w g' t size enc l := e ▸ h
theorem row_at_blk {w : World} {g g' : Nat} {t : TypeId} {cs : Array Value} (h : Blk w g t cs) (e : g = g') : Blk w g' t cs := e ▸ h
theorem below4 (w : World) (o1 o2 o3 o4 : Obj) : Below w.heap.size w ((((w.alloc o1).alloc o2).alloc o3).alloc o4).drew :=
  (((((Below.refl w.heap.size w).alloc (Nat.le_refl _) _).alloc (by simp) _).alloc (by simp; omega) _).alloc (by simp; omega) _).drew
theorem zero_mk {w W : World} {n m c g1 g2 g3 : Nat} (hn : n ≤ 4096) (hm : m ≤ 256) (hb : Blk W c 53 #[.slice (some ⟨g1, 0, none⟩) n n, .slice (some ⟨g2, 0, none⟩) n n, .slice (some ⟨g3, 0, none⟩) m m])
    (h1 : RowsIn W g1 3 1 eInt (List.replicate n 0)) (h2 : RowsIn W g2 3 1 eInt (List.replicate n 0)) (h3 : RowsIn W g3 55 3 Ends.enc (List.replicate m ⟨0, 0, 0⟩)) (hne : g1 ≠ g2) (hbl : Below w.heap.size w W)
    (l0 : w.heap.size ≤ c) (l1 : w.heap.size ≤ g1) (l2 : w.heap.size ≤ g2) (l3 : w.heap.size ≤ g3) : MadeC w (zeroC n m) (.pointer (some ⟨c, 0, none⟩)) W :=
  ⟨c, g1, g2, g3, rfl, ⟨⟨n, n, m, by simp [zeroC], by simp [zeroC], by simp [zeroC], by unfold maxLen; omega, by unfold maxLen; omega, by unfold maxLen; omega, by simpa [zeroC] using hb⟩, h1, h2, h3, hne⟩, hbl, l0, l1, l2, l3⟩
end

/-- k of a, then b. -/
def midG {α : Type} (a b : α) (n k : Nat) : List α := List.replicate k a ++ List.replicate (n - k) b
theorem midG_zero {α : Type} (a b : α) (n : Nat) : midG a b n 0 = List.replicate n b := by simp [midG]
theorem midG_all {α : Type} (a b : α) (n : Nat) : midG a b n n = List.replicate n a := by simp [midG]
theorem midG_length {α : Type} (a b : α) {n k : Nat} (h : k ≤ n) : (midG a b n k).length = n := by simp only [midG, List.length_append, List.length_replicate]; omega
theorem midG_get {α : Type} (a b : α) {n k : Nat} (h : k < n) : (midG a b n k)[k]? = some b := by
  unfold midG
  rw [List.getElem?_append_right (by simp), List.length_replicate, Nat.sub_self, List.getElem?_replicate, if_pos (by omega)]
theorem midG_set {α : Type} (a b : α) {n k : Nat} (h : k < n) : (midG a b n k).set k a = midG a b n (k + 1) := by
  unfold midG
  rw [List.set_append_right _ _ (by simp), List.length_replicate, Nat.sub_self]
  obtain ⟨d, rfl⟩ : ∃ d, n = k + d + 1 := ⟨n - k - 1, by omega⟩
  rw [show k + d + 1 - k = d + 1 by omega, show k + d + 1 - (k + 1) = d by omega, List.replicate_succ, List.replicate_succ' (n := k), List.append_assoc]
  rfl
def midC (n m k j : Nat) : Ch := { next := midG (-1) 0 n k, where_ := midG (-1) 0 n k, lists := midG ⟨-1, -1, 0⟩ ⟨0, 0, 0⟩ m j }
def newC (n m : Nat) : Ch := { next := List.replicate n (-1), where_ := List.replicate n (-1), lists := List.replicate m ⟨-1, -1, 0⟩ }

set_option maxRecDepth 100000 in
set_option maxHeartbeats 1000000 in
theorem new_good (n m : Nat) (w : World) (h1 : 1 ≤ n) (h2 : n ≤ 4096) (h3 : 1 ≤ m) (h4 : m ≤ 256) :
    Calls Try.prog 5 #[.int .i64 (n : Int), .int .i64 (m : Int)] w (fun e w' => ∃ v, e = .returned v ∧ MadeC w (newC n m) v w') := by
  obtain ⟨i0, hi, hz0, hz1, hz2⟩ := info_parts info3
  obtain ⟨j0, hj, hy0, hy1, hy2⟩ := info_parts info55
  have hmk : ∀ W : World, (Instr.makeSlice 40 (.int .i64 (n : Int)) (.int .i64 (n : Int))).run Try.prog W = .ok (.slice (some ⟨W.heap.size, 0, none⟩) n n) (W.alloc (.cells (madeCells #[.int .i64 0] (n * 1)) 3)) := fun W => by
    have := run_make_rows (P := Try.prog) 40 3 i0 _ Try.underlying40 hi hz0 .i64 .i64 n n (Nat.le_refl _) (by rw [hz2]; omega) (by omega) W
    rw [hz1] at this
    exact this
  have hmk' : ∀ W : World, (Instr.makeSlice 51 (.int .i64 (m : Int)) (.int .i64 (m : Int))).run Try.prog W = .ok (.slice (some ⟨W.heap.size, 0, none⟩) m m) (W.alloc (.cells (madeCells #[.int .i64 0, .int .i64 0, .int .i64 0] (m * 3)) 55)) := fun W => by
    have := run_make_rows (P := Try.prog) 51 55 j0 _ Try.underlying51 hj hy0 .i64 .i64 m m (Nat.le_refl _) (by rw [hy2]; omega) (by omega) W
    rw [hy1] at this
    exact this
  have t1 : decide ((n : Int) < 1) = false := by simp; omega
  have t2 : decide (4096 < (n : Int)) = false := by simp; omega
  have t3 : decide ((m : Int) < 1) = false := by simp; omega
  have t4 : decide (256 < (m : Int)) = false := by simp; omega
  clear i0 hi hz0 hz1 hz2 j0 hj hy0 hy1 hy2
  go_enter Try.func5, Try.ntmps5
  go_upto_region 3 with (fail)
  go_cut [5] (MadeC w (zeroC n m))
  case first =>
    go_region
    all_goals go_wp2_with fail
    all_goals go_meet
    case rel => exact zero_mk h2 h4 (row_at_blk (Blk.new _ _ _).drew (by simp)) (((((int_row w n).alloc _).alloc _).alloc _).drew) (row_at (((int_row _ n).alloc _).alloc _).drew (by simp)) (row_at ((end_row _ m).alloc _).drew (by simp)) (by omega) (below4 w _ _ _ _) (by omega) (by omega) (by omega) (by omega)
    case rel => exact zero_mk h2 h4 (row_at_blk (Blk.new _ _ _).drew (by simp)) (((((int_row w n).alloc _).alloc _).alloc _).drew) (row_at ((int_row _ n).alloc _).drew (by simp)) (row_at (((end_row _ m).alloc _).alloc _).drew (by simp)) (by omega) (below4 w _ _ _ _) (by omega) (by omega) (by omega) (by omega)
    case rel => exact zero_mk h2 h4 (row_at_blk (Blk.new _ _ _).drew (by simp)) (row_at (((int_row _ n).alloc _).alloc _).drew (by simp)) (((((int_row w n).alloc _).alloc _).alloc _).drew) (row_at ((end_row _ m).alloc _).drew (by simp)) (by omega) (below4 w _ _ _ _) (by omega) (by omega) (by omega) (by omega)
    case rel => exact zero_mk h2 h4 (row_at_blk (Blk.new _ _ _).drew (by simp)) (row_at ((int_row _ n).alloc _).drew (by simp)) (((((int_row w n).alloc _).alloc _).alloc _).drew) (row_at (((end_row _ m).alloc _).alloc _).drew (by simp)) (by omega) (below4 w _ _ _ _) (by omega) (by omega) (by omega) (by omega)
    case rel => exact zero_mk h2 h4 (row_at_blk (Blk.new _ _ _).drew (by simp)) (row_at (((int_row _ n).alloc _).alloc _).drew (by simp)) (row_at ((int_row _ n).alloc _).drew (by simp)) (((((end_row w m).alloc _).alloc _).alloc _).drew) (by omega) (below4 w _ _ _ _) (by omega) (by omega) (by omega) (by omega)
    case rel => exact zero_mk h2 h4 (row_at_blk (Blk.new _ _ _).drew (by simp)) (row_at ((int_row _ n).alloc _).drew (by simp)) (row_at (((int_row _ n).alloc _).alloc _).drew (by simp)) (((((end_row w m).alloc _).alloc _).alloc _).drew) (by omega) (below4 w _ _ _ _) (by omega) (by omega) (by omega) (by omega)
  case rest =>
    obtain ⟨c, g1, g2, g3, rfl, hI, hb, hc, hg1, hg2, hg3⟩ := hcut
    have hI0 : Is wc c g1 g2 g3 (midC n m 0 0) := by unfold midC; rw [midG_zero, midG_zero]; exact hI
    have HI0 := Lib.hid hI0
    have HB := Lib.hid hb
    obtain ⟨c1, c2, c3, p0, p1, p2⟩ := hI.cells
    simp only [zeroC, List.length_replicate] at p0 p1 p2
    have lt := hI.lt.1
    clear hI hI0 hb hmk hmk' t1 t2 t3 t4
    go_wp2_with fail
    go_loopw [6, 35] (fun _ i wr => ∃ k : Nat, k ≤ n ∧ i = .int .i64 k ∧ Is wr c g1 g2 g3 (midC n m k 0) ∧ Below w.heap.size w wr) (fun _ i _ => n - (intOf i).toNat)
    case atStart => exact ⟨0, by omega, rfl, HI0.out, HB.out⟩
    case round =>
      clear HI0 HB p0 p1 p2 lt
      obtain ⟨k, hk, rfl, hI, hb⟩ := hrel
      obtain ⟨c1, c2, c3, p0, p1, p2⟩ := hI.cells
      simp only [midC, midG_length _ _ hk, midG_length _ _ (Nat.zero_le m)] at p0 p1 p2
      obtain ⟨lt0, lt1, lt2, lt3⟩ := hI.lt
      obtain ⟨n1, n2, n3, n4, n5, n6⟩ := hI.ne
      obtain ⟨fr1, fr2, fr3⟩ := hI.frozen
      have HI := Lib.hid hI
      have HB := Lib.hid hb
      clear hI hb
      by_cases hlt : k < n
      · have q1 := HI.out.next_ (k := k) (v := 0) (midG_get _ _ hlt)
        have q2 := HI.out.where__ (k := k) (v := 0) (midG_get _ _ hlt)
        have k0 : (0 : Int) ≤ (k : Int) := by omega
        have k1 : (k : Int) < (n : Int) := by omega
        go_wp2_with fail
        go_region
        all_goals go_wp2_with fail
        go_roundw
        case rel =>
          have s1 := ((HI.out.setNext (k := k) (v := 0) (u := -1) (midG_get _ _ hlt)).setWhere (k := k) (v := 0) (u := -1) (midG_get _ _ hlt)).drew
          simp only [midC, midG_set _ _ hlt] at s1
          exact ⟨k + 1, by omega, by go_num, s1, ((HB.out.setCell hg1 _).setCell hg2 _).drew⟩
        case measure => simp [intOf]; omega
      · obtain rfl : k = n := by omega
        go_wp2_with fail
        go_loopw [7, 56] (fun _ i wr => ∃ j : Nat, j ≤ m ∧ i = .int .i64 j ∧ Is wr c g1 g2 g3 (midC k m k j) ∧ Below w.heap.size w wr) (fun _ i _ => m - (intOf i).toNat)
        case atStart => exact ⟨0, by omega, rfl, HI.out, HB.out⟩
        case round =>
          clear HI HB p0 p1 p2 lt0 lt1 lt2 lt3 n1 n2 n3 n4 n5 n6 fr1 fr2 fr3
          obtain ⟨j, hj, rfl, hI, hb⟩ := hrel
          obtain ⟨c1, c2, c3, p0, p1, p2⟩ := hI.cells
          simp only [midC, midG_length _ _ (Nat.le_refl k), midG_length _ _ hj] at p0 p1 p2
          obtain ⟨lt0, lt1, lt2, lt3⟩ := hI.lt
          obtain ⟨n1, n2, n3, n4, n5, n6⟩ := hI.ne
          obtain ⟨fr1, fr2, fr3⟩ := hI.frozen
          have HI := Lib.hid hI
          have HB := Lib.hid hb
          clear hI hb
          by_cases hlt2 : j < m
          · obtain ⟨q1, q2, q3⟩ := HI.out.ends (k := j) (e := ⟨0, 0, 0⟩) (midG_get _ _ hlt2)
            have k0 : (0 : Int) ≤ (j : Int) := by omega
            have k1 : (j : Int) < (m : Int) := by omega
            go_wp2_with fail
            go_roundw
            case rel =>
              have hl : j < (midC k m k j).lists.length := by simp only [midC]; rw [midG_length _ _ hj]; exact hlt2
              have s1 := HI.out.setEnds (k := j) (e := ⟨0, 0, 0⟩) (u := .int .i64 (-1)) (e' := ⟨-1, 0, 0⟩) (midG_get _ _ hlt2) (j := 0) (by decide) rfl
              have s2 := s1.setEnds (k := j) (e := ⟨-1, 0, 0⟩) (u := .int .i64 (-1)) (e' := ⟨-1, -1, 0⟩) (List.getElem?_set_self hl) (j := 1) (by decide) rfl
              have s3 := s2.setEnds (k := j) (e := ⟨-1, -1, 0⟩) (u := .int .i64 0) (e' := ⟨-1, -1, 0⟩) (List.getElem?_set_self (by simpa using hl)) (j := 2) (by decide) rfl
              simp only [List.set_set, Nat.add_zero] at s3
              simp only [midC, midG_set _ _ hlt2] at s3
              exact ⟨j + 1, by omega, by go_num, s3, ((HB.out.setCell hg3 _).setCell hg3 _).setCell hg3 _⟩
            case measure => simp [intOf]; omega
          · obtain rfl : j = m := by omega
            go_wp2_with fail
            go_ret
            refine ⟨_, rfl, c, g1, g2, g3, rfl, ?_, HB.out, hc, hg1, hg2, hg3⟩
            have := HI.out
            simp only [midC, midG_all] at this
            exact this
end Go.Proofs.Ytjblhgljajjdgaa.Chain
