/- The lists: contracts of All, and of the function that it gives. -/
import Derived.Test.YtjblhgljajjdgaaChainC
namespace Go.Proofs.Ytjblhgljajjdgaa.Chain
open Go.RowKit

/-- The nodes from n on, one behind the other. -/
def Links (next : List Int) : Int → List Int → Prop
  | n, [] => n = -1
  | n, a :: r => ∃ (k : Nat) (m : Int), n = k ∧ a = k ∧ next[k]? = some m ∧ Links next m r

theorem all_any (p : Option Addr) (i : Int) (w : World) : Calls Try.prog 21 #[.pointer p, .int .i64 i] w fun e w' =>
    e = .returned (.func (.func 27) #[] #[.pointer (some ⟨w.heap.size, 0, none⟩), .pointer (some ⟨w.heap.size + 1, 0, none⟩)]) ∧ (w.alloc (.cells #[.pointer p] 23)).alloc (.cells #[.int .i64 i] 3) = w' := by
  go_enter Try.func21, Try.ntmps21
  go_wp2
  go_ret
  exact ⟨rfl, rfl⟩

/-- Memory that the function that All gives reads: the lists and its two boxes. -/
structure Rd_ (W : World) (c g1 g2 g3 b1 b2 : Nat) (x : Ch) (i : Int) : Prop where
  ch : Is W c g1 g2 g3 x
  p : Blk W b1 23 #[.pointer (some ⟨c, 0, none⟩)]
  i : Blk W b2 3 #[.int .i64 i]

def Gone (J Jx : List Int → World → Prop) (l : List Int) (e : Ending) (W : World) : Prop := (∃ v, e = .returned v) ∧ (J l W ∨ ∃ pre, pre <+: l ∧ Jx pre W)

set_option maxRecDepth 100000 in
set_option maxHeartbeats 1000000 in
theorem all1_26 (c g1 g2 g3 b1 b2 ob : Nat) (x : Ch) (i : Nat) (e : Ends) (l : List Int) (J Jx : List Int → World → Prop) (w : World)
    (hJ : ∀ pre W, J pre W → Rd_ W c g1 g2 g3 b1 b2 x i) (hd : ∀ pre W n, J pre W → J pre (W.drewN n)) (hi : x.lists[i]? = some e) (hl : Links x.next e.first l)
    (hY : ∀ (pre : List Int) (k : Nat) (W : World), J pre W → pre.length < l.length → Calls Try.prog 26 #[.int .i64 (k : Int), .pointer (some ⟨ob, 0, none⟩)] W fun e W' =>
      (e = .returned (.bool true) ∧ J (pre ++ [(k : Int)]) W') ∨ (e = .returned (.bool false) ∧ Jx (pre ++ [(k : Int)]) W'))
    (h0 : J [] w) :
    Calls Try.prog 27 #[.func (.func 26) #[] #[.pointer (some ⟨ob, 0, none⟩)], .pointer (some ⟨b1, 0, none⟩), .pointer (some ⟨b2, 0, none⟩)] w (Gone J Jx l) := by
  have R := hJ _ _ h0
  have q1 := R.p.cell 0
  have q2 := R.i.cell 0
  simp at q1 q2
  obtain ⟨c1, c2, c3, p0, p1, p2⟩ := R.ch.cells
  obtain ⟨e0, e1, e2⟩ := R.ch.ends hi
  obtain ⟨lt0, lt1, lt2, lt3⟩ := R.ch.lt
  have hil := (List.getElem?_eq_some_iff.1 hi).1
  have i0 : (0 : Int) ≤ (i : Int) := by omega
  have i1 : (i : Int) < (x.lists.length : Int) := by omega
  have C := Lib.hid (is_yes c g1 g2 g3 x i w R.ch hil)
  have HL := Lib.hid hl
  have HY := Lib.hid hY
  have HJ := Lib.hid hJ
  have HD := Lib.hid hd
  have H0 := Lib.hid h0
  clear hi hl hY hJ hd h0 R
  go_enter Try.func27, Try.ntmps27
  go_wp2_with fail
  refine C.out.mono ?_
  rintro e' w1 ⟨rfl, rfl⟩
  go_wp2_with fail
  go_quiet (fail)
  go_wp2_with fail
  go_loopg [4] l.length (fun m n wr => ∃ (pre rest : List Int) (nv : Int), l = pre ++ rest ∧ m = rest.length ∧ n = .int .i64 nv ∧ Links x.next nv rest ∧ J pre wr)
  case atStart => exact ⟨[], l, _, rfl, rfl, rfl, HL.out, HD.out _ _ _ H0.out⟩
  case round =>
    clear HL H0 q1 q2 p0 p1 p2 e0 e1 e2 lt0 lt1 lt2 lt3 i0 i1 hil
    obtain ⟨pre, rest, nv, hpr, hm, rfl, hlk, hj⟩ := hrel
    have HJ' := Lib.hid hj
    have HPR := Lib.hid hpr
    have HM := Lib.hid hm
    clear hj hpr hm
    cases rest with
    | nil =>
      obtain rfl : nv = -1 := hlk
      go_wp2_with fail
      refine bodyPost_ret (results_none rfl _ _ _) rfl ?_
      exact ⟨⟨_, rfl⟩, .inl (by rw [HPR.out, List.append_nil]; exact HJ'.out)⟩
    | cons a rest =>
      obtain ⟨k, m, rfl, rfl, hk, hlk⟩ := hlk
      have t1 : ((k : Int) != -1) = true := by rw [bne_iff_ne]; omega
      have Y := Lib.hid (HY.out pre k wr HJ'.out (by rw [HPR.out]; simp))
      have HK := Lib.hid hk
      have HLK := Lib.hid hlk
      have hkl := (List.getElem?_eq_some_iff.1 hk).1
      have k0 : (0 : Int) ≤ (k : Int) := by omega
      have k1 : (k : Int) < (x.next.length : Int) := by omega
      clear hk hlk hkl
      go_wp2_with fail
      refine Y.out.mono ?_
      rintro e' w2 (⟨rfl, hj2⟩ | ⟨rfl, hx2⟩)
      · have R := HJ.out _ _ hj2
        have q1 := R.p.cell 0
        simp at q1
        obtain ⟨c1, c2, c3, p0, p1, p2⟩ := R.ch.cells
        have lt0 := R.ch.lt.1
        have lt1 := R.ch.lt.2.1
        have nx := R.ch.next_ HK.out
        have HJ2 := Lib.hid hj2
        clear hj2 R p1 p2
        go_wp2_with fail
        go_roundg rest.length
        case measure => rw [HM.out]; simp
        case rel => exact ⟨pre ++ [(k : Int)], rest, m, by rw [HPR.out]; simp, rfl, rfl, HLK.out, HJ2.out⟩
      · have HX2 := Lib.hid hx2
        clear hx2
        go_wp2_with fail
        refine bodyPost_ret (results_none rfl _ _ _) rfl ?_
        exact ⟨⟨_, rfl⟩, .inr ⟨pre ++ [(k : Int)], ⟨rest, by rw [HPR.out]; simp⟩, HX2.out⟩⟩

set_option maxRecDepth 100000 in
set_option maxHeartbeats 1000000 in
theorem all1_22 (c g1 g2 g3 b1 b2 sb mb : Nat) (x : Ch) (i : Nat) (e : Ends) (l : List Int) (J Jx : List Int → World → Prop) (w : World)
    (hJ : ∀ pre W, J pre W → Rd_ W c g1 g2 g3 b1 b2 x i) (hd : ∀ pre W n, J pre W → J pre (W.drewN n)) (hi : x.lists[i]? = some e) (hl : Links x.next e.first l)
    (hY : ∀ (pre : List Int) (k : Nat) (W : World), J pre W → pre.length < l.length → Calls Try.prog 22 #[.int .i64 (k : Int), .pointer (some ⟨sb, 0, none⟩), .pointer (some ⟨mb, 0, none⟩)] W fun e W' =>
      (e = .returned (.bool true) ∧ J (pre ++ [(k : Int)]) W') ∨ (e = .returned (.bool false) ∧ Jx (pre ++ [(k : Int)]) W'))
    (h0 : J [] w) :
    Calls Try.prog 27 #[.func (.func 22) #[] #[.pointer (some ⟨sb, 0, none⟩), .pointer (some ⟨mb, 0, none⟩)], .pointer (some ⟨b1, 0, none⟩), .pointer (some ⟨b2, 0, none⟩)] w (Gone J Jx l) := by
  have R := hJ _ _ h0
  have q1 := R.p.cell 0
  have q2 := R.i.cell 0
  simp at q1 q2
  obtain ⟨c1, c2, c3, p0, p1, p2⟩ := R.ch.cells
  obtain ⟨e0, e1, e2⟩ := R.ch.ends hi
  obtain ⟨lt0, lt1, lt2, lt3⟩ := R.ch.lt
  have hil := (List.getElem?_eq_some_iff.1 hi).1
  have i0 : (0 : Int) ≤ (i : Int) := by omega
  have i1 : (i : Int) < (x.lists.length : Int) := by omega
  have C := Lib.hid (is_yes c g1 g2 g3 x i w R.ch hil)
  have HL := Lib.hid hl
  have HY := Lib.hid hY
  have HJ := Lib.hid hJ
  have HD := Lib.hid hd
  have H0 := Lib.hid h0
  clear hi hl hY hJ hd h0 R
  go_enter Try.func27, Try.ntmps27
  go_wp2_with fail
  refine C.out.mono ?_
  rintro e' w1 ⟨rfl, rfl⟩
  go_wp2_with fail
  go_quiet (fail)
  go_wp2_with fail
  go_loopg [4] l.length (fun m n wr => ∃ (pre rest : List Int) (nv : Int), l = pre ++ rest ∧ m = rest.length ∧ n = .int .i64 nv ∧ Links x.next nv rest ∧ J pre wr)
  case atStart => exact ⟨[], l, _, rfl, rfl, rfl, HL.out, HD.out _ _ _ H0.out⟩
  case round =>
    clear HL H0 q1 q2 p0 p1 p2 e0 e1 e2 lt0 lt1 lt2 lt3 i0 i1 hil
    obtain ⟨pre, rest, nv, hpr, hm, rfl, hlk, hj⟩ := hrel
    have HJ' := Lib.hid hj
    have HPR := Lib.hid hpr
    have HM := Lib.hid hm
    clear hj hpr hm
    cases rest with
    | nil =>
      obtain rfl : nv = -1 := hlk
      go_wp2_with fail
      refine bodyPost_ret (results_none rfl _ _ _) rfl ?_
      exact ⟨⟨_, rfl⟩, .inl (by rw [HPR.out, List.append_nil]; exact HJ'.out)⟩
    | cons a rest =>
      obtain ⟨k, m, rfl, rfl, hk, hlk⟩ := hlk
      have t1 : ((k : Int) != -1) = true := by rw [bne_iff_ne]; omega
      have Y := Lib.hid (HY.out pre k wr HJ'.out (by rw [HPR.out]; simp))
      have HK := Lib.hid hk
      have HLK := Lib.hid hlk
      have hkl := (List.getElem?_eq_some_iff.1 hk).1
      have k0 : (0 : Int) ≤ (k : Int) := by omega
      have k1 : (k : Int) < (x.next.length : Int) := by omega
      clear hk hlk hkl
      go_wp2_with fail
      refine Y.out.mono ?_
      rintro e' w2 (⟨rfl, hj2⟩ | ⟨rfl, hx2⟩)
      · have R := HJ.out _ _ hj2
        have q1 := R.p.cell 0
        simp at q1
        obtain ⟨c1, c2, c3, p0, p1, p2⟩ := R.ch.cells
        have lt0 := R.ch.lt.1
        have lt1 := R.ch.lt.2.1
        have nx := R.ch.next_ HK.out
        have HJ2 := Lib.hid hj2
        clear hj2 R p1 p2
        go_wp2_with fail
        go_roundg rest.length
        case measure => rw [HM.out]; simp
        case rel => exact ⟨pre ++ [(k : Int)], rest, m, by rw [HPR.out]; simp, rfl, rfl, HLK.out, HJ2.out⟩
      · have HX2 := Lib.hid hx2
        clear hx2
        go_wp2_with fail
        refine bodyPost_ret (results_none rfl _ _ _) rfl ?_
        exact ⟨⟨_, rfl⟩, .inr ⟨pre ++ [(k : Int)], ⟨rest, by rw [HPR.out]; simp⟩, HX2.out⟩⟩
end Go.Proofs.Ytjblhgljajjdgaa.Chain
