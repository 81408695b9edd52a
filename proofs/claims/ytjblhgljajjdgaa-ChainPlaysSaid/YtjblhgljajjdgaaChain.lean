/- The lists in one array of links: what their memory is, and contracts of is, Push, First, Len, Where. -/
import Derived.Test.YtjblhgljajjdgaaRows
import Derived.Test.YtjblhgljajjdgaaSln
import Derived.WalkLawsBesides
import Derived.BigQuiet
import Derived.Deep.QuietTactic
import Derived.StillTailTactics
import Derived.BigRegion
namespace Go.Proofs.Ytjblhgljajjdgaa.Chain
open Go.RowKit

structure Ends where
  first : Int
  last : Int
  many : Int
deriving DecidableEq
def Ends.enc (e : Ends) : List Value := [.int .i64 e.first, .int .i64 e.last, .int .i64 e.many]
structure Ch where
  next : List Int
  where_ : List Int
  lists : List Ends

/-- The struct in block c, its three rows in blocks g1, g2, g3. -/
def Is (w : World) (c g1 g2 g3 : Nat) (x : Ch) : Prop :=
  (∃ c1 c2 c3, x.next.length ≤ c1 ∧ x.where_.length ≤ c2 ∧ x.lists.length ≤ c3 ∧ c1 ≤ maxLen ∧ c2 ≤ maxLen ∧ c3 ≤ maxLen ∧
    Blk w c 53 #[.slice (some ⟨g1, 0, none⟩) x.next.length c1, .slice (some ⟨g2, 0, none⟩) x.where_.length c2, .slice (some ⟨g3, 0, none⟩) x.lists.length c3]) ∧
  RowsIn w g1 3 1 eInt x.next ∧ RowsIn w g2 3 1 eInt x.where_ ∧ RowsIn w g3 55 3 Ends.enc x.lists ∧ g1 ≠ g2
/-- The blocks that the methods write. -/
def Of3 (g1 g2 g3 : Nat) : Nat → Prop := fun i => i = g1 ∨ i = g2 ∨ i = g3

section
variable {w w' : World} {c g1 g2 g3 : Nat} {x : Ch}
theorem Is.kept {F : Nat → Prop} (h : Is w c g1 g2 g3 x) (hk : Kept F w w') (hc : ¬ F c) (h1 : ¬ F g1) (h2 : ¬ F g2) (h3 : ¬ F g3) : Is w' c g1 g2 g3 x := by
  obtain ⟨⟨c1, c2, c3, a1, a2, a3, a4, a5, a6, hb⟩, r1, r2, r3, hne⟩ := h
  exact ⟨⟨c1, c2, c3, a1, a2, a3, a4, a5, a6, hb.kept hk hc⟩, r1.kept hk h1, r2.kept hk h2, r3.kept hk h3, hne⟩
theorem Is.ext (h : Is w c g1 g2 g3 x) (hk : Kept none_ w w') : Is w' c g1 g2 g3 x := h.kept hk (fun h => h) (fun h => h) (fun h => h) (fun h => h)
theorem Is.lt (h : Is w c g1 g2 g3 x) : c < w.heap.size ∧ g1 < w.heap.size ∧ g2 < w.heap.size ∧ g3 < w.heap.size := by
  obtain ⟨⟨c1, c2, c3, a1, a2, a3, a4, a5, a6, hb⟩, r1, r2, r3, hne⟩ := h
  exact ⟨hb.lt, r1.lt, r2.lt, r3.lt⟩
theorem Is.ne (h : Is w c g1 g2 g3 x) : c ≠ g1 ∧ c ≠ g2 ∧ c ≠ g3 ∧ g1 ≠ g2 ∧ g1 ≠ g3 ∧ g2 ≠ g3 := by
  obtain ⟨⟨c1, c2, c3, a1, a2, a3, a4, a5, a6, hb⟩, ⟨t1, r1, _⟩, ⟨t2, r2, _⟩, ⟨t3, r3, _⟩, hne⟩ := h
  exact ⟨hb.ne_ r1 (by decide), hb.ne_ r2 (by decide), hb.ne_ r3 (by decide), hne, r1.ne_ r3 (by decide), r2.ne_ r3 (by decide)⟩
theorem Is.cells (h : Is w c g1 g2 g3 x) : ∃ c1 c2 c3, w.cell? ⟨c, 0, none⟩ = some (.slice (some ⟨g1, 0, none⟩) x.next.length c1) ∧ w.cell? ⟨c, 1, none⟩ = some (.slice (some ⟨g2, 0, none⟩) x.where_.length c2) ∧ w.cell? ⟨c, 2, none⟩ = some (.slice (some ⟨g3, 0, none⟩) x.lists.length c3) := by
  obtain ⟨⟨c1, c2, c3, a1, a2, a3, a4, a5, a6, hb⟩, _⟩ := h
  exact ⟨c1, c2, c3, hb.cell 0, hb.cell 1, hb.cell 2⟩
theorem Is.next_ (h : Is w c g1 g2 g3 x) {k : Nat} {v : Int} (hv : x.next[k]? = some v) : w.cell? ⟨g1, k, none⟩ = some (.int .i64 v) := by
  have := h.2.1.cell hv 0 rfl
  simpa using this
theorem Is.where__ (h : Is w c g1 g2 g3 x) {k : Nat} {v : Int} (hv : x.where_[k]? = some v) : w.cell? ⟨g2, k, none⟩ = some (.int .i64 v) := by
  have := h.2.2.1.cell hv 0 rfl
  simpa using this
theorem Is.ends (h : Is w c g1 g2 g3 x) {k : Nat} {e : Ends} (hv : x.lists[k]? = some e) : w.cell? ⟨g3, k * 3, none⟩ = some (.int .i64 e.first) ∧ w.cell? ⟨g3, k * 3 + 1, none⟩ = some (.int .i64 e.last) ∧ w.cell? ⟨g3, k * 3 + 2, none⟩ = some (.int .i64 e.many) := by
  have h0 := h.2.2.2.1.cell hv 0 rfl
  exact ⟨by simpa using h0, h.2.2.2.1.cell hv 1 rfl, h.2.2.2.1.cell hv 2 rfl⟩
theorem Is.frozen (h : Is w c g1 g2 g3 x) : (∀ i, w.frozen? ⟨g1, i, none⟩ = false) ∧ (∀ i, w.frozen? ⟨g2, i, none⟩ = false) ∧ (∀ i, w.frozen? ⟨g3, i, none⟩ = false) := ⟨h.2.1.frozen, h.2.2.1.frozen, h.2.2.2.1.frozen⟩
theorem rows1_set {w : World} {g k : Nat} {l : List Int} {v u : Int} (h : RowsIn w g 3 1 eInt l) (hv : l[k]? = some v) : RowsIn (w.setCell ⟨g, k, none⟩ (.int .i64 u)) g 3 1 eInt (l.set k u) := by
  have := h.set_ (x' := u) (u := .int .i64 u) (fun _ => rfl) hv (j := 0) (by decide) rfl
  simpa using this
/-- One write, in a row. -/
theorem Is.setNext (h : Is w c g1 g2 g3 x) {k : Nat} {v u : Int} (hv : x.next[k]? = some v) : Is (w.setCell ⟨g1, k, none⟩ (.int .i64 u)) c g1 g2 g3 { x with next := x.next.set k u } := by
  obtain ⟨n1, n2, n3, n4, n5, n6⟩ := h.ne
  obtain ⟨⟨c1, c2, c3, a1, a2, a3, a4, a5, a6, hb⟩, r1, r2, r3, hne⟩ := h
  exact ⟨⟨c1, c2, c3, by simpa using a1, a2, a3, a4, a5, a6, by simpa using hb.far (p := ⟨g1, k, none⟩) n1 _⟩, rows1_set r1 hv, r2.far (p := ⟨g1, k, none⟩) (Ne.symm n4) _, r3.far (p := ⟨g1, k, none⟩) (Ne.symm n5) _, hne⟩
theorem Is.setWhere (h : Is w c g1 g2 g3 x) {k : Nat} {v u : Int} (hv : x.where_[k]? = some v) : Is (w.setCell ⟨g2, k, none⟩ (.int .i64 u)) c g1 g2 g3 { x with where_ := x.where_.set k u } := by
  obtain ⟨n1, n2, n3, n4, n5, n6⟩ := h.ne
  obtain ⟨⟨c1, c2, c3, a1, a2, a3, a4, a5, a6, hb⟩, r1, r2, r3, hne⟩ := h
  exact ⟨⟨c1, c2, c3, a1, by simpa using a2, a3, a4, a5, a6, by simpa using hb.far (p := ⟨g2, k, none⟩) n2 _⟩, r1.far (p := ⟨g2, k, none⟩) n4 _, rows1_set r2 hv, r3.far (p := ⟨g2, k, none⟩) (Ne.symm n6) _, hne⟩
theorem Is.setEnds (h : Is w c g1 g2 g3 x) {k j : Nat} {e e' : Ends} {u : Value} (hv : x.lists[k]? = some e) (hj : j < 3) (he : e'.enc = e.enc.set j u) : Is (w.setCell ⟨g3, k * 3 + j, none⟩ u) c g1 g2 g3 { x with lists := x.lists.set k e' } := by
  obtain ⟨n1, n2, n3, n4, n5, n6⟩ := h.ne
  obtain ⟨⟨c1, c2, c3, a1, a2, a3, a4, a5, a6, hb⟩, r1, r2, r3, hne⟩ := h
  exact ⟨⟨c1, c2, c3, a1, a2, by simpa using a3, a4, a5, a6, by simpa using hb.far (p := ⟨g3, k * 3 + j, none⟩) n3 _⟩, r1.far (p := ⟨g3, k * 3 + j, none⟩) n5 _, r2.far (p := ⟨g3, k * 3 + j, none⟩) n6 _, r3.set_ (fun _ => rfl) hv hj he, hne⟩
theorem Is.drew (h : Is w c g1 g2 g3 x) : Is w.drew c g1 g2 g3 x := h.ext (Kept.refl _ _).drew
end

theorem is_nil (i : Int) (w : World) : Calls Try.prog 25 #[.pointer none, .int .i64 i] w fun e w' => e = .returned (.bool false) ∧ w = w' := by
  go_enter Try.func25, Try.ntmps25
  go_wp2
  go_ret
  exact ⟨rfl, rfl⟩

theorem is_yes (c g1 g2 g3 : Nat) (x : Ch) (i : Nat) (w : World) (h : Is w c g1 g2 g3 x) (hi : i < x.lists.length) :
    Calls Try.prog 25 #[.pointer (some ⟨c, 0, none⟩), .int .i64 (i : Int)] w fun e w' => e = .returned (.bool true) ∧ w = w' := by
  obtain ⟨c1, c2, c3, p0, p1, p2⟩ := h.cells
  have lt := h.lt.1
  have t1 : decide (0 ≤ (i : Int)) = true := by simp
  have t2 : decide ((i : Int) < (x.lists.length : Int)) = true := by simp; omega
  clear h
  go_enter Try.func25, Try.ntmps25
  go_wp2
  go_ret
  exact ⟨rfl, rfl⟩

theorem is_no (c g1 g2 g3 : Nat) (x : Ch) (i : Int) (w : World) (h : Is w c g1 g2 g3 x) (hi : i < 0 ∨ (x.lists.length : Int) ≤ i) :
    Calls Try.prog 25 #[.pointer (some ⟨c, 0, none⟩), .int .i64 i] w fun e w' => e = .returned (.bool false) ∧ w = w' := by
  obtain ⟨c1, c2, c3, p0, p1, p2⟩ := h.cells
  have lt := h.lt.1
  clear h
  by_cases h0 : i < 0
  · have t1 : decide (0 ≤ i) = false := by simp; omega
    clear hi
    go_enter Try.func25, Try.ntmps25
    go_wp2
    go_ret
    exact ⟨rfl, rfl⟩
  · have t1 : decide (0 ≤ i) = true := by simp; omega
    have t2 : decide (i < (x.lists.length : Int)) = false := by simp; omega
    clear hi h0
    go_enter Try.func25, Try.ntmps25
    go_wp2
    go_ret
    exact ⟨rfl, rfl⟩

def push (x : Ch) (i v : Nat) (e : Ends) : Ch :=
  { next := (if e.many = 0 then x.next else x.next.set e.last.toNat (v : Int)).set v (-1), where_ := x.where_.set v (i : Int), lists := x.lists.set i { first := if e.many = 0 then (v : Int) else e.first, last := (v : Int), many := e.many + 1 } }

set_option maxHeartbeats 1000000 in
theorem push_yes (c g1 g2 g3 : Nat) (x : Ch) (i v : Nat) (e : Ends) (w : World) (h : Is w c g1 g2 g3 x) (hi : x.lists[i]? = some e) (hv : v < x.next.length) (hw : x.where_[v]? = some (-1)) (hm : 0 ≤ e.many ∧ e.many ≤ 4096)
    (hl : e.many ≠ 0 → ∃ u : Nat, e.last = (u : Int) ∧ u < x.next.length ∧ u ≠ v) :
    Calls Try.prog 8 #[.pointer (some ⟨c, 0, none⟩), .int .i64 (i : Int), .int .i64 (v : Int)] w fun e' w' => e' = .returned (.bool true) ∧ Is w' c g1 g2 g3 (push x i v e) ∧ Kept (Of3 g1 g2 g3) w w' := by
  obtain ⟨c1, c2, c3, p0, p1, p2⟩ := h.cells
  obtain ⟨lt0, lt1, lt2, lt3⟩ := h.lt
  obtain ⟨n1, n2, n3, n4, n5, n6⟩ := h.ne
  obtain ⟨fr1, fr2, fr3⟩ := h.frozen
  obtain ⟨e0, e1, e2⟩ := h.ends hi
  have hwc := h.where__ hw
  obtain ⟨nv, hnv⟩ : ∃ nv, x.next[v]? = some nv := ⟨x.next[v]'hv, by simp⟩
  have hnc := h.next_ hnv
  have hil := (List.getElem?_eq_some_iff.1 hi).1
  have hvl := (List.getElem?_eq_some_iff.1 hw).1
  have C := Lib.hid (is_yes c g1 g2 g3 x i w h hil)
  have t1 : decide ((v : Int) < 0) = false := by simp
  have t2 : decide ((x.next.length : Int) ≤ (v : Int)) = false := by simp; omega
  have i0 : (0 : Int) ≤ (i : Int) := by omega
  have i1 : (i : Int) < (x.lists.length : Int) := by omega
  have v0 : (0 : Int) ≤ (v : Int) := by omega
  have v1 : (v : Int) < (x.next.length : Int) := by omega
  have v2 : (v : Int) < (x.where_.length : Int) := by omega
  obtain ⟨m0, m1⟩ := hm
  have H := Lib.hid h
  have HI := Lib.hid hi
  have HW := Lib.hid hw
  have HN := Lib.hid hnv
  clear h hi hw hnv
  by_cases hz : e.many = 0
  · have t3 : (e.many == 0) = true := by simpa using hz
    have HZ := Lib.hid hz
    clear hl hz
    go_enter Try.func8, Try.ntmps8
    go_wp2_with fail
    refine C.out.mono ?_
    rintro e' w1 ⟨rfl, rfl⟩
    go_wp2_with fail
    go_ret
    refine ⟨rfl, ?_, ?_⟩
    · have s1 := H.out.setEnds (u := .int .i64 (v : Int)) (e' := { e with first := (v : Int) }) HI.out (j := 0) (by decide) rfl
      have s2 := s1.setEnds (u := .int .i64 (v : Int)) (e' := { e with first := (v : Int), last := (v : Int) }) (List.getElem?_set_self hil) (j := 1) (by decide) rfl
      have s3 := s2.setEnds (u := .int .i64 (e.many + 1)) (e' := { first := (v : Int), last := (v : Int), many := e.many + 1 }) (List.getElem?_set_self (by simpa using hil)) (j := 2) (by decide) rfl
      have s4 := (s3.setNext (u := -1) HN.out).setWhere (u := (i : Int)) HW.out
      simp only [List.set_set, Nat.add_zero] at s4
      unfold push
      rw [if_pos HZ.out, if_pos HZ.out]
      exact s4
    · exact (((((Kept.refl _ _).setCell (.inl (.inr (.inr rfl))) _).setCell (.inl (.inr (.inr rfl))) _).setCell (.inl (.inr (.inr rfl))) _).setCell (.inl (.inl rfl)) _).setCell (.inl (.inr (.inl rfl))) _
  · have t3 : (e.many == 0) = false := by simpa using hz
    obtain ⟨u, hu, hul, huv⟩ := hl hz
    obtain ⟨ef, el, em⟩ := e
    simp only at hu
    subst hu
    obtain ⟨nu, hnu⟩ : ∃ nu, x.next[u]? = some nu := ⟨x.next[u]'hul, by simp⟩
    have hnuc := H.out.next_ hnu
    have u0 : (0 : Int) ≤ (u : Int) := by omega
    have u1 : (u : Int) < (x.next.length : Int) := by omega
    have HNU := Lib.hid hnu
    have HZ := Lib.hid hz
    clear hl hz hnu
    go_enter Try.func8, Try.ntmps8
    go_wp2_with fail
    refine C.out.mono ?_
    rintro e' w1 ⟨rfl, rfl⟩
    go_wp2_with fail
    go_region
    all_goals go_wp2_with fail
    go_ret
    refine ⟨rfl, ?_, ?_⟩
    · have s0 := H.out.setNext (u := (v : Int)) HNU.out
      have s1 := s0.setEnds (u := .int .i64 (v : Int)) (e' := { first := ef, last := (v : Int), many := em }) HI.out (j := 1) (by decide) rfl
      have s2 := s1.setEnds (u := .int .i64 (em + 1)) (e' := { first := ef, last := (v : Int), many := em + 1 }) (List.getElem?_set_self hil) (j := 2) (by decide) rfl
      have s4 := ((s2.setNext (k := v) (v := nv) (u := -1) (by rw [List.getElem?_set_ne huv]; exact HN.out)).setWhere (u := (i : Int)) HW.out).drew
      simp only [List.set_set] at s4
      unfold push
      simp only [if_neg HZ.out, Int.toNat_natCast]
      exact s4
    · exact ((((((Kept.refl _ _).setCell (.inl (.inl rfl)) _).setCell (.inl (.inr (.inr rfl))) _).setCell (.inl (.inr (.inr rfl))) _).setCell (.inl (.inl rfl)) _).setCell (.inl (.inr (.inl rfl))) _).drew

theorem push_no (c g1 g2 g3 : Nat) (x : Ch) (i v : Int) (w : World) (h : Is w c g1 g2 g3 x) (hb : i < 0 ∨ (x.lists.length : Int) ≤ i ∨ v < 0 ∨ (x.next.length : Int) ≤ v ∨ (∃ (k : Nat) (u : Int), v = k ∧ x.where_[k]? = some u ∧ u ≠ -1)) (hlen : x.where_.length = x.next.length) :
    Calls Try.prog 8 #[.pointer (some ⟨c, 0, none⟩), .int .i64 i, .int .i64 v] w fun e' w' => e' = .returned (.bool false) ∧ w = w' := by
  obtain ⟨c1, c2, c3, p0, p1, p2⟩ := h.cells
  obtain ⟨lt0, lt1, lt2, lt3⟩ := h.lt
  by_cases hi : i < 0 ∨ (x.lists.length : Int) ≤ i
  · have C := Lib.hid (is_no c g1 g2 g3 x i w h hi)
    clear hb hi h hlen
    go_enter Try.func8, Try.ntmps8
    go_wp2_with fail
    refine C.out.mono ?_
    rintro e' w1 ⟨rfl, rfl⟩
    go_wp2_with fail
    go_ret
    exact ⟨rfl, rfl⟩
  obtain ⟨j, rfl⟩ := Int.eq_ofNat_of_zero_le (by omega : 0 ≤ i)
  have C := Lib.hid (is_yes c g1 g2 g3 x j w h (by omega))
  by_cases hv : v < 0
  · have t1 : decide (v < 0) = true := by simpa using hv
    clear hb hi h hlen hv
    go_enter Try.func8, Try.ntmps8
    go_wp2_with fail
    refine C.out.mono ?_
    rintro e' w1 ⟨rfl, rfl⟩
    go_wp2_with fail
    go_ret
    exact ⟨rfl, rfl⟩
  have t1 : decide (v < 0) = false := by simpa using hv
  by_cases hv2 : (x.next.length : Int) ≤ v
  · have t2 : decide ((x.next.length : Int) ≤ v) = true := by simpa using hv2
    clear hb hi h hlen hv hv2
    go_enter Try.func8, Try.ntmps8
    go_wp2_with fail
    refine C.out.mono ?_
    rintro e' w1 ⟨rfl, rfl⟩
    go_wp2_with fail
    go_ret
    exact ⟨rfl, rfl⟩
  obtain ⟨k, u, rfl, hku, hu1⟩ : ∃ (k : Nat) (u : Int), v = k ∧ x.where_[k]? = some u ∧ u ≠ -1 := by
    rcases hb with hb | hb | hb | hb | hb
    · omega
    · omega
    · omega
    · omega
    · exact hb
  have t1 : decide ((k : Int) < 0) = false := by simp
  have t2 : decide (x.next.length ≤ k) = false := by simp; omega
  have t3 : (u != -1) = true := by simpa using hu1
  have k0 : (0 : Int) ≤ (k : Int) := by omega
  have k1 : (k : Int) < (x.where_.length : Int) := by have := (List.getElem?_eq_some_iff.1 hku).1; omega
  have hc := h.where__ hku
  clear hb hi h hlen hv hv2 hu1 hku
  go_enter Try.func8, Try.ntmps8
  go_wp2_with fail
  refine C.out.mono ?_
  rintro e' w1 ⟨rfl, rfl⟩
  go_wp2_with fail
  go_ret
  exact ⟨rfl, rfl⟩

theorem push_nil (i v : Int) (w : World) : Calls Try.prog 8 #[.pointer none, .int .i64 i, .int .i64 v] w fun e' w' => e' = .returned (.bool false) ∧ w = w' := by
  go_enter Try.func8, Try.ntmps8
  go_wp2_with fail
  refine (is_nil _ _).mono ?_
  rintro e' w1 ⟨rfl, rfl⟩
  go_wp2_with fail
  go_ret
  exact ⟨rfl, rfl⟩

def noneR : Value := .tuple #[.int .i64 0, .bool false]
theorem first_nil (i : Int) (w : World) : Calls Try.prog 9 #[.pointer none, .int .i64 i] w fun e' w' => e' = .returned (.tuple #[.int .i64 0, .bool false]) ∧ w = w' := by
  go_enter Try.func9, Try.ntmps9
  go_wp2_with fail
  refine (is_nil _ _).mono ?_
  rintro e' w1 ⟨rfl, rfl⟩
  go_wp2_with fail
  go_ret2
  exact ⟨rfl, rfl⟩
theorem first_yes (c g1 g2 g3 : Nat) (x : Ch) (i : Nat) (e : Ends) (w : World) (h : Is w c g1 g2 g3 x) (hi : x.lists[i]? = some e) (hm : e.many ≠ 0) :
    Calls Try.prog 9 #[.pointer (some ⟨c, 0, none⟩), .int .i64 (i : Int)] w fun e' w' => e' = .returned (.tuple #[.int .i64 e.first, .bool true]) ∧ w = w' := by
  obtain ⟨c1, c2, c3, p0, p1, p2⟩ := h.cells
  obtain ⟨lt0, lt1, lt2, lt3⟩ := h.lt
  obtain ⟨e0, e1, e2⟩ := h.ends hi
  have hil := (List.getElem?_eq_some_iff.1 hi).1
  have C := Lib.hid (is_yes c g1 g2 g3 x i w h hil)
  have i0 : (0 : Int) ≤ (i : Int) := by omega
  have i1 : (i : Int) < (x.lists.length : Int) := by omega
  have t1 : (e.many == 0) = false := by simpa using hm
  clear h hi hm
  go_enter Try.func9, Try.ntmps9
  go_wp2_with fail
  refine C.out.mono ?_
  rintro e' w1 ⟨rfl, rfl⟩
  go_wp2_with fail
  go_ret2
  exact ⟨rfl, rfl⟩
theorem first_no (c g1 g2 g3 : Nat) (x : Ch) (i : Int) (w : World) (h : Is w c g1 g2 g3 x) (hb : i < 0 ∨ (x.lists.length : Int) ≤ i ∨ ∃ (k : Nat) (e : Ends), i = k ∧ x.lists[k]? = some e ∧ e.many = 0) :
    Calls Try.prog 9 #[.pointer (some ⟨c, 0, none⟩), .int .i64 i] w fun e' w' => e' = .returned (.tuple #[.int .i64 0, .bool false]) ∧ w = w' := by
  obtain ⟨c1, c2, c3, p0, p1, p2⟩ := h.cells
  obtain ⟨lt0, lt1, lt2, lt3⟩ := h.lt
  by_cases hi : i < 0 ∨ (x.lists.length : Int) ≤ i
  · have C := Lib.hid (is_no c g1 g2 g3 x i w h hi)
    clear hb hi h
    go_enter Try.func9, Try.ntmps9
    go_wp2_with fail
    refine C.out.mono ?_
    rintro e' w1 ⟨rfl, rfl⟩
    go_wp2_with fail
    go_ret2
    exact ⟨rfl, rfl⟩
  obtain ⟨k, e, rfl, hk, hm⟩ : ∃ (k : Nat) (e : Ends), i = k ∧ x.lists[k]? = some e ∧ e.many = 0 := by
    rcases hb with hb | hb | hb
    · omega
    · omega
    · exact hb
  have C := Lib.hid (is_yes c g1 g2 g3 x k w h (by omega))
  obtain ⟨e0, e1, e2⟩ := h.ends hk
  have i0 : (0 : Int) ≤ (k : Int) := by omega
  have i1 : (k : Int) < (x.lists.length : Int) := by omega
  have t1 : (e.many == 0) = true := by simpa using hm
  clear h hb hi hk hm
  go_enter Try.func9, Try.ntmps9
  go_wp2_with fail
  refine C.out.mono ?_
  rintro e' w1 ⟨rfl, rfl⟩
  go_wp2_with fail
  go_ret2
  exact ⟨rfl, rfl⟩

theorem len_nil (i : Int) (w : World) : Calls Try.prog 17 #[.pointer none, .int .i64 i] w fun e' w' => e' = .returned (.int .i64 0) ∧ w = w' := by
  go_enter Try.func17, Try.ntmps17
  go_wp2_with fail
  refine (is_nil _ _).mono ?_
  rintro e' w1 ⟨rfl, rfl⟩
  go_wp2_with fail
  go_ret
  exact ⟨rfl, rfl⟩
theorem len_no (c g1 g2 g3 : Nat) (x : Ch) (i : Int) (w : World) (h : Is w c g1 g2 g3 x) (hi : i < 0 ∨ (x.lists.length : Int) ≤ i) :
    Calls Try.prog 17 #[.pointer (some ⟨c, 0, none⟩), .int .i64 i] w fun e' w' => e' = .returned (.int .i64 0) ∧ w = w' := by
  have C := Lib.hid (is_no c g1 g2 g3 x i w h hi)
  clear hi h
  go_enter Try.func17, Try.ntmps17
  go_wp2_with fail
  refine C.out.mono ?_
  rintro e' w1 ⟨rfl, rfl⟩
  go_wp2_with fail
  go_ret
  exact ⟨rfl, rfl⟩
theorem len_yes (c g1 g2 g3 : Nat) (x : Ch) (i : Nat) (e : Ends) (w : World) (h : Is w c g1 g2 g3 x) (hi : x.lists[i]? = some e) :
    Calls Try.prog 17 #[.pointer (some ⟨c, 0, none⟩), .int .i64 (i : Int)] w fun e' w' => e' = .returned (.int .i64 e.many) ∧ w = w' := by
  obtain ⟨c1, c2, c3, p0, p1, p2⟩ := h.cells
  obtain ⟨lt0, lt1, lt2, lt3⟩ := h.lt
  obtain ⟨e0, e1, e2⟩ := h.ends hi
  have hil := (List.getElem?_eq_some_iff.1 hi).1
  have C := Lib.hid (is_yes c g1 g2 g3 x i w h hil)
  have i0 : (0 : Int) ≤ (i : Int) := by omega
  have i1 : (i : Int) < (x.lists.length : Int) := by omega
  clear h hi
  go_enter Try.func17, Try.ntmps17
  go_wp2_with fail
  refine C.out.mono ?_
  rintro e' w1 ⟨rfl, rfl⟩
  go_wp2_with fail
  go_ret
  exact ⟨rfl, rfl⟩

theorem where_nil (i : Int) (w : World) : Calls Try.prog 15 #[.pointer none, .int .i64 i] w fun e' w' => e' = .returned (.tuple #[.int .i64 0, .bool false]) ∧ w = w' := by
  go_enter Try.func15, Try.ntmps15
  go_wp2_with fail
  go_ret2
  exact ⟨rfl, rfl⟩
theorem where_yes (c g1 g2 g3 : Nat) (x : Ch) (k : Nat) (u : Int) (w : World) (h : Is w c g1 g2 g3 x) (hk : x.where_[k]? = some u) (hu : u ≠ -1) :
    Calls Try.prog 15 #[.pointer (some ⟨c, 0, none⟩), .int .i64 (k : Int)] w fun e' w' => e' = .returned (.tuple #[.int .i64 u, .bool true]) ∧ w = w' := by
  obtain ⟨c1, c2, c3, p0, p1, p2⟩ := h.cells
  obtain ⟨lt0, lt1, lt2, lt3⟩ := h.lt
  have hc := h.where__ hk
  have hkl := (List.getElem?_eq_some_iff.1 hk).1
  have t1 : decide ((k : Int) < 0) = false := by simp
  have t2 : decide (x.where_.length ≤ k) = false := by simp; omega
  have t3 : (u == -1) = false := by simpa using hu
  have k0 : (0 : Int) ≤ (k : Int) := by omega
  have k1 : (k : Int) < (x.where_.length : Int) := by omega
  clear h hk hu
  go_enter Try.func15, Try.ntmps15
  go_wp2_with fail
  go_ret2
  exact ⟨rfl, rfl⟩
theorem where_no (c g1 g2 g3 : Nat) (x : Ch) (i : Int) (w : World) (h : Is w c g1 g2 g3 x) (hb : i < 0 ∨ (x.where_.length : Int) ≤ i ∨ ∃ k : Nat, i = k ∧ x.where_[k]? = some (-1)) :
    Calls Try.prog 15 #[.pointer (some ⟨c, 0, none⟩), .int .i64 i] w fun e' w' => e' = .returned (.tuple #[.int .i64 0, .bool false]) ∧ w = w' := by
  obtain ⟨c1, c2, c3, p0, p1, p2⟩ := h.cells
  obtain ⟨lt0, lt1, lt2, lt3⟩ := h.lt
  by_cases h0 : i < 0
  · have t1 : decide (i < 0) = true := by simpa using h0
    clear hb h h0
    go_enter Try.func15, Try.ntmps15
    go_wp2_with fail
    go_ret2
    exact ⟨rfl, rfl⟩
  have t1 : decide (i < 0) = false := by simpa using h0
  by_cases h1 : (x.where_.length : Int) ≤ i
  · have t2 : decide ((x.where_.length : Int) ≤ i) = true := by simpa using h1
    clear hb h h0 h1
    go_enter Try.func15, Try.ntmps15
    go_wp2_with fail
    go_ret2
    exact ⟨rfl, rfl⟩
  obtain ⟨k, rfl, hk⟩ : ∃ k : Nat, i = k ∧ x.where_[k]? = some (-1) := by
    rcases hb with hb | hb | hb
    · omega
    · omega
    · exact hb
  have hc := h.where__ hk
  have hkl := (List.getElem?_eq_some_iff.1 hk).1
  have t2 : decide (x.where_.length ≤ k) = false := by simp; omega
  have k0 : (0 : Int) ≤ (k : Int) := by omega
  have k1 : (k : Int) < (x.where_.length : Int) := by omega
  clear h hk hb h0 h1
  go_enter Try.func15, Try.ntmps15
  go_wp2_with fail
  go_ret2
  exact ⟨rfl, rfl⟩
end Go.Proofs.Ytjblhgljajjdgaa.Chain
