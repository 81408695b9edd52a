/- The law's own functions over the lists: contracts of all, of its callback, of ChainOrders' callback, of SameInts. -/
import Derived.Test.YtjblhgljajjdgaaChainD
namespace Go.Proofs.Ytjblhgljajjdgaa.Chain
open Go.RowKit

def Cb (W : World) (ob base : Nat) (v : Value) (l : List Int) (e : Ending) (W' : World) : Prop :=
  e = .returned (.bool true) ∧ ∃ v', Blk W' ob 40 #[v'] ∧ Own W' base 3 1 eInt v' l ∧ Kept (fun i => i = ob ∨ v.ownBlock = some i) W W'

theorem own_ne {α : Type} {W : World} {base t size : Nat} {enc : α → List Value} {v : Value} {l : List α} (h : Own W base t size enc v l) {b t' : Nat} {cs : Array Value} (hb : Blk W b t' cs) (hne : t' ≠ t) : v.ownBlock ≠ some b := by
  obtain ⟨_, h2⟩ := h
  rcases h2 with ⟨rfl, _⟩ | ⟨q, cap, cur, rfl, _, hh, _⟩
  · simp [Value.ownBlock]
  · intro e
    simp [Value.ownBlock] at e
    subst e
    exact Blk.ne_ hb (cs' := cur) hh hne rfl
theorem cb_mk {W w1 : World} {ob base : Nat} {v v1 : Value} {l : List Int} {o : Obj} (hb : Blk W ob 40 #[v]) (hB1 : Blk w1 ob 40 #[v]) (hown : Own w1 base 3 1 eInt v1 l) (hgrow : (W.alloc o).grownBy w1 v.ownBlock) :
    Cb W ob base v l (.returned (.bool true)) (w1.setCell ⟨ob, 0, none⟩ v1) := by
  refine ⟨rfl, v1, by simpa using hB1.set_ 0 v1, hown.far (p := ⟨ob, 0, none⟩) hB1 (by decide) _, ?_⟩
  have K1 : Kept (fun i => i = ob ∨ v.ownBlock = some i) W w1 := ((Kept.refl none_ W).alloc o).mono (fun _ _ h => h.elim) |>.trans' (Kept.grown (F := fun i => v.ownBlock = some i) hgrow (fun q hq => .inl hq)) (fun i h => .inl (.inr h))
  exact K1.setCell (.inl (.inl rfl)) _

set_option maxHeartbeats 1000000 in
theorem cb26 (ob base : Nat) (k : Int) (pre : List Int) (v : Value) (W : World) (hb : Blk W ob 40 #[v]) (ho : Own W base 3 1 eInt v pre) (hbase : base ≤ W.heap.size) (hlen : pre.length < 9998) :
    Calls Try.prog 26 #[.int .i64 k, .pointer (some ⟨ob, 0, none⟩)] W (Cb W ob base v (pre ++ [k])) := by
  obtain ⟨i0, hi0, hz0, hz1, hz2⟩ := info_parts info3
  obtain ⟨A, n, c, rfl⟩ := ho.form'
  have q0 := hb.cell 0
  simp at q0
  have lb := hb.lt
  have fr := hb.frozen
  have HB := Lib.hid hb
  have HO := Lib.hid ho
  clear hb ho
  go_enter Try.func26, Try.ntmps26
  go_wp2_with (at_builtin; refine wpList_append_one _ rfl (.tmp 4) (.tmp 6) 40 rfl base 3 i0 (.int .i64 0) 1 8 Try.underlying40 hi0 hz0 hz1 hz2 rfl (by decide) (.slice A n c) pre rfl (HO.out.alloc _) W.heap.size k rfl rfl (new_cell_int _ _ _) (eInt_one _) (by omega) (by unfold maxLen; omega) (by simp; omega) ?_; intro v1 w1 hown hgrow hat; have hB1 := (HB.out.alloc (.cells #[.int .i64 k] 3)).kept (Kept.grown (F := fun i => Value.ownBlock (.slice A n c) = some i) hgrow (fun q hq => .inl hq)) (own_ne HO.out HB.out (by decide)); have HF := Lib.hid (cb_mk HB.out hB1 hown hgrow); obtain ⟨A1, n1, c1, rfl⟩ := hown.form'; have hn1 := (hown.sl eInt_len).len.1; have q0 := hB1.cell 0; have lb := hB1.lt; have fr := hB1.frozen; simp at q0; rw [List.length_append, List.length_singleton] at hn1; have t1 : decide ((n1 : Int) < 9999) = true := (by simp; omega); clear hown hgrow hat hB1 hn1)
  go_ret
  exact HF.out

theorem eqIn_func (d : Nat) (f : Fn) (a b : Array Value) (w : World) : (Op.equalIn (d + 1) 47 (.func f a b) .nilFunc).run Try.prog w = .ok false w := by
  simp [Op.equalIn, run_underlying Try.underlying47]
theorem eql_func (f : Fn) (a b : Array Value) (w : World) : (binOp .eql 47 (.func f a b) .nilFunc).run Try.prog w = .ok (.bool false) w := by
  simp only [binOp]
  simp [show Op.equal 47 (.func f a b) .nilFunc = Op.equalIn (9999 + 1) 47 (.func f a b) .nilFunc from rfl, eqIn_func 9999 f a b w]

def AllP (w : World) (l : List Int) (e : Ending) (w' : World) : Prop := ∃ v, e = .returned v ∧ Sl w' 3 1 eInt v l ∧ Below w.heap.size w w'

/-- The function that All gives, where there is no such list. -/
theorem all1_no (p : Option Addr) (fv : Value) (b1 b2 : Nat) (i : Int) (W : World) (h1 : Blk W b1 23 #[.pointer p]) (h2 : Blk W b2 3 #[.int .i64 i])
    (hC : Calls Try.prog 25 #[.pointer p, .int .i64 i] W fun e w' => e = .returned (.bool false) ∧ W = w') :
    Calls Try.prog 27 #[fv, .pointer (some ⟨b1, 0, none⟩), .pointer (some ⟨b2, 0, none⟩)] W fun e w' => (∃ v, e = .returned v) ∧ W = w' := by
  have q1 := h1.cell 0
  have q2 := h2.cell 0
  simp at q1 q2
  have C := Lib.hid hC
  clear h1 h2 hC
  go_enter Try.func27, Try.ntmps27
  go_wp2_with fail
  refine C.out.mono ?_
  rintro e' w1 ⟨rfl, rfl⟩
  go_wp2_with fail
  refine bodyPost_ret (results_none rfl _ _ _) rfl ?_
  exact ⟨⟨_, rfl⟩, rfl⟩

set_option maxHeartbeats 1000000 in
theorem all_no (p : Option Addr) (i : Int) (w : World) (hC : ∀ W, Kept none_ w W → Calls Try.prog 25 #[.pointer p, .int .i64 i] W fun e w' => e = .returned (.bool false) ∧ W = w') :
    Calls Try.prog 20 #[.pointer p, .int .i64 i] w (AllP w []) := by
  have C := Lib.hid hC
  clear hC
  have hq := eql_func
  go_enter Try.func20, Try.ntmps20
  go_wp2_with fail
  refine (all_any p i _).mono ?_
  rintro e' w1 ⟨rfl, rfl⟩
  go_wp2_with fail
  refine (all1_no p _ (w.heap.size + 1) (w.heap.size + 1 + 1) i _ ?_ ?_ (C.out _ ((((Kept.refl _ _).alloc _).alloc _).alloc _))).mono ?_
  · have := (Blk.new (w.alloc (.cells #[.slice none 0 0] 40)) 23 #[.pointer p]).alloc (.cells #[.int .i64 i] 3)
    simpa using this
  · have := Blk.new ((w.alloc (.cells #[.slice none 0 0] 40)).alloc (.cells #[.pointer p] 23)) 3 #[.int .i64 i]
    simpa using this
  rintro e' w2 ⟨⟨v, rfl⟩, rfl⟩
  go_wp2_with fail
  go_ret
  exact ⟨_, rfl, Sl.nil 0 (Nat.zero_le _) none, (((Below.refl _ _).alloc (Nat.le_refl _) _).alloc (by simp) _).alloc (by simp; omega) _⟩

/-- What holds while all's callback is called. -/
def AllJ (w : World) (c g1 g2 g3 : Nat) (x : Ch) (i : Int) (pre : List Int) (W : World) : Prop :=
  Rd_ W c g1 g2 g3 (w.heap.size + 1) (w.heap.size + 1 + 1) x i ∧ (∃ v, Blk W w.heap.size 40 #[v] ∧ Own W (w.heap.size + 1 + 1 + 1) 3 1 eInt v pre) ∧ Below w.heap.size w W ∧ w.heap.size + 1 + 1 + 1 ≤ W.heap.size

theorem rd_kept {W W' : World} {c g1 g2 g3 b1 b2 : Nat} {x : Ch} {i : Int} {F : Nat → Prop} (h : Rd_ W c g1 g2 g3 b1 b2 x i) (hk : Kept F W W') (h0 : ¬ F c) (h1 : ¬ F g1) (h2 : ¬ F g2) (h3 : ¬ F g3) (h4 : ¬ F b1) (h5 : ¬ F b2) : Rd_ W' c g1 g2 g3 b1 b2 x i :=
  ⟨h.ch.kept hk h0 h1 h2 h3, h.p.kept hk h4, h.i.kept hk h5⟩

set_option maxHeartbeats 1000000 in
theorem all_yes (c g1 g2 g3 : Nat) (x : Ch) (i : Nat) (e : Ends) (l : List Int) (w : World) (h : Is w c g1 g2 g3 x) (hi : x.lists[i]? = some e) (hl : Links x.next e.first l) (hn : l.length ≤ 4096) :
    Calls Try.prog 20 #[.pointer (some ⟨c, 0, none⟩), .int .i64 (i : Int)] w (AllP w l) := by
  obtain ⟨l0, l1, l2, l3⟩ := h.lt
  have hj0 : AllJ w c g1 g2 g3 x i [] (((w.alloc (.cells #[.slice none 0 0] 40)).alloc (.cells #[.pointer (some ⟨c, 0, none⟩)] 23)).alloc (.cells #[.int .i64 i] 3)) := by
    refine ⟨⟨h.ext ((((Kept.refl _ _).alloc _).alloc _).alloc _), ?_, ?_⟩, ⟨.slice none 0 0, ((Blk.new w 40 _).alloc _).alloc _, Own.nil _ _⟩, (((Below.refl _ _).alloc (Nat.le_refl _) _).alloc (by simp) _).alloc (by simp; omega) _, by simp⟩
    · have := (Blk.new (w.alloc (.cells #[.slice none 0 0] 40)) 23 #[.pointer (some ⟨c, 0, none⟩)]).alloc (.cells #[.int .i64 i] 3)
      simpa using this
    · have := Blk.new ((w.alloc (.cells #[.slice none 0 0] 40)).alloc (.cells #[.pointer (some ⟨c, 0, none⟩)] 23)) 3 #[.int .i64 i]
      simpa using this
  have C := Lib.hid (all1_26 c g1 g2 g3 (w.heap.size + 1) (w.heap.size + 1 + 1) w.heap.size x i e l (AllJ w c g1 g2 g3 x i) (fun _ _ => False) _ (fun pre W hj => hj.1)
    (fun pre W n hj => ⟨⟨hj.1.ch.ext ((Kept.refl _ _).drewN n), hj.1.p, hj.1.i⟩, hj.2.1, below_drewN hj.2.2.1 n, hj.2.2.2⟩) hi hl
    (fun pre k W hj hlen => by
      obtain ⟨hr, ⟨v, hb, ho⟩, hbl, hsz⟩ := hj
      refine (cb26 w.heap.size (w.heap.size + 1 + 1 + 1) k pre v W hb ho hsz (by omega)).mono ?_
      rintro e' W' ⟨he, v', hb', ho', hk⟩
      have far : ∀ j, j < w.heap.size + 1 + 1 + 1 → j ≠ w.heap.size → ¬ (j = w.heap.size ∨ v.ownBlock = some j) := fun j hj hne hf => by
        rcases hf with hf | hf
        · exact hne hf
        · have := (ho.lt j hf).1; omega
      refine .inl ⟨he, rd_kept hr hk (far _ (by omega) (by omega)) (far _ (by omega) (by omega)) (far _ (by omega) (by omega)) (far _ (by omega) (by omega)) (far _ (by omega) (by omega)) (far _ (by omega) (by omega)), ⟨v', hb', ho'⟩, ?_, Nat.le_trans hsz hk.size⟩
      exact hbl.trans (hk.toBelow (fun j hj => by rcases hj with hj | hj; exact Nat.le_of_eq hj.symm; have := (ho.lt j hj).1; omega) hbl.size)) hj0)
  clear hj0 h hi hl hn
  have hq := eql_func
  go_enter Try.func20, Try.ntmps20
  go_wp2_with fail
  refine (all_any _ _ _).mono ?_
  rintro e' w1 ⟨rfl, rfl⟩
  go_wp2_with fail
  refine C.out.mono ?_
  rintro e' w2 ⟨⟨v0, rfl⟩, (⟨hr, ⟨v, hb, ho⟩, hbl, hsz⟩ | ⟨_, _, hf⟩)⟩
  · have q0 := hb.cell 0
    simp at q0
    have lb := hb.lt
    have HO := Lib.hid ho
    have HB := Lib.hid hbl
    obtain ⟨A, n, cc, rfl⟩ := ho.form'
    clear hr hb ho hbl C
    go_wp2_with fail
    go_ret
    exact ⟨_, rfl, HO.out.sl eInt_len, HB.out⟩
  · exact hf.elim

/-- ChainOrders' callback: it counts, and goes on up to most. -/
def Cb22 (W : World) (sb : Nat) (s m : Int) (e : Ending) (W' : World) : Prop := e = .returned (.bool (s + 1 != m)) ∧ Blk W' sb 3 #[.int .i64 (s + 1)] ∧ Kept (fun i => i = sb) W W'
theorem cb22 (sb mb : Nat) (k s m : Int) (W : World) (h1 : Blk W sb 3 #[.int .i64 s]) (h2 : Blk W mb 3 #[.int .i64 m]) (hne : sb ≠ mb) (hs : 0 ≤ s ∧ s ≤ 10000) :
    Calls Try.prog 22 #[.int .i64 k, .pointer (some ⟨sb, 0, none⟩), .pointer (some ⟨mb, 0, none⟩)] W (Cb22 W sb s m) := by
  have q1 := h1.cell 0
  have q2 := h2.cell 0
  simp at q1 q2
  have l1 := h1.lt
  have l2 := h2.lt
  have f1 := h1.frozen
  obtain ⟨s0, s1⟩ := hs
  have H1 := Lib.hid h1
  clear h1 h2
  go_enter Try.func22, Try.ntmps22
  go_wp2_with fail
  go_ret
  exact ⟨rfl, by simpa using H1.out.set_ 0 (.int .i64 (s + 1)), Kept.setCell (F := fun i => i = sb) (Kept.refl _ _) (.inl rfl) _⟩

/-- Two slices that hold the same. -/
theorem same_yes (v v' : Value) (l : List Int) (w : World) (h : Sl w 3 1 eInt v l) (h' : Sl w 3 1 eInt v' l) : Calls Try.prog 19 #[v, v'] w fun e w' => e = .returned (.bool true) ∧ Below w.heap.size w w' := by
  obtain ⟨A, c, rfl, hc1, hc2⟩ := h.form
  obtain ⟨A', c', rfl, hc1', hc2'⟩ := h'.form
  unfold maxLen at hc2 hc2'
  have t1 : ((l.length : Int) != (l.length : Int)) = false := by simp
  have H := Lib.hid h
  have H' := Lib.hid h'
  clear h h'
  go_enter Try.func19, Try.ntmps19
  go_wp2_with fail
  go_loopw [5] (fun i wr => ∃ k : Nat, k ≤ l.length ∧ i = .int .i64 k ∧ Below w.heap.size w wr) (fun i _ => l.length - (intOf i).toNat)
  case atStart => exact ⟨0, by omega, rfl, Below.refl _ _⟩
  case round =>
    obtain ⟨k, hk, rfl, hb⟩ := hrel
    have HB := Lib.hid hb
    by_cases hlt : k < l.length
    · obtain ⟨x, hx⟩ : ∃ x, l[k]? = some x := ⟨l[k]'hlt, by simp⟩
      obtain ⟨b1, o1, rfl, lb1, q1⟩ := (H.out.below hb).at1 hx rfl
      obtain ⟨b2, o2, rfl, lb2, q2⟩ := (H'.out.below hb).at1 hx rfl
      have k0 : (0 : Int) ≤ (k : Int) := by omega
      have k1 : (k : Int) < (l.length : Int) := by omega
      have t2 : (x != x) = false := by simp
      clear hx hb
      go_wp2_with fail
      go_quiet (fail)
      go_wp2_with fail
      go_roundw
      case rel => exact ⟨k + 1, by omega, by go_num, below_drewN HB.out _⟩
      case measure => simp [intOf]; omega
    · obtain rfl : k = l.length := by omega
      clear hb
      go_wp2_with fail
      go_ret
      exact ⟨rfl, HB.out⟩
end Go.Proofs.Ytjblhgljajjdgaa.Chain
