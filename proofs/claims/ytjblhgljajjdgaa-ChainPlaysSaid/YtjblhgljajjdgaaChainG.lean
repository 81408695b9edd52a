/- The lists: contracts of Join. -/
import Derived.Test.YtjblhgljajjdgaaChainF
namespace Go.Proofs.Ytjblhgljajjdgaa.Chain
open Go.RowKit Go.Shelf
attribute [local go_sem] Oper.semAt_some

theorem join_nil (i j : Int) (w : World) : Calls Try.prog 13 #[.pointer none, .int .i64 i, .int .i64 j] w fun e' w' => e' = .returned (.bool false) ∧ Below w.heap.size w w' := by
  go_enter Try.func13, Try.ntmps13
  go_wp2_with fail
  refine (is_nil _ _).mono ?_
  rintro e' w1 ⟨rfl, rfl⟩
  go_wp2_with fail
  go_ret
  exact ⟨rfl, ((Below.refl _ _).alloc (Nat.le_refl _) _).alloc (by simp) _⟩

set_option maxHeartbeats 1000000 in
theorem join_no (c g1 g2 g3 : Nat) (x : Ch) (i j : Int) (w : World) (h : Is w c g1 g2 g3 x) (hb : i < 0 ∨ (x.lists.length : Int) ≤ i ∨ j < 0 ∨ (x.lists.length : Int) ≤ j ∨ i = j) :
    Calls Try.prog 13 #[.pointer (some ⟨c, 0, none⟩), .int .i64 i, .int .i64 j] w fun e' w' => e' = .returned (.bool false) ∧ Below w.heap.size w w' := by
  have K : Kept none_ w ((w.alloc (.cells #[.pointer (some ⟨c, 0, none⟩)] 23)).alloc (.cells #[.int .i64 i] 3)) := ((Kept.refl _ _).alloc _).alloc _
  have hB : Below w.heap.size w ((w.alloc (.cells #[.pointer (some ⟨c, 0, none⟩)] 23)).alloc (.cells #[.int .i64 i] 3)) := K.toBelow'
  by_cases hi : i < 0 ∨ (x.lists.length : Int) ≤ i
  · have C := Lib.hid (is_no c g1 g2 g3 x i _ (h.ext K) hi)
    clear hb hi h K
    go_enter Try.func13, Try.ntmps13
    go_wp2_with fail
    refine C.out.mono ?_
    rintro e' w1 ⟨rfl, rfl⟩
    go_wp2_with fail
    go_ret
    exact ⟨rfl, hB⟩
  obtain ⟨i, rfl⟩ := Int.eq_ofNat_of_zero_le (by omega : 0 ≤ i)
  have C := Lib.hid (is_yes c g1 g2 g3 x i _ (h.ext K) (by omega))
  by_cases hj : j < 0 ∨ (x.lists.length : Int) ≤ j
  · have C' := Lib.hid (is_no c g1 g2 g3 x j _ (h.ext K) hj)
    clear hb hi h K hj
    go_enter Try.func13, Try.ntmps13
    go_wp2_with fail
    refine C.out.mono ?_
    rintro e' w1 ⟨rfl, rfl⟩
    go_wp2_with fail
    refine C'.out.mono ?_
    rintro e' w1 ⟨rfl, rfl⟩
    go_wp2_with fail
    go_ret
    exact ⟨rfl, hB⟩
  obtain ⟨j, rfl⟩ := Int.eq_ofNat_of_zero_le (by omega : 0 ≤ j)
  obtain rfl : i = j := by omega
  have C' := Lib.hid (is_yes c g1 g2 g3 x i _ (h.ext K) (by omega))
  have t1 : ((i : Int) == (i : Int)) = true := by simp
  clear hb hi h K hj
  go_enter Try.func13, Try.ntmps13
  go_wp2_with fail
  refine C.out.mono ?_
  rintro e' w1 ⟨rfl, rfl⟩
  go_wp2_with fail
  refine C'.out.mono ?_
  rintro e' w1 ⟨rfl, rfl⟩
  go_wp2_with fail
  go_ret
  exact ⟨rfl, hB⟩

set_option maxHeartbeats 1000000 in
theorem join_empty (c g1 g2 g3 : Nat) (x : Ch) (i j : Nat) (ea eb : Ends) (w : World) (h : Is w c g1 g2 g3 x) (hi : x.lists[i]? = some ea) (hj : x.lists[j]? = some eb) (hne : i ≠ j) (hm : eb.many = 0) :
    Calls Try.prog 13 #[.pointer (some ⟨c, 0, none⟩), .int .i64 (i : Int), .int .i64 (j : Int)] w fun e' w' => e' = .returned (.bool true) ∧ Below w.heap.size w w' := by
  have K : Kept none_ w ((w.alloc (.cells #[.pointer (some ⟨c, 0, none⟩)] 23)).alloc (.cells #[.int .i64 (i : Int)] 3)) := ((Kept.refl _ _).alloc _).alloc _
  have hB : Below w.heap.size w ((w.alloc (.cells #[.pointer (some ⟨c, 0, none⟩)] 23)).alloc (.cells #[.int .i64 (i : Int)] 3)) := K.toBelow'
  have hil := (List.getElem?_eq_some_iff.1 hi).1
  have hjl := (List.getElem?_eq_some_iff.1 hj).1
  have C := Lib.hid (is_yes c g1 g2 g3 x i _ (h.ext K) hil)
  have C' := Lib.hid (is_yes c g1 g2 g3 x j _ (h.ext K) hjl)
  obtain ⟨c1, c2, c3, p0, p1, p2⟩ := h.cells
  obtain ⟨lt0, lt1, lt2, lt3⟩ := h.lt
  obtain ⟨a0, a1, a2⟩ := h.ends hi
  obtain ⟨e0, e1, e2⟩ := h.ends hj
  have t1 : ((i : Int) == (j : Int)) = false := by simp; omega
  have t2 : (eb.many == 0) = true := by simpa using hm
  have i0 : (0 : Int) ≤ (i : Int) := by omega
  have i1 : (i : Int) < (x.lists.length : Int) := by omega
  have j0 : (0 : Int) ≤ (j : Int) := by omega
  have j1 : (j : Int) < (x.lists.length : Int) := by omega
  clear h K hi hj hm
  go_enter Try.func13, Try.ntmps13
  go_wp2_with fail
  refine C.out.mono ?_
  rintro e' w1 ⟨rfl, rfl⟩
  go_wp2_with fail
  refine C'.out.mono ?_
  rintro e' w1 ⟨rfl, rfl⟩
  go_wp2_with fail
  go_quiet (fail)
  go_wp2_with fail
  go_ret
  exact ⟨rfl, below_drewN hB _⟩

def setAll (wh : List Int) (l : List Nat) (t : Int) : List Int := l.foldl (fun wh a => wh.set a t) wh
theorem setAll_snoc (wh : List Int) (l : List Nat) (a : Nat) (t : Int) : setAll wh (l ++ [a]) t = (setAll wh l t).set a t := by simp [setAll]
theorem setAll_length (wh : List Int) (l : List Nat) (t : Int) : (setAll wh l t).length = wh.length := by
  induction l generalizing wh with
  | nil => rfl
  | cons a l ih => show (setAll (wh.set a t) l t).length = _; rw [ih]; simp

def join (x : Ch) (i j : Nat) (ea eb : Ends) (l : List Nat) : Ch :=
  { next := if ea.many = 0 then x.next else x.next.set ea.last.toNat eb.first, where_ := setAll x.where_ l i,
    lists := (x.lists.set i { first := if ea.many = 0 then eb.first else ea.first, last := eb.last, many := ea.many + eb.many }).set j ⟨-1, -1, 0⟩ }

/-- The join's memory while the range over the function goes on. -/
structure Jn (w W : World) (c g1 g2 g3 b0 bt : Nat) (x : Ch) (i : Int) (pre : List Nat) : Prop where
  ch : Is W c g1 g2 g3 { x with where_ := setAll x.where_ pre i }
  p : Blk W b0 23 #[.pointer (some ⟨c, 0, none⟩)]
  t : Blk W bt 3 #[.int .i64 i]
  kept : Kept (fun k => k = g2) w W

theorem blk_stays {W : World} {row : Option Nat} {B g : Nat} {t : TypeId} {cs : Array Value} (hb : Blk W g t cs) (hr : ∀ r, row = some r → B ≤ r ∧ ∃ o : Obj, W.heap[r]? = some o ∧ o.isCells = false) : ¬ (row = some g) := by
  intro e
  obtain ⟨_, o, ho, hc⟩ := hr g e
  unfold Blk at hb
  rw [hb] at ho
  injection ho with ho
  subst ho
  cases hc
theorem Jn.grown {w W W' : World} {row : Option Nat} {B c g1 g2 g3 b0 bt : Nat} {x : Ch} {i : Int} {pre : List Nat} (h : Jn w W c g1 g2 g3 b0 bt x i pre) (hg : W.grownBy W' row) (hr : ∀ r, row = some r → B ≤ r ∧ ∃ o : Obj, W.heap[r]? = some o ∧ o.isCells = false) (hB : w.heap.size ≤ B) :
    Jn w W' c g1 g2 g3 b0 bt x i pre := by
  have hk : Kept (fun k => row = some k) W W' := Kept.grown hg (fun q hq => .inl hq)
  obtain ⟨⟨c1, c2, c3, _, _, _, _, _, _, hs⟩, ⟨_, r1, _⟩, ⟨_, r2, _⟩, ⟨_, r3, _⟩, _⟩ := h.ch
  exact ⟨h.ch.kept hk (blk_stays hs hr) (blk_stays r1 hr) (blk_stays r2 hr) (blk_stays r3 hr), h.p.kept hk (blk_stays h.p hr), h.t.kept hk (blk_stays h.t hr), h.kept.trans' hk (fun k e => .inr (Nat.le_trans hB (hr k e).1))⟩
theorem kp_put (g2 n₀ : Nat) (W : World) (l : Nat) (o' : Obj) (hl : n₀ ≤ l) : Kp g2 n₀ W (W.putObj l o') := Kept.grown (grownBy_putObj' W l o') (fun k e => .inl (.inr (by cases e; exact hl)))
theorem kp_trans {g2 n₀ : Nat} {A B C : World} (h : Kp g2 n₀ A B) (k : Kp g2 n₀ B C) : Kp g2 n₀ A C := Kept.trans h k

/-- Memory where the range over the function begins. -/
theorem join_mem {w W : World} {c g1 g2 g3 nq : Nat} {x : Ch} {i j : Nat} (h : Is w c g1 g2 g3 x)
    (hW : ((((w.alloc (.cells #[.pointer (some ⟨c, 0, none⟩)] 23)).alloc (.cells #[.int .i64 (i : Int)] 3)).drewN nq).alloc (.cells #[.pointer (some ⟨c, 0, none⟩)] 23)).alloc (.cells #[.int .i64 (j : Int)] 3) = W) :
    Jn w W c g1 g2 g3 w.heap.size (w.heap.size + 1) x i [] ∧ Rn W c g1 g3 (w.heap.size + 1 + 1) (w.heap.size + 1 + 1 + 1) x.next x.lists j ∧ W.heap.size = w.heap.size + 1 + 1 + 1 + 1 := by
  have K : Kept none_ w W := by subst hW; exact ((((((Kept.refl _ _).alloc _).alloc _).drewN _).alloc _).alloc _)
  have hI := h.ext K
  have q0 : Blk W w.heap.size 23 #[.pointer (some ⟨c, 0, none⟩)] := by subst hW; exact (((((Blk.new w 23 #[.pointer (some ⟨c, 0, none⟩)]).alloc _).drewN _).alloc _).alloc _)
  have q1 : Blk W (w.heap.size + 1) 3 #[.int .i64 (i : Int)] := by
    subst hW
    have := (((Blk.new (w.alloc (.cells #[.pointer (some ⟨c, 0, none⟩)] 23)) 3 #[.int .i64 (i : Int)]).drewN nq).alloc (.cells #[.pointer (some ⟨c, 0, none⟩)] 23)).alloc (.cells #[.int .i64 (j : Int)] 3)
    simpa using this
  have q2 : Blk W (w.heap.size + 1 + 1) 23 #[.pointer (some ⟨c, 0, none⟩)] := by
    subst hW
    have := ((Blk.new (((w.alloc (.cells #[.pointer (some ⟨c, 0, none⟩)] 23)).alloc (.cells #[.int .i64 (i : Int)] 3)).drewN nq) 23 #[.pointer (some ⟨c, 0, none⟩)])).alloc (.cells #[.int .i64 (j : Int)] 3)
    simpa using this
  have q3 : Blk W (w.heap.size + 1 + 1 + 1) 3 #[.int .i64 (j : Int)] := by
    subst hW
    have := Blk.new ((((w.alloc (.cells #[.pointer (some ⟨c, 0, none⟩)] 23)).alloc (.cells #[.int .i64 (i : Int)] 3)).drewN nq).alloc (.cells #[.pointer (some ⟨c, 0, none⟩)] 23)) 3 #[.int .i64 (j : Int)]
    simpa using this
  have hz : W.heap.size = w.heap.size + 1 + 1 + 1 + 1 := by subst hW; simp
  obtain ⟨⟨c1, c2, c3, _, _, _, _, _, _, hs⟩, r1, r2, r3, _⟩ := id hI
  exact ⟨⟨hI, q0, q1, K.mono (fun _ _ h => h.elim)⟩, ⟨⟨c1, c3, _, hs⟩, r1, r3, q2, q3⟩, hz⟩

/-- A region that draws its order: n operations that only read, then a tail in the text's order; W is the world behind the draw. -/
theorem wp_region_tail {P : Program} {w : World} {id : Nat} {Q : Exit → Act → World → Prop} {a : Act} {l : List Oper} (n : Nat) (hm : P.follows .mixedOrders = true) (hB : Region.lexTailB .any l.toArray n = true)
    (h : ∀ W, W = w.drew → wpStill P l.toArray W (fun a' => wpList P l.toArray Q (l.drop n) a' W) (l.take n) a) : (Code.region id l.toArray true).wp P Q a w :=
  wp_region_still_tail n hm hB (h _ rfl)

/-- The memory behind the range over the function. -/
structure Fn_ (w W : World) (c g1 g2 g3 b0 D : Nat) (x : Ch) : Prop where
  ch : Is W c g1 g2 g3 x
  p : Blk W b0 23 #[.pointer (some ⟨c, 0, none⟩)]
  kept : Kept (Of3 g1 g2 g3) w W
  dd : W.heap[D]? = some (.deferred (some []))

section
variable {w W W' : World} {c g1 g2 g3 b0 D k : Nat} {x : Ch}
theorem Fn_.step (h : Fn_ w W c g1 g2 g3 b0 D x) {x' : Ch} (hI : Is W' c g1 g2 g3 x') (hk : Kept (Of3 g1 g2 g3) W W') (hb : ¬ Of3 g1 g2 g3 b0) : Fn_ w W' c g1 g2 g3 b0 D x' := by
  refine ⟨hI, h.p.kept hk hb, h.kept.trans hk, ?_⟩
  have hl : D < W.heap.size := (Array.getElem?_eq_some_iff.1 h.dd).1
  obtain ⟨⟨c1, c2, c3, _, _, _, _, _, _, hs⟩, ⟨_, r1, _⟩, ⟨_, r2, _⟩, ⟨_, r3, _⟩, _⟩ := h.ch
  have hne : ¬ Of3 g1 g2 g3 D := by
    rintro (rfl | rfl | rfl)
    · unfold Blk at r1; rw [h.dd] at r1; cases r1
    · unfold Blk at r2; rw [h.dd] at r2; cases r2
    · unfold Blk at r3; rw [h.dd] at r3; cases r3
  exact (hk.block D hl hne).trans h.dd
theorem Fn_.done (h : Fn_ w W c g1 g2 g3 b0 D x) (hD : w.heap.size ≤ D) : Is (W.putObj D (.deferred none)) c g1 g2 g3 x ∧ Kept (Of3 g1 g2 g3) w (W.putObj D (.deferred none)) := by
  have hk : Kept (fun k => k = D) W (W.putObj D (.deferred none)) := Kept.grown (grownBy_putObj' W D _) (fun k e => .inl (by cases e; rfl))
  obtain ⟨⟨c1, c2, c3, _, _, _, _, _, _, hs⟩, ⟨_, r1, _⟩, ⟨_, r2, _⟩, ⟨_, r3, _⟩, _⟩ := id h.ch
  have ne : ∀ {g : Nat} {t : TypeId} {cs : Array Value}, Blk W g t cs → g ≠ D := by
    rintro g t cs hb rfl
    unfold Blk at hb
    rw [h.dd] at hb
    cases hb
  exact ⟨h.ch.kept hk (ne hs) (ne r1) (ne r2) (ne r3), h.kept.trans' hk (fun k e => .inr (by omega))⟩
end

theorem body_end {w W : World} {c g1 g2 g3 b0 bt B n₀ : Nat} {x : Ch} {i : Int} {n : Nat} {pre : List (Fin n)} {a : Fin n} {u : Int} (h : Jn w W c g1 g2 g3 b0 bt x i (pre.map (·.val))) (hu : (setAll x.where_ (pre.map (·.val)) i)[a.val]? = some u)
    (h0 : g2 ≠ b0) (h1 : g2 ≠ bt) : KeepsFrom B W (W.setCell ⟨g2, a.val, none⟩ (.int .i64 i)).drew ∧ Kp g2 n₀ W (W.setCell ⟨g2, a.val, none⟩ (.int .i64 i)).drew ∧ Jn w (W.setCell ⟨g2, a.val, none⟩ (.int .i64 i)).drew c g1 g2 g3 b0 bt x i ((pre ++ [a]).map (·.val)) := by
  have k0 : Kept (fun k => k = g2) W (W.setCell ⟨g2, a.val, none⟩ (.int .i64 i)).drew := (Kept.setCell (F := fun k => k = g2) (p := ⟨g2, a.val, none⟩) (Kept.refl _ _) (.inl rfl) _).drew
  refine ⟨((KeepsOthers.setCell W ⟨g2, a.val, none⟩ (.int .i64 i)).trans (KeepsOthers.drew _)).from _, k0.mono (fun _ _ h => .inl h), ?_, h.p.kept k0 (Ne.symm h0), h.t.kept k0 (Ne.symm h1), h.kept.trans k0⟩
  have := (h.ch.setWhere (k := a.val) (u := i) hu).drew
  rw [List.map_append, List.map_cons, List.map_nil, setAll_snoc]
  exact this

set_option maxRecDepth 100000 in
set_option maxHeartbeats 2000000 in
theorem join_yes (c g1 g2 g3 : Nat) (x : Ch) (i j : Nat) (ea eb : Ends) (l : List (Fin x.where_.length)) (w : World) (h : Is w c g1 g2 g3 x) (hi : x.lists[i]? = some ea) (hj : x.lists[j]? = some eb) (hne : i ≠ j) (hm : eb.many ≠ 0)
    (hl : Links x.next eb.first (l.map fun a => (a.val : Int))) (hla : ea.many ≠ 0 → ∃ u : Nat, ea.last = (u : Int) ∧ u < x.next.length) (hbd : 0 ≤ ea.many ∧ ea.many ≤ 4096 ∧ 0 ≤ eb.many ∧ eb.many ≤ 4096) :
    Calls Try.prog 13 #[.pointer (some ⟨c, 0, none⟩), .int .i64 (i : Int), .int .i64 (j : Int)] w fun e' w' => e' = .returned (.bool true) ∧ Is w' c g1 g2 g3 (join x i j ea eb (l.map (·.val))) ∧ Kept (Of3 g1 g2 g3) w w' := by
  have K : Kept none_ w ((w.alloc (.cells #[.pointer (some ⟨c, 0, none⟩)] 23)).alloc (.cells #[.int .i64 (i : Int)] 3)) := ((Kept.refl _ _).alloc _).alloc _
  have hil := (List.getElem?_eq_some_iff.1 hi).1
  have hjl := (List.getElem?_eq_some_iff.1 hj).1
  have C := Lib.hid (is_yes c g1 g2 g3 x i _ (h.ext K) hil)
  have C' := Lib.hid (is_yes c g1 g2 g3 x j _ (h.ext K) hjl)
  obtain ⟨c1, c2, c3, p0, p1, p2⟩ := h.cells
  obtain ⟨lt0, lt1, lt2, lt3⟩ := h.lt
  obtain ⟨a0, a1, a2⟩ := h.ends hi
  obtain ⟨e0, e1, e2⟩ := h.ends hj
  have t1 : ((i : Int) == (j : Int)) = false := by simp; omega
  have t2 : (eb.many == 0) = false := by simpa using hm
  have i0 : (0 : Int) ≤ (i : Int) := by omega
  have i1 : (i : Int) < (x.lists.length : Int) := by omega
  have j0 : (0 : Int) ≤ (j : Int) := by omega
  have j1 : (j : Int) < (x.lists.length : Int) := by omega
  have H := Lib.hid h
  have HI := Lib.hid hi
  have HJ := Lib.hid hj
  have HL := Lib.hid hl
  have HLA := Lib.hid hla
  have HBD := Lib.hid hbd
  clear h K hi hj hm hl hla hbd
  refine callsIn_wide.1 (callsIn_of_wp_marks (F := Fence.wide) (n := 6) Try.func13 rfl trivial ?_ rfl)
  refine wpIn_wide.2 ?_
  simp only [Try.ntmps13, List.size_toArray, List.length_cons, List.length_nil, Nat.reduceAdd, Nat.reduceSub, Array.replicate_succ, Array.replicate_zero, List.push_toArray, List.append_toArray, List.nil_append, List.cons_append]
  go_wp2_with fail
  refine C.out.mono ?_
  rintro e' w1 ⟨rfl, rfl⟩
  go_wp2_with fail
  refine C'.out.mono ?_
  rintro e' w1 ⟨rfl, rfl⟩
  go_wp2_with fail
  go_quiet (fail)
  go_wp2_with fail
  refine (all_any _ _ _).mono ?_
  rintro e' w1 ⟨rfl, rfl⟩
  go_wp2_with fail
  generalize hW0 : World.alloc (World.alloc (World.drewN _ _) _) _ = W0
  obtain ⟨hJn, hRn, hsz⟩ := join_mem H.out hW0
  have HJn := Lib.hid hJn
  obtain ⟨n1, n2, n3, n4, n5, n6⟩ := H.out.ne
  clear C C' p0 p1 p2 a0 a1 a2 e0 e1 e2 hW0 hJn
  refine (wpIn_wide (n := 6)).1 (wpIn_rangeFunc_ownG (F := Fence.wide) (n := 6) (α := Fin x.where_.length) (gf := 27) (lb := #[.pointer (some ⟨w.heap.size + 1 + 1, 0, none⟩), .pointer (some ⟨w.heap.size + 1 + 1 + 1, 0, none⟩)]) rfl (by omega) rfl trivial (enters_of Try.func27 (by kernel_rfl) rfl)
    (all1_stops (fun a : Fin x.where_.length => a.val) 5 c g1 g2 g3 (w.heap.size + 1 + 1) (w.heap.size + 1 + 1 + 1) W0.heap.size x.next x.lists j eb l W0 hRn HJ.out HL.out (by omega) (by omega) (by omega))
    kp_trans (fun W l o o' hl _ _ _ => kp_put g2 _ W l o' hl) (Below.refl _ _) (fun _ => rfl)
    (fun pre W => Jn w W c g1 g2 g3 w.heap.size (w.heap.size + 1) x i (pre.map (·.val))) (fun _ _ _ => False)
    (fun s A B row hs hg hr => Jn.grown hs hg hr (by omega)) (fun _ _ _ _ _ hs _ _ => hs) HJn.out
    (fun a => { tmps := #[.pointer (some ⟨c, 0, none⟩), .int .i64 (i : Int), .int .i64 (j : Int), .pointer (some ⟨w.heap.size, 0, none⟩), .pointer (some ⟨w.heap.size + 1, 0, none⟩), undef, .bool false, .pointer (some ⟨g3, i * 3, none⟩), .pointer (some ⟨g3, j * 3, none⟩), .int .i64 (a.val : Int), .pointer (some ⟨c, 0, none⟩), .int .i64 (i : Int), .bool true, .bool false, .bool false, .pointer (some ⟨c, 0, none⟩), .int .i64 (j : Int), .bool true, .bool false, .bool false, .bool false, .int .i64 (i : Int), .int .i64 (j : Int), .bool false, .bool false, .pointer (some ⟨c, 0, none⟩), .pointer (some ⟨c, 0, none⟩), .pointer (some ⟨c, 2, none⟩), .slice (some ⟨g3, 0, none⟩) x.lists.length c3, .int .i64 (i : Int), .pointer (some ⟨g3, i * 3, none⟩), .pointer (some ⟨c, 0, none⟩), .pointer (some ⟨c, 0, none⟩), .pointer (some ⟨c, 2, none⟩), .slice (some ⟨g3, 0, none⟩) x.lists.length c3, .int .i64 (j : Int), .pointer (some ⟨g3, j * 3, none⟩), .pointer (some ⟨g3, j * 3, none⟩), .pointer (some ⟨g3, j * 3, none⟩), .pointer (some ⟨g3, j * 3 + 2, none⟩), .int .i64 eb.many, .bool false, .pointer (some ⟨c, 0, none⟩), .int .i64 (j : Int), .func (.func 27) #[] #[.pointer (some ⟨w.heap.size + 1 + 1, 0, none⟩), .pointer (some ⟨w.heap.size + 1 + 1 + 1, 0, none⟩)], .int .i64 (a.val : Int), undef, undef, undef, undef, undef, undef, undef, undef, undef, undef, undef, undef, undef, undef, undef, undef, undef, undef, undef, undef, undef, undef, undef, undef, undef, undef, undef, undef, undef, undef, undef, undef, undef, undef, undef, undef, undef, undef, undef, undef, undef, undef, undef, undef, undef, undef, undef, undef, undef, undef, undef, undef, undef], defers := [] }) ?assign ?body ?done ?stop)
  case assign =>
    intro l a W K hK
    gi_wp2
    exact hK
  case body =>
    rintro y pre a W hj hlen
    have R := hj.ch
    have q0 := hj.p.cell 0
    have q1 := hj.t.cell 0
    simp at q0 q1
    obtain ⟨d1, d2, d3, p0, p1, p2⟩ := R.cells
    simp only [setAll_length] at p1
    obtain ⟨m0, m1, m2, m3⟩ := R.lt
    have hal : a.val < (setAll x.where_ (pre.map (·.val)) i).length := by rw [setAll_length]; exact a.isLt
    obtain ⟨u, hu⟩ : ∃ u, (setAll x.where_ (pre.map (·.val)) i)[a.val]? = some u := ⟨_, List.getElem?_eq_getElem hal⟩
    have hc := R.where__ hu
    have fr := R.frozen.2.1
    have v0 : (0 : Int) ≤ (a.val : Int) := by omega
    have v1 : (a.val : Int) < (x.where_.length : Int) := by have := a.isLt; omega
    have HJ' := Lib.hid hj
    have HU := Lib.hid hu
    have mo : Try.prog.follows .mixedOrders = true := by kernel_rfl
    clear R hj hu hal hRn HJn
    dsimp only
    gi_wp2
    gi_region_with_o (fail)
    all_goals gi_wp2
    all_goals exact body_end HJ'.out HU.out (by omega) (by omega)
  case done =>
    rintro D xs W hD rfl hj hK
    have R := hj.ch
    have q0 := hj.p.cell 0
    simp at q0
    obtain ⟨d1, d2, d3, p0, p1, p2⟩ := R.cells
    obtain ⟨m0, m1, m2, m3⟩ := R.lt
    obtain ⟨fr1, fr2, fr3⟩ := R.frozen
    obtain ⟨a0, a1, a2⟩ := R.ends HI.out
    obtain ⟨e0, e1, e2⟩ := R.ends HJ.out
    have x1 : ¬ (i * 3 = j * 3 + 1) := by omega
    have x2 : ¬ (i * 3 = j * 3 + 2) := by omega
    have x3 : ¬ (i * 3 + 1 = j * 3) := by omega
    have x4 : ¬ (i * 3 + 2 = j * 3) := by omega
    have x5 : ¬ (j * 3 = i * 3 + 1) := by omega
    have x6 : ¬ (j * 3 = i * 3 + 2) := by omega
    have x7 : ¬ (j * 3 + 1 = i * 3) := by omega
    have x8 : ¬ (j * 3 + 2 = i * 3) := by omega
    have x9 : ¬ (j = i) := by omega
    obtain ⟨b1, b2, b3, b4⟩ := HBD.out
    have hF : Fn_ w W c g1 g2 g3 w.heap.size D { x with where_ := setAll x.where_ (xs.map (·.val)) i } := ⟨hj.ch, hj.p, hj.kept.mono (fun k _ h => .inr (.inl h)), hK⟩
    have HF := Lib.hid hF
    have hb0 : ¬ Of3 g1 g2 g3 w.heap.size := by rintro (h | h | h) <;> omega
    clear R hj hK p1 p2 hRn HJn hF
    by_cases hz : ea.many = 0
    · have t3 : (ea.many == 0) = true := by simpa using hz
      have HZ := Lib.hid hz
      clear hz
      dsimp only
      go_wp2_with fail
      generalize hW2 : World.setCell (World.setCell W _ _) _ _ = W2
      have s1 := HF.out.ch.setEnds (u := .int .i64 eb.first) (e' := { ea with first := eb.first }) HI.out (j := 0) (by decide) rfl
      have s2 := s1.setEnds (u := .int .i64 eb.last) (e' := { ea with first := eb.first, last := eb.last }) (List.getElem?_set_self hil) (j := 1) (by decide) rfl
      simp only [List.set_set, Nat.add_zero] at s2
      have hF2 := HF.out.step s2 (((Kept.refl _ _).setCell (.inl (.inr (.inr rfl))) _).setCell (.inl (.inr (.inr rfl))) _) hb0
      rw [hW2] at hF2
      have HE2 : Hid ((x.lists.set i { ea with first := eb.first, last := eb.last })[i]? = some { ea with first := eb.first, last := eb.last }) := Lib.hid (List.getElem?_set_self hil)
      have HB2 : Hid ((x.lists.set i { ea with first := eb.first, last := eb.last })[j]? = some eb) := Lib.hid (by rw [List.getElem?_set_ne hne]; exact HJ.out)
      clear s1 s2 hW2
      clear a0 a1 a2 e0 e1 e2 fr1 fr2 fr3 m0 m1 m2 m3 p0
      obtain ⟨k0, k1, k2⟩ := hF2.ch.ends HE2.out
      obtain ⟨e0, e1, e2⟩ := hF2.ch.ends HB2.out
      have m3 := hF2.ch.lt.2.2.2
      have HF2 := Lib.hid hF2
      clear hF2 HF
      refine wp_region_tail 11 (by kernel_rfl) (by kernel_rfl) fun W3 e3 => ?_
      have hF3 := HF2.out.step (W' := W3) (by rw [e3]; exact HF2.out.ch.drew) (by rw [e3]; exact (Kept.refl _ _).drew) hb0
      clear k0 k1 k2 e0 e1 e2 m3
      obtain ⟨k0, k1, k2⟩ := hF3.ch.ends HE2.out
      obtain ⟨e0, e1, e2⟩ := hF3.ch.ends HB2.out
      have m3 := hF3.ch.lt.2.2.2
      have fr3 := hF3.ch.frozen.2.2
      have HF3 := Lib.hid hF3
      clear hF3 e3 HF2
      simp only [List.take_succ_cons, List.take_zero, List.drop_succ_cons, List.drop_zero]
      repeat still_step
      refine wpStill_nil ?_
      go_wp2_with fail
      have s3 := HF3.out.ch.setEnds (u := .int .i64 (ea.many + eb.many)) (e' := { first := eb.first, last := eb.last, many := ea.many + eb.many }) HE2.out (j := 2) (by decide) rfl
      have s4 := s3.setEnds (u := .int .i64 (-1)) (e := eb) (e' := { eb with first := -1 }) (by simp only; rw [List.getElem?_set_ne hne]; exact HB2.out) (j := 0) (by decide) rfl
      have s5 := s4.setEnds (u := .int .i64 (-1)) (e := { eb with first := -1 }) (e' := { eb with first := -1, last := -1 }) (List.getElem?_set_self (by simpa using hjl)) (j := 1) (by decide) rfl
      have s6 := s5.setEnds (u := .int .i64 0) (e := { eb with first := -1, last := -1 }) (e' := ⟨-1, -1, 0⟩) (List.getElem?_set_self (by simpa using hjl)) (j := 2) (by decide) rfl
      simp only [List.set_set, Nat.add_zero] at s6
      have hF6 := HF3.out.step s6 ((((((Kept.refl _ _).setCell (.inl (.inr (.inr rfl))) _).setCell (.inl (.inr (.inr rfl))) _).setCell (.inl (.inr (.inr rfl))) _).setCell (.inl (.inr (.inr rfl))) _)) hb0
      obtain ⟨f1, f2⟩ := hF6.done (D := D) (by omega)
      refine ⟨by simp, .inl ⟨_, _, rfl, run_takeDeferred hF6.dd, ?_⟩⟩
      refine ⟨_, results_tmp rfl _ _ _, rfl, ?_, f2⟩
      unfold join
      simp only [if_pos HZ.out]
      exact f1
    · have t3 : (ea.many == 0) = false := by simpa using hz
      obtain ⟨u, hu, hul⟩ := HLA.out hz
      have hnx0 : x.next[u]? = some x.next[u] := List.getElem?_eq_getElem hul
      have HNX := Lib.hid hnx0
      have hnx := HF.out.ch.next_ hnx0
      have u0 : (0 : Int) ≤ (u : Int) := by omega
      have u1 : (u : Int) < (x.next.length : Int) := by omega
      have HZ := Lib.hid hz
      obtain ⟨af, al, am⟩ := ea
      simp only at hu
      subst hu
      clear hz hnx0 a0 a1 a2 e0 e1 e2 fr1 fr2 fr3 m0 m1 m2 m3 hnx p0 q0
      have F0 := HF.out
      obtain ⟨a0, a1, a2⟩ := F0.ch.ends HI.out
      have e0 := (F0.ch.ends HJ.out).1
      have m3 := F0.ch.lt.2.2.2
      clear F0
      dsimp only
      go_upto_region 11 with (fail)
      refine wp_region_tail 13 (by kernel_rfl) (by kernel_rfl) fun W1 e1 => ?_
      have hF1 := HF.out.step (W' := W1) (by rw [e1]; exact HF.out.ch.drew) (by rw [e1]; exact (Kept.refl _ _).drew) hb0
      clear a0 a1 a2 e0 m3
      have q0 := hF1.p.cell 0
      simp at q0
      obtain ⟨d1', d2', d3', p0, p1, p2⟩ := hF1.ch.cells
      obtain ⟨m0, m1, m2, m3⟩ := hF1.ch.lt
      obtain ⟨fr1, fr2, fr3⟩ := hF1.ch.frozen
      obtain ⟨a0, a1, a2⟩ := hF1.ch.ends HI.out
      obtain ⟨f0, f1, f2⟩ := hF1.ch.ends HJ.out
      have hnx := hF1.ch.next_ HNX.out
      have HF1 := Lib.hid hF1
      clear hF1 e1 p1 p2
      simp only [List.take_succ_cons, List.take_zero, List.drop_succ_cons, List.drop_zero]
      repeat still_step
      refine wpStill_nil ?_
      go_wp2_with fail
      generalize hW2 : World.setCell (World.setCell W1 _ _) _ _ = W2
      have s1 := HF1.out.ch.setNext (u := eb.first) HNX.out
      have s2 := s1.setEnds (u := .int .i64 eb.last) (e' := { first := af, last := eb.last, many := am }) HI.out (j := 1) (by decide) rfl
      have hF2 := HF1.out.step s2 (((Kept.refl _ _).setCell (.inl (.inl rfl)) _).setCell (.inl (.inr (.inr rfl))) _) hb0
      rw [hW2] at hF2
      have HE2 : Hid ((x.lists.set i { first := af, last := eb.last, many := am })[i]? = some { first := af, last := eb.last, many := am }) := Lib.hid (List.getElem?_set_self hil)
      have HB2 : Hid ((x.lists.set i { first := af, last := eb.last, many := am })[j]? = some eb) := Lib.hid (by rw [List.getElem?_set_ne hne]; exact HJ.out)
      clear s1 s2 hW2 f0 f1 f2 hnx HF1 q0
      clear a0 a1 a2 fr1 fr2 fr3 m0 m1 m2 m3 p0
      obtain ⟨k0, k1, k2⟩ := hF2.ch.ends HE2.out
      obtain ⟨e0, e1, e2⟩ := hF2.ch.ends HB2.out
      have m3 := hF2.ch.lt.2.2.2
      have HF2 := Lib.hid hF2
      clear hF2 HF
      refine wp_region_tail 11 (by kernel_rfl) (by kernel_rfl) fun W3 e3 => ?_
      have hF3 := HF2.out.step (W' := W3) (by rw [e3]; exact HF2.out.ch.drew) (by rw [e3]; exact (Kept.refl _ _).drew) hb0
      clear k0 k1 k2 e0 e1 e2 m3
      obtain ⟨k0, k1, k2⟩ := hF3.ch.ends HE2.out
      obtain ⟨e0, e1, e2⟩ := hF3.ch.ends HB2.out
      have m3 := hF3.ch.lt.2.2.2
      have fr3 := hF3.ch.frozen.2.2
      have HF3 := Lib.hid hF3
      clear hF3 e3 HF2
      simp only [List.take_succ_cons, List.take_zero, List.drop_succ_cons, List.drop_zero]
      repeat still_step
      refine wpStill_nil ?_
      go_wp2_with fail
      have s3 := HF3.out.ch.setEnds (u := .int .i64 (am + eb.many)) (e' := { first := af, last := eb.last, many := am + eb.many }) HE2.out (j := 2) (by decide) rfl
      have s4 := s3.setEnds (u := .int .i64 (-1)) (e := eb) (e' := { eb with first := -1 }) (by simp only; rw [List.getElem?_set_ne hne]; exact HB2.out) (j := 0) (by decide) rfl
      have s5 := s4.setEnds (u := .int .i64 (-1)) (e := { eb with first := -1 }) (e' := { eb with first := -1, last := -1 }) (List.getElem?_set_self (by simpa using hjl)) (j := 1) (by decide) rfl
      have s6 := s5.setEnds (u := .int .i64 0) (e := { eb with first := -1, last := -1 }) (e' := ⟨-1, -1, 0⟩) (List.getElem?_set_self (by simpa using hjl)) (j := 2) (by decide) rfl
      simp only [List.set_set, Nat.add_zero] at s6
      have hF6 := HF3.out.step s6 ((((((Kept.refl _ _).setCell (.inl (.inr (.inr rfl))) _).setCell (.inl (.inr (.inr rfl))) _).setCell (.inl (.inr (.inr rfl))) _).setCell (.inl (.inr (.inr rfl))) _)) hb0
      obtain ⟨f1, f2⟩ := hF6.done (D := D) (by omega)
      refine ⟨by simp, .inl ⟨_, _, rfl, run_takeDeferred hF6.dd, ?_⟩⟩
      refine ⟨_, results_tmp rfl _ _ _, rfl, ?_, f2⟩
      unfold join
      simp only [if_neg HZ.out, Int.toNat_natCast]
      exact f1
  case stop =>
    rintro D c pre W _ _ h _
    exact h.elim
end Go.Proofs.Ytjblhgljajjdgaa.Chain
