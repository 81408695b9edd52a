/- The reference's slab: contracts of Live, Give, New. -/
import Derived.Test.YthdjagmeggckcaaRef
namespace Go.Proofs.Ythdjagmeggckcaa.Ref
open Go.RowKit

def rlive (x : RS) (a t : Int) : Bool := if 0 ≤ a then (match x.taken[a.toNat]?, x.turns[a.toNat]? with | some true, some n => n == t | _, _ => false) else false

theorem below_one {w w1 : World} {o : Obj} (hb : Below (w.alloc o).heap.size (w.alloc o) w1) : Below w.heap.size w w1 := ((Below.refl _ _).alloc (Nat.le_refl _) _).trans (hb.mono (by simp))

set_option maxHeartbeats 1000000 in
theorem live_any (v : Value) (x : RS) (a t : Int) (w : World) (h : Is w v x) (hlen : x.taken.length = x.turns.length) :
    Calls Try.prog 26 #[v, .int .i64 a, .int .i64 t] w fun e w' => e = .returned (.bool (rlive x a t)) ∧ Below w.heap.size w w' := by
  obtain ⟨f, tt, kk, rfl, hf, ht, hk⟩ := h
  obtain ⟨A, c, rfl, _⟩ := hf.form
  obtain ⟨A2, c2, rfl, _⟩ := ht.form
  obtain ⟨A3, c3, rfl, _⟩ := hk.form
  by_cases h0 : a < 0
  · have hr : rlive x a t = false := by unfold rlive; rw [if_neg (by omega)]
    rw [hr]
    have h0' : decide (0 ≤ a) = false := by simp; omega
    go_enter Try.func26, Try.ntmps26
    go_wp2
    go_ret
    exact ⟨rfl, (Below.refl _ _).alloc (Nat.le_refl _) _⟩
  obtain ⟨k, rfl⟩ := Int.eq_ofNat_of_zero_le (by omega : 0 ≤ a)
  have h00 : (0 : Int) ≤ (k : Int) := by omega
  by_cases h1 : x.turns.length ≤ k
  · have hr : rlive x k t = false := by unfold rlive; rw [if_pos h00, Int.toNat_natCast, List.getElem?_eq_none (by omega)]
    rw [hr]
    have h1' : decide ((k : Int) < (x.turns.length : Int)) = false := by simp; omega
    go_enter Try.func26, Try.ntmps26
    go_wp2
    go_ret
    exact ⟨rfl, (Below.refl _ _).alloc (Nat.le_refl _) _⟩
  have h1' : decide ((k : Int) < (x.turns.length : Int)) = true := by simp; omega
  obtain ⟨n, hn⟩ : ∃ n, x.turns[k]? = some n := ⟨x.turns[k]'(by omega), by simp⟩
  obtain ⟨b, hb⟩ : ∃ b, x.taken[k]? = some b := ⟨x.taken[k]'(by omega), by simp⟩
  obtain ⟨b2, off2, rfl, hb2, hcell2⟩ := ht.at1 hn rfl
  obtain ⟨b3, off3, rfl, hb3, hcell3⟩ := hk.at1 hb rfl
  have h1'' : (k : Int) < (x.turns.length : Int) := by omega
  have h1''' : (k : Int) < (x.taken.length : Int) := by omega
  have hr : rlive x k t = (b && n == t) := by unfold rlive; rw [if_pos h00, Int.toNat_natCast, hn, hb]; cases b <;> rfl
  rw [hr]
  clear hn hb hr h1
  have HL := Lib.hid hlen
  clear hlen
  cases b with
  | false =>
    go_enter Try.func26, Try.ntmps26
    go_wp2
    go_ret
    exact ⟨rfl, (Below.refl _ _).alloc (Nat.le_refl _) _⟩
  | true =>
    go_enter Try.func26, Try.ntmps26
    go_wp2
    go_ret
    exact ⟨rfl, (Below.refl _ _).alloc (Nat.le_refl _) _⟩

def Gave (w : World) (x : RS) (ok : Bool) (e : Ending) (w' : World) : Prop :=
  ∃ v, e = .returned (.tuple #[v, .bool ok]) ∧ Is w' v x ∧ Below w.heap.size w w'

theorem gave_mk {w w2 w3 W : World} {F : Nat → Prop} {y : RS} {f t k : Value} {ok : Bool} (hk4 : Kept none_ w w2) (K1 : Kept F w2 w3) (K2 : Kept F w3 W) (h3 : Off w2 3 F) (h4 : Off w2 4 F) (h3' : Off w3 3 F)
    (hf : Sl w3 3 1 eInt f y.free) (ht : Sl w2 3 1 eInt t y.turns) (hk : Sl w2 4 1 eBool k y.taken) (hF : ∀ i, F i → w.heap.size ≤ i) : Gave w y ok (.returned (.tuple #[.agg #[f, t, k], .bool ok])) W :=
  ⟨_, rfl, ⟨f, t, k, rfl, hf.kept K2 h3', ht.kept (K1.trans K2) h3, hk.kept (K1.trans K2) h4⟩, (hk4.trans' (K1.trans K2) (fun i h => .inr (hF i h))).toBelow'⟩

set_option maxHeartbeats 1000000 in
theorem give_no (v : Value) (x : RS) (a t : Int) (w : World) (h : Is w v x) (hlen : x.taken.length = x.turns.length) (hl : rlive x a t = false) :
    Calls Try.prog 20 #[v, .int .i64 a, .int .i64 t] w (Gave w x false) := by
  obtain ⟨f, tt, kk, rfl, hf, ht, hk⟩ := h
  obtain ⟨A, c, rfl, _⟩ := hf.form
  obtain ⟨A2, c2, rfl, _⟩ := ht.form
  obtain ⟨A3, c3, rfl, _⟩ := hk.form
  have HI : ∀ W, Kept none_ w W → Is W (.agg #[.slice A x.free.length c, .slice A2 x.turns.length c2, .slice A3 x.taken.length c3]) x := fun W hW =>
    ⟨_, _, _, rfl, hf.kept hW Off.none_, ht.kept hW Off.none_, hk.kept hW Off.none_⟩
  have HC := Lib.hid (fun W (hW : Kept none_ w W) => live_any _ x a t W (HI W hW) hlen)
  have H1 := Lib.hid hl
  have H2 := Lib.hid HI
  clear hl hlen HI
  go_enter Try.func20, Try.ntmps20
  go_wp2_with fail
  refine (HC.out _ (((Kept.refl _ _).alloc _).alloc _)).mono ?_
  rintro e w1 ⟨rfl, hb⟩
  rw [H1.out]
  obtain ⟨hB1, hB2, hsz, hbl⟩ := two_new hb
  have e0 := hB1.cell 0
  have e1 := hB1.cell 1
  have e2 := hB1.cell 2
  have r0 := hB2.cell 0
  have r1 := hB2.cell 1
  have r2 := hB2.cell 2
  have f1 := hB1.frozen
  have f2 := hB2.frozen
  simp only [List.getElem?_toArray, List.getElem?_cons_zero, List.getElem?_cons_succ] at e0 e1 e2 r0 r1 r2
  clear hb
  go_wp2_with fail
  refine bodyPost_ret (v := .tuple #[.agg #[.slice A x.free.length c, .slice A2 x.turns.length c2, .slice A3 x.taken.length c3], .bool false]) (by simp [results, Try.results20, go_sem, r0, r1, r2, e0, e1, e2]) rfl ?_
  have hk' : Kept none_ w w1 := Kept.below hbl rfl
  refine ⟨_, rfl, H2.out _ ?_, Kept.toBelow' ?_⟩
  all_goals repeat (first | exact hk' | refine Kept.drew ?_ | refine Kept.setCell ?_ (by simp) _)

set_option maxRecDepth 100000 in
set_option maxHeartbeats 2000000 in
theorem give_yes (v : Value) (x : RS) (k : Nat) (t : Int) (w : World) (h : Is w v x) (hlen : x.taken.length = x.turns.length) (ht0 : x.turns[k]? = some t) (hk0 : x.taken[k]? = some true)
    (hl : x.turns.length ≤ 4096) (hf0 : x.free.length ≤ 4096) (hb0 : ∀ n ∈ x.turns, 0 ≤ n ∧ n ≤ 4096) :
    Calls Try.prog 20 #[v, .int .i64 k, .int .i64 t] w (Gave w { free := k :: x.free, turns := x.turns.set k (t + 1), taken := x.taken.set k false } true) := by
  obtain ⟨f, tt, kk, rfl, hf, ht, hk⟩ := h
  obtain ⟨A, c, rfl, _⟩ := hf.form
  obtain ⟨A2, c2, rfl, _⟩ := ht.form
  obtain ⟨A3, c3, rfl, _⟩ := hk.form
  obtain ⟨i0, hi0, hz0, hz1, hz2⟩ := info_parts info3
  have hrl : rlive x k t = true := by unfold rlive; rw [if_pos (by omega), Int.toNat_natCast, ht0, hk0]; simp
  have HI : ∀ W, Kept none_ w W → Is W (.agg #[.slice A x.free.length c, .slice A2 x.turns.length c2, .slice A3 x.taken.length c3]) x := fun W hW =>
    ⟨_, _, _, rfl, hf.kept hW Off.none_, ht.kept hW Off.none_, hk.kept hW Off.none_⟩
  have HC := Lib.hid (fun W (hW : Kept none_ w W) => live_any _ x k t W (HI W hW) hlen)
  have hkl : k < x.turns.length := (List.getElem?_eq_some_iff.1 ht0).1
  have H1 := Lib.hid hrl
  have H2 := Lib.hid HI
  have HT := Lib.hid ht0
  have HL := Lib.hid hlen
  have HK := Lib.hid hk0
  have HB := Lib.hid hb0
  clear hrl hlen HI ht0 hk0 hb0
  go_enter Try.func20, Try.ntmps20
  go_wp2_with fail
  refine (HC.out _ (((Kept.refl _ _).alloc _).alloc _)).mono ?_
  rintro e w1 ⟨rfl, hb⟩
  rw [H1.out]
  obtain ⟨hB1, hB2, hsz, hbl⟩ := two_new hb
  clear hb
  go_wp2_with fail
  go_loopw [8, 9] (fun v i wr => ∃ j : Nat, j ≤ x.turns.length ∧ i = .int .i64 j ∧ Own wr w1.heap.size 3 1 eInt v ((x.turns.set k (t + 1)).take j) ∧ Below w1.heap.size w1 wr) (fun _ i _ => x.turns.length - (intOf i).toNat)
  case atStart => exact ⟨0, by omega, rfl, Own.nil w1 _, Below.refl _ _⟩
  case round =>
    obtain ⟨j, hj, rfl, hown, hblr⟩ := hrel
    have hBr1 := hB1.kept (F := none_) (Kept.below hblr rfl) (fun h => h)
    have hBr2 := hB2.kept (F := none_) (Kept.below hblr rfl) (fun h => h)
    have e0 := hBr1.cell 0
    have e1 := hBr1.cell 1
    have e2 := hBr1.cell 2
    have r0 := hBr2.cell 0
    have r1 := hBr2.cell 1
    have r2 := hBr2.cell 2
    have f1 := hBr1.frozen
    have f2 := hBr2.frozen
    simp only [List.getElem?_toArray, List.getElem?_cons_zero, List.getElem?_cons_succ] at e0 e1 e2 r0 r1 r2
    have hsr := hblr.size
    have hkr : Kept none_ w wr := (Kept.below hbl rfl).trans (Kept.below hblr rfl)
    by_cases hlt : j < x.turns.length
    · obtain ⟨n, hn⟩ : ∃ n, x.turns[j]? = some n := ⟨x.turns[j]'hlt, by simp⟩
      obtain ⟨b2, off2, rfl, hb2, hcell2⟩ := (ht.kept hkr Off.none_).at1 hn rfl
      obtain ⟨n0, n1⟩ := HB.out n (List.mem_of_getElem? hn)
      have hj0 : (0 : Int) ≤ (j : Int) := by omega
      have hj1 : (j : Int) < (x.turns.length : Int) := by omega
      by_cases he : k = j
      · have hsn : (x.turns.set k (t + 1)).take (j + 1) = (x.turns.set k (t + 1)).take j ++ [n + 1] := take_snoc (by
          subst he
          rw [List.getElem?_set_self hlt]
          have := HT.out.symm.trans hn
          simp at this
          rw [this])
        have he' : ((j : Int) == (k : Int)) = true := by simp [he]
        have HS := Lib.hid hsn
        clear hsn hn he
        go_wp2_with (at_builtin; refine wpList_append_one _ rfl _ _ 34 rfl w1.heap.size 3 i0 (.int .i64 0) 1 8 Try.underlying34 hi0 hz0 hz1 hz2 rfl (by decide) _ _ rfl (hown.alloc _) wr.heap.size (n + 1) rfl rfl (new_cell_int wr _ 3) (eInt_one _) (by simp; omega) (by unfold maxLen; simp; omega) (by simp; omega) ?_; intro v' w2 hown' hgrow hat)
        have hbl1 : Below w1.heap.size w1 w2 := (hblr.alloc hsr _).grown hgrow (by simp; omega) (fun q hq => (hown.lt q hq).1)
        go_roundw
        case rel => exact ⟨j + 1, by omega, by go_num, by rw [HS.out]; exact hown', hbl1⟩
        case measure => simp [intOf]; omega
      · have hsn : (x.turns.set k (t + 1)).take (j + 1) = (x.turns.set k (t + 1)).take j ++ [n] := take_snoc (by rw [List.getElem?_set_ne he]; exact hn)
        have he' : ((j : Int) == (k : Int)) = false := by simp; omega
        have HS := Lib.hid hsn
        clear hsn hn he
        go_wp2_with (at_builtin; refine wpList_append_one _ rfl _ _ 34 rfl w1.heap.size 3 i0 (.int .i64 0) 1 8 Try.underlying34 hi0 hz0 hz1 hz2 rfl (by decide) _ _ rfl (hown.alloc _) wr.heap.size n rfl rfl (new_cell_int wr _ 3) (eInt_one _) (by simp; omega) (by unfold maxLen; simp; omega) (by simp; omega) ?_; intro v' w2 hown' hgrow hat)
        have hbl1 : Below w1.heap.size w1 w2 := (hblr.alloc hsr _).grown hgrow (by simp; omega) (fun q hq => (hown.lt q hq).1)
        go_roundw
        case rel => exact ⟨j + 1, by omega, by go_num, by rw [HS.out]; exact hown', hbl1⟩
        case measure => simp [intOf]; omega
    · have hje : j = x.turns.length := by omega
      have htk : (x.turns.set k (t + 1)).take j = x.turns.set k (t + 1) := List.take_of_length_le (by simp; omega)
      rw [htk] at hown
      have hslt := hown.sl eInt_len
      obtain ⟨A5, c5, rfl, _⟩ := hslt.form
      clear htk
      have hk3 : Kept none_ w (wr.setCell ⟨w.heap.size, 1, none⟩ (.slice A5 x.turns.length c5)) := hkr.setCell (by simp) _
      have hBs1 : Blk (wr.setCell ⟨w.heap.size, 1, none⟩ (.slice A5 x.turns.length c5)) w.heap.size 37 #[.slice A x.free.length c, .slice A5 x.turns.length c5, .slice A3 x.taken.length c3] := by
        have := hBr1.set_ 1 (.slice A5 x.turns.length c5)
        simpa using this
      have hBs2 := hBr2.far (p := ⟨w.heap.size, 1, none⟩) (by simp) (.slice A5 x.turns.length c5)
      have hsl5 : Sl (wr.setCell ⟨w.heap.size, 1, none⟩ (.slice A5 x.turns.length c5)) 3 1 eInt (.slice A5 x.turns.length c5) (x.turns.set k (t + 1)) := by
        have := hslt.far (p := ⟨w.heap.size, 1, none⟩) hBr1 (by decide) (.slice A5 x.turns.length c5)
        simpa using this
      have hsz3 : w.heap.size + 1 < (wr.setCell ⟨w.heap.size, 1, none⟩ (.slice A5 x.turns.length c5)).heap.size := by simp; omega
      go_wp2_with fail
      refine (with_any _ x.taken k false _ (hk.kept hk3 Off.none_) (by rw [HL.out]; exact hkl) (by rw [HL.out]; omega)).mono ?_
      clear hslt hown
      rintro e w2 ⟨v', rfl, hs', hb'⟩
      obtain ⟨A6, c6, rfl, hc61, hc62⟩ := hs'.form
      have hk4 : Kept none_ w w2 := hk3.trans (Kept.below hb' rfl)
      have hBt1 := hBs1.kept (F := none_) (Kept.below hb' rfl) (fun h => h)
      have hBt2 := hBs2.kept (F := none_) (Kept.below hb' rfl) (fun h => h)
      have hsl6 := hsl5.below hb'
      have hsz4 := Nat.lt_of_lt_of_le hsz3 hb'.size
      have hsz5 : w.heap.size < w2.heap.size := by omega
      have ho3 : Off w2 3 (fun i => i = w.heap.size ∨ i = w.heap.size + 1) := (Off.one hBt1 (by decide)).or (Off.one hBt2 (by decide))
      have ho4 : Off w2 4 (fun i => i = w.heap.size ∨ i = w.heap.size + 1) := (Off.one hBt1 (by decide)).or (Off.one hBt2 (by decide))
      have HO3 := Lib.hid ho3
      have HO4 := Lib.hid ho4
      clear ho3 ho4
      clear hBs1 hBs2 hBr1 hBr2 hB1 hB2 e0 e1 e2 r0 r1 r2 f1 f2 hsl5 hb' hk3 hsz3 hblr hbl hkr hsr hsz
      have e0 := hBt1.cell 0
      have e1 := hBt1.cell 1
      have e2 := hBt1.cell 2
      have r0 := hBt2.cell 0
      have r1 := hBt2.cell 1
      have r2 := hBt2.cell 2
      have f1 := hBt1.frozen
      have f2 := hBt2.frozen
      simp only [List.getElem?_toArray, List.getElem?_cons_zero, List.getElem?_cons_succ] at e0 e1 e2 r0 r1 r2
      go_wp2_with (at_builtin; refine wpList_append_sl _ rfl _ _ 34 rfl w2.heap.size 3 i0 (.int .i64 0) 1 8 Try.underlying34 hi0 hz0 hz1 hz2 rfl (by decide) eInt_len eInt_one (.slice (some ⟨w2.heap.size, 0, none⟩) 1 1) [(k : Int)] rfl (Own.lit1' (w2.setCell _ _) w2.heap.size w2.heap.size (by simp) (by simp) (k : Int) rfl) _ x.free rfl ((hf.kept (hk4.setCell (by simp) _) Off.none_).alloc _) (by unfold maxLen; simp; omega) (by simp; omega) (by simp) ?_; intro v7 w3 hown7 hgrow7 hat7; have hk7 := Kept.grown (F := fun i => i = w2.heap.size) hgrow7 (fun q hq => .inl (by simpa [Value.ownBlock] using hq.symm)); have hs7 := hown7.sl eInt_len; obtain ⟨A7, c7, rfl, hc71, hc72⟩ := hs7.form; have hBu1 := ((hBt1.set_ 2 (.slice A6 x.taken.length c6)).alloc (.cells #[.int .i64 k] 3)).kept hk7 (by omega); have hBu2 := ((hBt2.far (p := ⟨w.heap.size, 2, none⟩) (by simp) (.slice A6 x.taken.length c6)).alloc (.cells #[.int .i64 k] 3)).kept hk7 (by omega); clear hBt1 hBt2 e0 e1 e2 r0 r1 r2 f1 f2; have e0 := hBu1.cell 0; have e1 := hBu1.cell 1; have e2 := hBu1.cell 2; have r0 := hBu2.cell 0; have r1 := hBu2.cell 1; have r2 := hBu2.cell 2; have f1 := hBu1.frozen; have f2 := hBu2.frozen; have hsz7 : w.heap.size + 1 < w3.heap.size := by (have := hk7.size; simp at this; omega))
      have K1 : Kept (fun i => i = w.heap.size ∨ i = w.heap.size + 1) w2 w3 := (((Kept.refl _ _).setCell (p := ⟨w.heap.size, 2, none⟩) (.inl (.inl rfl)) _).alloc _).trans' hk7 (fun i h => .inr (by omega))
      have ho3' : Off w3 3 (fun i => i = w.heap.size ∨ i = w.heap.size + 1) := (Off.one hBu1 (by decide)).or (Off.one hBu2 (by decide))
      refine bodyPost_ret (v := .tuple #[.agg #[.slice A7 (x.free.length + 1) c7, .slice A5 x.turns.length c5, .slice A6 x.taken.length c6], .bool true]) (by simp [results, Try.results20, go_sem, r0, r1, r2, e0, e1, e2]) rfl ?_
      refine gave_mk hk4 K1 ?_ HO3.out HO4.out ho3' (by simpa using hs7) hsl6 (by simpa using hs') (fun i h => by omega)
      repeat (first | exact Kept.refl _ _ | refine Kept.drew ?_ | refine Kept.setCell ?_ (by simp) _)
end Go.Proofs.Ythdjagmeggckcaa.Ref
