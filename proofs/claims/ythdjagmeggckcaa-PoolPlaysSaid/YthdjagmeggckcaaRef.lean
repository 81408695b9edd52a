/- The reference's slab: contracts of with, Take, Live, Give, New. -/
import Derived.Test.YthdjagmeggckcaaRows
import Derived.Test.YthdjagmeggckcaaSln
import Derived.WalkLawsBesides
import Derived.BigQuiet
import Derived.Deep.QuietTactic
import Derived.Deep.RegionHeld3
namespace Go.Proofs.Ythdjagmeggckcaa.Ref
open Go.RowKit

theorem info3 : (Try.prog.info? 3).map (fun i => (i.zero, i.size, i.bytes)) = some (some (.int .i64 0), 1, 8) := by kernel_rfl
theorem info4 : (Try.prog.info? 4).map (fun i => (i.zero, i.size, i.bytes)) = some (some (.bool false), 1, 1) := by kernel_rfl

/-- A slice of new memory that holds l. -/
def New1 {α : Type} (w : World) (t : TypeId) (enc : α → List Value) (l : List α) (e : Ending) (w' : World) : Prop :=
  ∃ v, e = .returned v ∧ Sl w' t 1 enc v l ∧ Below w.heap.size w w'

theorem take_snoc {α : Type} {l : List α} {k : Nat} {x : α} (h : l[k]? = some x) : l.take (k + 1) = l.take k ++ [x] := by
  rw [List.take_add_one, h]; rfl

set_option maxHeartbeats 1000000 in
theorem with_any (v : Value) (l : List Bool) (k : Nat) (b : Bool) (w : World) (hs : Sl w 4 1 eBool v l) (hk : k < l.length) (hl : l.length ≤ 65536) :
    Calls Try.prog 42 #[v, .int .i64 k, .bool b] w (New1 w 4 eBool (l.set k b)) := by
  obtain ⟨i0, hi0, hz0, hz1, hz2⟩ := info_parts info4
  obtain ⟨A, c, rfl, hc1, hc2⟩ := hs.form
  go_enter Try.func42, Try.ntmps42
  go_wp2
  go_loopw [7, 8] (fun v i wr => ∃ j : Nat, j ≤ l.length ∧ i = .int .i64 j ∧ Own wr w.heap.size 4 1 eBool v ((l.set k b).take j) ∧ Below w.heap.size w wr) (fun _ i _ => l.length - (intOf i).toNat)
  case atStart => exact ⟨0, by omega, rfl, Own.nil w _, Below.refl _ _⟩
  case round =>
    obtain ⟨j, hj, rfl, hown, hbl⟩ := hrel
    rename Value => vo
    by_cases hlt : j < l.length
    · obtain ⟨x, hx⟩ : ∃ x, l[j]? = some x := ⟨l[j]'hlt, by simp⟩
      obtain ⟨bb, off, rfl, hbb, hcell⟩ := (hs.below hbl).at1 hx rfl
      have hj0 : (0 : Int) ≤ (j : Int) := by omega
      have hj1 : (j : Int) < (l.length : Int) := by omega
      have hsz := hbl.size
      by_cases he : k = j
      · subst he
        have he' : ((k : Int) == (k : Int)) = true := by simp
        have hsn : (l.set k b).take (k + 1) = (l.set k b).take k ++ [b] := take_snoc (by rw [List.getElem?_set_self hlt])
        have HS := Lib.hid hsn
        clear hsn hx
        go_wp2_with (at_builtin; refine wpList_append_one _ rfl _ _ 35 rfl w.heap.size 4 i0 (.bool false) 1 1 Try.underlying35 hi0 hz0 hz1 hz2 rfl (by decide) _ _ rfl (hown.alloc _) wr.heap.size b rfl rfl (new_cell_bool wr _ 4) (eBool_one _) (by simp; omega) (by unfold maxLen; simp; omega) (by simp; omega) ?_; intro v' w1 hown' hgrow hat)
        have hbl1 : Below w.heap.size w w1 := (hbl.alloc hsz _).grown hgrow (by simp; omega) (fun q hq => (hown.lt q hq).1)
        go_roundw
        case rel => exact ⟨k + 1, by omega, by go_num, by rw [HS.out]; exact hown', hbl1⟩
        case measure => simp [intOf]; omega
      · have he' : ((j : Int) == (k : Int)) = false := by simp; omega
        have hsn : (l.set k b).take (j + 1) = (l.set k b).take j ++ [x] := take_snoc (by rw [List.getElem?_set_ne he]; exact hx)
        have HS := Lib.hid hsn
        clear hsn hx he
        go_wp2_with (at_builtin; refine wpList_append_one _ rfl _ _ 35 rfl w.heap.size 4 i0 (.bool false) 1 1 Try.underlying35 hi0 hz0 hz1 hz2 rfl (by decide) _ _ rfl (hown.alloc _) wr.heap.size x rfl rfl (new_cell_bool wr _ 4) (eBool_one _) (by simp; omega) (by unfold maxLen; simp; omega) (by simp; omega) ?_; intro v' w1 hown' hgrow hat)
        have hbl1 : Below w.heap.size w w1 := (hbl.alloc hsz _).grown hgrow (by simp; omega) (fun q hq => (hown.lt q hq).1)
        go_roundw
        case rel => exact ⟨j + 1, by omega, by go_num, by rw [HS.out]; exact hown', hbl1⟩
        case measure => simp [intOf]; omega
    · have hje : j = l.length := by omega
      have htk : (l.set k b).take j = l.set k b := List.take_of_length_le (by simp; omega)
      go_wp2_with fail
      go_ret
      rw [htk] at hown
      exact ⟨_, rfl, hown.sl eBool_len, hbl⟩

structure RS where
  free : List Int
  turns : List Int
  taken : List Bool

/-- The reference's slab as a value. -/
def Is (w : World) (v : Value) (x : RS) : Prop :=
  ∃ f t k, v = .agg #[f, t, k] ∧ Sl w 3 1 eInt f x.free ∧ Sl w 3 1 eInt t x.turns ∧ Sl w 4 1 eBool k x.taken
theorem Is.kept {w w' : World} {v : Value} {x : RS} {F : Nat → Prop} (h : Is w v x) (hk : Kept F w w') (h3 : Off w 3 F) (h4 : Off w 4 F) : Is w' v x := by
  obtain ⟨f, t, k, e, hf, ht, hk'⟩ := h
  exact ⟨f, t, k, e, hf.kept hk h3, ht.kept hk h3, hk'.kept hk h4⟩

def Took (w : World) (x : RS) (at_ turn : Int) (ok : Bool) (e : Ending) (w' : World) : Prop :=
  ∃ v, e = .returned (.tuple #[v, .int .i64 at_, .int .i64 turn, .bool ok]) ∧ Is w' v x ∧ Below w.heap.size w w'

theorem took_mk {w w1 W : World} {F : Nat → Prop} {x : RS} {f t k : Value} {rest : List Int} {tk : List Bool} {a turn : Int} {ok : Bool} (hkw : Kept F w w1) (h3 : Off w 3 F) (h4 : Off w1 4 F)
    (hf : Sl w 3 1 eInt f rest) (ht : Sl w 3 1 eInt t x.turns) (hk : Sl w1 4 1 eBool k tk) (hbl : Below w.heap.size w w1) (hK : Kept F w1 W) (hF : ∀ i, F i → w.heap.size ≤ i) :
    Took w { x with free := rest, taken := tk } a turn ok (.returned (.tuple #[.agg #[f, t, k], .int .i64 a, .int .i64 turn, .bool ok])) W :=
  ⟨_, rfl, ⟨f, t, k, rfl, hf.kept (hkw.trans hK) h3, ht.kept (hkw.trans hK) h3, hk.kept hK h4⟩, (hkw.trans hK).toBelow hF (Nat.le_refl _)⟩

theorem take_none (v : Value) (x : RS) (w : World) (h : Is w v x) (h0 : x.free = []) : Calls Try.prog 19 #[v] w (Took w x 0 0 false) := by
  obtain ⟨f, t, k, rfl, hf, ht, hk⟩ := h
  obtain ⟨A, c, rfl, _⟩ := hf.form
  obtain ⟨A2, c2, rfl, _⟩ := ht.form
  obtain ⟨A3, c3, rfl, _⟩ := hk.form
  have hlen : x.free.length = 0 := by rw [h0]; rfl
  have hb : ((x.free.length : Int) == 0) = true := by simp [hlen]
  have H0 := Lib.hid h0
  have HL := Lib.hid hlen
  clear h0 hlen
  go_enter Try.func19, Try.ntmps19
  go_wp2
  refine bodyPost_ret (v := .tuple #[.agg #[.slice A x.free.length c, .slice A2 x.turns.length c2, .slice A3 x.taken.length c3], .int .i64 0, .int .i64 0, .bool false]) (by simp [results, Try.results19, go_sem]) rfl ⟨_, rfl, ⟨_, _, _, rfl, ?_, ?_, ?_⟩, ?_⟩
  · exact (hf.alloc _).alloc _
  · exact (ht.alloc _).alloc _
  · exact (hk.alloc _).alloc _
  · exact ((Below.refl _ _).alloc (Nat.le_refl _) _).alloc (by simp) _

set_option maxHeartbeats 1000000 in
theorem take_some (v : Value) (x : RS) (k : Nat) (rest : List Int) (turn : Int) (w : World) (h : Is w v x) (h0 : x.free = (k : Int) :: rest) (ht0 : x.turns[k]? = some turn) (hk0 : k < x.taken.length) (hl : x.taken.length ≤ 65536) :
    Calls Try.prog 19 #[v] w (Took w { x with free := rest, taken := x.taken.set k true } k turn true) := by
  obtain ⟨f, t, kk, rfl, hf, ht, hk⟩ := h
  obtain ⟨A, c, rfl, hc1, hc2⟩ := hf.form
  obtain ⟨A2, c2, rfl, _⟩ := ht.form
  obtain ⟨A3, c3, rfl, _⟩ := hk.form
  obtain ⟨b, off, rfl, hb, hcell⟩ := hf.at1 (k := 0) (x := (k : Int)) (by rw [h0]; rfl) rfl
  obtain ⟨b2, off2, rfl, hb2, hcell2⟩ := ht.at1 ht0 rfl
  rw [Nat.add_zero] at hcell
  have hd := hf.drop 1 (by rw [h0]; simp)
  have hlen1 : 1 ≤ x.free.length := by rw [h0]; simp
  have hne0 : ((x.free.length : Int) == 0) = false := beq_eq_false_iff_ne.2 (by omega)
  have hgt : (0 : Int) < (x.free.length : Int) := by omega
  have hge : (1 : Int) ≤ (x.free.length : Int) := by omega
  have hcc : (x.free.length : Int) ≤ (c : Int) := by omega
  have htl : (k : Int) < (x.turns.length : Int) := by have := (List.getElem?_eq_some_iff.1 ht0).1; omega
  have hk00 : (0 : Int) ≤ (k : Int) := by omega
  have H0 := Lib.hid h0
  have hfull : ∃ (A' : Option Addr) (c' : Nat), Sl w 3 1 eInt (.slice A' (x.free.length - 1) c') rest ∧ (if c = 1 then some (⟨b, off, none⟩ : Addr) else some ⟨b, off + 1, none⟩) = A' ∧ c - 1 = c' := by
    refine ⟨_, _, ?_, rfl, rfl⟩
    rw [h0] at hd ⊢
    by_cases hc1 : c = 1
    · simpa [hc1] using hd
    · simpa [hc1, Addr.add] using hd
  unfold maxLen at hc2
  clear h0 hd ht0
  by_cases hc1' : c = 1
  all_goals
    obtain ⟨A', c', hsl, hA', hc'⟩ := hfull
    first
    | rw [if_pos hc1'] at hA'
      subst hc1'
    | rw [if_neg hc1'] at hA'
    subst hA' hc'
    have HSL := Lib.hid hsl
    clear hsl
    go_enter Try.func19, Try.ntmps19
    go_wp2_with fail
    refine (with_any _ x.taken k true _ ((hk.alloc _).alloc _) hk0 hl).mono ?_
    rintro e w1 ⟨v', rfl, hs', hb'⟩
    obtain ⟨A4, c4, rfl, hc41, hc42⟩ := hs'.form
    obtain ⟨hB1, hB2, hsz, hbl⟩ := two_new hb'
    have e0 := hB1.cell 0
    have e1 := hB1.cell 1
    have e2 := hB1.cell 2
    have r0 := hB2.cell 0
    have r1 := hB2.cell 1
    have r2 := hB2.cell 2
    have f1 := hB1.frozen
    have f2 := hB2.frozen
    have hcell3 := (hbl.cell (p := ⟨b2, off2 + k, none⟩) hb2).trans hcell2
    simp only [List.getElem?_toArray, List.getElem?_cons_zero, List.getElem?_cons_succ] at e0 e1 e2 r0 r1 r2
    clear hb' hcell hcell2
    go_wp2_with fail
    go_region
    all_goals go_wp2_with fail
  · have hkw : Kept (fun i => i = w.heap.size ∨ i = w.heap.size + 1) w w1 := Kept.below hbl rfl
    have ho3 : Off w 3 (fun i => i = w.heap.size ∨ i = w.heap.size + 1) := fun q cs fr hq => by
      have := (Array.getElem?_eq_some_iff.1 hq).1
      omega
    have ho4 : Off w1 4 (fun i => i = w.heap.size ∨ i = w.heap.size + 1) := (Off.one hB1 (by decide)).or (Off.one hB2 (by decide))
    refine bodyPost_ret (v := .tuple #[.agg #[.slice (some ⟨b, off, none⟩) 0 0, .slice (some ⟨b2, off2, none⟩) x.turns.length c2, .slice A4 x.taken.length c4], .int .i64 k, .int .i64 turn, .bool true]) (by simp [results, Try.results19, go_sem, r0, r1, r2, e0, e1, e2]) rfl ?_
    rw [List.length_set] at hs'
    refine took_mk hkw ho3 ho4 (by have := HSL.out; rwa [show x.free.length - 1 = 0 by omega] at this) ht hs' hbl ?_ (fun i h => by omega)
    repeat (first | exact Kept.refl _ _ | refine Kept.drew ?_ | refine Kept.setCell ?_ (by simp) _)
  · have hkw : Kept (fun i => i = w.heap.size ∨ i = w.heap.size + 1) w w1 := Kept.below hbl rfl
    have ho3 : Off w 3 (fun i => i = w.heap.size ∨ i = w.heap.size + 1) := fun q cs fr hq => by
      have := (Array.getElem?_eq_some_iff.1 hq).1
      omega
    have ho4 : Off w1 4 (fun i => i = w.heap.size ∨ i = w.heap.size + 1) := (Off.one hB1 (by decide)).or (Off.one hB2 (by decide))
    refine bodyPost_ret (v := .tuple #[.agg #[.slice (some ⟨b, off + 1, none⟩) (x.free.length - 1) (c - 1), .slice (some ⟨b2, off2, none⟩) x.turns.length c2, .slice A4 x.taken.length c4], .int .i64 k, .int .i64 turn, .bool true]) (by simp [results, Try.results19, go_sem, r0, r1, r2, e0, e1, e2]) rfl ?_
    rw [List.length_set] at hs'
    refine took_mk hkw ho3 ho4 HSL.out ht hs' hbl ?_ (fun i h => by omega)
    repeat (first | exact Kept.refl _ _ | refine Kept.drew ?_ | refine Kept.setCell ?_ (by simp) _)
end Go.Proofs.Ythdjagmeggckcaa.Ref
