/- report.told: its map, and what it puts into an output. -/
import Derived.Test.YtkfkkihdlkhbnaaDoorIns
import Derived.Test.YtkfkkihdlkhbnaaDoorWord
namespace Go.Proofs.YtkfkkihdlkhbnaaDoor.Str
open Go.RowKit

def tix : List Nat := [4, 8, 12, 16, 20, 24, 28, 32, 36]
def tkeys : List (List UInt8) := [sPacket, sSent, sLeaf, sLost, sBy, sWake, sAt, sTime, sNone]
def tflds : List Nat := [1, 1, 2, 4, 3, 6, 5, 5, 0]
def tkey (i : Nat) : List UInt8 := tkeys.getD (i / 4 - 1) []
def tval (g : Nat) (i : Nat) : Value := .pointer (some ⟨g, tflds.getD (i / 4 - 1) 0, none⟩)
/-- Where a word's number lies. -/
def fieldOf (x : List UInt8) : Option Nat :=
  if x = sPacket then some 1 else if x = sSent then some 1 else if x = sLeaf then some 2 else if x = sLost then some 4 else if x = sBy then some 3
  else if x = sWake then some 6 else if x = sAt then some 5 else if x = sTime then some 5 else if x = sNone then some 0 else none
abbrev kvS : List UInt8 → Value := fun l => Value.string ⟨l.toArray⟩
theorem strK : KeyOk Tryd.prog 9 kvS := KeyOk.str Tryd.underlying9
theorem f_of {f : List UInt8 → Option Value} {g : Nat} (h : FInv tix [] tkey (tval g) f) (x : List UInt8) : f x = (fieldOf x).map fun k => Value.pointer (some ⟨g, k, none⟩) := by
  obtain ⟨h1, h2⟩ := h
  by_cases e : ∃ i ∈ tix, tkey i = x
  · obtain ⟨i, hi, rfl⟩ := e
    rw [h1 i hi (by simp)]
    simp only [tix, List.mem_cons, List.not_mem_nil, or_false] at hi
    rcases hi with rfl | rfl | rfl | rfl | rfl | rfl | rfl | rfl | rfl <;> rfl
  · rw [h2 x (fun i hi he => e ⟨i, hi, he⟩)]
    have hne : ∀ i ∈ tix, x ≠ tkey i := fun i hi he => e ⟨i, hi, he.symm⟩
    simp only [tix, List.mem_cons, List.not_mem_nil, or_false, forall_eq_or_imp, forall_eq] at hne
    obtain ⟨a1, a2, a3, a4, a5, a6, a7, a8, a9⟩ := hne
    rw [fieldOf, if_neg (show x ≠ sPacket from a1), if_neg (show x ≠ sSent from a2), if_neg (show x ≠ sLeaf from a3), if_neg (show x ≠ sLost from a4), if_neg (show x ≠ sBy from a5), if_neg (show x ≠ sWake from a6), if_neg (show x ≠ sAt from a7), if_neg (show x ≠ sTime from a8), if_neg (show x ≠ sNone from a9)]
    rfl
theorem t_inj : ∀ i ∈ tix, ∀ j ∈ tix, tkey i = tkey j → i = j := by decide
theorem field_le {x : List UInt8} {k : Nat} (h : fieldOf x = some k) : k ≤ 6 := by
  unfold fieldOf at h
  repeat' split at h
  all_goals first | (injection h with h; omega) | cases h
def putF (cs : Array Value) (k : Option Nat) (n : Int) : Array Value := match k with | some k => cs.setIfInBounds k (.int .i64 n) | none => cs
def fullT : Array Bool := #[true, true, true, true, true, true, true, true, true, true, true, true, true, true, true, true, true, true, true, true, true, true, true, true, true, true, true, true, true, true, true, true, true, true, true, true, true, false, false]

set_option maxRecDepth 100000 in
set_option maxHeartbeats 4000000 in
theorem told_any (g : Nat) (cs : Array Value) (x : List UInt8) (n : Int) (w : World) (hB : Blk w g 23 cs) (hcs : ∀ k, k ≤ 6 → ∃ z : Int, cs[k]? = some (.int .i64 z)) :
    Calls Tryd.prog 26 #[.pointer (some ⟨g, 0, none⟩), .string ⟨x.toArray⟩, .int .i64 n] w fun e w' => e = .returned (.bool (fieldOf x).isSome) ∧
      Blk w' g 23 (putF cs (fieldOf x) n) ∧ Kept (· = g) w w' := by
  have HB := Lib.hid hB
  clear hB
  have hmm := @run_makeMap Tryd.prog
  go_enter Tryd.func26, Tryd.ntmps26
  go_wp2_with fail
  refine wp_region_any (by kernel_rfl) ?_
  try (change wpAny _ _ _ _ _ _ _ (World.drew _))
  refine wpAny_take (i := 1) (v := ?_) rfl (by kernel_rfl) (by kernel_rfl) (by kernel_rfl) (fun _ _ _ h => h) (Or.inl ⟨by rfl, ?_⟩) ?_
  rotate_left
  · intro w; go_simp; try with_reducible rfl
  refine wpAny_take (i := 2) (v := ?_) rfl (by kernel_rfl) (by kernel_rfl) (by kernel_rfl) (fun _ _ _ h => h) (Or.inl ⟨by rfl, ?_⟩) ?_
  rotate_left
  · intro w; go_simp; try with_reducible rfl
  refine wpAny_take (i := 3) (v := ?_) rfl (by kernel_rfl) (by kernel_rfl) (by kernel_rfl) (fun _ _ _ h => h) (Or.inl ⟨by rfl, ?_⟩) ?_
  rotate_left
  · intro w; go_simp; try with_reducible rfl
  refine wpAny_take (i := 5) (v := ?_) rfl (by kernel_rfl) (by kernel_rfl) (by kernel_rfl) (fun _ _ _ h => h) (Or.inl ⟨by rfl, ?_⟩) ?_
  rotate_left
  · intro w; go_simp; try with_reducible rfl
  refine wpAny_take (i := 6) (v := ?_) rfl (by kernel_rfl) (by kernel_rfl) (by kernel_rfl) (fun _ _ _ h => h) (Or.inl ⟨by rfl, ?_⟩) ?_
  rotate_left
  · intro w; go_simp; try with_reducible rfl
  refine wpAny_take (i := 7) (v := ?_) rfl (by kernel_rfl) (by kernel_rfl) (by kernel_rfl) (fun _ _ _ h => h) (Or.inl ⟨by rfl, ?_⟩) ?_
  rotate_left
  · intro w; go_simp; try with_reducible rfl
  refine wpAny_take (i := 9) (v := ?_) rfl (by kernel_rfl) (by kernel_rfl) (by kernel_rfl) (fun _ _ _ h => h) (Or.inl ⟨by rfl, ?_⟩) ?_
  rotate_left
  · intro w; go_simp; try with_reducible rfl
  refine wpAny_take (i := 10) (v := ?_) rfl (by kernel_rfl) (by kernel_rfl) (by kernel_rfl) (fun _ _ _ h => h) (Or.inl ⟨by rfl, ?_⟩) ?_
  rotate_left
  · intro w; go_simp; try with_reducible rfl
  refine wpAny_take (i := 11) (v := ?_) rfl (by kernel_rfl) (by kernel_rfl) (by kernel_rfl) (fun _ _ _ h => h) (Or.inl ⟨by rfl, ?_⟩) ?_
  rotate_left
  · intro w; go_simp; try with_reducible rfl
  refine wpAny_take (i := 13) (v := ?_) rfl (by kernel_rfl) (by kernel_rfl) (by kernel_rfl) (fun _ _ _ h => h) (Or.inl ⟨by rfl, ?_⟩) ?_
  rotate_left
  · intro w; go_simp; try with_reducible rfl
  refine wpAny_take (i := 14) (v := ?_) rfl (by kernel_rfl) (by kernel_rfl) (by kernel_rfl) (fun _ _ _ h => h) (Or.inl ⟨by rfl, ?_⟩) ?_
  rotate_left
  · intro w; go_simp; try with_reducible rfl
  refine wpAny_take (i := 15) (v := ?_) rfl (by kernel_rfl) (by kernel_rfl) (by kernel_rfl) (fun _ _ _ h => h) (Or.inl ⟨by rfl, ?_⟩) ?_
  rotate_left
  · intro w; go_simp; try with_reducible rfl
  refine wpAny_take (i := 17) (v := ?_) rfl (by kernel_rfl) (by kernel_rfl) (by kernel_rfl) (fun _ _ _ h => h) (Or.inl ⟨by rfl, ?_⟩) ?_
  rotate_left
  · intro w; go_simp; try with_reducible rfl
  refine wpAny_take (i := 18) (v := ?_) rfl (by kernel_rfl) (by kernel_rfl) (by kernel_rfl) (fun _ _ _ h => h) (Or.inl ⟨by rfl, ?_⟩) ?_
  rotate_left
  · intro w; go_simp; try with_reducible rfl
  refine wpAny_take (i := 19) (v := ?_) rfl (by kernel_rfl) (by kernel_rfl) (by kernel_rfl) (fun _ _ _ h => h) (Or.inl ⟨by rfl, ?_⟩) ?_
  rotate_left
  · intro w; go_simp; try with_reducible rfl
  refine wpAny_take (i := 21) (v := ?_) rfl (by kernel_rfl) (by kernel_rfl) (by kernel_rfl) (fun _ _ _ h => h) (Or.inl ⟨by rfl, ?_⟩) ?_
  rotate_left
  · intro w; go_simp; try with_reducible rfl
  refine wpAny_take (i := 22) (v := ?_) rfl (by kernel_rfl) (by kernel_rfl) (by kernel_rfl) (fun _ _ _ h => h) (Or.inl ⟨by rfl, ?_⟩) ?_
  rotate_left
  · intro w; go_simp; try with_reducible rfl
  refine wpAny_take (i := 23) (v := ?_) rfl (by kernel_rfl) (by kernel_rfl) (by kernel_rfl) (fun _ _ _ h => h) (Or.inl ⟨by rfl, ?_⟩) ?_
  rotate_left
  · intro w; go_simp; try with_reducible rfl
  refine wpAny_take (i := 25) (v := ?_) rfl (by kernel_rfl) (by kernel_rfl) (by kernel_rfl) (fun _ _ _ h => h) (Or.inl ⟨by rfl, ?_⟩) ?_
  rotate_left
  · intro w; go_simp; try with_reducible rfl
  refine wpAny_take (i := 26) (v := ?_) rfl (by kernel_rfl) (by kernel_rfl) (by kernel_rfl) (fun _ _ _ h => h) (Or.inl ⟨by rfl, ?_⟩) ?_
  rotate_left
  · intro w; go_simp; try with_reducible rfl
  refine wpAny_take (i := 27) (v := ?_) rfl (by kernel_rfl) (by kernel_rfl) (by kernel_rfl) (fun _ _ _ h => h) (Or.inl ⟨by rfl, ?_⟩) ?_
  rotate_left
  · intro w; go_simp; try with_reducible rfl
  refine wpAny_take (i := 29) (v := ?_) rfl (by kernel_rfl) (by kernel_rfl) (by kernel_rfl) (fun _ _ _ h => h) (Or.inl ⟨by rfl, ?_⟩) ?_
  rotate_left
  · intro w; go_simp; try with_reducible rfl
  refine wpAny_take (i := 30) (v := ?_) rfl (by kernel_rfl) (by kernel_rfl) (by kernel_rfl) (fun _ _ _ h => h) (Or.inl ⟨by rfl, ?_⟩) ?_
  rotate_left
  · intro w; go_simp; try with_reducible rfl
  refine wpAny_take (i := 31) (v := ?_) rfl (by kernel_rfl) (by kernel_rfl) (by kernel_rfl) (fun _ _ _ h => h) (Or.inl ⟨by rfl, ?_⟩) ?_
  rotate_left
  · intro w; go_simp; try with_reducible rfl
  refine wpAny_take (i := 33) (v := ?_) rfl (by kernel_rfl) (by kernel_rfl) (by kernel_rfl) (fun _ _ _ h => h) (Or.inl ⟨by rfl, ?_⟩) ?_
  rotate_left
  · intro w; go_simp; try with_reducible rfl
  refine wpAny_take (i := 34) (v := ?_) rfl (by kernel_rfl) (by kernel_rfl) (by kernel_rfl) (fun _ _ _ h => h) (Or.inl ⟨by rfl, ?_⟩) ?_
  rotate_left
  · intro w; go_simp; try with_reducible rfl
  refine wpAny_take (i := 35) (v := ?_) rfl (by kernel_rfl) (by kernel_rfl) (by kernel_rfl) (fun _ _ _ h => h) (Or.inl ⟨by rfl, ?_⟩) ?_
  rotate_left
  · intro w; go_simp; try with_reducible rfl

  refine wpAny_ready (rs := [0]) (by kernel_rfl) (by simp) ?_
  refine AllReady.cons rfl (fun K hK => ?_) AllReady.nil
  go_simp
  refine hK _ _ ?_
  clear hK K
  refine wpAny_ins (P := Tryd.prog) (fuel := 2) (w0 := w.drew.alloc (.map #[] 0)) (r := w.heap.size) (full := fullT) (ix := tix) strK Tryd.underlying69 tkey (tval g) t_inj ?_ (by kernel_rfl) ?_ 9 tix _ 0 _ _ rfl (by decide) (fun _ h => h) ?_ (MapIs.made kvS w.drew) (Kept.refl _ _) ⟨fun i h h' => absurd h h', fun _ _ => rfl⟩
  · intro i hi
    simp only [tix, List.mem_cons, List.not_mem_nil, or_false] at hi
    rcases hi with rfl | rfl | rfl | rfl | rfl | rfl | rfl | rfl | rfl <;> exact ⟨_, _, _, _, rfl, rfl, rfl, rfl, rfl, rfl, rfl⟩
  · intro W f c hM hk hF
    have hfx := f_of hF x
    clear hF
    refine wpAny_take (i := 37) (v := ?_) rfl (by kernel_rfl) (by kernel_rfl) (by kernel_rfl) (fun _ _ _ h => h) (Or.inl ⟨by rfl, ?_⟩) ?_
    rotate_left
    · intro w; go_simp; try with_reducible rfl
    refine wpAny_take (i := 38) (v := ?_) rfl (by kernel_rfl) (by kernel_rfl) (by kernel_rfl) (fun _ _ _ h => h) (Or.inl ⟨by rfl, ?_⟩) ?_
    rotate_left
    · intro w; go_simp; try with_reducible rfl
    refine wpAny_done (by kernel_rfl) ?_ _
    have hlk := hM.run_lookup strK Tryd.underlying69 (z := .pointer none) (by rfl) x true
    rw [hfx] at hlk
    clear hfx
    have k1 : Kept (fun j => j = g) w W := by
      have := ((Kept.refl (fun j => j = g) w).drew.alloc (.map #[] 0)).trans' hk (fun j hj => .inr (by rw [hj]; exact Nat.le_refl _))
      exact this
    have hlt := HB.out.lt
    have b1 : Blk W g 23 cs := HB.out.kept ((Kept.refl (fun j => j = w.heap.size) w).drew.alloc (.map #[] 0) |>.trans hk) (by intro e; omega)
    clear hM hk
    go_simp
    cases hfo : fieldOf x with
    | none =>
      have hl : (Instr.lookup 69 (.map (some w.heap.size)) (.string ⟨x.toArray⟩) true).run Tryd.prog W = .ok (.tuple #[.pointer none, .bool false]) W := by rw [hlk, hfo]; rfl
      have HR : Hid (Blk W g 23 cs ∧ Kept (· = g) w W) := Lib.hid ⟨b1, k1⟩
      have HFO := Lib.hid hfo
      clear hlk b1 k1 hmm hfo
      go_wp2_with fail
      go_ret
      rw [HFO.out]
      exact ⟨rfl, HR.out⟩
    | some k =>
      have hl : (Instr.lookup 69 (.map (some w.heap.size)) (.string ⟨x.toArray⟩) true).run Tryd.prog W = .ok (.tuple #[.pointer (some ⟨g, k, none⟩), .bool true]) W := by rw [hlk, hfo]; rfl
      obtain ⟨z, hz⟩ := hcs k (field_le hfo)
      have q0 : W.cell? ⟨g, k, none⟩ = some (.int .i64 z) := by rw [b1.cell]; exact hz
      have fr := b1.frozen
      have HR : Hid (Blk (W.setCell ⟨g, k, none⟩ (.int .i64 n)) g 23 (cs.setIfInBounds k (.int .i64 n)) ∧ Kept (· = g) w (W.setCell ⟨g, k, none⟩ (.int .i64 n))) :=
        Lib.hid ⟨b1.set_ _ _, Kept.setCell (F := fun j => j = g) (p := ⟨g, k, none⟩) k1 (.inl rfl) _⟩
      have HFO := Lib.hid hfo
      clear hlk b1 k1 hmm hz hfo
      go_wp2_with fail
      go_ret
      rw [HFO.out]
      exact ⟨rfl, HR.out⟩
  · refine ⟨by kernel_rfl, ?_⟩
    decide +kernel

def setF (o : Ou) (k : Nat) (n : Int) : Ou :=
  match k with
  | 0 => { o with kind := n } | 1 => { o with seq := n } | 2 => { o with leaf := n } | 3 => { o with lender := n } | 4 => { o with reason := n } | 5 => { o with now := n } | 6 => { o with wake := n } | _ => o
theorem setF_cs (o : Ou) (k : Nat) (n : Int) (hk : k ≤ 6) : (setF o k n).cs = o.cs.setIfInBounds k (.int .i64 n) := by
  match k, hk with
  | 0, _ => rfl
  | 1, _ => rfl
  | 2, _ => rfl
  | 3, _ => rfl
  | 4, _ => rfl
  | 5, _ => rfl
  | 6, _ => rfl
def toldO (o : Ou) (x : List UInt8) (n : Int) : Ou := match fieldOf x with | some k => setF o k n | none => o
theorem told_ou (g : Nat) (o : Ou) (x : List UInt8) (n : Int) (w : World) (hB : Blk w g 23 o.cs) :
    Calls Tryd.prog 26 #[.pointer (some ⟨g, 0, none⟩), .string ⟨x.toArray⟩, .int .i64 n] w fun e w' => e = .returned (.bool (fieldOf x).isSome) ∧ Blk w' g 23 (toldO o x n).cs ∧ Kept (· = g) w w' := by
  refine (told_any g o.cs x n w hB ?_).mono ?_
  · intro k hk
    match k, hk with
    | 0, _ => exact ⟨_, rfl⟩
    | 1, _ => exact ⟨_, rfl⟩
    | 2, _ => exact ⟨_, rfl⟩
    | 3, _ => exact ⟨_, rfl⟩
    | 4, _ => exact ⟨_, rfl⟩
    | 5, _ => exact ⟨_, rfl⟩
    | 6, _ => exact ⟨_, rfl⟩
  · rintro e w' ⟨he, hb, hk⟩
    refine ⟨he, ?_, hk⟩
    unfold toldO
    cases hfo : fieldOf x with
    | none => rw [hfo] at hb; exact hb
    | some k => rw [hfo] at hb; show Blk w' g 23 (setF o k n).cs; rw [setF_cs o k n (field_le hfo)]; exact hb

def kindOf (x : List UInt8) : Int := if x = sPacket then 1 else if x = sSent then 2 else if x = sTime then 3 else if x = sReply then 4 else 0
set_option maxRecDepth 100000 in
theorem kind_any (s : ByteArray) (w : World) : Calls Tryd.prog 25 #[.string s] w fun e w' => e = .returned (.int .i64 (kindOf s.data.toList)) ∧ w = w' := by
  have T : ∀ l : List UInt8, (s.toList == l) = decide (s.data.toList = l) := fun l => by
    rw [Lib.toList_data]
    by_cases h : s.data.toList = l
    · simp [h]
    · simp [h]
  have t1 : (s.toList == [112, 97, 99, 107, 101, 116]) = decide (s.data.toList = sPacket) := T sPacket
  have t2 : (s.toList == [115, 101, 110, 116]) = decide (s.data.toList = sSent) := T sSent
  have t3 : (s.toList == [116, 105, 109, 101]) = decide (s.data.toList = sTime) := T sTime
  have t4 : (s.toList == [114, 101, 112, 108, 121]) = decide (s.data.toList = sReply) := T sReply
  clear T
  generalize s.data.toList = x at *
  by_cases h1 : x = sPacket
  · have e : kindOf x = 1 := by rw [h1]; rfl
    rw [e]
    rw [decide_eq_true h1] at t1
    clear e h1 t2 t3 t4
    go_enter Tryd.func25, Tryd.ntmps25
    go_wp2_with fail
    go_ret
    exact ⟨rfl, rfl⟩
  rw [decide_eq_false h1] at t1
  by_cases h2 : x = sSent
  · have e : kindOf x = 2 := by rw [h2]; rfl
    rw [e]
    rw [decide_eq_true h2] at t2
    clear e h2 t3 t4 h1
    go_enter Tryd.func25, Tryd.ntmps25
    go_wp2_with fail
    go_ret
    exact ⟨rfl, rfl⟩
  rw [decide_eq_false h2] at t2
  by_cases h3 : x = sTime
  · have e : kindOf x = 3 := by rw [h3]; rfl
    rw [e]
    rw [decide_eq_true h3] at t3
    clear e h3 t4 h1 h2
    go_enter Tryd.func25, Tryd.ntmps25
    go_wp2_with fail
    go_ret
    exact ⟨rfl, rfl⟩
  rw [decide_eq_false h3] at t3
  by_cases h4 : x = sReply
  · have e : kindOf x = 4 := by rw [h4]; rfl
    rw [e]
    rw [decide_eq_true h4] at t4
    clear e h4 h1 h2 h3
    go_enter Tryd.func25, Tryd.ntmps25
    go_wp2_with fail
    go_ret
    exact ⟨rfl, rfl⟩
  rw [decide_eq_false h4] at t4
  have e : kindOf x = 0 := by unfold kindOf; rw [if_neg h1, if_neg h2, if_neg h3, if_neg h4]
  rw [e]
  clear e h1 h2 h3 h4
  go_enter Tryd.func25, Tryd.ntmps25
  go_wp2_with fail
  go_ret
  exact ⟨rfl, rfl⟩
end Go.Proofs.YtkfkkihdlkhbnaaDoor.Str
