/- The pool: contracts of Get and Free. -/
import Derived.Test.YthdjagmeggckcaaPoolB
namespace Go.Proofs.Ythdjagmeggckcaa.Pool
open Go.RowKit

set_option maxHeartbeats 1000000 in
theorem get_nil (s t : Int) (w : World) : Calls Try.prog 34 #[.pointer none, .agg #[.int .i64 s, .int .i64 t]] w fun e w' => e = .returned (.tuple #[Pk.zero.v, .bool false]) ∧ Below w.heap.size w w' := by
  go_enter Try.func34, Try.ntmps34
  go_wp2_with fail
  go_region
  all_goals go_wp2_with fail
  all_goals
    exact bodyPost_ret (v := .tuple #[Pk.zero.v, .bool false]) (by simp [results, Try.results34, go_sem, Pk.v, Pk.cs, Pk.zero]) rfl ⟨rfl, by
      repeat (first | exact Below.refl _ _ | refine Below.setCell ?_ (by simp) _ | refine Below.drew ?_ | refine Below.alloc ?_ (by simp) _)⟩

/-- Memory once Get's parameter and result are laid. -/
theorem get_mem {a p g r : Nat} {y : Pl} {s t : Int} {w W : World} {cs : Array Value} (h : Is w a p g r y) (hW : (w.alloc (.cells #[.int .i64 s, .int .i64 t] 40)).alloc (.cells cs 70) = W) :
    Is W a p g r y ∧ Blk W w.heap.size 40 #[.int .i64 s, .int .i64 t] ∧ Blk W (w.heap.size + 1) 70 cs ∧ W.heap.size = w.heap.size + 2 ∧ Below w.heap.size w W := by
  subst hW
  refine ⟨h.ext (((Kept.refl _ _).alloc _).alloc _), (Blk.new w 40 _).alloc _, ?_, by simp, ((Below.refl _ _).alloc (Nat.le_refl _) _).alloc (by simp) _⟩
  have := Blk.new (w.alloc (.cells #[.int .i64 s, .int .i64 t] 40)) 70 cs
  simpa using this

/-- The ten cells of a packet, stored one behind the other. -/
@[reducible] def set10 (w : World) (g : Nat) (u0 u1 u2 u3 u4 u5 u6 u7 u8 u9 : Value) : World := ((((((((((w.setCell ⟨g, 0, none⟩ u0).setCell ⟨g, 1, none⟩ u1).setCell ⟨g, 2, none⟩ u2).setCell ⟨g, 3, none⟩ u3).setCell ⟨g, 4, none⟩ u4).setCell ⟨g, 5, none⟩ u5).setCell ⟨g, 6, none⟩ u6).setCell ⟨g, 7, none⟩ u7).setCell ⟨g, 8, none⟩ u8).setCell ⟨g, 9, none⟩ u9)
theorem Below.set10 {B : Nat} {a w : World} (h : Below B a w) {g : Nat} (hg : B ≤ g) (u0 u1 u2 u3 u4 u5 u6 u7 u8 u9 : Value) : Below B a (set10 w g u0 u1 u2 u3 u4 u5 u6 u7 u8 u9) :=
  ((((((((((h.setCell hg u0).setCell hg u1).setCell hg u2).setCell hg u3).setCell hg u4).setCell hg u5).setCell hg u6).setCell hg u7).setCell hg u8).setCell hg u9)
theorem Kept.set10 {F : Nat → Prop} {a w : World} (h : Kept F a w) {g : Nat} (hg : F g ∨ a.heap.size ≤ g) (u0 u1 u2 u3 u4 u5 u6 u7 u8 u9 : Value) : Kept F a (set10 w g u0 u1 u2 u3 u4 u5 u6 u7 u8 u9) :=
  ((((((((((h.setCell hg u0).setCell hg u1).setCell hg u2).setCell hg u3).setCell hg u4).setCell hg u5).setCell hg u6).setCell hg u7).setCell hg u8).setCell hg u9)

set_option maxHeartbeats 1000000 in
theorem get_no (a p g r : Nat) (y : Pl) (s t : Int) (w : World) (h : Is w a p g r y) (hlen : y.s.slots.length ≤ 4096) (hl : Slab.live y.s s t = false) :
    Calls Try.prog 34 #[.pointer (some ⟨a, 0, none⟩), .agg #[.int .i64 s, .int .i64 t]] w fun e w' => e = .returned (.tuple #[Pk.zero.v, .bool false]) ∧ Below w.heap.size w w' := by
  have H := Lib.hid h
  have HL := Lib.hid hl
  clear h hl
  go_enter Try.func34, Try.ntmps34
  go_wp2_with fail
  generalize hW : World.alloc (World.alloc w _) _ = W
  obtain ⟨hI, hB, hC, hsz, hbl⟩ := get_mem H.out hW
  have K : ∀ z : Ext W, Calls Try.prog 25 #[.pointer (some ⟨p, 0, none⟩), .agg #[.int .i64 s, .int .i64 t]] z.w fun e w' => e = .returned (.bool false) ∧ Below z.w.heap.size z.w w' := fun z => by
    have := Slab.live_any p g y.s s t z.w (hI.ext z.kept).2.1 hlen
    rwa [HL.out] at this
  have HK := Lib.hid K
  have c0 := hI.1.cell 0
  have c1 := hB.cell 0
  have c2 := hB.cell 1
  simp at c0 c1 c2
  have z0 := fun z => Ext.cell c0 z
  have z1 := fun z => Ext.cell c1 z
  have z2 := fun z => Ext.cell c2 z
  have HC := Lib.hid hC
  clear K hI hB hC hW c0 c1 c2
  refine wp_region_ext (by kernel_rfl) (by kernel_rfl) ?_
  repeat (go_big_quiet_step ((first | (go_at_call 25; exact ext_call (HK.out _)))))
  refine wpQuiet_nil ?_
  intro _ hw'
  obtain ⟨z, rfl⟩ := hw'
  have hC := HC.out.kept z.kept (fun h => h)
  have fr := hC.frozen
  have lt := hC.lt
  obtain ⟨e0, e1, e2, e3, e4, e5, e6, e7, e8, e9⟩ := pk_cells (x := Pk.zero) hC
  have hb := Lib.hid (hbl.trans (z.below.mono hbl.size))
  clear z0 z1 z2 HK hC HC hbl
  go_wp2_with fail
  exact bodyPost_ret (v := .tuple #[Pk.zero.v, .bool false]) (by simp [results, Try.results34, go_sem, lt, e0, e1, e2, e3, e4, e5, e6, e7, e8, e9, Pk.v, Pk.cs, Pk.zero]) rfl ⟨rfl, Below.set10 hb.out (Nat.le_succ _) _ _ _ _ _ _ _ _ _ _⟩

set_option maxRecDepth 100000 in
set_option maxHeartbeats 1000000 in
theorem get_yes (a p g r : Nat) (y : Pl) (s t : Int) (x : Pk) (w : World) (h : Is w a p g r y) (hlen : y.s.slots.length ≤ 4096) (hl : Slab.live y.s s t = true) (hx : y.f s = some x) :
    Calls Try.prog 34 #[.pointer (some ⟨a, 0, none⟩), .agg #[.int .i64 s, .int .i64 t]] w fun e w' => e = .returned (.tuple #[x.v, .bool true]) ∧ Below w.heap.size w w' := by
  have H := Lib.hid h
  have HL := Lib.hid hl
  have HX := Lib.hid hx
  clear h hl hx
  go_enter Try.func34, Try.ntmps34
  go_wp2_with fail
  generalize hW : World.alloc (World.alloc w _) _ = W
  obtain ⟨hI, hB, hC, hsz, hbl⟩ := get_mem H.out hW
  have K : ∀ z : Ext W, Calls Try.prog 25 #[.pointer (some ⟨p, 0, none⟩), .agg #[.int .i64 s, .int .i64 t]] z.w fun e w' => e = .returned (.bool true) ∧ Below z.w.heap.size z.w w' := fun z => by
    have := Slab.live_any p g y.s s t z.w (hI.ext z.kept).2.1 hlen
    rwa [HL.out] at this
  have HK := Lib.hid K
  have c0 := hI.1.cell 0
  have c1 := hB.cell 0
  have c2 := hB.cell 1
  simp at c0 c1 c2
  have z0 := fun z => Ext.cell c0 z
  have z1 := fun z => Ext.cell c1 z
  have z2 := fun z => Ext.cell c2 z
  have HC := Lib.hid hC
  have HI := Lib.hid hI
  have HB := Lib.hid hB
  clear K hI hB hC hW c0 c1 c2
  refine wp_region_ext (by kernel_rfl) (by kernel_rfl) ?_
  repeat (go_big_quiet_step ((first | (go_at_call 25; exact ext_call (HK.out _)))))
  refine wpQuiet_nil ?_
  intro _ hw'
  obtain ⟨z, rfl⟩ := hw'
  clear z0 z1 z2 HK
  have hb := Lib.hid (hbl.trans (z.below.mono hbl.size))
  go_wp2_with fail
  refine wp_region_tail 6 (by kernel_rfl) (by kernel_rfl) fun w3 e3 => ?_
  have KZ : Kept none_ W w3 := by rw [e3]; exact z.kept.drew
  have hI := HI.out.ext KZ
  have hC := HC.out.kept KZ (fun h => h)
  have hB := HB.out.kept KZ (fun h => h)
  have HB3 : Hid (Below w.heap.size w w3) := Lib.hid (by rw [e3]; exact hb.out.drew)
  have q1 := hI.1.cell 1
  have q2 := hB.cell 0
  simp at q1 q2
  have fr := hC.frozen
  have lt := hC.lt
  obtain ⟨f0, f1, f2, f3, f4, f5, f6, f7, f8, f9⟩ := pk_cells (x := Pk.zero) hC
  have M := Lib.hid hI.2.2
  clear HC HI HB hbl KZ hI hC hB e3
  simp only [List.take_succ_cons, List.take_zero, List.drop_succ_cons, List.drop_zero]
  repeat still_step
  refine wpStill_nil ?_
  refine wpList_look rfl _ _ _ rfl keyI Try.underlying96 (run_zero zero70 _) M.out s rfl rfl ?_
  rw [HX.out]
  simp only [Option.map_some, Option.getD_some, Bool.false_eq_true, if_false]
  go_wp2_with fail
  exact bodyPost_ret (v := .tuple #[x.v, .bool true]) (by simp [results, Try.results34, go_sem, lt, f0, f1, f2, f3, f4, f5, f6, f7, f8, f9, Pk.v, Pk.cs]) rfl ⟨rfl, Below.set10 HB3.out (Nat.le_succ _) _ _ _ _ _ _ _ _ _ _⟩
end Go.Proofs.Ythdjagmeggckcaa.Pool
