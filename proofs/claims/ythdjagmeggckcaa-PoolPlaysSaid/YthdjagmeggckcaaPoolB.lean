/- The pool: contracts of Put and Get. -/
import Derived.Test.YthdjagmeggckcaaPool
namespace Go.Proofs.Ythdjagmeggckcaa.Pool
open Go.RowKit

theorem pk_cells {w : World} {g : Nat} {x : Pk} (h : Blk w g 70 x.cs) :
    w.cell? ⟨g, 0, none⟩ = some (.int .i64 x.seq) ∧ w.cell? ⟨g, 1, none⟩ = some (.int .i64 x.size) ∧ w.cell? ⟨g, 2, none⟩ = some (.int .i64 x.ver) ∧ w.cell? ⟨g, 3, none⟩ = some (.int .u64 x.shi) ∧ w.cell? ⟨g, 4, none⟩ = some (.int .u64 x.slo) ∧
    w.cell? ⟨g, 5, none⟩ = some (.int .u64 x.dhi) ∧ w.cell? ⟨g, 6, none⟩ = some (.int .u64 x.dlo) ∧ w.cell? ⟨g, 7, none⟩ = some (.int .i64 x.proto) ∧ w.cell? ⟨g, 8, none⟩ = some (.int .i64 x.sport) ∧ w.cell? ⟨g, 9, none⟩ = some (.int .i64 x.dport) :=
  ⟨h.cell 0, h.cell 1, h.cell 2, h.cell 3, h.cell 4, h.cell 5, h.cell 6, h.cell 7, h.cell 8, h.cell 9⟩

set_option maxHeartbeats 1000000 in
theorem put_no (a p g r : Nat) (y : Pl) (x : Pk) (w : World) (h : Is w a p g r y) (hb : 0 ≤ y.bytes ∧ y.bytes ≤ 4194304) (hr : 0 ≤ y.room ∧ y.room ≤ 4194304) (hf : fitsR y x.size ≠ 0) :
    Calls Try.prog 32 #[.pointer (some ⟨a, 0, none⟩), x.v] w fun e w' => e = .returned (.tuple #[.agg #[.int .i64 0, .int .i64 0], .int .i64 (fitsR y x.size)]) ∧ Below w.heap.size w w' := by
  have hf' : (fitsR y x.size == 0) = false := by simpa using hf
  have C := Lib.hid (fits_any a p g r y x.size ((w.alloc (.cells x.cs 70)).alloc (.cells #[.int .i64 0, .int .i64 0] 40)) (h.ext (((Kept.refl _ _).alloc _).alloc _)) hb hr)
  clear h hb hr hf
  generalize fitsR y x.size = why at hf' C ⊢
  go_enter Try.func32, Try.ntmps32
  go_wp2_with fail
  refine C.out.mono ?_
  rintro e w1 ⟨rfl, hb⟩
  obtain ⟨h1, h2, hl, hbb⟩ := two_new hb
  have c0 := h2.cell 0
  have c1 := h2.cell 1
  simp at c0 c1
  have fr := h2.frozen
  clear hb
  go_wp2_with fail
  exact bodyPost_ret (v := .tuple #[.agg #[.int .i64 0, .int .i64 0], .int .i64 why]) (by simp [results, Try.results32, go_sem, c0, c1, h2.lt, hl]) rfl ⟨rfl, (hbb.setCell (by simp) _).setCell (by simp) _⟩

def put (y : Pl) (k : Nat) (sl : Slab.Slot) (x : Pk) : Pl :=
  { s := Slab.take y.s k sl, f := fun j => if j = k then some x else y.f j, n := if (y.f k).isSome then y.n else y.n + 1, room := y.room, bytes := y.bytes + x.size }

theorem put_is {a p g r k b : Nat} {y : Pl} {x : Pk} {sl : Slab.Slot} {w4 : World} {cs : Array Value} {u v : Value}
    (hA : Blk w4 a 98 #[.pointer (some ⟨p, 0, none⟩), .map (some r), .int .i64 y.room, .int .i64 y.bytes])
    (hM : MapIs (Value.int .i64) w4 r (upd (fun k => (y.f k).map Pk.v) (k : Int) (some x.v)) (if ((y.f k).map Pk.v).isSome then y.n else y.n + 1))
    (hS : Slab.Is w4 p g (Slab.take y.s k sl)) (hb : Blk w4 b 40 cs) :
    Is ((((w4.setCell ⟨a, 3, none⟩ (.int .i64 (y.bytes + x.size))).setCell ⟨b, 0, none⟩ u).setCell ⟨b, 1, none⟩ v).drew) a p g r (put y k sl x) := by
  have nab : a ≠ b := hA.ne_ hb (by decide)
  have KF : Kept (fun i => i = a ∨ i = b) w4 ((((w4.setCell ⟨a, 3, none⟩ (.int .i64 (y.bytes + x.size))).setCell ⟨b, 0, none⟩ u).setCell ⟨b, 1, none⟩ v).drew) :=
    ((((Kept.refl _ _).setCell (.inl (.inl rfl)) _).setCell (.inl (.inr rfl)) _).setCell (.inl (.inr rfl)) _).drew
  have off : ∀ i, Slab.Of2 p g i → i ≠ a ∧ i ≠ b := fun i hi => ⟨fun e => hS.off (t := 98) (by decide) (by decide) _ _ _ hA (e ▸ hi), fun e => hS.off (t := 40) (by decide) (by decide) _ _ _ hb (e ▸ hi)⟩
  have mr := hM.ne_cells hA
  have mb := hM.ne_cells hb
  refine ⟨?_, hS.kept KF ?_ ?_, ?_⟩
  · have := (((hA.set_ 3 (.int .i64 (y.bytes + x.size))).far (p := ⟨b, 0, none⟩) nab u).far (p := ⟨b, 1, none⟩) nab v).drew
    simpa [put] using this
  · exact fun h => h.elim (off p (.inl rfl)).1 (off p (.inl rfl)).2
  · exact fun h => h.elim (off g (.inr rfl)).1 (off g (.inr rfl)).2
  · have := hM.kept KF (fun h => h.elim mr mb)
    have e1 : (fun j => ((put y k sl x).f j).map Pk.v) = upd (fun k => (y.f k).map Pk.v) (k : Int) (some x.v) := by
      funext j
      unfold upd put
      by_cases hj : j = (k : Int)
      · simp [hj]
      · simp [hj]
    rw [e1]
    simpa [put] using this

set_option maxRecDepth 100000 in
set_option maxHeartbeats 2000000 in
theorem put_yes (a p g r : Nat) (y : Pl) (x : Pk) (k : Nat) (sl : Slab.Slot) (w : World) (h : Is w a p g r y) (hb : 0 ≤ y.bytes ∧ y.bytes ≤ 4194304) (hr : 0 ≤ y.room ∧ y.room ≤ 4194304) (hf : fitsR y x.size = 0)
    (hn : y.s.next = k) (hx : y.s.slots[k]? = some sl) (hl : 1 ≤ y.s.left ∧ y.s.left ≤ 4096) :
    Calls Try.prog 32 #[.pointer (some ⟨a, 0, none⟩), x.v] w fun e w' => e = .returned (.tuple #[.agg #[.int .i64 k, .int .i64 sl.turn], .int .i64 0]) ∧ Is w' a p g r (put y k sl x) ∧ Kept (Of4 a p g r) w w' := by
  have C := Lib.hid (fits_any a p g r y x.size ((w.alloc (.cells x.cs 70)).alloc (.cells #[.int .i64 0, .int .i64 0] 40)) (h.ext (((Kept.refl _ _).alloc _).alloc _)) hb hr)
  rw [hf] at C
  have hsize : 1 ≤ x.size ∧ x.size ≤ 2048 := by
    unfold fitsR at hf
    by_cases h1 : x.size < 1 ∨ 2048 < x.size
    · rw [if_pos h1] at hf; omega
    · omega
  obtain ⟨s1, s2⟩ := hsize
  obtain ⟨b1, b2⟩ := hb
  have H := Lib.hid h
  have T := Lib.hid (fun W (hI : Slab.Is W p g y.s) => Slab.take_some p g y.s k sl W hI hn hx hl)
  clear h hr hf hn hx hl
  go_enter Try.func32, Try.ntmps32
  go_wp2_with fail
  refine C.out.mono ?_
  rintro e w1 ⟨rfl, hb⟩
  obtain ⟨h1, h2, hl, hbb⟩ := two_new hb
  have HI1 := Lib.hid (H.out.ext (Kept.below hbb rfl))
  have hb0 := HI1.out.1.cell 0
  have hba := HI1.out.lt.1
  simp at hb0
  clear hb C
  go_wp2_with fail
  refine (T.out _ HI1.out.2.1).mono ?_
  rintro e w2 ⟨rfl, hs2, hk2⟩
  have off := HI1.out.2.1.off (t := 70) (by decide) (by decide)
  have off' := HI1.out.2.1.off (t := 40) (by decide) (by decide)
  have n1 := HI1.out.ne
  have p1 := h1.kept hk2 (off _ _ _ h1)
  have p2 := h2.kept hk2 (off' _ _ _ h2)
  have A2 := HI1.out.1.kept hk2 (by rintro (e | e); exact n1.1 e; exact n1.2.1 e)
  have M2 := HI1.out.2.2.kept hk2 (by rintro (e | e); exact n1.2.2.2.2.1 e; exact n1.2.2.2.2.2 e)
  have sz2 := hk2.size
  have a1 := A2.cell 1
  have la := A2.lt
  have lm := M2.lt
  have q1 := p1.cell 1
  simp at a1 q1
  have P1 := Lib.hid p1
  have P2 := Lib.hid p2
  have HA2 := Lib.hid A2
  have HM2 := Lib.hid M2
  have HS2 := Lib.hid hs2
  have HK2 := Lib.hid hk2
  have lw2 : w.heap.size + 1 < w2.heap.size := by omega
  clear off off' p1 p2 A2 M2 hs2 hk2 h1 h2 T hb0 hba
  go_wp2_with fail
  refine wp_region_tail 7 (by kernel_rfl) (by kernel_rfl) fun w3 e3 => ?_
  have hA3 := (HA2.out.alloc (.cells #[.int .i64 k, .int .i64 sl.turn] 40)).drew
  have hM3 := (HM2.out.alloc (.cells #[.int .i64 k, .int .i64 sl.turn] 40)).drew
  have hS3 := (HS2.out.al (.cells #[.int .i64 k, .int .i64 sl.turn] 40))
  have hp1 := (P1.out.alloc (.cells #[.int .i64 k, .int .i64 sl.turn] 40)).drew
  have hp2 := (P2.out.alloc (.cells #[.int .i64 k, .int .i64 sl.turn] 40)).drew
  have hh := (Blk.new w2 40 #[.int .i64 k, .int .i64 sl.turn]).drew
  have hS3' : Slab.Is w3 p g (Slab.take y.s k sl) := by rw [e3]; exact hS3
  rw [← e3] at hA3 hM3 hp1 hp2 hh
  have A3 := Lib.hid hA3
  have M3 := Lib.hid hM3
  have S3 := Lib.hid hS3'
  have B1 := Lib.hid hp1
  have B2 := Lib.hid hp2
  have B3 := Lib.hid hh
  have K3 : Hid (Kept (Slab.Of2 p g) w1 w3) := Lib.hid (by rw [e3]; exact (HK2.out.alloc (.cells #[.int .i64 k, .int .i64 sl.turn] 40)).drew)
  have z3 := hh.lt
  have a1' := hA3.cell 1
  simp at a1'
  obtain ⟨q0, q1', q2, q3, q4, q5, q6, q7, q8, q9⟩ := pk_cells hp1
  have hh0 := hh.cell 0
  simp at hh0
  clear hA3 hM3 hS3 hS3' hp1 hp2 hh a1 q1 e3
  simp only [List.take_succ_cons, List.take_zero, List.drop_succ_cons, List.drop_zero]
  repeat still_step
  refine wpStill_nil ?_
  refine wpList_put rfl _ _ _ rfl keyI Try.underlying96 M3.out (k : Int) x.v rfl rfl rfl fun w4 hM4 hK4 => ?_
  have nr := n1.2.2.2
  have A4 := A3.out.kept hK4 nr.1.symm
  have b0 := A4.cell 0
  have b3 := A4.cell 3
  have fA := A4.frozen
  have l4 := A4.lt
  simp at b0 b3
  have m1 := M3.out.ne_cells B1.out
  have m2 := M3.out.ne_cells B2.out
  have m3 := M3.out.ne_cells B3.out
  have P14 := B1.out.kept hK4 m1.symm
  have P24 := B2.out.kept hK4 m2.symm
  have P34 := B3.out.kept hK4 m3.symm
  have r1 := P14.cell 1
  have r20 := P24.cell 0
  have r21 := P24.cell 1
  have r30 := P34.cell 0
  have r31 := P34.cell 1
  have f24 := P24.frozen
  simp at r1 r20 r21 r30 r31
  have l24 := P24.lt
  have l34 := P34.lt
  have l14 := P14.lt
  have HA4 := Lib.hid A4
  have HM4 := Lib.hid hM4
  have HS4 := Lib.hid (S3.out.kept hK4 nr.2.1.symm nr.2.2.symm)
  have HP2 := Lib.hid P24
  have HK4 := Lib.hid hK4
  have na : a ≠ w.heap.size + 1 := A4.ne_ P24 (by decide)
  have na' : a ≠ w.heap.size := A4.ne_ P14 (by decide)
  have na2 : a ≠ w2.heap.size := A4.ne_ P34 (by decide)
  clear A4 hM4 hK4 P14 P24 P34 q0 q1' q2 q3 q4 q5 q6 q7 q8 q9 hh0 a1' B1 B2 B3 M3 S3 A3
  go_wp2_with fail
  go_region
  all_goals go_wp2_with fail
  all_goals
    refine bodyPost_ret (v := .tuple #[.agg #[.int .i64 k, .int .i64 sl.turn], .int .i64 0]) (by simp [results, Try.results32, go_sem, r20, r21, l24]) rfl ?_
    exact ⟨rfl, put_is HA4.out HM4.out HS4.out HP2.out, (((((Kept.below hbb rfl).trans' K3.out (fun i h => .inl (by rcases h with h | h; exact .inr (.inl h); exact .inr (.inr (.inl h))))).trans' HK4.out (fun i h => .inl (.inr (.inr (.inr h))))).setCell (.inl (.inl rfl)) _).setCell (.inr (by simp)) _).setCell (.inr (by simp)) _ |>.drew⟩
end Go.Proofs.Ythdjagmeggckcaa.Pool
