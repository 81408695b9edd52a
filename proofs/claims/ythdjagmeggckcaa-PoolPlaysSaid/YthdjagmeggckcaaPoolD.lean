/- The pool: contract of Free. -/
import Derived.Test.YthdjagmeggckcaaPoolC
namespace Go.Proofs.Ythdjagmeggckcaa.Pool
open Go.RowKit

theorem set10_alloc {a w : World} (h : Below a.heap.size a w) {g : Nat} (hg : a.heap.size ≤ g) (u0 u1 u2 u3 u4 u5 u6 u7 u8 u9 : Value) (o : Obj) : Below a.heap.size a ((set10 w g u0 u1 u2 u3 u4 u5 u6 u7 u8 u9).alloc o) :=
  have hb := Below.set10 h hg u0 u1 u2 u3 u4 u5 u6 u7 u8 u9
  hb.alloc hb.size o

set_option maxRecDepth 100000 in
set_option maxHeartbeats 2000000 in
theorem free_nil (s t : Int) (w : World) : Calls Try.prog 36 #[.pointer none, .agg #[.int .i64 s, .int .i64 t]] w fun e w' => e = .returned (.tuple #[Pk.zero.v, .bool false]) ∧ Below w.heap.size w w' := by
  go_enter Try.func36, Try.ntmps36
  go_wp2_with fail
  refine (get_nil s t _).mono ?_
  rintro e w1 ⟨rfl, hb⟩
  obtain ⟨h1, h2, hl, hbb⟩ := two_new hb
  obtain ⟨e0, e1, e2, e3, e4, e5, e6, e7, e8, e9⟩ := pk_cells (x := Pk.zero) h2
  have fr := h2.frozen
  have ls := hbb.size
  have HB := Lib.hid hbb
  clear hb h1 h2 hbb
  go_wp2_with fail
  exact bodyPost_ret (v := .tuple #[Pk.zero.v, .bool false]) (by simp [results, Try.results36, go_sem, hl, e0, e1, e2, e3, e4, e5, e6, e7, e8, e9, Pk.v, Pk.cs, Pk.zero]) rfl ⟨rfl, set10_alloc HB.out (Nat.le_succ _) _ _ _ _ _ _ _ _ _ _ _⟩

set_option maxRecDepth 100000 in
set_option maxHeartbeats 2000000 in
theorem free_no (a p g r : Nat) (y : Pl) (s t : Int) (w : World) (h : Is w a p g r y) (hlen : y.s.slots.length ≤ 4096) (hlv : Slab.live y.s s t = false) :
    Calls Try.prog 36 #[.pointer (some ⟨a, 0, none⟩), .agg #[.int .i64 s, .int .i64 t]] w fun e w' => e = .returned (.tuple #[Pk.zero.v, .bool false]) ∧ Below w.heap.size w w' := by
  have C := Lib.hid (get_no a p g r y s t ((w.alloc (.cells #[.int .i64 s, .int .i64 t] 40)).alloc (.cells Pk.zero.cs 70)) (h.ext (((Kept.refl _ _).alloc _).alloc _)) hlen hlv)
  clear h hlen hlv
  go_enter Try.func36, Try.ntmps36
  go_wp2_with fail
  refine C.out.mono ?_
  rintro e w1 ⟨rfl, hb⟩
  obtain ⟨h1, h2, hl, hbb⟩ := two_new hb
  obtain ⟨e0, e1, e2, e3, e4, e5, e6, e7, e8, e9⟩ := pk_cells (x := Pk.zero) h2
  have fr := h2.frozen
  have ls := hbb.size
  have HB := Lib.hid hbb
  clear hb h1 h2 hbb C
  go_wp2_with fail
  exact bodyPost_ret (v := .tuple #[Pk.zero.v, .bool false]) (by simp [results, Try.results36, go_sem, hl, e0, e1, e2, e3, e4, e5, e6, e7, e8, e9, Pk.v, Pk.cs, Pk.zero]) rfl ⟨rfl, set10_alloc HB.out (Nat.le_succ _) _ _ _ _ _ _ _ _ _ _ _⟩

def free (y : Pl) (k : Nat) (sl : Slab.Slot) (x : Pk) : Pl :=
  { s := Slab.give y.s k sl.turn, f := fun j => if j = k then none else y.f j, n := if (y.f k).isSome then y.n - 1 else y.n, room := y.room, bytes := y.bytes - x.size }

theorem free_is {a p g r k b : Nat} {y : Pl} {x : Pk} {sl : Slab.Slot} {w4 : World} {cs : Array Value} {u0 u1 u2 u3 u4 u5 u6 u7 u8 u9 : Value}
    (hA : Blk w4 a 98 #[.pointer (some ⟨p, 0, none⟩), .map (some r), .int .i64 y.room, .int .i64 y.bytes])
    (hM : MapIs (Value.int .i64) w4 r (upd (fun k => (y.f k).map Pk.v) (k : Int) none) (if ((y.f k).map Pk.v).isSome then y.n - 1 else y.n))
    (hS : Slab.Is w4 p g (Slab.give y.s k sl.turn)) (hb : Blk w4 b 70 cs) :
    Is ((set10 (w4.setCell ⟨a, 3, none⟩ (.int .i64 (y.bytes - x.size))) b u0 u1 u2 u3 u4 u5 u6 u7 u8 u9).drew) a p g r (free y k sl x) := by
  have nab : a ≠ b := hA.ne_ hb (by decide)
  have K1 : Kept (fun i => i = b) (w4.setCell ⟨a, 3, none⟩ (.int .i64 (y.bytes - x.size))) ((set10 (w4.setCell ⟨a, 3, none⟩ (.int .i64 (y.bytes - x.size))) b u0 u1 u2 u3 u4 u5 u6 u7 u8 u9).drew) :=
    (Kept.set10 (F := fun i => i = b) (g := b) (Kept.refl _ _) (.inl rfl) _ _ _ _ _ _ _ _ _ _).drew
  have K0 : Kept (fun i => i = a) w4 (w4.setCell ⟨a, 3, none⟩ (.int .i64 (y.bytes - x.size))) := Kept.setCell (F := fun i => i = a) (p := ⟨a, 3, none⟩) (Kept.refl _ _) (.inl rfl) _
  have KF : Kept (fun i => i = a ∨ i = b) w4 ((set10 (w4.setCell ⟨a, 3, none⟩ (.int .i64 (y.bytes - x.size))) b u0 u1 u2 u3 u4 u5 u6 u7 u8 u9).drew) :=
    ((Kept.refl _ _).trans' K0 (fun i h => .inl (.inl h))).trans' K1 (fun i h => .inl (.inr h))
  have off : ∀ i, Slab.Of2 p g i → i ≠ a ∧ i ≠ b := fun i hi => ⟨fun e => hS.off (t := 98) (by decide) (by decide) _ _ _ hA (e ▸ hi), fun e => hS.off (t := 70) (by decide) (by decide) _ _ _ hb (e ▸ hi)⟩
  have mr := hM.ne_cells hA
  have mb := hM.ne_cells hb
  refine ⟨?_, hS.kept KF ?_ ?_, ?_⟩
  · have := (hA.set_ 3 (.int .i64 (y.bytes - x.size))).kept K1 nab
    simpa [free] using this
  · exact fun h => h.elim (off p (.inl rfl)).1 (off p (.inl rfl)).2
  · exact fun h => h.elim (off g (.inr rfl)).1 (off g (.inr rfl)).2
  · have := hM.kept KF (fun h => h.elim mr mb)
    have e1 : (fun j => ((free y k sl x).f j).map Pk.v) = upd (fun k => (y.f k).map Pk.v) (k : Int) none := by
      funext j
      unfold upd free
      by_cases hj : j = (k : Int)
      · simp [hj]
      · simp [hj]
    rw [e1]
    simpa [free] using this

set_option maxRecDepth 100000 in
set_option maxHeartbeats 4000000 in
theorem free_yes (a p g r : Nat) (y : Pl) (k : Nat) (sl : Slab.Slot) (x : Pk) (w : World) (h : Is w a p g r y) (hlen : y.s.slots.length ≤ 4096) (hx : y.s.slots[k]? = some sl) (hst : sl.state ≠ 0) (hf : y.f k = some x)
    (hbd : 0 ≤ sl.turn ∧ sl.turn ≤ 4096) (hl : 0 ≤ y.s.left ∧ y.s.left ≤ 4096) (hb : 0 ≤ y.bytes ∧ y.bytes ≤ 4194304) (hsz : 0 ≤ x.size ∧ x.size ≤ 4194304) :
    Calls Try.prog 36 #[.pointer (some ⟨a, 0, none⟩), .agg #[.int .i64 k, .int .i64 sl.turn]] w fun e w' => e = .returned (.tuple #[x.v, .bool true]) ∧ Is w' a p g r (free y k sl x) ∧ Kept (Of4 a p g r) w w' := by
  have hlive : Slab.live y.s k sl.turn = true := by unfold Slab.live Slab.of_; rw [if_pos (by omega), Int.toNat_natCast, hx]; simp [hst, Option.filter]
  have C := Lib.hid (get_yes a p g r y k sl.turn x ((w.alloc (.cells #[.int .i64 k, .int .i64 sl.turn] 40)).alloc (.cells Pk.zero.cs 70)) (h.ext (((Kept.refl _ _).alloc _).alloc _)) hlen hlive hf)
  have G := Lib.hid (fun W (hI : Slab.Is W p g y.s) => Slab.give_yes p g y.s k sl W hI hlen hx hst hbd hl)
  have H := Lib.hid h
  obtain ⟨b1, b2⟩ := hb
  obtain ⟨s1, s2⟩ := hsz
  clear h hlen hx hst hf hbd hl hlive
  go_enter Try.func36, Try.ntmps36
  go_wp2_with fail
  refine C.out.mono ?_
  rintro e w1 ⟨rfl, hb⟩
  obtain ⟨h1, h2, hl, hbb⟩ := two_new hb
  have HI1 := Lib.hid (H.out.ext (Kept.below hbb rfl))
  have P1 := Lib.hid h1
  have P2 := Lib.hid h2
  have HB := Lib.hid hbb
  clear hb C H h1 h2 hbb
  go_wp2_with fail
  refine wp_region_tail 5 (by kernel_rfl) (by kernel_rfl) fun w3 e3 => ?_
  have KZ : Kept none_ w1 w3 := by rw [e3]; exact ((Kept.refl _ _).alloc _).drew
  have hI := HI1.out.ext KZ
  have hb3 : Blk w3 w1.heap.size 70 x.cs := by rw [e3]; exact Blk.new _ _ _
  have p1 := P1.out.kept KZ (fun h => h)
  have p2 := P2.out.kept KZ (fun h => h)
  have HK3 := Lib.hid ((Kept.below (F := Of4 a p g r) HB.out rfl).trans' KZ (fun i h => h.elim))
  have a0 := hI.1.cell 0
  have q0 := p1.cell 0
  have q1 := p1.cell 1
  simp at a0 q0 q1
  have HI3 := Lib.hid hI
  have HB3 := Lib.hid hb3
  have Q1 := Lib.hid p1
  have Q2 := Lib.hid p2
  clear HI1 P1 P2 KZ hI hb3 p1 p2 e3 HB
  simp only [List.take_succ_cons, List.take_zero, List.drop_succ_cons, List.drop_zero]
  repeat still_step
  refine wpStill_nil ?_
  clear a0 q0 q1
  go_wp2_with fail
  refine (G.out _ HI3.out.2.1).mono ?_
  rintro e w4 ⟨rfl, hs4, hk4⟩
  have off := HI3.out.2.1.off (t := 70) (by decide) (by decide)
  have off' := HI3.out.2.1.off (t := 40) (by decide) (by decide)
  have nn := HI3.out.ne
  have A4 := Lib.hid (HI3.out.1.kept hk4 (by rintro (e | e); exact nn.1 e; exact nn.2.1 e))
  have M4 := Lib.hid (HI3.out.2.2.kept hk4 (by rintro (e | e); exact nn.2.2.2.2.1 e; exact nn.2.2.2.2.2 e))
  have B4 := Lib.hid (HB3.out.kept hk4 (off _ _ _ HB3.out))
  have P4 := Lib.hid (Q1.out.kept hk4 (off' _ _ _ Q1.out))
  have R4 := Lib.hid (Q2.out.kept hk4 (off _ _ _ Q2.out))
  have S4 := Lib.hid hs4
  have HK4 := Lib.hid (HK3.out.trans' hk4 (fun i h => .inl (by rcases h with h | h; exact .inr (.inl h); exact .inr (.inr (.inl h)))))
  clear off off' HI3 HB3 Q1 Q2 HK3 hs4 hk4 G
  go_wp2_with fail
  refine wp_region_tail 6 (by kernel_rfl) (by kernel_rfl) fun w5 e5 => ?_
  have KZ : Kept none_ w4 w5 := by rw [e5]; exact (Kept.refl _ _).drew
  have a1 := (A4.out.kept KZ (fun h => h)).cell 1
  have q0 := (P4.out.kept KZ (fun h => h)).cell 0
  simp at a1 q0
  have M5 := Lib.hid (M4.out.kept KZ (fun h => h))
  have A5 := Lib.hid (A4.out.kept KZ (fun h => h))
  have S5 := Lib.hid (S4.out.kept KZ (fun h => h) (fun h => h))
  have B5 := Lib.hid (B4.out.kept KZ (fun h => h))
  have R5 := Lib.hid (R4.out.kept KZ (fun h => h))
  have HK5 := Lib.hid (HK4.out.trans' KZ (fun i h => h.elim))
  clear e5 KZ A4 M4 B4 P4 R4 S4 HK4
  simp only [List.take_succ_cons, List.take_zero, List.drop_succ_cons, List.drop_zero]
  repeat still_step
  refine wpStill_nil ?_
  refine wpList_del rfl _ _ rfl keyI Try.underlying96 M5.out (k : Int) rfl rfl fun w6 hM6 hK6 => ?_
  have nr := nn.2.2.2
  have A6 := A5.out.kept hK6 nr.1.symm
  have B6 := B5.out.kept hK6 (M5.out.ne_cells B5.out).symm
  have R6 := R5.out.kept hK6 (M5.out.ne_cells R5.out).symm
  have S6 := Lib.hid (S5.out.kept hK6 nr.2.1.symm nr.2.2.symm)
  have HM6 := Lib.hid hM6
  have HK6 := Lib.hid (HK5.out.trans' hK6 (fun i h => .inl (.inr (.inr (.inr h)))))
  have b3 := A6.cell 3
  simp at b3
  have fA := A6.frozen
  have fR := R6.frozen
  have lA := A6.lt
  have lB := B6.lt
  have lR := R6.lt
  obtain ⟨e0, e1, e2, e3, e4, e5, e6, e7, e8, e9⟩ := pk_cells (x := Pk.zero) R6
  obtain ⟨x0, x1, x2, x3, x4, x5, x6, x7, x8, x9⟩ := pk_cells (x := x) B6
  have nab : a ≠ w1.heap.size := A6.ne_ B6 (by decide)
  have nar : a ≠ w.heap.size + 1 := A6.ne_ R6 (by decide)
  have nbr : w1.heap.size ≠ w.heap.size + 1 := by omega
  have HA6 := Lib.hid A6
  have HR6 := Lib.hid R6
  clear M5 A5 B5 R5 S5 HK5 hM6 hK6 A6 B6 R6 a1 q0
  go_wp2_with fail
  go_region
  all_goals go_wp2_with fail
  all_goals
    refine bodyPost_ret (v := .tuple #[x.v, .bool true]) (by simp [results, Try.results36, go_sem, lR, e0, e1, e2, e3, e4, e5, e6, e7, e8, e9, Pk.v, Pk.cs]) rfl ?_
    exact ⟨rfl, free_is HA6.out HM6.out S6.out HR6.out, (Kept.set10 (HK6.out.setCell (.inl (.inl rfl)) _) (.inr (Nat.le_succ _)) _ _ _ _ _ _ _ _ _ _).drew⟩
end Go.Proofs.Ythdjagmeggckcaa.Pool
