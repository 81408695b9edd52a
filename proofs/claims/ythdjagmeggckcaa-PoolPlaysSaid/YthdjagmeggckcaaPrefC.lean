/- The reference's pool: contracts of Get, Free, New. -/
import Derived.Test.YthdjagmeggckcaaPrefB
namespace Go.Proofs.Ythdjagmeggckcaa.Pref
open Go.RowKit Pool

set_option maxRecDepth 100000 in
set_option maxHeartbeats 2000000 in
theorem get_no (v : Value) (x : RP) (a t : Int) (w : World) (h : Is w v x) (hlen : x.rs.taken.length = x.rs.turns.length) (hl : Ref.rlive x.rs a t = false) :
    Calls Try.prog 35 #[v, .int .i64 a, .int .i64 t] w fun e w' => e = .returned (.tuple #[Pk.zero.v, .bool false]) ∧ Below w.heap.size w w' := by
  obtain ⟨f, tt, kk, kp, rfl, hR, hs⟩ := h
  obtain ⟨f', t', kk', e, hf', ht', hk'⟩ := id hR
  injection e with e
  simp at e
  obtain ⟨rfl, rfl, rfl⟩ := e
  obtain ⟨A0, n0, c0, rfl⟩ := hf'.form'
  obtain ⟨A1, n1, c1, rfl⟩ := ht'.form'
  obtain ⟨A2, n2, c2, rfl⟩ := hk'.form'
  obtain ⟨A3, n3, c3, rfl⟩ := hs.form'
  have C := Lib.hid (fun W (hk : Kept none_ w W) => hl ▸ Ref.live_any _ x.rs a t W (hR.kept hk Off.none_ Off.none_) hlen)
  clear hf' ht' hk' hs hR hlen hl
  go_enter Try.func35, Try.ntmps35
  go_wp2_with fail
  refine (C.out _ (((Kept.refl _ _).alloc _).alloc _)).mono ?_
  rintro e w1 ⟨rfl, hb⟩
  obtain ⟨h1, h2, hl, hbb⟩ := two_new hb
  obtain ⟨e0, e1, e2, e3, e4, e5, e6, e7, e8, e9⟩ := pk_cells (x := Pk.zero) h2
  have fr := h2.frozen
  have HB := Lib.hid hbb
  clear hb C h1 h2 hbb
  go_wp2_with fail
  exact bodyPost_ret (v := .tuple #[Pk.zero.v, .bool false]) (by simp [results, Try.results35, go_sem, hl, e0, e1, e2, e3, e4, e5, e6, e7, e8, e9, Pk.v, Pk.cs, Pk.zero]) rfl ⟨rfl, Below.set10 HB.out (Nat.le_succ _) _ _ _ _ _ _ _ _ _ _⟩

set_option maxRecDepth 100000 in
set_option maxHeartbeats 2000000 in
theorem get_yes (v : Value) (x : RP) (k : Nat) (t : Int) (y : Pk) (w : World) (h : Is w v x) (hlen : x.rs.taken.length = x.rs.turns.length) (hl : Ref.rlive x.rs k t = true) (hy : x.kept[k]? = some y) :
    Calls Try.prog 35 #[v, .int .i64 k, .int .i64 t] w fun e w' => e = .returned (.tuple #[y.v, .bool true]) ∧ Below w.heap.size w w' := by
  obtain ⟨f, tt, kk, kp, rfl, hR, hs⟩ := h
  obtain ⟨f', t', kk', e, hf', ht', hk'⟩ := id hR
  injection e with e
  simp at e
  obtain ⟨rfl, rfl, rfl⟩ := e
  obtain ⟨A0, n0, c0, rfl⟩ := hf'.form'
  obtain ⟨A1, n1, c1, rfl⟩ := ht'.form'
  obtain ⟨A2, n2, c2, rfl⟩ := hk'.form'
  obtain ⟨A3, n3, c3, rfl⟩ := hs.form'
  have C := Lib.hid (fun W (hk : Kept none_ w W) => hl ▸ Ref.live_any _ x.rs k t W (hR.kept hk Off.none_ Off.none_) hlen)
  have hn := hs.len.1
  have hkl := (List.getElem?_eq_some_iff.1 hy).1
  have hk0 : (0 : Int) ≤ (k : Int) := by omega
  have hk1 : (k : Int) < (n3 : Int) := by omega
  obtain ⟨b, off, rfl, hb, _, hc⟩ := hs.atN hy
  have z0 := hc 0 _ rfl
  have z1 := hc 1 _ rfl
  have z2 := hc 2 _ rfl
  have z3 := hc 3 _ rfl
  have z4 := hc 4 _ rfl
  have z5 := hc 5 _ rfl
  have z6 := hc 6 _ rfl
  have z7 := hc 7 _ rfl
  have z8 := hc 8 _ rfl
  have z9 := hc 9 _ rfl
  rw [Nat.add_zero] at z0
  clear hf' ht' hk' hs hR hlen hl hy hn hc
  go_enter Try.func35, Try.ntmps35
  go_wp2_with fail
  refine (C.out _ (((Kept.refl _ _).alloc _).alloc _)).mono ?_
  rintro e w1 ⟨rfl, hbw⟩
  obtain ⟨h1, h2, hl, hbb⟩ := two_new hbw
  obtain ⟨e0, e1, e2, e3, e4, e5, e6, e7, e8, e9⟩ := pk_cells (x := Pk.zero) h2
  obtain ⟨q0, q1, q2, q3, q4⟩ := five h1
  have fr := h2.frozen
  have hcl : ∀ o, w1.cell? ⟨b, o, none⟩ = w.cell? ⟨b, o, none⟩ := fun o => hbb.cell (p := ⟨b, o, none⟩) hb
  rw [← hcl] at z0 z1 z2 z3 z4 z5 z6 z7 z8 z9
  have HB := Lib.hid hbb
  clear hbw C h1 h2 hbb hcl
  go_wp2_with fail
  exact bodyPost_ret (v := .tuple #[y.v, .bool true]) (by simp [results, Try.results35, go_sem, hl, e0, e1, e2, e3, e4, e5, e6, e7, e8, e9, Pk.v, Pk.cs]) rfl ⟨rfl, Below.set10 HB.out (Nat.le_succ _) _ _ _ _ _ _ _ _ _ _⟩

def FreeP (w : World) (x : RP) (y : Pk) (ok : Bool) (e : Ending) (w' : World) : Prop :=
  ∃ v, e = .returned (.tuple #[v, y.v, .bool ok]) ∧ Is w' v x ∧ Below w.heap.size w w'

/-- Memory once the reference's slab is stored. -/
theorem free_mem {w2 W : World} {b0 b1 b2 b3 : Nat} {a0 a1 a2 a3 rm e0 e1 e2 : Value} {z5 ys zs : Array Value}
    (h0 : Blk w2 b0 62 #[a0, a1, a2, a3, rm]) (h1 : Blk w2 b1 62 z5) (h2 : Blk w2 b2 70 zs) (h3 : Blk w2 b3 70 ys) (n1 : b1 ≠ b0)
    (hW : (((w2.setCell ⟨b0, 0, none⟩ e0).setCell ⟨b0, 1, none⟩ e1).setCell ⟨b0, 2, none⟩ e2).alloc (.cells #[e0, e1, e2] 37) = W) :
    Blk W b0 62 #[e0, e1, e2, a3, rm] ∧ Blk W b1 62 z5 ∧ Blk W b2 70 zs ∧ Blk W b3 70 ys ∧ Kept (fun i => i = b0) w2 W := by
  have K0 : Kept (fun i => i = b0) w2 W := by
    subst hW
    exact ((((Kept.setCell (F := fun i => i = b0) (p := ⟨b0, 0, none⟩) (Kept.refl _ _) (.inl rfl) _).setCell (p := ⟨b0, 1, none⟩) (.inl rfl) _).setCell (p := ⟨b0, 2, none⟩) (.inl rfl) _).alloc _)
  refine ⟨?_, h1.kept K0 n1, h2.kept K0 (h2.ne_ h0 (by decide)), h3.kept K0 (h3.ne_ h0 (by decide)), K0⟩
  have := (((h0.set_ 0 e0).set_ 1 e1).set_ 2 e2).alloc (.cells #[e0, e1, e2] 37)
  rw [hW] at this
  simpa using this

theorem free_end {w w2 W : World} {b0 b1 b2 : Nat} {f t kk kp s0 s1 s2 s3 s4 u0 u1 u2 u3 u4 u5 u6 u7 u8 u9 : Value} {z5 e5 zs : Array Value} {x : RP} {rs : Ref.RS} {y : Pk} {ok : Bool}
    (hR : Ref.Is w2 (.agg #[f, t, kk]) rs) (hK2 : Kept none_ w w2) (hK3 : Kept (fun i => i = b0) w2 W) (h0 : Blk w2 b0 62 e5) (h1 : Blk w2 b1 62 z5) (h2 : Blk w2 b2 70 zs)
    (hS' : ∀ F, (∀ i, F i → w.heap.size ≤ i) → ∀ W, Kept F w2 W → Sl W 70 10 Pk.enc kp x.kept)
    (hb0 : w.heap.size ≤ b0) (hb1 : w.heap.size ≤ b1) (hb2 : w.heap.size ≤ b2) :
    FreeP w { x with rs := rs } y ok (.returned (.tuple #[.agg #[f, t, kk, kp, .int .i64 x.room], y.v, .bool ok]))
      (set10 (((((W.setCell ⟨b1, 0, none⟩ s0).setCell ⟨b1, 1, none⟩ s1).setCell ⟨b1, 2, none⟩ s2).setCell ⟨b1, 3, none⟩ s3).setCell ⟨b1, 4, none⟩ s4) b2 u0 u1 u2 u3 u4 u5 u6 u7 u8 u9).drew := by
  have K1 := ((((Kept.setCell (F := fun i => i = b1 ∨ i = b2) (p := ⟨b1, 0, none⟩) (Kept.refl _ W) (.inl (.inl rfl)) s0).setCell (p := ⟨b1, 1, none⟩) (.inl (.inl rfl)) s1).setCell (p := ⟨b1, 2, none⟩) (.inl (.inl rfl)) s2).setCell (p := ⟨b1, 3, none⟩) (.inl (.inl rfl)) s3).setCell (p := ⟨b1, 4, none⟩) (.inl (.inl rfl)) s4
  have K4 := (Kept.set10 (g := b2) K1 (.inl (.inr rfl)) u0 u1 u2 u3 u4 u5 u6 u7 u8 u9).drew
  have K5 := (hK3.mono (G := fun i => i = b0 ∨ i = b1 ∨ i = b2) (fun i _ h => .inl h)).trans' K4 (fun i h => .inl (.inr h))
  have off : ∀ t', t' ≠ 62 → t' ≠ 70 → Off w2 t' (fun i => i = b0 ∨ i = b1 ∨ i = b2) := fun t' ht ht' => (Off.one h0 (Ne.symm ht)).or ((Off.one h1 (Ne.symm ht)).or (Off.one h2 (Ne.symm ht')))
  exact ⟨_, rfl, ⟨f, t, kk, kp, rfl, hR.kept K5 (off 3 (by decide) (by decide)) (off 4 (by decide) (by decide)), hS' _ (fun i h => by rcases h with h | h | h <;> omega) _ K5⟩, (hK2.trans' K5 (fun i h => .inr (by rcases h with h | h | h <;> omega))).toBelow'⟩

set_option maxRecDepth 100000 in
set_option maxHeartbeats 4000000 in
theorem free_gen (v : Value) (x : RP) (a t : Int) (y : Pk) (ok ok2 : Bool) (rs : Ref.RS) (w : World) (h : Is w v x)
    (hG : ∀ W, Kept none_ w W → Calls Try.prog 35 #[v, .int .i64 a, .int .i64 t] W fun e w' => e = .returned (.tuple #[y.v, .bool ok]) ∧ Below W.heap.size W w')
    (hV : ∀ W u, Ref.Is W u x.rs → Calls Try.prog 20 #[u, .int .i64 a, .int .i64 t] W (Ref.Gave W rs ok2)) :
    Calls Try.prog 37 #[v, .int .i64 a, .int .i64 t] w (FreeP w { x with rs := rs } y ok) := by
  obtain ⟨f, tt, kk, kp, rfl, hR, hs⟩ := h
  have HR := Lib.hid hR
  have HS := Lib.hid hs
  obtain ⟨f', t', kk', e, hf', ht', hk'⟩ := hR
  injection e with e
  simp at e
  obtain ⟨rfl, rfl, rfl⟩ := e
  obtain ⟨A0, n0, c0, rfl⟩ := hf'.form'
  obtain ⟨A1, n1, c1, rfl⟩ := ht'.form'
  obtain ⟨A2, n2, c2, rfl⟩ := hk'.form'
  obtain ⟨A3, n3, c3, rfl⟩ := hs.form'
  have C := Lib.hid hG
  have T := Lib.hid hV
  clear hf' ht' hk' hs hG hV
  go_enter Try.func37, Try.ntmps37
  go_wp2_with fail
  refine (C.out _ ((((Kept.refl _ _).alloc _).alloc _).alloc _)).mono ?_
  rintro e w1 ⟨rfl, hb⟩
  obtain ⟨b1, b2, b3, lw, hbb⟩ := three_new hb
  obtain ⟨q0, q1, q2, q3, q4⟩ := five b1
  have B1 := Lib.hid b1
  have B2 := Lib.hid b2
  have B3 := Lib.hid b3
  have K1 := Lib.hid (Kept.below (F := none_) hbb rfl)
  have l0 : w.heap.size < w1.heap.size := by omega
  clear hb hbb C b2 b1 b3
  go_wp2_with fail
  refine (T.out _ _ (HR.out.kept (K1.out.alloc _) Off.none_ Off.none_)).mono ?_
  rintro e w2 ⟨v2, rfl, ⟨f2, t2, kk2, rfl, hf2, ht2, hk2⟩, hb2⟩
  have HR2 : Hid (Ref.Is w2 (.agg #[f2, t2, kk2]) rs) := Lib.hid ⟨_, _, _, rfl, hf2, ht2, hk2⟩
  obtain ⟨E0, m0', d0', rfl⟩ := hf2.form'
  obtain ⟨E1, m1', d1', rfl⟩ := ht2.form'
  obtain ⟨E2, m2', d2', rfl⟩ := hk2.form'
  have KK := Lib.hid (Kept.below (F := none_) hb2 rfl)
  have K2 := Lib.hid ((K1.out.alloc (.cells y.cs 70)).trans KK.out)
  have C1 := Lib.hid ((B1.out.alloc (.cells y.cs 70)).kept KK.out (fun h => h))
  have C2 := Lib.hid ((B2.out.alloc (.cells y.cs 70)).kept KK.out (fun h => h))
  have C3 := Lib.hid ((B3.out.alloc (.cells y.cs 70)).kept KK.out (fun h => h))
  have C4 := Lib.hid ((Blk.new w1 70 y.cs).kept KK.out (fun h => h))
  have lw2 := C4.out.lt
  clear hf2 ht2 hk2 hb2 KK B1 B2 B3 q0 q1 q2 q3 q4 T K1 l0
  obtain ⟨q0, q1, q2, q3, q4⟩ := five C1.out
  have fr := C1.out.frozen
  have l0 : w.heap.size < w2.heap.size := by omega
  have l1 : w.heap.size + 1 < w2.heap.size := by omega
  have l2 : w.heap.size + 1 + 1 < w2.heap.size := by omega
  go_wp2_with fail
  generalize hW : World.alloc (World.setCell (World.setCell (World.setCell w2 _ _) _ _) _ _) _ = W
  obtain ⟨D0, D1, D2, D3, KW⟩ := free_mem C1.out C2.out C3.out C4.out (by omega) hW
  have HKW := Lib.hid KW
  have HKS := Lib.hid (fun (F : Nat → Prop) (hF : ∀ i, F i → w.heap.size ≤ i) W (hk : Kept F w2 W) => HS.out.kept (K2.out.trans' hk (fun i h => .inr (hF i h))) Off.none_)
  clear q0 q1 q2 q3 q4 fr hW KW
  obtain ⟨q0, q1, q2, q3, q4⟩ := five D0
  obtain ⟨d0, d1, d2, d3, d4⟩ := five D1
  obtain ⟨e0, e1, e2, e3, e4, e5, e6, e7, e8, e9⟩ := pk_cells (x := Pk.zero) D2
  obtain ⟨y0, y1, y2, y3, y4, y5, y6, y7, y8, y9⟩ := pk_cells D3
  have f1 := D1.frozen
  have f2 := D2.frozen
  have m0 := D0.lt
  have m1 := D1.lt
  have m2 := D2.lt
  have m3 := D3.lt
  have nb : w1.heap.size ≠ w.heap.size + 1 := by omega
  have nb' : w1.heap.size ≠ w.heap.size + 1 + 1 := by omega
  clear D0 D1 D2 D3
  go_region
  all_goals go_wp2_with fail
  refine bodyPost_ret (v := .tuple #[.agg #[.slice E0 m0' d0', .slice E1 m1' d1', .slice E2 m2' d2', .slice A3 n3 c3, .int .i64 x.room], y.v, .bool ok]) (by simp [results, Try.results37, go_sem, d0, d1, d2, d3, d4, e0, e1, e2, e3, e4, e5, e6, e7, e8, e9, m0, m1, m2, Pk.v, Pk.cs]) rfl ?_
  with_reducible exact free_end HR2.out K2.out HKW.out C1.out C2.out C3.out HKS.out (Nat.le_refl _) (by omega) (by omega)

theorem free_no (v : Value) (x : RP) (a t : Int) (w : World) (h : Is w v x) (hlen : x.rs.taken.length = x.rs.turns.length) (hl : Ref.rlive x.rs a t = false) :
    Calls Try.prog 37 #[v, .int .i64 a, .int .i64 t] w (FreeP w x Pk.zero false) :=
  free_gen v x a t Pk.zero false false x.rs w h (fun W hk => get_no v x a t W (h.ext hk) hlen hl) (fun W u hu => Ref.give_no u x.rs a t W hu hlen hl)

theorem free_yes (v : Value) (x : RP) (k : Nat) (t : Int) (y : Pk) (w : World) (h : Is w v x) (hlen : x.rs.taken.length = x.rs.turns.length) (ht0 : x.rs.turns[k]? = some t) (hk0 : x.rs.taken[k]? = some true) (hy : x.kept[k]? = some y)
    (hl : x.rs.turns.length ≤ 4096) (hf0 : x.rs.free.length ≤ 4096) (hb0 : ∀ n ∈ x.rs.turns, 0 ≤ n ∧ n ≤ 4096) :
    Calls Try.prog 37 #[v, .int .i64 k, .int .i64 t] w (FreeP w { x with rs := { free := k :: x.rs.free, turns := x.rs.turns.set k (t + 1), taken := x.rs.taken.set k false } } y true) :=
  have hl' : Ref.rlive x.rs k t = true := by unfold Ref.rlive; rw [if_pos (by omega), Int.toNat_natCast, ht0, hk0]; simp
  free_gen v x k t y true true _ w h (fun W hk => get_yes v x k t y W (h.ext hk) hlen hl' hy) (fun W u hu => Ref.give_yes u x.rs k t W hu hlen ht0 hk0 hl hf0 hb0)

def newRP (n : Nat) (room : Int) : RP := { rs := Ref.newRS n, kept := List.replicate n Pk.zero, room := room }
def NewP (w : World) (x : RP) (e : Ending) (w' : World) : Prop := ∃ v, e = .returned v ∧ Is w' v x ∧ Below w.heap.size w w'

def zero5 : Array Value := #[.slice none 0 0, .slice none 0 0, .slice none 0 0, .slice none 0 0, .int .i64 0]
/-- Behind the slab's making: the result's block as it was laid. -/
theorem new_mem1 {w w1 : World} (hb : Below ((w.alloc (.cells #[.slice none 0 0, .slice none 0 0, .slice none 0 0, .slice none 0 0, .int .i64 0] 62)).drew).heap.size (w.alloc (.cells #[.slice none 0 0, .slice none 0 0, .slice none 0 0, .slice none 0 0, .int .i64 0] 62)).drew w1) :
    Blk w1 w.heap.size 62 zero5 ∧ w.heap.size < w1.heap.size ∧ Below w.heap.size w w1 := one_new ⟨hb.os, hb.tape, hb.output, hb.size, hb.block⟩
theorem new_mem2 {w w1 : World} {n : Nat} (hb : Below (((w.alloc (.cells #[.slice none 0 0, .slice none 0 0, .slice none 0 0, .slice none 0 0, .int .i64 0] 62)).alloc (.cells (madeCells Pk.zero.cs (n * 10)) 70)).drew).heap.size ((w.alloc (.cells #[.slice none 0 0, .slice none 0 0, .slice none 0 0, .slice none 0 0, .int .i64 0] 62)).alloc (.cells (madeCells Pk.zero.cs (n * 10)) 70)).drew w1) :
    Blk w1 w.heap.size 62 zero5 ∧ w.heap.size < w1.heap.size ∧ Below w.heap.size w w1 ∧ RowsIn w1 (w.heap.size + 1) 70 10 Pk.enc (List.replicate n Pk.zero) := by
  have hb' : Below ((w.alloc (.cells zero5 62)).alloc (.cells (madeCells Pk.zero.cs (n * 10)) 70)).heap.size ((w.alloc (.cells zero5 62)).alloc (.cells (madeCells Pk.zero.cs (n * 10)) 70)) w1 := ⟨hb.os, hb.tape, hb.output, hb.size, hb.block⟩
  obtain ⟨h1, h2, h3, h4⟩ := two_new hb'
  have hr := RowsIn.made (t := 70) (size := 10) (enc := Pk.enc) (w.alloc (.cells zero5 62)) Pk.zero.cs Pk.zero n rfl rfl (by decide)
  refine ⟨h1, by omega, h4, ?_⟩
  have := hr.kept (F := none_) (Kept.below hb' rfl) (fun h => h)
  simpa using this

theorem new_end {w w1 : World} {n g : Nat} {room : Int} {f t kk s0 s1 s2 s3 s4 : Value} {z5 : Array Value} (hn : n ≤ 4096)
    (hR : Ref.Is w1 (.agg #[f, t, kk]) (Ref.newRS n)) (hB : Blk w1 w.heap.size 62 z5) (hb : Below w.heap.size w w1) (hrw : RowsIn w1 g 70 10 Pk.enc (List.replicate n Pk.zero)) :
    NewP w (newRP n room) (.returned (.agg #[f, t, kk, .slice (some ⟨g, 0, none⟩) n n, .int .i64 room]))
      (((((w1.setCell ⟨w.heap.size, 0, none⟩ s0).setCell ⟨w.heap.size, 1, none⟩ s1).setCell ⟨w.heap.size, 2, none⟩ s2).setCell ⟨w.heap.size, 3, none⟩ s3).setCell ⟨w.heap.size, 4, none⟩ s4) := by
  have K := ((((Kept.setCell (F := fun i => i = w.heap.size) (p := ⟨w.heap.size, 0, none⟩) (Kept.refl _ w1) (.inl rfl) s0).setCell (p := ⟨w.heap.size, 1, none⟩) (.inl rfl) s1).setCell (p := ⟨w.heap.size, 2, none⟩) (.inl rfl) s2).setCell (p := ⟨w.heap.size, 3, none⟩) (.inl rfl) s3).setCell (p := ⟨w.heap.size, 4, none⟩) (.inl rfl) s4
  have hs := sl_of_rows (c := n) hrw (by simp) (by unfold maxLen; omega)
  rw [List.length_replicate] at hs
  exact ⟨_, rfl, ⟨f, t, kk, _, rfl, hR.kept K (Off.one hB (by decide)) (Off.one hB (by decide)), hs.kept K (Off.one hB (by decide))⟩,
    ((((hb.setCell (Nat.le_refl _) _).setCell (Nat.le_refl _) _).setCell (Nat.le_refl _) _).setCell (Nat.le_refl _) _).setCell (Nat.le_refl _) _⟩
theorem new_end' {w w1 : World} {n : Nat} {room : Int} {f t kk s0 s1 s2 s3 s4 : Value} {z5 : Array Value} (hn : n ≤ 4096)
    (hR : Ref.Is w1 (.agg #[f, t, kk]) (Ref.newRS n)) (hB : Blk w1 w.heap.size 62 z5) (hb : Below w.heap.size w w1) :
    NewP w (newRP n room) (.returned (.agg #[f, t, kk, .slice (some ⟨w1.heap.size, 0, none⟩) n n, .int .i64 room]))
      ((((((w1.setCell ⟨w.heap.size, 0, none⟩ s0).setCell ⟨w.heap.size, 1, none⟩ s1).setCell ⟨w.heap.size, 2, none⟩ s2).setCell ⟨w.heap.size, 3, none⟩ s3).setCell ⟨w.heap.size, 4, none⟩ s4).alloc (.cells (madeCells Pk.zero.cs (n * 10)) 70)) := by
  have K := (((((Kept.setCell (F := fun i => i = w.heap.size) (p := ⟨w.heap.size, 0, none⟩) (Kept.refl _ w1) (.inl rfl) s0).setCell (p := ⟨w.heap.size, 1, none⟩) (.inl rfl) s1).setCell (p := ⟨w.heap.size, 2, none⟩) (.inl rfl) s2).setCell (p := ⟨w.heap.size, 3, none⟩) (.inl rfl) s3).setCell (p := ⟨w.heap.size, 4, none⟩) (.inl rfl) s4).alloc (.cells (madeCells Pk.zero.cs (n * 10)) 70)
  have hr := RowsIn.made (t := 70) (size := 10) (enc := Pk.enc) (((((w1.setCell ⟨w.heap.size, 0, none⟩ s0).setCell ⟨w.heap.size, 1, none⟩ s1).setCell ⟨w.heap.size, 2, none⟩ s2).setCell ⟨w.heap.size, 3, none⟩ s3).setCell ⟨w.heap.size, 4, none⟩ s4) Pk.zero.cs Pk.zero n rfl rfl (by decide)
  have hs := sl_of_rows (c := n) hr (by simp) (by unfold maxLen; omega)
  rw [List.length_replicate] at hs
  have hz : (((((w1.setCell ⟨w.heap.size, 0, none⟩ s0).setCell ⟨w.heap.size, 1, none⟩ s1).setCell ⟨w.heap.size, 2, none⟩ s2).setCell ⟨w.heap.size, 3, none⟩ s3).setCell ⟨w.heap.size, 4, none⟩ s4).heap.size = w1.heap.size := by simp
  rw [hz] at hs
  exact ⟨_, rfl, ⟨f, t, kk, _, rfl, hR.kept K (Off.one hB (by decide)) (Off.one hB (by decide)), hs⟩,
    (((((hb.setCell (Nat.le_refl _) _).setCell (Nat.le_refl _) _).setCell (Nat.le_refl _) _).setCell (Nat.le_refl _) _).setCell (Nat.le_refl _) _).alloc (by have := hb.size; simp; omega) _⟩

set_option maxRecDepth 100000 in
set_option maxHeartbeats 4000000 in
theorem new_any (n : Nat) (room : Int) (w : World) (hn : n ≤ 4096) : Calls Try.prog 29 #[.int .i64 n, .int .i64 room] w (NewP w (newRP n room)) := by
  obtain ⟨i0, hi, hz0, hz1, hz2⟩ := info_parts info70
  have hmk : ∀ W : World, (Instr.makeSlice 60 (.int .i64 (n : Int)) (.int .i64 (n : Int))).run Try.prog W = .ok (.slice (some ⟨W.heap.size, 0, none⟩) n n) (W.alloc (.cells (madeCells Pk.zero.cs (n * 10)) 70)) := fun W => by
    have := run_make_rows (P := Try.prog) 60 70 i0 _ Try.underlying60 hi hz0 .i64 .i64 n n (Nat.le_refl _) (by rw [hz2]; omega) (by omega) W
    rw [hz1] at this
    exact this
  have C := Lib.hid (fun W => Ref.new_any n W hn)
  go_enter Try.func29, Try.ntmps29
  go_wp2_with fail
  go_region_with (go_at_call 17; refine (C.out _).mono ?_; rintro e w1 ⟨v1, rfl, ⟨f, tt, kk, rfl, hf, ht, hk⟩, hb⟩; have HR : Hid (Ref.Is w1 (.agg #[f, tt, kk]) (Ref.newRS n)) := Lib.hid ⟨_, _, _, rfl, hf, ht, hk⟩; obtain ⟨E0, m0, d0, rfl⟩ := hf.form'; obtain ⟨E1, m1, d1, rfl⟩ := ht.form'; obtain ⟨E2, m2, d2, rfl⟩ := hk.form'; (first | (obtain ⟨hB, lw, hbl⟩ := new_mem1 hb; have tok : True := trivial) | obtain ⟨hB, lw, hbl, hrw⟩ := new_mem2 hb); have HB := Lib.hid hbl; have HBB := Lib.hid hB; have fr := hB.frozen; obtain ⟨c0, c1, c2, c3, c4⟩ := five hB; clear hf ht hk hb hbl hB)
  all_goals go_wp2_with fail
  · refine bodyPost_ret (v := .agg #[.slice E0 m0 d0, .slice E1 m1 d1, .slice E2 m2 d2, .slice (some ⟨w1.heap.size, 0, none⟩) n n, .int .i64 room]) (by simp [results, Try.results29, go_sem, lw, c0, c1, c2, c3, c4]) rfl ?_
    with_reducible exact new_end' hn HR.out HBB.out HB.out
  · refine bodyPost_ret (v := .agg #[.slice E0 m0 d0, .slice E1 m1 d1, .slice E2 m2 d2, .slice (some ⟨w.heap.size + 1, 0, none⟩) n n, .int .i64 room]) (by simp [results, Try.results29, go_sem, lw, c0, c1, c2, c3, c4]) rfl ?_
    with_reducible exact new_end hn HR.out HBB.out HB.out hrw
end Go.Proofs.Ythdjagmeggckcaa.Pref
