/- The reference's pool: contracts of Put, Get, Free, New. -/
import Derived.Test.YthdjagmeggckcaaPref
namespace Go.Proofs.Ythdjagmeggckcaa.Pref
open Go.RowKit Pool

/-- The ten cells of a packet, stored from offset o on. -/
@[reducible] def setRow (w : World) (g o : Nat) (y : Pk) : World :=
  ((((((((((w.setCell ⟨g, o, none⟩ (.int .i64 y.seq)).setCell ⟨g, o + 1, none⟩ (.int .i64 y.size)).setCell ⟨g, o + 2, none⟩ (.int .i64 y.ver)).setCell ⟨g, o + 3, none⟩ (.int .u64 y.shi)).setCell ⟨g, o + 4, none⟩ (.int .u64 y.slo)).setCell ⟨g, o + 5, none⟩ (.int .u64 y.dhi)).setCell ⟨g, o + 6, none⟩ (.int .u64 y.dlo)).setCell ⟨g, o + 7, none⟩ (.int .i64 y.proto)).setCell ⟨g, o + 8, none⟩ (.int .i64 y.sport)).setCell ⟨g, o + 9, none⟩ (.int .i64 y.dport))

theorem setRow_rows {w : World} {g k : Nat} {l : List Pk} {x : Pk} (h : RowsIn w g 70 10 Pk.enc l) (hx : l[k]? = some x) (y : Pk) : RowsIn (setRow w g (k * 10) y) g 70 10 Pk.enc (l.set k y) := by
  have hl : k < l.length := (List.getElem?_eq_some_iff.1 hx).1
  have hz : ∀ x : Pk, (Pk.enc x).length = 10 := fun _ => rfl
  have r0 := h.set_ (x' := { x with seq := y.seq }) (u := .int .i64 y.seq) hz hx (j := 0) (by decide) rfl
  have r1 := r0.set_ (x' := { x with seq := y.seq, size := y.size }) (u := .int .i64 y.size) hz (List.getElem?_set_self hl) (j := 1) (by decide) rfl
  rw [List.set_set] at r1
  have r2 := r1.set_ (x' := { x with seq := y.seq, size := y.size, ver := y.ver }) (u := .int .i64 y.ver) hz (List.getElem?_set_self hl) (j := 2) (by decide) rfl
  rw [List.set_set] at r2
  have r3 := r2.set_ (x' := { x with seq := y.seq, size := y.size, ver := y.ver, shi := y.shi }) (u := .int .u64 y.shi) hz (List.getElem?_set_self hl) (j := 3) (by decide) rfl
  rw [List.set_set] at r3
  have r4 := r3.set_ (x' := { x with seq := y.seq, size := y.size, ver := y.ver, shi := y.shi, slo := y.slo }) (u := .int .u64 y.slo) hz (List.getElem?_set_self hl) (j := 4) (by decide) rfl
  rw [List.set_set] at r4
  have r5 := r4.set_ (x' := { x with seq := y.seq, size := y.size, ver := y.ver, shi := y.shi, slo := y.slo, dhi := y.dhi }) (u := .int .u64 y.dhi) hz (List.getElem?_set_self hl) (j := 5) (by decide) rfl
  rw [List.set_set] at r5
  have r6 := r5.set_ (x' := { x with seq := y.seq, size := y.size, ver := y.ver, shi := y.shi, slo := y.slo, dhi := y.dhi, dlo := y.dlo }) (u := .int .u64 y.dlo) hz (List.getElem?_set_self hl) (j := 6) (by decide) rfl
  rw [List.set_set] at r6
  have r7 := r6.set_ (x' := { x with seq := y.seq, size := y.size, ver := y.ver, shi := y.shi, slo := y.slo, dhi := y.dhi, dlo := y.dlo, proto := y.proto }) (u := .int .i64 y.proto) hz (List.getElem?_set_self hl) (j := 7) (by decide) rfl
  rw [List.set_set] at r7
  have r8 := r7.set_ (x' := { y with dport := x.dport }) (u := .int .i64 y.sport) hz (List.getElem?_set_self hl) (j := 8) (by decide) rfl
  rw [List.set_set] at r8
  have r9 := r8.set_ (x' := y) (u := .int .i64 y.dport) hz (List.getElem?_set_self hl) (j := 9) (by decide) rfl
  rw [List.set_set] at r9
  exact r9

theorem setRow_kept {F : Nat → Prop} {a w : World} (h : Kept F a w) {g o : Nat} (hg : F g ∨ a.heap.size ≤ g) (y : Pk) : Kept F a (setRow w g o y) :=
  ((((((((((h.setCell hg _).setCell hg _).setCell hg _).setCell hg _).setCell hg _).setCell hg _).setCell hg _).setCell hg _).setCell hg _).setCell hg _)

/-- A slice over rows in one block. -/
theorem sl_of_rows {α : Type} {w : World} {g c size : Nat} {t : TypeId} {enc : α → List Value} {l : List α} (h : RowsIn w g t size enc l) (hc : l.length ≤ c) (hm : c ≤ maxLen) : Sl w t size enc (.slice (some ⟨g, 0, none⟩) l.length c) l := by
  obtain ⟨arr, hb, hle, hr⟩ := h
  refine ⟨_, c, rfl, hc, hm, fun _ => ⟨g, 0, arr, (0, 0), rfl, hb, fun k x hx j u hu => ?_⟩⟩
  rw [Nat.zero_add, hb.cell]
  exact hr k x hx j u hu

/-- Behind a call that left what was there: three blocks that the caller had just laid. -/
theorem three_new {w w1 : World} {t t' t'' : TypeId} {cs cs' cs'' : Array Value} (hb : Below (((w.alloc (.cells cs t)).alloc (.cells cs' t')).alloc (.cells cs'' t'')).heap.size (((w.alloc (.cells cs t)).alloc (.cells cs' t')).alloc (.cells cs'' t'')) w1) :
    Blk w1 w.heap.size t cs ∧ Blk w1 (w.heap.size + 1) t' cs' ∧ Blk w1 (w.heap.size + 1 + 1) t'' cs'' ∧ w.heap.size + 1 + 1 < w1.heap.size ∧ Below w.heap.size w w1 := by
  have hs := hb.size
  simp at hs
  have h2 : Blk ((w.alloc (.cells cs t)).alloc (.cells cs' t')) (w.heap.size + 1) t' cs' := by have := Blk.new (w.alloc (.cells cs t)) t' cs'; simpa using this
  have h3 : Blk (((w.alloc (.cells cs t)).alloc (.cells cs' t')).alloc (.cells cs'' t'')) (w.heap.size + 1 + 1) t'' cs'' := by have := Blk.new ((w.alloc (.cells cs t)).alloc (.cells cs' t')) t'' cs''; simpa using this
  exact ⟨(((Blk.new w t cs).alloc _).alloc _).kept (F := none_) (Kept.below hb rfl) (fun h => h), (h2.alloc _).kept (F := none_) (Kept.below hb rfl) (fun h => h), h3.kept (F := none_) (Kept.below hb rfl) (fun h => h), by omega,
    ((((Below.refl _ _).alloc (Nat.le_refl _) _).alloc (by simp) _).alloc (by simp; omega) _).trans (hb.mono (by simp; omega))⟩

theorem Own.rows {α : Type} {w : World} {base size : Nat} {t : TypeId} {enc : α → List Value} {v : Value} {l : List α} (hsz : ∀ x, (enc x).length = size) (h : Own w base t size enc v l) (hne : l ≠ []) :
    ∃ g c, v = .slice (some ⟨g, 0, none⟩) l.length c ∧ RowsIn w g t size enc l ∧ l.length ≤ c ∧ c ≤ maxLen ∧ base ≤ g := by
  have h' := h
  obtain ⟨h1, h2⟩ := h
  rcases h2 with ⟨_, hn⟩ | ⟨g, cap, cur, rfl, hg, hh, hnc, hcm, hcs, hx⟩
  · exact absurd (List.eq_nil_of_length_eq_zero hn) hne
  · obtain ⟨hr, _⟩ := RowsIn.of_own (l := l) hsz h' rfl
    exact ⟨g, cap, rfl, hr, hnc, hcm, hg⟩

/-- The five cells of a pool. -/
theorem five {w : World} {g : Nat} {t : TypeId} {a b c d e : Value} (h : Blk w g t #[a, b, c, d, e]) :
    w.cell? ⟨g, 0, none⟩ = some a ∧ w.cell? ⟨g, 1, none⟩ = some b ∧ w.cell? ⟨g, 2, none⟩ = some c ∧ w.cell? ⟨g, 3, none⟩ = some d ∧ w.cell? ⟨g, 4, none⟩ = some e := ⟨h.cell 0, h.cell 1, h.cell 2, h.cell 3, h.cell 4⟩

theorem Is.form {w : World} {v : Value} {x : RP} (h : Is w v x) : ∃ A0 n0 c0 A1 n1 c1 A2 n2 c2 A3 n3 c3, v = .agg #[.slice A0 n0 c0, .slice A1 n1 c1, .slice A2 n2 c2, .slice A3 n3 c3, .int .i64 x.room] := by
  obtain ⟨f, t, kk, kp, rfl, ⟨f', t', kk', e, hf, ht, hk⟩, hs⟩ := h
  injection e with e
  simp at e
  obtain ⟨rfl, rfl, rfl⟩ := e
  obtain ⟨A0, n0, c0, rfl⟩ := hf.form'
  obtain ⟨A1, n1, c1, rfl⟩ := ht.form'
  obtain ⟨A2, n2, c2, rfl⟩ := hk.form'
  obtain ⟨A3, n3, c3, rfl⟩ := hs.form'
  exact ⟨A0, n0, c0, A1, n1, c1, A2, n2, c2, A3, n3, c3, rfl⟩

def PutP (w : World) (x : RP) (at_ turn why : Int) (e : Ending) (w' : World) : Prop :=
  ∃ v, e = .returned (.tuple #[v, .int .i64 at_, .int .i64 turn, .int .i64 why]) ∧ Is w' v x ∧ Below w.heap.size w w'

set_option maxRecDepth 100000 in
set_option maxHeartbeats 2000000 in
theorem put_no (v : Value) (x : RP) (y : Pk) (w : World) (h : Is w v x) (hlen : x.kept.length = x.rs.taken.length) (hl : x.kept.length ≤ 4096) (hsz : Sized x) (hf : rfits x y.size ≠ 0) :
    Calls Try.prog 33 #[v, y.v] w (PutP w x 0 0 (rfits x y.size)) := by
  have hf' : (rfits x y.size == 0) = false := by simpa using hf
  have H := Lib.hid h
  obtain ⟨A0, n0, c0, A1, n1, c1, A2, n2, c2, A3, n3, c3, rfl⟩ := h.form
  clear h
  have C := Lib.hid (fun W (hk : Kept none_ w W) => fits_any _ x y.size W (H.out.ext hk) hlen hl hsz)
  clear hf hlen hl hsz
  generalize rfits x y.size = why at *
  go_enter Try.func33, Try.ntmps33
  go_wp2_with fail
  refine (C.out _ ((((Kept.refl _ _).alloc _).alloc _).alloc _)).mono ?_
  rintro e w1 ⟨rfl, hb⟩
  obtain ⟨b1, b2, b3, lw, hbb⟩ := three_new hb
  obtain ⟨q0, q1, q2, q3, q4⟩ := five b1
  obtain ⟨d0, d1, d2, d3, d4⟩ := five b3
  have fr := b3.frozen
  have HB := Lib.hid hbb
  clear hb hbb C b2 b1 b3
  go_wp2_with fail
  refine bodyPost_ret (v := .tuple #[.agg #[.slice A0 n0 c0, .slice A1 n1 c1, .slice A2 n2 c2, .slice A3 n3 c3, .int .i64 x.room], .int .i64 0, .int .i64 0, .int .i64 why]) (by simp [results, Try.results33, go_sem, lw, d0, d1, d2, d3, d4]) rfl ?_
  have K : Below w.heap.size w (((((w1.setCell ⟨w.heap.size + 1 + 1, 0, none⟩ (.slice A0 n0 c0)).setCell ⟨w.heap.size + 1 + 1, 1, none⟩ (.slice A1 n1 c1)).setCell ⟨w.heap.size + 1 + 1, 2, none⟩ (.slice A2 n2 c2)).setCell ⟨w.heap.size + 1 + 1, 3, none⟩ (.slice A3 n3 c3)).setCell ⟨w.heap.size + 1 + 1, 4, none⟩ (.int .i64 x.room)) :=
    ((((HB.out.setCell (by simp; omega) _).setCell (by simp; omega) _).setCell (by simp; omega) _).setCell (by simp; omega) _).setCell (by simp; omega) _
  exact ⟨_, rfl, H.out.ext (Kept.below K rfl), K⟩

theorem info70 : (Try.prog.info? 70).map (fun i => (i.zero, i.size, i.bytes)) = some (some Pk.zero.v, 10, 80) := zero70
theorem pk_one (x : Pk) : ∀ u ∈ Pk.enc x, u.oneCell' = true := by
  intro u hu
  simp [Pk.enc] at hu
  rcases hu with rfl | rfl | rfl | rfl | rfl | rfl | rfl | rfl | rfl | rfl <;> rfl

theorem put_mem {w2 w6 : World} {b0 b1 b2 : Nat} {a0 a1 a2 a3 rm e0 e1 e2 v6 : Value} {z5 ys : Array Value} {kept : List Pk}
    (h0 : Blk w2 b0 62 #[a0, a1, a2, a3, rm]) (h1 : Blk w2 b1 70 ys) (h2 : Blk w2 b2 62 z5) (n2 : b2 ≠ b0)
    (ho : Own w6 (w2.heap.size + 1) 70 10 Pk.enc v6 ([] ++ kept))
    (hg : (((((w2.setCell ⟨b0, 0, none⟩ e0).setCell ⟨b0, 1, none⟩ e1).setCell ⟨b0, 2, none⟩ e2).alloc (.cells #[e0, e1, e2] 37)).alloc (.cells #[] 70)).grownBy w6 (Value.slice (some ⟨w2.heap.size + 1, 0, none⟩) 0 0).ownBlock)
    (hne : kept ≠ []) :
    ∃ g c, v6 = .slice (some ⟨g, 0, none⟩) kept.length c ∧ RowsIn w6 g 70 10 Pk.enc kept ∧ kept.length ≤ c ∧ c ≤ maxLen ∧ w2.heap.size < g ∧
      Blk w6 b0 62 #[e0, e1, e2, a3, rm] ∧ Blk w6 b1 70 ys ∧ Blk w6 b2 62 z5 ∧ Kept (fun i => i = b0) w2 w6 := by
  rw [List.nil_append] at ho
  obtain ⟨g, c, rfl, hr, h3, h4, h5⟩ := Own.rows (enc := Pk.enc) (size := 10) (fun _ => rfl) ho hne
  have hk := Kept.grown (F := fun i => i = w2.heap.size + 1) hg (fun q hq => .inl (by simpa [Value.ownBlock] using hq.symm))
  have K0 : Kept (fun i => i = b0) w2 (((((w2.setCell ⟨b0, 0, none⟩ e0).setCell ⟨b0, 1, none⟩ e1).setCell ⟨b0, 2, none⟩ e2).alloc (.cells #[e0, e1, e2] 37)).alloc (.cells #[] 70)) :=
    ((((Kept.setCell (F := fun i => i = b0) (p := ⟨b0, 0, none⟩) (Kept.refl _ _) (.inl rfl) _).setCell (p := ⟨b0, 1, none⟩) (.inl rfl) _).setCell (p := ⟨b0, 2, none⟩) (.inl rfl) _).alloc _).alloc _
  have l0 := h0.lt
  have l1 := h1.lt
  have l2 := h2.lt
  have KK := K0.trans' hk (fun i hi => .inr (by omega))
  refine ⟨g, c, rfl, hr, h3, h4, h5, ?_, h1.kept KK (h1.ne_ h0 (by decide)), h2.kept KK n2, KK⟩
  have hb := ((((h0.set_ 0 e0).set_ 1 e1).set_ 2 e2).alloc (.cells #[e0, e1, e2] 37)).alloc (.cells #[] 70)
  have := hb.kept hk (by omega)
  simpa using this

theorem put_end {w w2 w6 : World} {b0 b2 g c k : Nat} {f t kk sp s0 s1 s2 s3 s4 : Value} {z5 e5 : Array Value} {x : RP} {rs : Ref.RS} {x0 y : Pk} {turn : Int}
    (hR : Ref.Is w2 (.agg #[f, t, kk]) rs) (hK2 : Kept none_ w w2) (hK6 : Kept (fun i => i = b0) w2 w6) (h0 : Blk w2 b0 62 e5) (h2 : Blk w2 b2 62 z5) (hb0 : w.heap.size ≤ b0) (hb2 : w.heap.size ≤ b2)
    (l0 : b0 < w2.heap.size) (l2 : b2 < w2.heap.size) (hg : w2.heap.size < g) (hr : RowsIn w6 g 70 10 Pk.enc x.kept) (hx : x.kept[k]? = some x0) (hc : x.kept.length ≤ c) (hm : c ≤ maxLen) :
    PutP w { x with rs := rs, kept := x.kept.set k y } k turn 0 (.returned (.tuple #[.agg #[f, t, kk, .slice (some ⟨g, 0, none⟩) x.kept.length c, .int .i64 x.room], .int .i64 k, .int .i64 turn, .int .i64 0]))
      ((((((setRow w6 g (k * 10) y).setCell ⟨b0, 3, none⟩ sp).setCell ⟨b2, 0, none⟩ s0).setCell ⟨b2, 1, none⟩ s1).setCell ⟨b2, 2, none⟩ s2).setCell ⟨b2, 3, none⟩ s3 |>.setCell ⟨b2, 4, none⟩ s4) := by
  have r1 := setRow_rows hr hx y
  have r2 := (((((r1.far (p := ⟨b0, 3, none⟩) (by simp; omega) sp).far (p := ⟨b2, 0, none⟩) (by simp; omega) s0).far (p := ⟨b2, 1, none⟩) (by simp; omega) s1).far (p := ⟨b2, 2, none⟩) (by simp; omega) s2).far (p := ⟨b2, 3, none⟩) (by simp; omega) s3).far (p := ⟨b2, 4, none⟩) (by simp; omega) s4
  have K1 := setRow_kept (F := fun i => i = g) (a := w6) (w := w6) (g := g) (o := k * 10) (Kept.refl _ _) (.inl rfl) y
  have K3 := (((((K1.mono (G := fun i => i = g ∨ i = b0 ∨ i = b2) (fun i _ h => .inl h)).setCell (p := ⟨b0, 3, none⟩) (.inl (.inr (.inl rfl))) sp).setCell (p := ⟨b2, 0, none⟩) (.inl (.inr (.inr rfl))) s0).setCell (p := ⟨b2, 1, none⟩) (.inl (.inr (.inr rfl))) s1).setCell (p := ⟨b2, 2, none⟩) (.inl (.inr (.inr rfl))) s2).setCell (p := ⟨b2, 3, none⟩) (.inl (.inr (.inr rfl))) s3 |>.setCell (p := ⟨b2, 4, none⟩) (.inl (.inr (.inr rfl))) s4
  have K4 := (hK6.mono (G := fun i => i = b0 ∨ i = b2) (fun i _ h => .inl h)).trans' K3 (fun i h => by rcases h with h | h | h; exact .inr (by omega); exact .inl (.inl h); exact .inl (.inr h))
  have K5 := hK2.trans' K4 (fun i h => .inr (by omega))
  have off : ∀ t', t' ≠ 62 → Off w2 t' (fun i => i = b0 ∨ i = b2) := fun t' ht => (Off.one h0 (Ne.symm ht)).or (Off.one h2 (Ne.symm ht))
  refine ⟨_, rfl, ⟨f, t, kk, _, rfl, hR.kept K4 (off 3 (by decide)) (off 4 (by decide)), ?_⟩, K5.toBelow'⟩
  have := sl_of_rows (c := c) r2 (by simpa using hc) hm
  simpa using this

set_option maxRecDepth 100000 in
set_option maxHeartbeats 4000000 in
theorem put_yes (v : Value) (x : RP) (y : Pk) (k : Nat) (rest : List Int) (turn : Int) (w : World) (h : Is w v x) (hlen : x.kept.length = x.rs.taken.length) (hl : x.kept.length ≤ 4096) (hsz : Sized x) (hf : rfits x y.size = 0)
    (h0 : x.rs.free = (k : Int) :: rest) (ht0 : x.rs.turns[k]? = some turn) (hk0 : k < x.kept.length) :
    Calls Try.prog 33 #[v, y.v] w (PutP w { x with rs := { x.rs with free := rest, taken := x.rs.taken.set k true }, kept := x.kept.set k y } k turn 0) := by
  obtain ⟨i0, hi0, hz0, hz1, hz2⟩ := info_parts info70
  have H := Lib.hid h
  have C := Lib.hid (fun W (hk : Kept none_ w W) => hf ▸ fits_any _ x y.size W (h.ext hk) hlen hl hsz)
  obtain ⟨f, t, kk, kp, rfl, hR, hs⟩ := h
  have HR := Lib.hid hR
  have HS := Lib.hid hs
  obtain ⟨f', t', kk', e, hf', ht', hk'⟩ := hR
  injection e with e
  simp at e
  obtain ⟨rfl, rfl, rfl⟩ := e
  obtain ⟨A0, n0, c0, rfl⟩ := hf'.form'
  obtain ⟨A1, n1, c1, rfl⟩ := ht'.form'
  obtain ⟨A2, n2, c2, rfl⟩ := hk'.form'
  obtain ⟨A3, n3, c3, rfl⟩ := hs.form'
  have T := Lib.hid (fun W v (hI : Ref.Is W v x.rs) => Ref.take_some v x.rs k rest turn W hI h0 ht0 (by rw [← hlen]; exact hk0) (by rw [← hlen]; omega))
  have HL := Lib.hid hlen
  clear hf' ht' hk' hs hlen hsz hf h0 ht0
  go_enter Try.func33, Try.ntmps33
  go_wp2_with fail
  refine (C.out _ ((((Kept.refl _ _).alloc _).alloc _).alloc _)).mono ?_
  rintro e w1 ⟨rfl, hb⟩
  obtain ⟨b1, b2, b3, lw, hbb⟩ := three_new hb
  obtain ⟨q0, q1, q2, q3, q4⟩ := five b1
  have B1 := Lib.hid b1
  have B2 := Lib.hid b2
  have B3 := Lib.hid b3
  have K1 := Lib.hid (Kept.below (F := none_) hbb rfl)
  clear hb hbb C b2 b1 b3
  go_wp2_with fail
  refine (T.out _ _ (HR.out.kept K1.out Off.none_ Off.none_)).mono ?_
  rintro e w2 ⟨v2, rfl, ⟨f2, t2, kk2, rfl, hf2, ht2, hk2⟩, hb2⟩
  have HR2 : Hid (Ref.Is w2 (.agg #[f2, t2, kk2]) { x.rs with free := rest, taken := x.rs.taken.set k true }) := Lib.hid ⟨_, _, _, rfl, hf2, ht2, hk2⟩
  obtain ⟨E0, m0, d0', rfl⟩ := hf2.form'
  obtain ⟨E1, m1, d1', rfl⟩ := ht2.form'
  obtain ⟨E2, m2, d2', rfl⟩ := hk2.form'
  have KK := Lib.hid (Kept.below (F := none_) hb2 rfl)
  have K2 := Lib.hid (K1.out.trans KK.out)
  have lw2 := Nat.lt_of_lt_of_le lw hb2.size
  have C1 := B1.out.kept KK.out (fun h => h)
  have C2 := Lib.hid (B2.out.kept KK.out (fun h => h))
  have C3 := Lib.hid (B3.out.kept KK.out (fun h => h))
  clear hf2 ht2 hk2 hb2 KK B1 B2 B3 q0 q1 q2 q3 q4 T K1 lw
  obtain ⟨q0, q1, q2, q3, q4⟩ := five C1
  have fr := C1.frozen
  have HC1 := Lib.hid C1
  clear C1
  have hkk : 0 < x.kept.length := by omega
  have hk0' : (0 : Int) ≤ (k : Int) := by omega
  have hk1' : (k : Int) < (x.kept.length : Int) := by omega
  have lx : w.heap.size < w2.heap.size := by omega
  have K2' : Kept none_ w w2 := K2.out
  go_wp2_with (at_builtin; refine wpList_append_sl _ rfl _ _ 60 rfl (w2.heap.size + 1) 70 i0 Pk.zero.v 10 80 Try.underlying60 hi0 hz0 hz1 hz2 rfl (by decide) (fun _ => rfl) pk_one (.slice (some ⟨w2.heap.size + 1, 0, none⟩) 0 0) ([] : List Pk) rfl (Own.lit0' _ (w2.heap.size + 1) (w2.heap.size + 1) (by simp) (by simp)) _ x.kept rfl (HS.out.kept (F := none_) (((((K2'.setCell (.inr (by simp)) _).setCell (.inr (by simp)) _).setCell (.inr (by simp)) _).alloc _).alloc _) Off.none_) (by unfold maxLen; simp; omega) (by simp; omega) (by simp) ?_; intro v6 w6 hown6 hgrow6 hat6; obtain ⟨g, c6, rfl, hrw, h6l, h6m, hgl, P0, P1, P2, KK6⟩ := put_mem HC1.out C2.out C3.out (by omega) hown6 hgrow6 (by rintro e; simp [e] at hkk); obtain ⟨x0, hx0⟩ : (∃ x0, x.kept[k]? = some x0) := ⟨x.kept[k]'hk0, by simp⟩; clear hown6 hgrow6 hat6 q0 q1 q2 q3 q4 fr; obtain ⟨q0, q1, q2, q3, q4⟩ := five P0; obtain ⟨d0, d1, d2, d3, d4⟩ := five P2; obtain ⟨y0, y1, y2, y3, y4, y5, y6, y7, y8, y9⟩ := pk_cells P1; have fr := P0.frozen; have fr2 := P2.frozen; have frg := hrw.frozen; have z0 := hrw.cell hx0 0 rfl; have z1 := hrw.cell hx0 1 rfl; have z2 := hrw.cell hx0 2 rfl; have z3 := hrw.cell hx0 3 rfl; have z4 := hrw.cell hx0 4 rfl; have z5 := hrw.cell hx0 5 rfl; have z6 := hrw.cell hx0 6 rfl; have z7 := hrw.cell hx0 7 rfl; have z8 := hrw.cell hx0 8 rfl; have z9 := hrw.cell hx0 9 rfl; rw [Nat.add_zero] at z0; have lg := hrw.lt; have l0 := P0.lt; have l1 := P1.lt; have l2 := P2.lt; have n0 : g ≠ w.heap.size := (by omega); have n1 : g ≠ w.heap.size + 1 := (by omega); have n2 : g ≠ w.heap.size + 1 + 1 := (by omega); have HRW := Lib.hid hrw; have HX0 := Lib.hid hx0; have HP0 := Lib.hid P0; have HP2 := Lib.hid P2; have HKK := Lib.hid KK6; clear hrw hx0 P0 P1 P2 KK6)
  refine bodyPost_ret (v := .tuple #[.agg #[.slice E0 m0 d0', .slice E1 m1 d1', .slice E2 m2 d2', .slice (some ⟨g, 0, none⟩) x.kept.length c6, .int .i64 x.room], .int .i64 k, .int .i64 turn, .int .i64 0]) (by simp [results, Try.results33, go_sem, q0, q1, q2, q3, q4, d0, d1, d2, d3, d4, l0, l1, l2, n0, n1, n2]) rfl ?_
  exact put_end HR2.out K2.out HKK.out HC1.out C3.out (Nat.le_refl _) (by omega) (by omega) (by omega) hgl HRW.out HX0.out h6l h6m
end Go.Proofs.Ythdjagmeggckcaa.Pref
