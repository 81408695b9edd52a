/- The law PoolPlays: its walk, out of the contracts and the plain law. -/
import Derived.Test.YthdjagmeggckcaaPlayLaw
import Derived.Test.YthdjagmeggckcaaHolds
namespace Go.Proofs.Ythdjagmeggckcaa.WPoolPlays
open Go.RowKit SlabLaw PlayLaw Pool Pref

structure Act where
  do_ : Int
  x : Pk
  slot : Int
  turn : Int
def Act.enc (y : Act) : List Value := [.int .i64 y.do_, .int .i64 y.x.seq, .int .i64 y.x.size, .int .i64 y.x.ver, .int .u64 y.x.shi, .int .u64 y.x.slo, .int .u64 y.x.dhi, .int .u64 y.x.dlo, .int .i64 y.x.proto, .int .i64 y.x.sport, .int .i64 y.x.dport, .int .i64 y.slot, .int .i64 y.turn]
@[reducible] def Act.cs (y : Act) : Array Value := #[.int .i64 y.do_, .int .i64 y.x.seq, .int .i64 y.x.size, .int .i64 y.x.ver, .int .u64 y.x.shi, .int .u64 y.x.slo, .int .u64 y.x.dhi, .int .u64 y.x.dlo, .int .i64 y.x.proto, .int .i64 y.x.sport, .int .i64 y.x.dport, .int .i64 y.slot, .int .i64 y.turn]

/-- Memory at a round's head. -/
structure St (w wr : World) (bx a p g r : Nat) (y : Pl) (x : RP) (f t kk kp : Value) : Prop where
  pool : Pool.Is wr a p g r y
  box : Blk wr bx 62 #[f, t, kk, kp, .int .i64 x.room]
  ref : Pref.Is wr (.agg #[f, t, kk, kp, .int .i64 x.room]) x
  below : Below w.heap.size w wr
  ha : w.heap.size ≤ a
  hp : w.heap.size ≤ p
  hg : w.heap.size ≤ g
  hr : w.heap.size ≤ r
  hb : w.heap.size ≤ bx

section
variable {w wr w' : World} {n k bx a p g r ap : Nat} {y y' : Pl} {x x' : RP} {f t kk kp f' t' kk' kp' : Value} {ev : Act}
theorem St.ext (h : St w wr bx a p g r y x f t kk kp) (hk : Kept none_ wr w') : St w w' bx a p g r y x f t kk kp :=
  { h with pool := h.pool.ext hk, box := h.box.kept hk (fun h => h), ref := h.ref.ext hk, below := h.below.trans (hk.toBelow'.mono h.below.size) }
theorem St.al (h : St w wr bx a p g r y x f t kk kp) (o : Obj) : St w (wr.alloc o) bx a p g r y x f t kk kp := h.ext ((Kept.refl _ _).alloc o)
theorem St.pool_ (h : St w wr bx a p g r y x f t kk kp) (hs : Pool.Is w' a p g r y') (hk : Kept (Of4 a p g r) wr w') : St w w' bx a p g r y' x f t kk kp :=
  have off := fun (t : TypeId) => h.pool.off (t := t)
  { h with pool := hs, box := h.box.kept hk (off 62 (by decide) (by decide) (by decide) _ _ _ h.box),
           ref := h.ref.kept_ hk (off 3 (by decide) (by decide) (by decide)) (off 4 (by decide) (by decide) (by decide)) (off 70 (by decide) (by decide) (by decide)),
           below := h.below.trans (hk.toBelow (fun i hi => by rcases hi with rfl | rfl | rfl | rfl; exact h.ha; exact h.hp; exact h.hg; exact h.hr) h.below.size) }
/-- The new value of the reference stored in its box. -/
@[reducible] def wrote (w : World) (bx : Nat) (f t kk kp rm : Value) : World := ((((((w.setCell ⟨bx, 0, none⟩ f).setCell ⟨bx, 1, none⟩ t).setCell ⟨bx, 2, none⟩ kk).setCell ⟨bx, 3, none⟩ kp).setCell ⟨bx, 4, none⟩ rm).alloc (.cells #[f, t, kk, kp, rm] 62))
theorem St.write (h : St w wr bx a p g r y x f t kk kp) (hR : Pref.Is wr (.agg #[f', t', kk', kp', .int .i64 x'.room]) x') :
    St w (wrote wr bx f' t' kk' kp' (.int .i64 x'.room)) bx a p g r y x' f' t' kk' kp' ∧ Kept (fun i => i = bx) wr (wrote wr bx f' t' kk' kp' (.int .i64 x'.room)) := by
  have KF := (((((Kept.setCell (F := fun i => i = bx) (p := ⟨bx, 0, none⟩) (Kept.refl _ wr) (.inl rfl) f').setCell (p := ⟨bx, 1, none⟩) (.inl rfl) t').setCell (p := ⟨bx, 2, none⟩) (.inl rfl) kk').setCell (p := ⟨bx, 3, none⟩) (.inl rfl) kp').setCell (p := ⟨bx, 4, none⟩) (.inl rfl) (.int .i64 x'.room)).alloc (.cells #[f', t', kk', kp', .int .i64 x'.room] 62)
  have hbn : ¬ Of4 a p g r bx := h.pool.off (t := 62) (by decide) (by decide) (by decide) _ _ _ h.box
  refine ⟨?_, KF⟩
  exact { pool := h.pool.kept KF (fun e => hbn (.inl e.symm)) (fun e => hbn (.inr (.inl e.symm))) (fun e => hbn (.inr (.inr (.inl e.symm)))) (fun e => hbn (.inr (.inr (.inr e.symm)))),
          box := by
            have := (((((h.box.set_ 0 f').set_ 1 t').set_ 2 kk').set_ 3 kp').set_ 4 (.int .i64 x'.room)).alloc (.cells #[f', t', kk', kp', .int .i64 x'.room] 62)
            simpa using this,
          ref := hR.kept_ KF (Off.one h.box (by decide)) (Off.one h.box (by decide)) (Off.one h.box (by decide)),
          below := h.below.trans (KF.toBelow (fun i e => by rw [e]; exact h.hb) h.below.size),
          ha := h.ha, hp := h.hp, hg := h.hg, hr := h.hr, hb := h.hb }

/-- The event in its block. -/
def Ev (w : World) (ap : Nat) (y : Act) : Prop := Blk w ap 72 y.cs
theorem Ev.pool_ (h : Ev wr ap ev) (hs : Pool.Is wr a p g r y) (hk : Kept (Of4 a p g r) wr w') : Ev w' ap ev := Blk.kept h hk (hs.off (t := 72) (by decide) (by decide) (by decide) _ _ _ h)
theorem Ev.ext (h : Ev wr ap ev) (hk : Kept none_ wr w') : Ev w' ap ev := Blk.kept h hk (fun h => h)
theorem Ev.write {cs : Array Value} (h : Ev wr ap ev) (hb : Blk wr bx 62 cs) (hk : Kept (fun i => i = bx) wr w') : Ev w' ap ev := Blk.kept h hk (Blk.ne_ h hb (by decide))
theorem Ev.pk (h : Ev w ap ev) : w.cell? ⟨ap, 1, none⟩ = some (.int .i64 ev.x.seq) ∧ w.cell? ⟨ap, 2, none⟩ = some (.int .i64 ev.x.size) ∧ w.cell? ⟨ap, 3, none⟩ = some (.int .i64 ev.x.ver) ∧ w.cell? ⟨ap, 4, none⟩ = some (.int .u64 ev.x.shi) ∧ w.cell? ⟨ap, 5, none⟩ = some (.int .u64 ev.x.slo) ∧
    w.cell? ⟨ap, 6, none⟩ = some (.int .u64 ev.x.dhi) ∧ w.cell? ⟨ap, 7, none⟩ = some (.int .u64 ev.x.dlo) ∧ w.cell? ⟨ap, 8, none⟩ = some (.int .i64 ev.x.proto) ∧ w.cell? ⟨ap, 9, none⟩ = some (.int .i64 ev.x.sport) ∧ w.cell? ⟨ap, 10, none⟩ = some (.int .i64 ev.x.dport) :=
  ⟨Blk.cell h 1, Blk.cell h 2, Blk.cell h 3, Blk.cell h 4, Blk.cell h 5, Blk.cell h 6, Blk.cell h 7, Blk.cell h 8, Blk.cell h 9, Blk.cell h 10⟩
theorem Ev.hd (h : Ev w ap ev) : w.cell? ⟨ap, 0, none⟩ = some (.int .i64 ev.do_) ∧ w.cell? ⟨ap, 11, none⟩ = some (.int .i64 ev.slot) ∧ w.cell? ⟨ap, 12, none⟩ = some (.int .i64 ev.turn) := ⟨Blk.cell h 0, Blk.cell h 11, Blk.cell h 12⟩

/-- The state behind a call of the list. -/
def After (w : World) (n k bx ap : Nat) (room : Int) (ev : Act) (sp : Value) (wx : World) : Prop :=
  ∃ (a p g r : Nat) (y : Pl) (x : RP) (f t kk kp : Value), sp = .pointer (some ⟨a, 0, none⟩) ∧ Ev wx ap ev ∧ St w wx bx a p g r y x f t kk kp ∧ PInv n (k + 1) y x ∧ x.room = room
theorem After.mk_ {room : Int} (hS : St w w' bx a p g r y x f t kk kp) (hA : Ev w' ap ev) (hI : PInv n (k + 1) y x) (hr : x.room = room) : After w n k bx ap room ev (.pointer (some ⟨a, 0, none⟩)) w' := ⟨a, p, g, r, y, x, f, t, kk, kp, rfl, hA, hS, hI, hr⟩
end

def PutAny (W : World) (a p g r : Nat) (e : Ending) (w' : World) : Prop := ∃ v, e = .returned v ∧ Kept (Of4 a p g r) W w'
theorem put_any {n c a p g r : Nat} {y : Pl} {x : RP} {W : World} (z : Pk) (hI : PInv n c y x) (h : Pool.Is W a p g r y) (hn : n + c ≤ 4096) (hr : y.room ≤ 4194304) : Calls Try.prog 32 #[.pointer (some ⟨a, 0, none⟩), z.v] W (PutAny W a p g r) := by
  have h0 := hI.bytes0
  have h1 := hI.le
  by_cases hf : fitsR y z.size = 0
  · obtain ⟨k, rest, sl, e1, e2, e3, e4, e5, e6, e7, _⟩ := hI.put hf
    exact (put_yes a p g r y z k sl W h ⟨h0, by omega⟩ ⟨by omega, hr⟩ hf e2 e3 ⟨e6, by omega⟩).mono fun _ _ ⟨he, _, hk⟩ => ⟨_, he, hk⟩
  · exact (put_no a p g r y z W h ⟨h0, by omega⟩ ⟨by omega, hr⟩ hf).mono fun _ _ ⟨he, hb⟩ => ⟨_, he, Kept.below hb rfl⟩

theorem slice_lt {α : Type} {l : List α} {k : Nat} {x : α} (h : l[k]? = some x) : k < l.length := (List.getElem?_eq_some_iff.1 h).1

set_option maxRecDepth 100000 in
set_option maxHeartbeats 4000000 in
theorem law_any (n0 m0 : Int) (A : Option Addr) (cap : Nat) (es : List Act) (w : World) (hl : es.length ≤ maxLen) (hc : RowsAt w 13 Act.enc A es) :
    Calls Try.prog 7 #[.int .i64 n0, .int .i64 m0, .slice A es.length cap] w fun e w' => e = .returned (.bool true) ∧ Below w.heap.size w w' := by
  unfold maxLen at hl
  have HC := Lib.hid hc
  clear hc
  by_cases hbad : n0 < 1 ∨ 4096 < n0 ∨ m0 < 0 ∨ 4194304 < m0
  · have C := Lib.hid (Pool.new_bad n0 m0 w hbad)
    have hbad' : (decide (n0 < 1) || decide (4096 < n0) || decide (m0 < 0) || decide (4194304 < m0)) = true := by simp; omega
    cases t1 : decide (n0 < 1) <;> cases t2 : decide (4096 < n0) <;> cases t3 : decide (m0 < 0) <;> cases t4 : decide (4194304 < m0)
    all_goals first
    | (rw [t1, t2, t3, t4] at hbad'; cases hbad'; done)
    | (clear hbad hbad'
       go_enter Try.func7, Try.ntmps7
       go_wp2_with fail
       refine C.out.mono ?_
       rintro e w1 ⟨rfl, hb⟩
       go_wp2_with fail
       refine (PoolLaw.lives _).mono ?_
       rintro e w6 ⟨rfl, hb6⟩
       go_wp2_with fail
       go_ret
       exact ⟨rfl, hb.trans (hb6.mono hb.size)⟩)
  obtain ⟨n, rfl⟩ := Int.eq_ofNat_of_zero_le (by omega : 0 ≤ n0)
  have h1 : 1 ≤ n := by omega
  have h2 : n ≤ 4096 := by omega
  have h5 : 0 ≤ m0 := by omega
  have h6 : m0 ≤ 4194304 := by omega
  have t1 : decide ((n : Int) < 1) = false := by simp; omega
  have t2 : decide (4096 < (n : Int)) = false := by simp; omega
  have t5 : decide (m0 < 0) = false := by simp; omega
  have t6 : decide (4194304 < m0) = false := by simp; omega
  clear hbad
  by_cases hbig : 20 < n ∨ 60 < es.length
  · have C := Lib.hid (new_good n m0 w h1 h2 h5 h6)
    by_cases hb1 : 20 < n
    · have t3 : decide (20 < (n : Int)) = true := by simp; omega
      clear hbig
      go_enter Try.func7, Try.ntmps7
      go_wp2_with fail
      refine C.out.mono ?_
      rintro e w1 ⟨a, p, g, r, rfl, _, _, _, _, _, hb⟩
      go_wp2_with fail
      refine (PoolLaw.lives _).mono ?_
      rintro e w6 ⟨rfl, hb6⟩
      go_wp2_with fail
      go_ret
      exact ⟨rfl, hb.trans (hb6.mono hb.size)⟩
    · have t3 : decide (20 < (n : Int)) = false := by simp; omega
      have t4 : decide (60 < (es.length : Int)) = true := by simp; omega
      clear hbig
      go_enter Try.func7, Try.ntmps7
      go_wp2_with fail
      refine C.out.mono ?_
      rintro e w1 ⟨a, p, g, r, rfl, _, _, _, _, _, hb⟩
      go_wp2_with fail
      refine (PoolLaw.lives _).mono ?_
      rintro e w6 ⟨rfl, hb6⟩
      go_wp2_with fail
      go_ret
      exact ⟨rfl, hb.trans (hb6.mono hb.size)⟩
  have h3 : n ≤ 20 := by omega
  have h4 : es.length ≤ 60 := by omega
  clear hbig
  have t3 : decide (20 < (n : Int)) = false := by simp; omega
  have t4 : decide (60 < (es.length : Int)) = false := by simp; omega
  go_enter Try.func7, Try.ntmps7
  go_wp2_with fail
  refine (new_good n m0 _ h1 h2 h5 h6).mono ?_
  rintro e w1 ⟨a, p, g, r, rfl, hs, ha, hp, hg, hr, hb⟩
  go_wp2_with fail
  refine (Pref.new_any n m0 _ (by omega)).mono ?_
  rintro e w2 ⟨v, rfl, hR, hb2⟩
  obtain ⟨A0, m0', c0, A1, m1, c1, A2, m2, c2, A3, m3, c3, rfl⟩ := hR.form
  have hz := Nat.le_trans hb.size hb2.size
  have HS : Hid (St w (w2.alloc (.cells #[.slice A0 m0' c0, .slice A1 m1 c1, .slice A2 m2 c2, .slice A3 m3 c3, .int .i64 m0] 62)) w2.heap.size a p g r (Pool.new n m0) (newRP n m0) (.slice A0 m0' c0) (.slice A1 m1 c1) (.slice A2 m2 c2) (.slice A3 m3 c3)) := Lib.hid
    { pool := (hs.ext (Kept.below hb2 rfl)).ext ((Kept.refl _ _).alloc _), box := Blk.new _ _ _, ref := hR.ext ((Kept.refl _ _).alloc _),
      below := (hb.trans (hb2.mono hb.size)).alloc hz _, ha := ha, hp := hp, hg := hg, hr := hr, hb := hz }
  clear hs hb hb2 hR hz ha hp hg hr
  go_wp2_with fail
  go_loopg [7, 67] es.length (fun m sp i wr => ∃ (k a p g r : Nat) (y : Pl) (x : RP) (f t kk kp : Value), m + k = es.length ∧ sp = .pointer (some ⟨a, 0, none⟩) ∧ i = .int .i64 k ∧ St w wr w2.heap.size a p g r y x f t kk kp ∧ PInv n k y x ∧ x.room = m0)
  case atStart => exact ⟨0, a, p, g, r, _, _, _, _, _, _, by omega, rfl, rfl, HS.out, PInv.new n h1 m0 h5, rfl⟩
  case round =>
    clear HS
    obtain ⟨k, a, p, g, r, y, x, f, t, kk, kp, hm, rfl, rfl, hS, hI, hroom⟩ := hrel
    by_cases hlt : k < es.length
    · obtain ⟨ev, hev⟩ : ∃ ev, es[k]? = some ev := ⟨es[k]'(by omega), by simp⟩
      obtain ⟨ab, aoff, rfl, hab, hcc⟩ := (HC.out.below hS.below) (by rintro rfl; simp at hev)
      have q0 := hcc k ev hev 0 _ rfl
      have q1 := hcc k ev hev 1 _ rfl
      have q2 := hcc k ev hev 2 _ rfl
      have q3 := hcc k ev hev 3 _ rfl
      have q4 := hcc k ev hev 4 _ rfl
      have q5 := hcc k ev hev 5 _ rfl
      have q6 := hcc k ev hev 6 _ rfl
      have q7 := hcc k ev hev 7 _ rfl
      have q8 := hcc k ev hev 8 _ rfl
      have q9 := hcc k ev hev 9 _ rfl
      have q10 := hcc k ev hev 10 _ rfl
      have q11 := hcc k ev hev 11 _ rfl
      have q12 := hcc k ev hev 12 _ rfl
      rw [Nat.add_zero] at q0
      clear hcc hev
      have hk0 : (0 : Int) ≤ (k : Int) := by omega
      have hk1 : (k : Int) < (es.length : Int) := by omega
      have HS := Lib.hid hS
      have HI := Lib.hid hI
      have HRM := Lib.hid hroom
      have hpl := hS.pool.lt.1
      have hbl := hS.box.lt
      clear hS hI hroom
      go_wp2_with fail
      generalize hW : World.alloc wr _ = W1
      have hS1 := HS.out.al (.cells ev.cs 72)
      have hA1 : Ev (wr.alloc (.cells ev.cs 72)) wr.heap.size ev := Blk.new wr 72 ev.cs
      have lW1 : wr.heap.size < (wr.alloc (.cells ev.cs 72)).heap.size := by simp
      rw [hW] at hS1 hA1 lW1
      obtain ⟨A0', m0'', c0', A1', m1', c1', A2', m2', c2', A3', m3', c3', hform⟩ := hS1.ref.form
      injection hform with hform
      simp only [Array.mk.injEq, List.cons.injEq, and_true] at hform
      obtain ⟨rfl, rfl, rfl, rfl⟩ := hform
      have HS1 := Lib.hid hS1
      have HA1 := Lib.hid hA1
      obtain ⟨why, hwhy⟩ : ∃ why, fitsR y ev.x.size = why := ⟨_, rfl⟩
      have hb0 := HI.out.bytes0
      have hb1 := HI.out.le
      have hroom := HI.out.room
      rw [HRM.out] at hroom
      have hlk : x.kept.length = x.rs.taken.length := by rw [HI.out.len, HI.out.inv.lk]
      have hl4 : x.kept.length ≤ 4096 := by rw [HI.out.len]; omega
      have K30 : ∀ z : Ext W1, Calls Try.prog 30 #[.pointer (some ⟨a, 0, none⟩), .int .i64 ev.x.size] z.w fun e w' => e = .returned (.int .i64 why) ∧ Below z.w.heap.size z.w w' := fun z => by
        have := Pool.fits_any a p g r y ev.x.size z.w (HS1.out.pool.ext z.kept) ⟨hb0, by omega⟩ ⟨by omega, by omega⟩
        rwa [hwhy] at this
      have K31 : ∀ z : Ext W1, Calls Try.prog 31 #[.agg #[.slice A0' m0'' c0', .slice A1' m1' c1', .slice A2' m2' c2', .slice A3' m3' c3', .int .i64 x.room], .int .i64 ev.x.size] z.w fun e w' => e = .returned (.int .i64 why) ∧ Below z.w.heap.size z.w w' := fun z => by
        have := Pref.fits_any _ x ev.x.size z.w (HS1.out.ref.ext z.kept) hlk hl4 HI.out.sized
        rwa [← HI.out.fits, hwhy] at this
      have HK30 := Lib.hid K30
      have HK31 := Lib.hid K31
      have HWHY := Lib.hid hwhy
      have HLK := Lib.hid hlk
      obtain ⟨e0, e1, e2, e3, e4⟩ := five hS1.box
      have g1 := hA1.pk.2.1
      have z0 := fun z => Ext.cell e0 z
      have z1 := fun z => Ext.cell e1 z
      have z2 := fun z => Ext.cell e2 z
      have z3 := fun z => Ext.cell e3 z
      have z4 := fun z => Ext.cell e4 z
      have y1 := fun z => Ext.cell g1 z
      clear K30 K31 hS1 hA1 hW e0 e1 e2 e3 e4 g1 hwhy q0 q1 q2 q3 q4 q5 q6 q7 q8 q9 q10 q11 q12 hroom hlk
      refine wp_region_ext (by kernel_rfl) (by kernel_rfl) ?_
      repeat (go_big_quiet_step ((first | (go_at_call 30; exact ext_call (HK30.out _)) | (go_at_call 31; exact ext_call (HK31.out _)))))
      refine wpQuiet_nil ?_
      intro _ hw'
      obtain ⟨z, rfl⟩ := hw'
      have HSz := Lib.hid (HS1.out.ext z.kept)
      have hAz := HA1.out.ext z.kept
      have hd := hAz.hd.1
      have HAz := Lib.hid hAz
      have lz := hAz.lt
      have hpl' := HSz.out.pool.lt.1
      have hbl' := HSz.out.box.lt
      clear z0 z1 z2 z3 z4 y1 HK30 HK31 hAz HS1 HA1 lW1
      generalize Ext.w z = wz at HSz HAz hd lz hpl' hbl' ⊢
      clear z
      go_upto_block 2 with (fail)
      go_cut [7] (After w n k w2.heap.size wr.heap.size m0 ev)
      case first =>
        obtain ⟨i1, i2, i3⟩ : y.s.slots.length = n ∧ x.rs.taken.length = n ∧ x.rs.turns.length = n := ⟨HI.out.inv.ls, HI.out.inv.lk, HI.out.inv.lt⟩
        have i4 := HI.out.inv.many
        have i5 := HI.out.inv.left
        have i6 := HI.out.room
        rw [HRM.out] at i6
        have I1 := Lib.hid i1
        have I2 := Lib.hid i2
        have I3 := Lib.hid i3
        have I5 := Lib.hid i5
        have I6 := Lib.hid i6
        clear i1 i2 i3 i5 i6
        by_cases d0 : ev.do_ = 0
        · have d0' : (ev.do_ == 0) = true := by simp [d0]
          clear d0
          obtain ⟨p1, p2, p3, p4, p5, p6, p7, p8, p9, p10⟩ := HAz.out.pk
          by_cases hw0 : why = 0
          · subst hw0
            obtain ⟨k0, rest, sl, f1, f2, f3, f4, f5, f6, f7, hI'⟩ := HI.out.put HWHY.out
            have C1 := Lib.hid (Pool.put_yes a p g r y ev.x k0 sl _ HSz.out.pool ⟨hb0, by have := I6.out; omega⟩ ⟨by rw [I6.out]; omega, by rw [I6.out]; omega⟩ HWHY.out f2 f3 ⟨f6, by omega⟩)
            have INV := Lib.hid (hI'.mono (Nat.le_succ k))
            have C2 := Lib.hid (fun W v (hW : Pref.Is W v x) => Pref.put_yes v x ev.x k0 rest sl.turn W hW HLK.out hl4 HI.out.sized (by rw [← HI.out.fits]; exact HWHY.out) f1 f4 f5)
            clear f1 f2 f3 f4 f5 f6 f7 hI'
            go_wp2_with fail
            refine C1.out.mono ?_
            rintro e w3 ⟨rfl, hP3, K3⟩
            have hA3 := HAz.out.pool_ HSz.out.pool K3
            have HS3 := Lib.hid (HSz.out.pool_ hP3 K3)
            clear C1 hP3 K3 hd lz hpl' hbl' p1 p2 p3 p4 p5 p6 p7 p8 p9 p10
            obtain ⟨p1, p2, p3, p4, p5, p6, p7, p8, p9, p10⟩ := hA3.pk
            obtain ⟨e0, e1, e2, e3, e4⟩ := five HS3.out.box
            have lA := hA3.lt
            have lX := HS3.out.box.lt
            have HA3 := Lib.hid hA3
            clear hA3
            go_wp2_with fail
            refine (C2.out _ _ (HS3.out.ref.ext ((Kept.refl _ _).alloc _))).mono ?_
            rintro e w4 ⟨v, rfl, hR4, hb4⟩
            obtain ⟨B0, l0, b0, B1, l1, b1, B2, l2, b2, B3, l3, b3, rfl⟩ := hR4.form
            obtain ⟨hH4, l34, hb34⟩ := one_new hb4
            have HS4 := Lib.hid (HS3.out.ext (Kept.below hb34 rfl))
            have HA4 := Lib.hid (HA3.out.ext (Kept.below hb34 rfl))
            have HR4 := Lib.hid hR4
            clear e0 e1 e2 e3 e4 p1 p2 p3 p4 p5 p6 p7 p8 p9 p10 C2 hb4 hb34 hR4
            obtain ⟨e0, e1, e2, e3, e4⟩ := five HS4.out.box
            have lX4 := HS4.out.box.lt
            have fX := HS4.out.box.frozen
            obtain ⟨h0, h1'⟩ := cell2 hH4
            clear hH4
            go_wp2_with fail
            go_meet
            case rel =>
              have HW := HS4.out.write (x' := { x with rs := { x.rs with free := rest, taken := x.rs.taken.set k0 true }, kept := x.kept.set k0 ev.x }) HR4.out
              exact After.mk_ (x := { x with rs := { x.rs with free := rest, taken := x.rs.taken.set k0 true }, kept := x.kept.set k0 ev.x }) HW.1 (HA4.out.write HS4.out.box HW.2) INV.out HRM.out
          · have hw0' : (why == 0) = false := by simpa using hw0
            have C1 := Pool.put_no a p g r y ev.x _ HSz.out.pool ⟨hb0, by have := I6.out; omega⟩ ⟨by rw [I6.out]; omega, by rw [I6.out]; omega⟩ (by rw [HWHY.out]; exact hw0)
            rw [HWHY.out] at C1
            have C1 := Lib.hid C1
            have C2 : ∀ W v, Pref.Is W v x → Calls Try.prog 33 #[v, ev.x.v] W (PutP W x 0 0 why) := fun W v hW => by
              have := Pref.put_no v x ev.x W hW HLK.out hl4 HI.out.sized (by rw [← HI.out.fits, HWHY.out]; exact hw0)
              rwa [← HI.out.fits, HWHY.out] at this
            have C2 := Lib.hid C2
            clear hw0
            rename Hid (Calls Try.prog 32 _ _ _) => C1'
            go_wp2_with fail
            refine C1'.out.mono ?_
            rintro e w3 ⟨rfl, hb3⟩
            have HS3 := Lib.hid (HSz.out.ext (Kept.below hb3 rfl))
            have hA3 := HAz.out.ext (Kept.below hb3 rfl)
            clear C1' hb3 hd lz hpl' hbl' p1 p2 p3 p4 p5 p6 p7 p8 p9 p10
            obtain ⟨p1, p2, p3, p4, p5, p6, p7, p8, p9, p10⟩ := hA3.pk
            obtain ⟨e0, e1, e2, e3, e4⟩ := five HS3.out.box
            have lA := hA3.lt
            have lX := HS3.out.box.lt
            have HA3 := Lib.hid hA3
            clear hA3
            go_wp2_with fail
            rename Hid (∀ W v, Pref.Is W v x → _) => C2'
            refine (C2'.out _ _ (HS3.out.ref.ext ((Kept.refl _ _).alloc _))).mono ?_
            rintro e w4 ⟨v, rfl, hR4, hb4⟩
            obtain ⟨B0, l0, b0, B1, l1, b1, B2, l2, b2, B3, l3, b3, rfl⟩ := hR4.form
            obtain ⟨hH4, l34, hb34⟩ := one_new hb4
            have HS4 := Lib.hid (HS3.out.ext (Kept.below hb34 rfl))
            have HA4 := Lib.hid (HA3.out.ext (Kept.below hb34 rfl))
            have HR4 := Lib.hid hR4
            clear e0 e1 e2 e3 e4 p1 p2 p3 p4 p5 p6 p7 p8 p9 p10 C2' hb4 hb34 hR4
            obtain ⟨e0, e1, e2, e3, e4⟩ := five HS4.out.box
            have lX4 := HS4.out.box.lt
            have fX := HS4.out.box.frozen
            obtain ⟨h0, h1'⟩ := cell2 hH4
            clear hH4
            go_wp2_with fail
            go_meet
            case rel => exact After.mk_ (HS4.out.write HR4.out).1 (HA4.out.write HS4.out.box (HS4.out.write HR4.out).2) (HI.out.mono (Nat.le_succ k)) HRM.out
        · have d0' : (ev.do_ == 0) = false := by simp [d0]
          clear d0
          by_cases d1 : ev.do_ = 1
          · have d1' : (ev.do_ == 1) = true := by simp [d1]
            clear d1
            have hh := HAz.out.hd.2
            obtain ⟨hh1, hh2⟩ := hh
            rcases HI.out.live ev.slot ev.turn with ⟨v1, v2⟩ | ⟨v1, v2, k0, sl, pk, v3, v4, v5, v6, v7, v8, v9, v10, v11, v12, v13, v14⟩
            · have C1 := Lib.hid (Pool.get_no a p g r y ev.slot ev.turn _ HSz.out.pool (by rw [I1.out]; omega) v2)
              have C2 := Lib.hid (fun W v (hW : Pref.Is W v x) => Pref.get_no v x ev.slot ev.turn W hW (by rw [I2.out, I3.out]) v1)
              clear v1 v2
              go_wp2_with fail
              refine C1.out.mono ?_
              rintro e w3 ⟨rfl, hb3⟩
              have HS3 := Lib.hid (HSz.out.ext (Kept.below hb3 rfl))
              have hA3 := HAz.out.ext (Kept.below hb3 rfl)
              clear C1 hb3 hd lz hpl' hbl' hh1 hh2
              obtain ⟨hh1, hh2⟩ := hA3.hd.2
              obtain ⟨e0, e1, e2, e3, e4⟩ := five HS3.out.box
              have lA := hA3.lt
              have lX := HS3.out.box.lt
              have HA3 := Lib.hid hA3
              clear hA3
              go_wp2_with fail
              refine (C2.out _ _ (HS3.out.ref.ext ((Kept.refl _ _).alloc _))).mono ?_
              rintro e w4 ⟨rfl, hb4⟩
              obtain ⟨hH4, l34, hb34⟩ := one_new hb4
              have HS4 := Lib.hid (HS3.out.ext (Kept.below hb34 rfl))
              have HA4 := Lib.hid (HA3.out.ext (Kept.below hb34 rfl))
              clear e0 e1 e2 e3 e4 hh1 hh2 C2 hb4 hb34
              obtain ⟨x0, x1, x2, x3, x4, x5, x6, x7, x8, x9⟩ := pk_cells (x := Pk.zero) hH4
              clear hH4
              go_wp2_with fail
              go_meet
              case rel => exact After.mk_ (HS4.out.al _) (HA4.out.ext ((Kept.refl _ _).alloc _)) (HI.out.mono (Nat.le_succ k)) HRM.out
            · obtain ⟨ed, ex, es_, et⟩ := ev
              simp only at v3 v4
              subst v3 v4
              have C1 := Lib.hid (Pool.get_yes a p g r y k0 sl.turn pk _ HSz.out.pool (by rw [I1.out]; omega) v2 v10)
              have C2 := Lib.hid (fun W v (hW : Pref.Is W v x) => Pref.get_yes v x k0 sl.turn pk W hW (by rw [I2.out, I3.out]) v1 v9)
              clear v1 v2 v5 v6 v7 v8 v9 v10
              go_wp2_with fail
              refine C1.out.mono ?_
              rintro e w3 ⟨rfl, hb3⟩
              have HS3 := Lib.hid (HSz.out.ext (Kept.below hb3 rfl))
              have hA3 := HAz.out.ext (Kept.below hb3 rfl)
              clear C1 hb3 hd lz hpl' hbl' hh1 hh2
              obtain ⟨hh1, hh2⟩ := hA3.hd.2
              obtain ⟨e0, e1, e2, e3, e4⟩ := five HS3.out.box
              have lA := hA3.lt
              have lX := HS3.out.box.lt
              have HA3 := Lib.hid hA3
              clear hA3
              go_wp2_with fail
              refine (C2.out _ _ (HS3.out.ref.ext ((Kept.refl _ _).alloc _))).mono ?_
              rintro e w4 ⟨rfl, hb4⟩
              obtain ⟨hH4, l34, hb34⟩ := one_new hb4
              have HS4 := Lib.hid (HS3.out.ext (Kept.below hb34 rfl))
              have HA4 := Lib.hid (HA3.out.ext (Kept.below hb34 rfl))
              clear e0 e1 e2 e3 e4 hh1 hh2 C2 hb4 hb34
              obtain ⟨x0, x1, x2, x3, x4, x5, x6, x7, x8, x9⟩ := pk_cells (x := pk) hH4
              clear hH4
              go_wp2_with fail
              go_meet
              case rel => exact After.mk_ (HS4.out.al _) (HA4.out.ext ((Kept.refl _ _).alloc _)) (HI.out.mono (Nat.le_succ k)) HRM.out
          · have d1' : (ev.do_ == 1) = false := by simp [d1]
            clear d1
            by_cases d2 : ev.do_ = 2
            · have d2' : (ev.do_ == 2) = true := by simp [d2]
              clear d2
              have hh := HAz.out.hd.2
              obtain ⟨hh1, hh2⟩ := hh
              rcases HI.out.live ev.slot ev.turn with ⟨v1, v2⟩ | ⟨v1, v2, k0, sl, pk, v3, v4, v5, v6, v7, v8, v9, v10, v11, v12, v13, v14⟩
              · have C1 := Lib.hid (Pool.free_no a p g r y ev.slot ev.turn _ HSz.out.pool (by rw [I1.out]; omega) v2)
                have C2 := Lib.hid (fun W v (hW : Pref.Is W v x) => Pref.free_no v x ev.slot ev.turn W hW (by rw [I2.out, I3.out]) v1)
                clear v1 v2
                go_wp2_with fail
                refine C1.out.mono ?_
                rintro e w3 ⟨rfl, hb3⟩
                have HS3 := Lib.hid (HSz.out.ext (Kept.below hb3 rfl))
                have hA3 := HAz.out.ext (Kept.below hb3 rfl)
                clear C1 hb3 hd lz hpl' hbl' hh1 hh2
                obtain ⟨hh1, hh2⟩ := hA3.hd.2
                obtain ⟨e0, e1, e2, e3, e4⟩ := five HS3.out.box
                have lA := hA3.lt
                have lX := HS3.out.box.lt
                have HA3 := Lib.hid hA3
                clear hA3
                go_wp2_with fail
                refine (C2.out _ _ (HS3.out.ref.ext ((Kept.refl _ _).alloc _))).mono ?_
                rintro e w4 ⟨v, rfl, hR4, hb4⟩
                obtain ⟨B0, l0, b0, B1, l1, b1, B2, l2, b2, B3, l3, b3, rfl⟩ := hR4.form
                obtain ⟨hH4, l34, hb34⟩ := one_new hb4
                have HS4 := Lib.hid (HS3.out.ext (Kept.below hb34 rfl))
                have HA4 := Lib.hid (HA3.out.ext (Kept.below hb34 rfl))
                have HR4 := Lib.hid hR4
                clear e0 e1 e2 e3 e4 hh1 hh2 C2 hb4 hb34 hR4
                obtain ⟨e0, e1, e2, e3, e4⟩ := five HS4.out.box
                have lX4 := HS4.out.box.lt
                have fX := HS4.out.box.frozen
                obtain ⟨x0, x1, x2, x3, x4, x5, x6, x7, x8, x9⟩ := pk_cells (x := Pk.zero) hH4
                clear hH4
                go_wp2_with fail
                go_meet
                case rel => exact After.mk_ ((HS4.out.write HR4.out).1.al _) ((HA4.out.write HS4.out.box (HS4.out.write HR4.out).2).ext ((Kept.refl _ _).alloc _)) (HI.out.mono (Nat.le_succ k)) HRM.out
              · obtain ⟨ed, ex, es_, et⟩ := ev
                simp only at v3 v4
                subst v3 v4
                have hbd : ∀ u ∈ x.rs.turns, 0 ≤ u ∧ u ≤ 4096 := fun u hu => by
                  obtain ⟨i, hi⟩ := List.getElem?_of_mem hu
                  have hil : i < y.s.slots.length := by rw [I1.out, ← I3.out]; exact (List.getElem?_eq_some_iff.1 hi).1
                  obtain ⟨u1, _, u3, u4⟩ := HI.out.inv.slot i _ (List.getElem?_eq_getElem hil)
                  rw [hi] at u1
                  injection u1 with u1
                  subst u1
                  exact ⟨u3, by omega⟩
                have C1 := Lib.hid (Pool.free_yes a p g r y k0 sl pk _ HSz.out.pool (by rw [I1.out]; omega) v5 v6 v10 ⟨v13, by omega⟩ (by rw [I5.out]; omega) ⟨hb0, by rw [I6.out] at hb1; omega⟩ ⟨by omega, by omega⟩)
                have C2 := Lib.hid (fun W v (hW : Pref.Is W v x) => Pref.free_yes v x k0 sl.turn pk W hW (by rw [I2.out, I3.out]) v8 v7 v9 (by rw [I3.out]; omega) (by omega) hbd)
                have INV := Lib.hid (HI.out.free v5 v7 v9)
                clear v1 v2 v5 v6 v7 v8 v9 v10 hbd
                go_wp2_with fail
                refine C1.out.mono ?_
                rintro e w3 ⟨rfl, hP3, K3⟩
                have hA3 := HAz.out.pool_ HSz.out.pool K3
                have HS3 := Lib.hid (HSz.out.pool_ hP3 K3)
                clear C1 hP3 K3 hd lz hpl' hbl' hh1 hh2
                obtain ⟨hh1, hh2⟩ := hA3.hd.2
                obtain ⟨e0, e1, e2, e3, e4⟩ := five HS3.out.box
                have lA := hA3.lt
                have lX := HS3.out.box.lt
                have HA3 := Lib.hid hA3
                clear hA3
                go_wp2_with fail
                refine (C2.out _ _ (HS3.out.ref.ext ((Kept.refl _ _).alloc _))).mono ?_
                rintro e w4 ⟨v, rfl, hR4, hb4⟩
                obtain ⟨B0, l0, b0, B1, l1, b1, B2, l2, b2, B3, l3, b3, rfl⟩ := hR4.form
                obtain ⟨hH4, l34, hb34⟩ := one_new hb4
                have HS4 := Lib.hid (HS3.out.ext (Kept.below hb34 rfl))
                have HA4 := Lib.hid (HA3.out.ext (Kept.below hb34 rfl))
                have HR4 := Lib.hid hR4
                clear e0 e1 e2 e3 e4 hh1 hh2 C2 hb4 hb34 hR4
                obtain ⟨e0, e1, e2, e3, e4⟩ := five HS4.out.box
                have lX4 := HS4.out.box.lt
                have fX := HS4.out.box.frozen
                obtain ⟨x0, x1, x2, x3, x4, x5, x6, x7, x8, x9⟩ := pk_cells (x := pk) hH4
                clear hH4
                go_wp2_with fail
                go_meet
                case rel =>
                  have HW := HS4.out.write (x' := { x with rs := { free := k0 :: x.rs.free, turns := x.rs.turns.set k0 (sl.turn + 1), taken := x.rs.taken.set k0 false } }) HR4.out
                  exact After.mk_ (x := { x with rs := { free := k0 :: x.rs.free, turns := x.rs.turns.set k0 (sl.turn + 1), taken := x.rs.taken.set k0 false } }) (HW.1.al _) ((HA4.out.write HS4.out.box HW.2).ext ((Kept.refl _ _).alloc _)) INV.out HRM.out
            · have d2' : (ev.do_ == 2) = false := by simp [d2]
              clear d2
              have K32 := Lib.hid (fun W a1 p1 g1 r1 (hW : Pool.Is W a1 p1 g1 r1 y) => put_any (PoolLaw.pk 1) HI.out hW (by omega) (by rw [I6.out]; omega))
              have K38 := Lib.hid (fun W (hW : Pool.Is W a p g r y) => Pool.copy_any a p g r y W hW (by rw [I1.out]; omega) (by rw [I1.out]; omega))
              go_wp2_with fail
              refine (K38.out _ HSz.out.pool).mono ?_
              rintro e w3 ⟨a1, p1, g1, r1, rfl, hs3, ha3, hp3, hg3, hr3, hb3⟩
              go_wp2_with fail
              refine (K32.out _ _ _ _ _ hs3).mono ?_
              rintro e w4 ⟨v, rfl, k4⟩
              have K4 : Kept none_ _ w4 := (Kept.below hb3 rfl).trans' k4 (fun i h => by rcases h with rfl | rfl | rfl | rfl; exact .inr ha3; exact .inr hp3; exact .inr hg3; exact .inr hr3)
              have HS4 := Lib.hid (HSz.out.ext K4)
              have HA4 := Lib.hid (HAz.out.ext K4)
              clear hs3 ha3 hp3 hg3 hr3 hb3 k4 K4
              go_wp2_with fail
              refine (K38.out _ HS4.out.pool).mono ?_
              rintro e w5 ⟨a2, p2, g2, r2, rfl, hs5, ha5, hp5, hg5, hr5, hb5⟩
              have hS5 := HS4.out.ext (Kept.below hb5 rfl)
              have HA5 := Lib.hid (HA4.out.ext (Kept.below hb5 rfl))
              have hz4 := HS4.out.below.size
              have HS5 := Lib.hid (show St w w5 w2.heap.size a2 p2 g2 r2 y x _ _ _ _ from { hS5 with pool := hs5, ha := by omega, hp := by omega, hg := by omega, hr := by omega })
              clear hS5 hs5 ha5 hp5 hg5 hr5 hb5 hz4
              go_wp2_with fail
              go_meet
              case rel => exact After.mk_ HS5.out HA5.out (HI.out.mono (Nat.le_succ k)) HRM.out
      case rest =>
        clear HS HSz HAz HI HRM HWHY HLK hb0 hb1 hl4 hd lz hpl' hbl'
        obtain ⟨a, p, g, r, y, x, f, t, kk, kp, rfl, hA, hS, hI, hroom⟩ := hcut
        obtain ⟨B0, l0, b0, B1, l1, b1, B2, l2, b2, B3, l3, b3, hform⟩ := hS.ref.form
        injection hform with hform
        simp only [Array.mk.injEq, List.cons.injEq, and_true] at hform
        obtain ⟨rfl, rfl, rfl, rfl⟩ := hform
        have hfl : l0 = x.rs.free.length := by
          obtain ⟨f1, t1', k1', kp1, e, ⟨f2, t2', k2', e2, hf, _⟩, _⟩ := hS.ref
          injection e with e
          simp only [Array.mk.injEq, List.cons.injEq, and_true] at e
          obtain ⟨rfl, rfl, rfl, rfl⟩ := e
          injection e2 with e2
          simp only [Array.mk.injEq, List.cons.injEq, and_true] at e2
          obtain ⟨rfl, rfl, rfl⟩ := e2
          exact hf.len.1
        have hmany := hI.many
        have hyn : (y.n : Int) = (n : Int) - (l0 : Int) := by omega
        have hw : IntKind.i64.wrap ((n : Int) - (l0 : Int)) = (n : Int) - (l0 : Int) := IntWalk.i64_in _ (by omega)
        have hw' : wrap64 ((n : Int) - (l0 : Int)) = (n : Int) - (l0 : Int) := by unfold wrap64; omega
        have hle : (l0 : Int) ≤ (n : Int) := by omega
        have hlk : x.kept.length = x.rs.taken.length := by rw [hI.len, hI.inv.lk]
        have hl4 : x.kept.length ≤ 4096 := by rw [hI.len]; omega
        have HS := Lib.hid hS
        have HI := Lib.hid hI
        have HRM := Lib.hid hroom
        have K39 : ∀ z : Ext wc, Calls Try.prog 39 #[.pointer (some ⟨a, 0, none⟩)] z.w fun e w' => e = .returned (.int .i64 y.bytes) ∧ z.w = w' := fun z => Pool.bytes_any a p g r y z.w (HS.out.pool.ext z.kept)
        have K41 : ∀ z : Ext wc, Calls Try.prog 41 #[.pointer (some ⟨a, 0, none⟩)] z.w fun e w' => e = .returned (.int .i64 ((n : Int) - (l0 : Int))) ∧ z.w = w' := fun z => by
          have := Pool.slots_any a p g r y z.w (HS.out.pool.ext z.kept)
          rwa [hyn] at this
        have K40 : ∀ z : Ext wc, Calls Try.prog 40 #[.agg #[.slice B0 l0 b0, .slice B1 l1 b1, .slice B2 l2 b2, .slice B3 l3 b3, .int .i64 x.room]] z.w fun e w' => e = .returned (.int .i64 y.bytes) ∧ Below z.w.heap.size z.w w' := fun z => by
          have := Pref.bytes_any _ x z.w (HS.out.ref.ext z.kept) hlk hl4 HI.out.sized
          rwa [← HI.out.bytes] at this
        have HK39 := Lib.hid K39
        have HK40 := Lib.hid K40
        have HK41 := Lib.hid K41
        obtain ⟨e0, e1, e2, e3, e4⟩ := five hS.box
        have z0 := fun z => Ext.cell e0 z
        have z1 := fun z => Ext.cell e1 z
        have z2 := fun z => Ext.cell e2 z
        have z3 := fun z => Ext.cell e3 z
        have z4 := fun z => Ext.cell e4 z
        clear K39 K40 K41 hS hA hI hroom hfl hmany hyn hlk hl4 e0 e1 e2 e3 e4
        go_wp2_with fail
        refine wp_region_ext (by kernel_rfl) (by kernel_rfl) ?_
        repeat (go_big_quiet_step ((first | (go_at_call 39; exact ext_same (HK39.out _)) | (go_at_call 40; exact ext_call (HK40.out _)) | (go_at_call 41; exact ext_same (HK41.out _)))))
        refine wpQuiet_nil ?_
        intro _ hw'
        obtain ⟨z, rfl⟩ := hw'
        clear z0 z1 z2 z3 z4 HK39 HK40 HK41
        go_wp2_with fail
        go_roundg (gk - 1)
        case measure => omega
        case rel => exact ⟨k + 1, a, p, g, r, y, x, _, _, _, _, by omega, rfl, by go_num, HS.out.ext z.kept, HI.out, HRM.out⟩
    · have hke : k = es.length := by omega
      go_wp2_with fail
      refine (PoolLaw.lives _).mono ?_
      rintro e w6 ⟨rfl, hb6⟩
      go_wp2_with fail
      go_ret
      exact ⟨rfl, hS.below.trans (hb6.mono hS.below.size)⟩

theorem cells3 : Try.prog.cellsOf 3 = 1 := by kernel_rfl
theorem cells40 : Try.prog.cellsOf 40 = 2 := by kernel_rfl
theorem cells72 : Try.prog.cellsOf 72 = 13 := by kernel_rfl
theorem act_dec {W : World} {cs : List Value} (h : Rd Try.prog W 72 cs) : ∃ x : Act, x.enc = cs := by
  have hl := h.length Try.underlying72 cells72
  match cs, hl with
  | [a, b, c, d, e, f, g, i, j, k, l, m, n], _ =>
    have f0 : Rd Try.prog W 3 [a] := h.field Try.underlying72 0 rfl rfl rfl cells3
    have f1 : Rd Try.prog W 70 [b, c, d, e, f, g, i, j, k, l] := h.field Try.underlying72 1 rfl rfl rfl WPoolHolds.cells70
    have f2 : Rd Try.prog W 40 [m, n] := h.field Try.underlying72 2 rfl rfl rfl cells40
    have f3 : Rd Try.prog W 3 [m] := f2.field Try.underlying40 0 rfl rfl rfl cells3
    have f4 : Rd Try.prog W 3 [n] := f2.field Try.underlying40 1 rfl rfl rfl cells3
    obtain ⟨k0, e0, _⟩ := f0.int Try.underlying3
    obtain ⟨x, hx⟩ := WPoolHolds.pk_dec f1
    obtain ⟨k1, e1, _⟩ := f3.int Try.underlying3
    obtain ⟨k2, e2, _⟩ := f4.int Try.underlying3
    simp only [List.cons.injEq, and_true] at e0 e1 e2
    subst e0 e1 e2
    simp only [Pk.enc, List.cons.injEq, and_true] at hx
    obtain ⟨rfl, rfl, rfl, rfl, rfl, rfl, rfl, rfl, rfl, rfl⟩ := hx
    exact ⟨⟨k0, x, k1, k2⟩, rfl⟩

open Go.ChangeShapes Go.WideShapes Go.ChangeAt in
theorem walk (v0 v1 v2 : Value) (W : World) (k0 : IsArg Try.prog W 3 v0) (k1 : IsArg Try.prog W 3 v1) (k2 : IsArg Try.prog W 57 v2) :
    Calls Try.prog 7 #[v0, v1, v2] W fun e W' => e = .returned (.bool true) ∧ Below W.heap.size W W' := by
  obtain ⟨t, rfl, ht⟩ := k0.int Try.underlying3
  obtain ⟨u, rfl, hu⟩ := k1.int Try.underlying3
  obtain ⟨A, cap, l, rfl, h1, h2, hr⟩ := k2.slice Act.enc Try.underlying57 cells72 (by decide) (fun cs h => act_dec h)
  exact law_any t u A cap l W (Nat.le_trans h1 h2) hr
end Go.Proofs.Ythdjagmeggckcaa.WPoolPlays
