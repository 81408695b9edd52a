/- The law SlabPlays: its walk, out of the contracts and the plain law. -/
import Derived.Test.YthdjagmeggckcaaLives
import Derived.Test.YthdjagmeggckcaaArg
import Derived.Deep.LoopGhost
import Derived.Deep.DeepCutAuto
import Derived.Deep.CutBlock
namespace Go.Proofs.Ythdjagmeggckcaa.WSlabPlays
open Go.RowKit SlabLaw

structure Act where
  do_ : Int
  slot : Int
  turn : Int
def Act.enc (x : Act) : List Value := [.int .i64 x.do_, .int .i64 x.slot, .int .i64 x.turn]

/-- Memory at a round's head. -/
structure St (w wr : World) (bx p g : Nat) (s : Slab.Sl) (x : Ref.RS) (f t kk : Value) : Prop where
  slab : Slab.Is wr p g s
  box : Blk wr bx 37 #[f, t, kk]
  ref : Ref.Is wr (.agg #[f, t, kk]) x
  below : Below w.heap.size w wr
  hp : w.heap.size ≤ p
  hg : w.heap.size ≤ g
  hb : w.heap.size ≤ bx

section
variable {w wr w' : World} {n k bx p g ap : Nat} {s s' : Slab.Sl} {x x' : Ref.RS} {f t kk f' t' kk' : Value} {y : Act}
/-- Behind what only makes memory. -/
theorem St.ext (h : St w wr bx p g s x f t kk) (hk : Kept none_ wr w') : St w w' bx p g s x f t kk :=
  { h with slab := h.slab.kept hk (fun h => h) (fun h => h), box := h.box.kept hk (fun h => h), ref := h.ref.kept hk Off.none_ Off.none_,
           below := h.below.trans (hk.toBelow'.mono h.below.size) }

/-- Behind a call that may write the slab's blocks. -/
theorem St.slab_ (h : St w wr bx p g s x f t kk) (hs : Slab.Is w' p g s') (hk : Kept (Slab.Of2 p g) wr w') : St w w' bx p g s' x f t kk :=
  have hbn : ¬ Slab.Of2 p g bx := h.slab.off (t := 37) (by decide) (by decide) _ _ _ h.box
  { slab := hs, box := h.box.kept hk hbn, ref := h.ref.kept hk (h.slab.off (by decide) (by decide)) (h.slab.off (by decide) (by decide)),
    below := h.below.trans (hk.toBelow (fun i hi => by rcases hi with rfl | rfl; exact h.hp; exact h.hg) h.below.size), hp := h.hp, hg := h.hg, hb := h.hb }

/-- Behind the store of the reference's new value. -/
theorem St.write (h : St w wr bx p g s x f t kk) (hR : Ref.Is wr (.agg #[f', t', kk']) x') :
    St w ((((wr.setCell ⟨bx, 0, none⟩ f').setCell ⟨bx, 1, none⟩ t').setCell ⟨bx, 2, none⟩ kk').alloc (.cells #[f', t', kk'] 37)) bx p g s x' f' t' kk' ∧
    Kept (fun i => i = bx) wr ((((wr.setCell ⟨bx, 0, none⟩ f').setCell ⟨bx, 1, none⟩ t').setCell ⟨bx, 2, none⟩ kk').alloc (.cells #[f', t', kk'] 37)) := by
  have KF := ((((Kept.refl (fun i => i = bx) wr).setCell (p := ⟨bx, 0, none⟩) (.inl rfl) f').setCell (p := ⟨bx, 1, none⟩) (.inl rfl) t').setCell (p := ⟨bx, 2, none⟩) (.inl rfl) kk').alloc (.cells #[f', t', kk'] 37)
  have hbn : ¬ Slab.Of2 p g bx := h.slab.off (t := 37) (by decide) (by decide) _ _ _ h.box
  refine ⟨?_, KF⟩
  exact { slab := h.slab.kept KF (fun e => hbn (.inl e.symm)) (fun e => hbn (.inr e.symm)),
          box := by
            have := (((h.box.set_ 0 f').set_ 1 t').set_ 2 kk').alloc (.cells #[f', t', kk'] 37)
            simpa using this,
          ref := hR.kept KF (Off.one h.box (by decide)) (Off.one h.box (by decide)),
          below := h.below.trans (KF.toBelow (fun i e => by rw [e]; exact h.hb) h.below.size),
          hp := h.hp, hg := h.hg, hb := h.hb }
theorem St.cells (h : St w wr bx p g s x f t kk) : wr.cell? ⟨bx, 0, none⟩ = some f ∧ wr.cell? ⟨bx, 1, none⟩ = some t ∧ wr.cell? ⟨bx, 2, none⟩ = some kk := ⟨h.box.cell 0, h.box.cell 1, h.box.cell 2⟩

/-- The event in its block. -/
def Ev (w : World) (ap : Nat) (y : Act) : Prop := Blk w ap 42 #[.int .i64 y.do_, .int .i64 y.slot, .int .i64 y.turn]
theorem Ev.slab_ (h : Ev wr ap y) (hs : Slab.Is wr p g s) (hk : Kept (Slab.Of2 p g) wr w') : Ev w' ap y := Blk.kept h hk (hs.off (t := 42) (by decide) (by decide) _ _ _ h)
theorem Ev.ext (h : Ev wr ap y) (hk : Kept none_ wr w') : Ev w' ap y := Blk.kept h hk (fun h => h)
theorem Ev.write (h : Ev wr ap y) (hb : Blk wr bx 37 #[f, t, kk]) (hk : Kept (fun i => i = bx) wr w') : Ev w' ap y := Blk.kept h hk (Blk.ne_ h hb (by decide))
theorem Ev.cells (h : Ev w ap y) : w.cell? ⟨ap, 0, none⟩ = some (.int .i64 y.do_) ∧ w.cell? ⟨ap, 1, none⟩ = some (.int .i64 y.slot) ∧ w.cell? ⟨ap, 2, none⟩ = some (.int .i64 y.turn) := ⟨Blk.cell h 0, Blk.cell h 1, Blk.cell h 2⟩

/-- The state behind a call of the list. -/
def After (w : World) (n k bx ap : Nat) (y : Act) (sp : Value) (wx : World) : Prop :=
  ∃ (p g : Nat) (s : Slab.Sl) (x : Ref.RS) (f t kk : Value), sp = .pointer (some ⟨p, 0, none⟩) ∧ Ev wx ap y ∧ St w wx bx p g s x f t kk ∧ Inv n (k + 1) s x
theorem After.mk_ (hS : St w w' bx p g s x f t kk) (hA : Ev w' ap y) (hI : Inv n (k + 1) s x) : After w n k bx ap y (.pointer (some ⟨p, 0, none⟩)) w' := ⟨p, g, s, x, f, t, kk, rfl, hA, hS, hI⟩
end

def TakeAny (W : World) (p g : Nat) (e : Ending) (w' : World) : Prop := ∃ v, e = .returned v ∧ Kept (Slab.Of2 p g) W w'
theorem take_any {n c p g : Nat} {s : Slab.Sl} {x : Ref.RS} {W : World} (hI : Inv n c s x) (h : Slab.Is W p g s) (hb : x.free.length ≤ 4096) : Calls Try.prog 18 #[.pointer (some ⟨p, 0, none⟩)] W (TakeAny W p g) := by
  have hch := hI.chain
  have hlf := hI.left
  cases hf : x.free with
  | nil =>
    rw [hf] at hch
    exact (Slab.take_none p g s W h hch).mono fun _ _ ⟨he, hb⟩ => ⟨_, he, Kept.below hb rfl⟩
  | cons a r =>
    rw [hf] at hch hlf hb
    obtain ⟨k0, sl, rfl, hn, hs, _⟩ := hch
    rw [List.length_cons] at hlf hb
    exact (Slab.take_some p g s k0 sl W h hn hs (by omega)).mono fun _ _ ⟨he, _, hk⟩ => ⟨_, he, hk⟩

set_option maxRecDepth 100000 in
set_option maxHeartbeats 4000000 in
theorem law_any (n0 : Int) (A : Option Addr) (cap : Nat) (es : List Act) (w : World) (hl : es.length ≤ maxLen) (hc : RowsAt w 3 Act.enc A es) :
    Calls Try.prog 5 #[.int .i64 n0, .slice A es.length cap] w fun e w' => e = .returned (.bool true) ∧ Below w.heap.size w w' := by
  unfold maxLen at hl
  have HC := Lib.hid hc
  clear hc
  by_cases hbad : n0 < 1 ∨ 4096 < n0
  · have C := Lib.hid (Slab.new_bad n0 w hbad)
    by_cases hb1 : n0 < 1
    · have t1 : decide (n0 < 1) = true := by simpa using hb1
      clear hbad hb1
      go_enter Try.func5, Try.ntmps5
      go_wp2_with fail
      refine C.out.mono ?_
      rintro e w1 ⟨rfl, rfl⟩
      go_wp2_with fail
      refine (lives _).mono ?_
      rintro e w6 ⟨rfl, hb6⟩
      go_wp2_with fail
      go_ret
      exact ⟨rfl, hb6⟩
    · have t1 : decide (n0 < 1) = false := by simpa using hb1
      have t2 : decide (4096 < n0) = true := by simp; omega
      clear hbad hb1
      go_enter Try.func5, Try.ntmps5
      go_wp2_with fail
      refine C.out.mono ?_
      rintro e w1 ⟨rfl, rfl⟩
      go_wp2_with fail
      refine (lives _).mono ?_
      rintro e w6 ⟨rfl, hb6⟩
      go_wp2_with fail
      go_ret
      exact ⟨rfl, hb6⟩
  obtain ⟨n, rfl⟩ := Int.eq_ofNat_of_zero_le (by omega : 0 ≤ n0)
  have h1 : 1 ≤ n := by omega
  have h2 : n ≤ 4096 := by omega
  clear hbad
  by_cases hbig : 40 < n ∨ 80 < es.length
  · have t1 : decide ((n : Int) < 1) = false := by simp; omega
    have t2 : decide (4096 < (n : Int)) = false := by simp; omega
    by_cases hb1 : 40 < n
    · have t3 : decide (40 < (n : Int)) = true := by simp; omega
      clear hbig
      go_enter Try.func5, Try.ntmps5
      go_wp2_with fail
      refine (Slab.new_good n _ h1 h2).mono ?_
      rintro e w1 ⟨p, g, rfl, hs, hp, hg, hb⟩
      go_wp2_with fail
      refine (lives _).mono ?_
      rintro e w6 ⟨rfl, hb6⟩
      go_wp2_with fail
      go_ret
      exact ⟨rfl, hb.trans (hb6.mono hb.size)⟩
    · have t3 : decide (40 < (n : Int)) = false := by simp; omega
      have t4 : decide (80 < (es.length : Int)) = true := by simp; omega
      clear hbig
      go_enter Try.func5, Try.ntmps5
      go_wp2_with fail
      refine (Slab.new_good n _ h1 h2).mono ?_
      rintro e w1 ⟨p, g, rfl, hs, hp, hg, hb⟩
      go_wp2_with fail
      refine (lives _).mono ?_
      rintro e w6 ⟨rfl, hb6⟩
      go_wp2_with fail
      go_ret
      exact ⟨rfl, hb.trans (hb6.mono hb.size)⟩
  have h3 : n ≤ 40 := by omega
  have h4 : es.length ≤ 80 := by omega
  clear hbig
  have t1 : decide ((n : Int) < 1) = false := by simp; omega
  have t2 : decide (4096 < (n : Int)) = false := by simp; omega
  have t3 : decide (40 < (n : Int)) = false := by simp; omega
  have t4 : decide (80 < (es.length : Int)) = false := by simp; omega
  go_enter Try.func5, Try.ntmps5
  go_wp2_with fail
  refine (Slab.new_good n _ h1 h2).mono ?_
  rintro e w1 ⟨p, g, rfl, hs, hp, hg, hb⟩
  go_wp2_with fail
  refine (Ref.new_any n _ (by omega)).mono ?_
  rintro e w2 ⟨v, rfl, ⟨f, tt, kk, rfl, hf, ht, hk⟩, hb2⟩
  have HR : Ref.Is w2 (.agg #[f, tt, kk]) (Ref.newRS n) := ⟨f, tt, kk, rfl, hf, ht, hk⟩
  have hs2 := hs.kept (F := none_) (Kept.below hb2 rfl) (fun h => h) (fun h => h)
  have hS : St w (w2.alloc (.cells #[f, tt, kk] 37)) w2.heap.size p g (Slab.new n) (Ref.newRS n) f tt kk :=
    { slab := hs2.al _, box := Blk.new _ _ _, ref := HR.kept (F := none_) ((Kept.refl _ _).alloc _) Off.none_ Off.none_,
      below := (hb.trans (hb2.mono hb.size)).alloc (Nat.le_trans hb.size hb2.size) _, hp := hp, hg := hg, hb := Nat.le_trans hb.size hb2.size }
  obtain ⟨A0, m0, c0, rfl⟩ := hf.form'
  obtain ⟨A1, m1, c1, rfl⟩ := ht.form'
  obtain ⟨A2, m2, c2, rfl⟩ := hk.form'
  clear hs hb hb2 hs2 HR hf ht hk
  go_wp2_with fail
  have HS := Lib.hid hS
  clear hS
  go_loopg [5, 53] es.length (fun m sp i wr => ∃ (k p g : Nat) (s : Slab.Sl) (x : Ref.RS) (f t kk : Value), m + k = es.length ∧ sp = .pointer (some ⟨p, 0, none⟩) ∧ i = .int .i64 k ∧ St w wr w2.heap.size p g s x f t kk ∧ Inv n k s x)
  case atStart => exact ⟨0, p, g, _, _, _, _, _, by omega, rfl, rfl, HS.out, Inv.new n h1⟩
  case round =>
    clear HS
    obtain ⟨k, p, g, s, x, f, t, kk, hm, rfl, rfl, hS, hI⟩ := hrel
    by_cases hlt : k < es.length
    · obtain ⟨y, hy⟩ : ∃ y, es[k]? = some y := ⟨es[k]'(by omega), by simp⟩
      obtain ⟨ab, aoff, rfl, hab, hcc⟩ := (HC.out.below hS.below) (by rintro rfl; simp at hy)
      have q0 := hcc k y hy 0 _ rfl
      have q1 := hcc k y hy 1 _ rfl
      have q2 := hcc k y hy 2 _ rfl
      rw [Nat.add_zero] at q0
      clear hcc hy
      have hk0 : (0 : Int) ≤ (k : Int) := by omega
      have hk1 : (k : Int) < (es.length : Int) := by omega
      have HS := Lib.hid hS
      have HI := Lib.hid hI
      have hpl := hS.slab.lt
      have hbl := hS.box.lt
      clear hS hI
      go_upto_block 2 with (fail)
      go_cut [5] (After w n k w2.heap.size wr.heap.size y)
      case first =>
        have hS1 := Lib.hid (HS.out.ext ((Kept.refl _ _).alloc (.cells #[.int .i64 y.do_, .int .i64 y.slot, .int .i64 y.turn] 42)))
        have hA1 : Hid (Ev _ _ y) := Lib.hid (show Ev _ _ y from Blk.new wr 42 #[.int .i64 y.do_, .int .i64 y.slot, .int .i64 y.turn])
        obtain ⟨i1, i2, i3⟩ : s.slots.length = n ∧ x.taken.length = n ∧ x.turns.length = n := ⟨HI.out.ls, HI.out.lk, HI.out.lt⟩
        have i4 := HI.out.many
        have I1 := Lib.hid i1
        have I2 := Lib.hid i2
        have I3 := Lib.hid i3
        clear i1 i2 i3
        by_cases d0 : y.do_ = 0
        · have d0' : (y.do_ == 0) = true := by simp [d0]
          clear d0
          cases hfree : x.free with
          | nil =>
            have hch := HI.out.chain
            rw [hfree] at hch
            have C1 := Lib.hid (Slab.take_none p g s _ hS1.out.slab hch)
            have HF := Lib.hid hfree
            clear hch hfree
            go_wp2_with fail
            refine C1.out.mono ?_
            rintro e w3 ⟨rfl, hb3⟩
            have hS3 := hS1.out.ext (Kept.below hb3 rfl)
            have hA3 := hA1.out.ext (Kept.below hb3 rfl)
            obtain ⟨e0, e1, e2⟩ := hS3.cells
            have lX := hS3.box.lt
            have HS3 := Lib.hid hS3
            have HA3 := Lib.hid hA3
            clear hS3 hA3
            go_wp2_with fail
            refine (Ref.take_none _ x _ (HS3.out.ref.kept (F := none_) ((Kept.refl _ _).alloc _) Off.none_ Off.none_) HF.out).mono ?_
            rintro e w4 ⟨v, rfl, ⟨f', t', kk', rfl, hf', ht', hk'⟩, hb4⟩
            have HR4 := Lib.hid (show Ref.Is w4 (.agg #[f', t', kk']) x from ⟨_, _, _, rfl, hf', ht', hk'⟩)
            obtain ⟨A0', m0', c0', rfl⟩ := hf'.form'
            obtain ⟨A1', m1', c1', rfl⟩ := ht'.form'
            obtain ⟨A2', m2', c2', rfl⟩ := hk'.form'
            obtain ⟨hH4, l34, hb34⟩ := one_new hb4
            have hS4 := HS3.out.ext (Kept.below hb34 rfl)
            have hA4 := HA3.out.ext (Kept.below hb34 rfl)
            clear e0 e1 e2 hf' ht' hk'
            obtain ⟨e0, e1, e2⟩ := hS4.cells
            have lX4 := hS4.box.lt
            have fX := hS4.box.frozen
            obtain ⟨h0, h1'⟩ := cell2 hH4
            have HS4 := Lib.hid hS4
            have HA4 := Lib.hid hA4
            clear hS4 hA4
            go_wp2_with fail
            go_meet
            case rel => exact After.mk_ (HS4.out.write HR4.out).1 (HA4.out.write HS4.out.box (HS4.out.write HR4.out).2) (HI.out.mono (Nat.le_succ k))
          | cons fst rest =>
            have hch := HI.out.chain
            rw [hfree] at hch
            obtain ⟨k0, sl, rfl, hnx, hsl, _⟩ := hch
            obtain ⟨ht1, ⟨bb, ht2, _⟩, hta, htb⟩ := HI.out.slot k0 sl hsl
            have hleft := HI.out.left
            rw [hfree, List.length_cons] at hleft i4
            have hkl : k0 < x.taken.length := (List.getElem?_eq_some_iff.1 ht2).1
            have C1 := Lib.hid (Slab.take_some p g s k0 sl _ hS1.out.slab hnx hsl (by omega))
            have INV := Lib.hid ((HI.out.take hfree hsl hnx).mono (Nat.le_succ k))
            have HF := Lib.hid hfree
            have HT := Lib.hid ht1
            clear hnx hsl ht1 ht2 hleft hfree i4
            go_wp2_with fail
            refine C1.out.mono ?_
            rintro e w3 ⟨rfl, hs3, k3⟩
            have hA3 := hA1.out.slab_ hS1.out.slab k3
            have hS3 := hS1.out.slab_ hs3 k3
            clear C1
            obtain ⟨e0, e1, e2⟩ := hS3.cells
            have lX := hS3.box.lt
            have HS3 := Lib.hid hS3
            have HA3 := Lib.hid hA3
            clear hS3 hA3
            go_wp2_with fail
            refine (Ref.take_some _ x k0 rest sl.turn _ (HS3.out.ref.kept (F := none_) ((Kept.refl _ _).alloc _) Off.none_ Off.none_) HF.out HT.out hkl (by rw [I2.out]; omega)).mono ?_
            rintro e w4 ⟨v, rfl, ⟨f', t', kk', rfl, hf', ht', hk'⟩, hb4⟩
            have HR4 := Lib.hid (show Ref.Is w4 (.agg #[f', t', kk']) { x with free := rest, taken := x.taken.set k0 true } from ⟨_, _, _, rfl, hf', ht', hk'⟩)
            obtain ⟨A0', m0', c0', rfl⟩ := hf'.form'
            obtain ⟨A1', m1', c1', rfl⟩ := ht'.form'
            obtain ⟨A2', m2', c2', rfl⟩ := hk'.form'
            obtain ⟨hH4, l34, hb34⟩ := one_new hb4
            have hS4 := HS3.out.ext (Kept.below hb34 rfl)
            have hA4 := HA3.out.ext (Kept.below hb34 rfl)
            clear e0 e1 e2 hf' ht' hk'
            obtain ⟨e0, e1, e2⟩ := hS4.cells
            have lX4 := hS4.box.lt
            have fX := hS4.box.frozen
            obtain ⟨h0, h1'⟩ := cell2 hH4
            have HS4 := Lib.hid hS4
            have HA4 := Lib.hid hA4
            clear hS4 hA4
            go_wp2_with fail
            go_meet
            case rel => exact After.mk_ (HS4.out.write HR4.out).1 (HA4.out.write HS4.out.box (HS4.out.write HR4.out).2) INV.out
        · by_cases d1 : y.do_ = 1
          · have d0' : (y.do_ == 0) = false := by simp [d0]
            have d1' : (y.do_ == 1) = true := by simp [d1]
            clear d0 d1
            have hlive := HI.out.live y.slot y.turn
            cases hrl : Ref.rlive x y.slot y.turn with
            | false =>
              rw [hrl] at hlive
              have C1 := Lib.hid (Ref.give_no _ x y.slot y.turn _ hS1.out.ref (by rw [I2.out, I3.out]) hrl)
              have HL := Lib.hid hlive
              clear hlive hrl
              obtain ⟨e0, e1, e2⟩ := HS.out.cells
              go_wp2_with fail
              refine C1.out.mono ?_
              rintro e w3 ⟨v, rfl, ⟨f', t', kk', rfl, hf', ht', hk'⟩, hb3⟩
              have HR3 := Lib.hid (show Ref.Is w3 (.agg #[f', t', kk']) _ from ⟨_, _, _, rfl, hf', ht', hk'⟩)
              obtain ⟨A0', m0', c0', rfl⟩ := hf'.form'
              obtain ⟨A1', m1', c1', rfl⟩ := ht'.form'
              obtain ⟨A2', m2', c2', rfl⟩ := hk'.form'
              have hS3 := hS1.out.ext (Kept.below hb3 rfl)
              have hA3 := hA1.out.ext (Kept.below hb3 rfl)
              clear e0 e1 e2 hf' ht' hk' C1
              obtain ⟨e0, e1, e2⟩ := hS3.cells
              obtain ⟨a0, a1, a2⟩ := hA3.cells
              have lX := hS3.box.lt
              have lA := Blk.lt hA3
              have fX := hS3.box.frozen
              have hS4 := hS3.write HR3.out
              have HA4 := Lib.hid (hA3.write hS3.box hS4.2)
              have HS4 := Lib.hid hS4.1
              have nAX : wr.heap.size ≠ w2.heap.size := by omega
              clear hS3 hA3 hS4
              go_wp2_with fail
              refine (Slab.give_no p g s y.slot y.turn _ HS4.out.slab (by rw [I1.out]; omega) HL.out).mono ?_
              rintro e w5 ⟨rfl, hb5⟩
              have HS5 := Lib.hid (HS4.out.ext (Kept.below hb5 rfl))
              have HA5 := Lib.hid (HA4.out.ext (Kept.below hb5 rfl))
              go_wp2_with fail
              go_meet
              case rel => exact After.mk_ HS5.out HA5.out (HI.out.mono (Nat.le_succ k))
            | true =>
              rw [hrl] at hlive
              have hcase : ∃ (k0 : Nat) (sl : Slab.Slot), y.slot = k0 ∧ y.turn = sl.turn ∧ s.slots[k0]? = some sl ∧ x.taken[k0]? = some true ∧ sl.state ≠ 0 := by
                rcases HI.out.of_ y.slot with ⟨k0, sl, h1, h2, h3, h4, h5⟩ | ⟨h4, _⟩
                · unfold Slab.live at hlive
                  rw [h4] at hlive
                  exact ⟨k0, sl, h1, (by simpa using hlive : sl.turn = y.turn).symm, h2, h3, h5⟩
                · unfold Slab.live at hlive
                  rw [h4] at hlive
                  cases hlive
              obtain ⟨yd, ys, yt⟩ := y
              obtain ⟨k0, sl, hk1', hk2', hsl, htk, hst⟩ := hcase
              simp only at hk1' hk2'
              subst hk1' hk2'
              obtain ⟨ht1, _, hta, htb⟩ := HI.out.slot k0 sl hsl
              have hbd : ∀ n ∈ x.turns, 0 ≤ n ∧ n ≤ 4096 := fun u hu => by
                obtain ⟨i, hi⟩ := List.getElem?_of_mem hu
                have hil : i < s.slots.length := by rw [I1.out, ← I3.out]; exact (List.getElem?_eq_some_iff.1 hi).1
                obtain ⟨u1, _, u3, u4⟩ := HI.out.slot i _ (List.getElem?_eq_getElem hil)
                rw [hi] at u1
                injection u1 with u1
                subst u1
                exact ⟨u3, by omega⟩
              have C1 := Lib.hid (Ref.give_yes _ x k0 sl.turn _ hS1.out.ref (by rw [I2.out, I3.out]) ht1 htk (by rw [I3.out]; omega) (by omega) hbd)
              have INV := Lib.hid (HI.out.give hsl htk)
              have hleft := HI.out.left
              have C2 := Lib.hid (fun W (h : Slab.Is W p g s) => Slab.give_yes p g s k0 sl W h (by rw [I1.out]; omega) hsl hst (by omega) (by omega))
              clear hlive hrl hsl htk hst ht1 hbd hleft i4
              obtain ⟨e0, e1, e2⟩ := HS.out.cells
              go_wp2_with fail
              refine C1.out.mono ?_
              rintro e w3 ⟨v, rfl, ⟨f', t', kk', rfl, hf', ht', hk'⟩, hb3⟩
              have HR3 := Lib.hid (show Ref.Is w3 (.agg #[f', t', kk']) _ from ⟨_, _, _, rfl, hf', ht', hk'⟩)
              obtain ⟨A0', m0', c0', rfl⟩ := hf'.form'
              obtain ⟨A1', m1', c1', rfl⟩ := ht'.form'
              obtain ⟨A2', m2', c2', rfl⟩ := hk'.form'
              have hS3 := hS1.out.ext (Kept.below hb3 rfl)
              have hA3 := hA1.out.ext (Kept.below hb3 rfl)
              clear e0 e1 e2 hf' ht' hk' C1
              obtain ⟨e0, e1, e2⟩ := hS3.cells
              obtain ⟨a0, a1, a2⟩ := hA3.cells
              have lX := hS3.box.lt
              have lA := Blk.lt hA3
              have fX := hS3.box.frozen
              have hS4 := hS3.write HR3.out
              have HA4 := Lib.hid (hA3.write hS3.box hS4.2)
              have HS4 := Lib.hid hS4.1
              have nAX : wr.heap.size ≠ w2.heap.size := by omega
              clear hS3 hA3 hS4
              go_wp2_with fail
              refine (C2.out _ HS4.out.slab).mono ?_
              rintro e w5 ⟨rfl, hs5, k5⟩
              have HS5 := Lib.hid (HS4.out.slab_ hs5 k5)
              have HA5 := Lib.hid (HA4.out.slab_ HS4.out.slab k5)
              go_wp2_with fail
              go_meet
              case rel => exact After.mk_ HS5.out HA5.out INV.out
          · have d0' : (y.do_ == 0) = false := by simp [d0]
            have d1' : (y.do_ == 1) = false := by simp [d1]
            clear d0 d1
            have K18 : ∀ W p1 g1, Slab.Is W p1 g1 s → Calls Try.prog 18 #[.pointer (some ⟨p1, 0, none⟩)] W (TakeAny W p1 g1) := fun W p1 g1 h => take_any HI.out h (by omega)
            have H18 := Lib.hid K18
            clear K18 i4
            go_wp2_with fail
            refine (Slab.copy_any p g s _ hS1.out.slab (by rw [I1.out]; omega) (by rw [I1.out]; omega)).mono ?_
            rintro e w3 ⟨p1, g1, rfl, hs3, hp3, hg3, hb3⟩
            go_wp2_with fail
            refine (H18.out _ _ _ hs3).mono ?_
            rintro e w4 ⟨v, rfl, k4⟩
            have K4 : Kept none_ _ w4 := (Kept.below hb3 rfl).trans' k4 (fun i h => by rcases h with rfl | rfl; exact .inr hp3; exact .inr hg3)
            have HS4 := Lib.hid (hS1.out.ext K4)
            have HA4 := Lib.hid (hA1.out.ext K4)
            go_wp2_with fail
            refine (Slab.copy_any p g s _ HS4.out.slab (by rw [I1.out]; omega) (by rw [I1.out]; omega)).mono ?_
            rintro e w5 ⟨p2, g2, rfl, hs5, hp5, hg5, hb5⟩
            have hS5 := HS4.out.ext (Kept.below hb5 rfl)
            have hA5 := HA4.out.ext (Kept.below hb5 rfl)
            have hz4 := HS4.out.below.size
            have HS5 : Hid (St w w5 w2.heap.size p2 g2 s x f t kk) := Lib.hid { hS5 with slab := hs5, hp := by omega, hg := by omega }
            have HA5 := Lib.hid hA5
            clear hS5 hA5
            go_wp2_with fail
            go_meet
            case rel => exact After.mk_ HS5.out HA5.out (HI.out.mono (Nat.le_succ k))
      case rest =>
        obtain ⟨p, g, s, x, f, t, kk, rfl, hA, hS, hI⟩ := hcut
        clear HS HI
        have hsl4 : s.slots.length ≤ 4096 := by rw [hI.ls]; omega
        have hkt : x.taken.length = x.turns.length := by rw [hI.lk, hI.lt]
        have hlf := hI.left
        have hlv := hI.live y.slot y.turn
        obtain ⟨f0, t0, k0, he, hf, ht, hk⟩ := hS.ref
        simp only [Value.agg.injEq, Array.mk.injEq, List.cons.injEq, and_true] at he
        obtain ⟨rfl, rfl, rfl⟩ := he
        obtain ⟨A0, c0, rfl, _⟩ := hf.form
        obtain ⟨A1, c1, rfl, _⟩ := ht.form
        obtain ⟨A2, c2, rfl, _⟩ := hk.form
        obtain ⟨e0, e1, e2⟩ := hS.cells
        obtain ⟨a0, a1, a2⟩ := hA.cells
        have lX := hS.box.lt
        have lA := Blk.lt hA
        have HS := Lib.hid hS
        have HI := Lib.hid hI
        have HA := Lib.hid hA
        have HK := Lib.hid hkt
        have HLF := Lib.hid hlf
        have HLV := Lib.hid hlv
        have hof := hI.of_ y.slot
        clear hS hI hA hkt hlf hlv
        rcases hof with ⟨q, sl, hq, hsl, htk, hof, _⟩ | ⟨hof, hq⟩
        · obtain ⟨yd, ys, yt⟩ := y
          simp only at hq
          subst hq
          have hrl : Ref.rlive x q sl.turn = true := by rw [← HI.out.live]; unfold Slab.live; rw [hof]; simp
          have HRL := Lib.hid hrl
          have HOF := Lib.hid hof
          have hqn : (q : Int) < (n : Int) := by have := (List.getElem?_eq_some_iff.1 htk).1; have := HI.out.lk; omega
          have hq0 : (0 : Int) ≤ (q : Int) := by omega
          have hqk : (q : Int) < (x.taken.length : Int) := by rw [HI.out.lk]; exact hqn
          have b1 : decide (0 ≤ (q : Int)) = true := by simp
          have b2 : decide ((q : Int) < (n : Int)) = true := by simpa using hqn
          obtain ⟨tb, toff, rfl, htb, hcell⟩ := hk.at1 htk rfl
          clear hrl hof hsl htk
          go_wp2_with fail
          refine (Slab.of_some p g s q sl _ HS.out.slab hsl4 HOF.out).mono ?_
          rintro e w6 ⟨rfl, hb6⟩
          have hS6 := HS.out.ext (Kept.below hb6 rfl)
          have hA6 := HA.out.ext (Kept.below hb6 rfl)
          have hc6 := (hb6.cell (p := ⟨tb, toff + q, none⟩) htb).trans hcell
          obtain ⟨g0, g1', g2⟩ := hS6.cells
          obtain ⟨c0', c1', c2'⟩ := hA6.cells
          have lX6 := hS6.box.lt
          have lA6 := Blk.lt hA6
          have HS6 := Lib.hid hS6
          clear hS6 hA6 e0 e1 e2 a0 a1 a2 hb6 hcell
          go_wp2_with fail
          have K24 : ∀ z : Ext (w6.alloc (.cells #[.int .i64 q, .int .i64 sl.turn] 40)), Calls Try.prog 24 #[.pointer (some ⟨p, 0, none⟩)] z.w fun e w' => e = .returned (.int .i64 (x.free.length : Int)) ∧ z.w = w' := fun z => by
            have := Slab.left_any p g s z.w (HS6.out.ext z.kept_al).slab
            rwa [HLF.out] at this
          have K25 : ∀ z : Ext (w6.alloc (.cells #[.int .i64 q, .int .i64 sl.turn] 40)), Calls Try.prog 25 #[.pointer (some ⟨p, 0, none⟩), .agg #[.int .i64 q, .int .i64 yt]] z.w fun e w' => e = .returned (.bool (Ref.rlive x q yt)) ∧ Below z.w.heap.size z.w w' := fun z => by
            have := Slab.live_any p g s q yt z.w (HS6.out.ext z.kept_al).slab hsl4
            rwa [HI.out.live] at this
          have K26 : ∀ (z : Ext (w6.alloc (.cells #[.int .i64 q, .int .i64 sl.turn] 40))) (a b : Int), Calls Try.prog 26 #[.agg #[.slice A0 x.free.length c0, .slice A1 x.turns.length c1, .slice (some ⟨tb, toff, none⟩) x.taken.length c2], .int .i64 a, .int .i64 b] z.w fun e w' => e = .returned (.bool (Ref.rlive x a b)) ∧ Below z.w.heap.size z.w w' := fun z a b =>
            Ref.live_any _ x a b z.w (HS6.out.ext z.kept_al).ref HK.out
          have HK24 := Lib.hid K24
          have HK25 := Lib.hid K25
          have HK26 := Lib.hid K26
          have hrl := HRL.out
          have z0 := fun z => Ext.cell_al (H := .cells #[.int .i64 q, .int .i64 sl.turn] 40) g0 z
          have z1 := fun z => Ext.cell_al (H := .cells #[.int .i64 q, .int .i64 sl.turn] 40) g1' z
          have z2 := fun z => Ext.cell_al (H := .cells #[.int .i64 q, .int .i64 sl.turn] 40) g2 z
          have y0 := fun z => Ext.cell_al (H := .cells #[.int .i64 q, .int .i64 sl.turn] 40) c0' z
          have y1 := fun z => Ext.cell_al (H := .cells #[.int .i64 q, .int .i64 sl.turn] 40) c1' z
          have y2 := fun z => Ext.cell_al (H := .cells #[.int .i64 q, .int .i64 sl.turn] 40) c2' z
          have v0 := fun z => Ext.cell_al (H := .cells #[.int .i64 q, .int .i64 sl.turn] 40) hc6 z
          have u0 := fun z : Ext (w6.alloc (.cells #[.int .i64 q, .int .i64 sl.turn] 40)) => (Ext.blk_al z).cell 0
          have u1 := fun z : Ext (w6.alloc (.cells #[.int .i64 q, .int .i64 sl.turn] 40)) => (Ext.blk_al z).cell 1
          simp only [List.getElem?_toArray, List.getElem?_cons_zero, List.getElem?_cons_succ] at u0 u1
          clear K24 K25 K26 g0 g1' g2 c0' c1' c2' hc6
          refine wp_region_ext (by kernel_rfl) (by kernel_rfl) ?_
          repeat (go_big_quiet_step ((first | (go_at_call 24; exact ext_same (HK24.out _)) | (go_at_call 25; exact ext_call (HK25.out _)) | (go_at_call 26; exact ext_call (HK26.out _ _ _)))))
          refine wpQuiet_nil ?_
          intro _ hw'
          obtain ⟨z, rfl⟩ := hw'
          clear z0 z1 z2 y0 y1 y2 u0 u1 HK24 HK25 HK26 v0 hrl
          go_wp2_with fail
          go_roundg (gk - 1)
          case measure => omega
          case rel => exact ⟨k + 1, p, g, s, x, _, _, _, by omega, rfl, by go_num, HS6.out.ext z.kept_al, HI.out⟩
        · have HOF := Lib.hid hof
          clear hof
          rcases hq with hq | hq | ⟨q, hq, htk⟩
          · have b1 : decide (0 ≤ y.slot) = false := by simp; omega
            go_wp2_with fail
            refine (Slab.of_none p g s y.slot _ HS.out.slab hsl4 HOF.out).mono ?_
            rintro e w6 ⟨rfl, hb6⟩
            have hS6 := HS.out.ext (Kept.below hb6 rfl)
            have hA6 := HA.out.ext (Kept.below hb6 rfl)
            obtain ⟨g0, g1', g2⟩ := hS6.cells
            obtain ⟨c0', c1', c2'⟩ := hA6.cells
            have lX6 := hS6.box.lt
            have lA6 := Blk.lt hA6
            have HS6 := Lib.hid hS6
            clear hS6 hA6 e0 e1 e2 a0 a1 a2 hb6
            go_wp2_with fail
            have K24 : ∀ z : Ext (w6.alloc (.cells #[.int .i64 0, .int .i64 0] 40)), Calls Try.prog 24 #[.pointer (some ⟨p, 0, none⟩)] z.w fun e w' => e = .returned (.int .i64 (x.free.length : Int)) ∧ z.w = w' := fun z => by
              have := Slab.left_any p g s z.w (HS6.out.ext z.kept_al).slab
              rwa [HLF.out] at this
            have K25 : ∀ z : Ext (w6.alloc (.cells #[.int .i64 0, .int .i64 0] 40)), Calls Try.prog 25 #[.pointer (some ⟨p, 0, none⟩), .agg #[.int .i64 y.slot, .int .i64 y.turn]] z.w fun e w' => e = .returned (.bool (Ref.rlive x y.slot y.turn)) ∧ Below z.w.heap.size z.w w' := fun z => by
              have := Slab.live_any p g s y.slot y.turn z.w (HS6.out.ext z.kept_al).slab hsl4
              rwa [HI.out.live] at this
            have K26 : ∀ (z : Ext (w6.alloc (.cells #[.int .i64 0, .int .i64 0] 40))) (a b : Int), Calls Try.prog 26 #[.agg #[.slice A0 x.free.length c0, .slice A1 x.turns.length c1, .slice A2 x.taken.length c2], .int .i64 a, .int .i64 b] z.w fun e w' => e = .returned (.bool (Ref.rlive x a b)) ∧ Below z.w.heap.size z.w w' := fun z a b =>
              Ref.live_any _ x a b z.w (HS6.out.ext z.kept_al).ref HK.out
            have HK24 := Lib.hid K24
            have HK25 := Lib.hid K25
            have HK26 := Lib.hid K26
            have z0 := fun z => Ext.cell_al (H := .cells #[.int .i64 0, .int .i64 0] 40) g0 z
            have z1 := fun z => Ext.cell_al (H := .cells #[.int .i64 0, .int .i64 0] 40) g1' z
            have z2 := fun z => Ext.cell_al (H := .cells #[.int .i64 0, .int .i64 0] 40) g2 z
            have y0 := fun z => Ext.cell_al (H := .cells #[.int .i64 0, .int .i64 0] 40) c0' z
            have y1 := fun z => Ext.cell_al (H := .cells #[.int .i64 0, .int .i64 0] 40) c1' z
            have y2 := fun z => Ext.cell_al (H := .cells #[.int .i64 0, .int .i64 0] 40) c2' z
            have u0 := fun z : Ext (w6.alloc (.cells #[.int .i64 0, .int .i64 0] 40)) => (Ext.blk_al z).cell 0
            have u1 := fun z : Ext (w6.alloc (.cells #[.int .i64 0, .int .i64 0] 40)) => (Ext.blk_al z).cell 1
            simp only [List.getElem?_toArray, List.getElem?_cons_zero, List.getElem?_cons_succ] at u0 u1
            clear K24 K25 K26 g0 g1' g2 c0' c1' c2'
            refine wp_region_ext (by kernel_rfl) (by kernel_rfl) ?_
            repeat (go_big_quiet_step ((first | (go_at_call 24; exact ext_same (HK24.out _)) | (go_at_call 25; exact ext_call (HK25.out _)) | (go_at_call 26; exact ext_call (HK26.out _ _ _)))))
            refine wpQuiet_nil ?_
            intro _ hw'
            obtain ⟨z, rfl⟩ := hw'
            clear z0 z1 z2 y0 y1 y2 u0 u1 HK24 HK25 HK26
            go_wp2_with fail
            go_roundg (gk - 1)
            case measure => omega
            case rel => exact ⟨k + 1, p, g, s, x, _, _, _, by omega, rfl, by go_num, HS6.out.ext z.kept_al, HI.out⟩
          · have b1 : decide (0 ≤ y.slot) = true := by simp; omega
            have b2 : decide (y.slot < (n : Int)) = false := by simp; omega
            go_wp2_with fail
            refine (Slab.of_none p g s y.slot _ HS.out.slab hsl4 HOF.out).mono ?_
            rintro e w6 ⟨rfl, hb6⟩
            have hS6 := HS.out.ext (Kept.below hb6 rfl)
            have hA6 := HA.out.ext (Kept.below hb6 rfl)
            obtain ⟨g0, g1', g2⟩ := hS6.cells
            obtain ⟨c0', c1', c2'⟩ := hA6.cells
            have lX6 := hS6.box.lt
            have lA6 := Blk.lt hA6
            have HS6 := Lib.hid hS6
            clear hS6 hA6 e0 e1 e2 a0 a1 a2 hb6
            go_wp2_with fail
            have K24 : ∀ z : Ext (w6.alloc (.cells #[.int .i64 0, .int .i64 0] 40)), Calls Try.prog 24 #[.pointer (some ⟨p, 0, none⟩)] z.w fun e w' => e = .returned (.int .i64 (x.free.length : Int)) ∧ z.w = w' := fun z => by
              have := Slab.left_any p g s z.w (HS6.out.ext z.kept_al).slab
              rwa [HLF.out] at this
            have K25 : ∀ z : Ext (w6.alloc (.cells #[.int .i64 0, .int .i64 0] 40)), Calls Try.prog 25 #[.pointer (some ⟨p, 0, none⟩), .agg #[.int .i64 y.slot, .int .i64 y.turn]] z.w fun e w' => e = .returned (.bool (Ref.rlive x y.slot y.turn)) ∧ Below z.w.heap.size z.w w' := fun z => by
              have := Slab.live_any p g s y.slot y.turn z.w (HS6.out.ext z.kept_al).slab hsl4
              rwa [HI.out.live] at this
            have K26 : ∀ (z : Ext (w6.alloc (.cells #[.int .i64 0, .int .i64 0] 40))) (a b : Int), Calls Try.prog 26 #[.agg #[.slice A0 x.free.length c0, .slice A1 x.turns.length c1, .slice A2 x.taken.length c2], .int .i64 a, .int .i64 b] z.w fun e w' => e = .returned (.bool (Ref.rlive x a b)) ∧ Below z.w.heap.size z.w w' := fun z a b =>
              Ref.live_any _ x a b z.w (HS6.out.ext z.kept_al).ref HK.out
            have HK24 := Lib.hid K24
            have HK25 := Lib.hid K25
            have HK26 := Lib.hid K26
            have z0 := fun z => Ext.cell_al (H := .cells #[.int .i64 0, .int .i64 0] 40) g0 z
            have z1 := fun z => Ext.cell_al (H := .cells #[.int .i64 0, .int .i64 0] 40) g1' z
            have z2 := fun z => Ext.cell_al (H := .cells #[.int .i64 0, .int .i64 0] 40) g2 z
            have y0 := fun z => Ext.cell_al (H := .cells #[.int .i64 0, .int .i64 0] 40) c0' z
            have y1 := fun z => Ext.cell_al (H := .cells #[.int .i64 0, .int .i64 0] 40) c1' z
            have y2 := fun z => Ext.cell_al (H := .cells #[.int .i64 0, .int .i64 0] 40) c2' z
            have u0 := fun z : Ext (w6.alloc (.cells #[.int .i64 0, .int .i64 0] 40)) => (Ext.blk_al z).cell 0
            have u1 := fun z : Ext (w6.alloc (.cells #[.int .i64 0, .int .i64 0] 40)) => (Ext.blk_al z).cell 1
            simp only [List.getElem?_toArray, List.getElem?_cons_zero, List.getElem?_cons_succ] at u0 u1
            clear K24 K25 K26 g0 g1' g2 c0' c1' c2'
            refine wp_region_ext (by kernel_rfl) (by kernel_rfl) ?_
            repeat (go_big_quiet_step ((first | (go_at_call 24; exact ext_same (HK24.out _)) | (go_at_call 25; exact ext_call (HK25.out _)) | (go_at_call 26; exact ext_call (HK26.out _ _ _)))))
            refine wpQuiet_nil ?_
            intro _ hw'
            obtain ⟨z, rfl⟩ := hw'
            clear z0 z1 z2 y0 y1 y2 u0 u1 HK24 HK25 HK26
            go_wp2_with fail
            go_roundg (gk - 1)
            case measure => omega
            case rel => exact ⟨k + 1, p, g, s, x, _, _, _, by omega, rfl, by go_num, HS6.out.ext z.kept_al, HI.out⟩
          · obtain ⟨yd, ys, yt⟩ := y
            simp only at hq
            subst hq
            have hqn : (q : Int) < (n : Int) := by have := (List.getElem?_eq_some_iff.1 htk).1; have := HI.out.lk; omega
            have hq0 : (0 : Int) ≤ (q : Int) := by omega
            have hqk : (q : Int) < (x.taken.length : Int) := by rw [HI.out.lk]; exact hqn
            have b1 : decide (0 ≤ (q : Int)) = true := by simp
            have b2 : decide ((q : Int) < (n : Int)) = true := by simpa using hqn
            obtain ⟨tb, toff, rfl, htb, hcell⟩ := hk.at1 htk rfl
            clear htk
            go_wp2_with fail
            refine (Slab.of_none p g s q _ HS.out.slab hsl4 HOF.out).mono ?_
            rintro e w6 ⟨rfl, hb6⟩
            have hS6 := HS.out.ext (Kept.below hb6 rfl)
            have hA6 := HA.out.ext (Kept.below hb6 rfl)
            have hc6 := (hb6.cell (p := ⟨tb, toff + q, none⟩) htb).trans hcell
            obtain ⟨g0, g1', g2⟩ := hS6.cells
            obtain ⟨c0', c1', c2'⟩ := hA6.cells
            have lX6 := hS6.box.lt
            have lA6 := Blk.lt hA6
            have HS6 := Lib.hid hS6
            clear hS6 hA6 e0 e1 e2 a0 a1 a2 hb6 hcell
            go_wp2_with fail
            have K24 : ∀ z : Ext (w6.alloc (.cells #[.int .i64 0, .int .i64 0] 40)), Calls Try.prog 24 #[.pointer (some ⟨p, 0, none⟩)] z.w fun e w' => e = .returned (.int .i64 (x.free.length : Int)) ∧ z.w = w' := fun z => by
              have := Slab.left_any p g s z.w (HS6.out.ext z.kept_al).slab
              rwa [HLF.out] at this
            have K25 : ∀ z : Ext (w6.alloc (.cells #[.int .i64 0, .int .i64 0] 40)), Calls Try.prog 25 #[.pointer (some ⟨p, 0, none⟩), .agg #[.int .i64 q, .int .i64 yt]] z.w fun e w' => e = .returned (.bool (Ref.rlive x q yt)) ∧ Below z.w.heap.size z.w w' := fun z => by
              have := Slab.live_any p g s q yt z.w (HS6.out.ext z.kept_al).slab hsl4
              rwa [HI.out.live] at this
            have K26 : ∀ (z : Ext (w6.alloc (.cells #[.int .i64 0, .int .i64 0] 40))) (a b : Int), Calls Try.prog 26 #[.agg #[.slice A0 x.free.length c0, .slice A1 x.turns.length c1, .slice (some ⟨tb, toff, none⟩) x.taken.length c2], .int .i64 a, .int .i64 b] z.w fun e w' => e = .returned (.bool (Ref.rlive x a b)) ∧ Below z.w.heap.size z.w w' := fun z a b =>
              Ref.live_any _ x a b z.w (HS6.out.ext z.kept_al).ref HK.out
            have HK24 := Lib.hid K24
            have HK25 := Lib.hid K25
            have HK26 := Lib.hid K26
            have z0 := fun z => Ext.cell_al (H := .cells #[.int .i64 0, .int .i64 0] 40) g0 z
            have z1 := fun z => Ext.cell_al (H := .cells #[.int .i64 0, .int .i64 0] 40) g1' z
            have z2 := fun z => Ext.cell_al (H := .cells #[.int .i64 0, .int .i64 0] 40) g2 z
            have y0 := fun z => Ext.cell_al (H := .cells #[.int .i64 0, .int .i64 0] 40) c0' z
            have y1 := fun z => Ext.cell_al (H := .cells #[.int .i64 0, .int .i64 0] 40) c1' z
            have y2 := fun z => Ext.cell_al (H := .cells #[.int .i64 0, .int .i64 0] 40) c2' z
            have v0 := fun z => Ext.cell_al (H := .cells #[.int .i64 0, .int .i64 0] 40) hc6 z
            have u0 := fun z : Ext (w6.alloc (.cells #[.int .i64 0, .int .i64 0] 40)) => (Ext.blk_al z).cell 0
            have u1 := fun z : Ext (w6.alloc (.cells #[.int .i64 0, .int .i64 0] 40)) => (Ext.blk_al z).cell 1
            simp only [List.getElem?_toArray, List.getElem?_cons_zero, List.getElem?_cons_succ] at u0 u1
            clear K24 K25 K26 g0 g1' g2 c0' c1' c2' hc6
            refine wp_region_ext (by kernel_rfl) (by kernel_rfl) ?_
            repeat (go_big_quiet_step ((first | (go_at_call 24; exact ext_same (HK24.out _)) | (go_at_call 25; exact ext_call (HK25.out _)) | (go_at_call 26; exact ext_call (HK26.out _ _ _)))))
            refine wpQuiet_nil ?_
            intro _ hw'
            obtain ⟨z, rfl⟩ := hw'
            clear z0 z1 z2 y0 y1 y2 u0 u1 HK24 HK25 HK26 v0
            go_wp2_with fail
            go_roundg (gk - 1)
            case measure => omega
            case rel => exact ⟨k + 1, p, g, s, x, _, _, _, by omega, rfl, by go_num, HS6.out.ext z.kept_al, HI.out⟩
    · have hke : k = es.length := by omega
      go_wp2_with fail
      refine (lives _).mono ?_
      rintro e w6 ⟨rfl, hb6⟩
      go_wp2_with fail
      go_ret
      exact ⟨rfl, hS.below.trans (hb6.mono hS.below.size)⟩

theorem cells42 : Try.prog.cellsOf 42 = 3 := by kernel_rfl
theorem cells40 : Try.prog.cellsOf 40 = 2 := by kernel_rfl
theorem cells3 : Try.prog.cellsOf 3 = 1 := by kernel_rfl
theorem act_dec {W : World} {cs : List Value} (h : Rd Try.prog W 42 cs) : ∃ x : Act, x.enc = cs := by
  have hl := h.length Try.underlying42 cells42
  match cs, hl with
  | [a, b, c], _ =>
    have f0 : Rd Try.prog W 3 [a] := h.field Try.underlying42 0 rfl rfl rfl cells3
    have f1 : Rd Try.prog W 40 [b, c] := h.field Try.underlying42 1 rfl rfl rfl cells40
    have f2 : Rd Try.prog W 3 [b] := f1.field Try.underlying40 0 rfl rfl rfl cells3
    have f3 : Rd Try.prog W 3 [c] := f1.field Try.underlying40 1 rfl rfl rfl cells3
    obtain ⟨k, e0, _⟩ := f0.int Try.underlying3
    obtain ⟨l, e1, _⟩ := f2.int Try.underlying3
    obtain ⟨o, e2, _⟩ := f3.int Try.underlying3
    simp only [List.cons.injEq, and_true] at e0 e1 e2
    subst e0 e1 e2
    exact ⟨⟨k, l, o⟩, rfl⟩

theorem walk (v0 v1 : Value) (W : World) (k0 : IsArg Try.prog W 3 v0) (k1 : IsArg Try.prog W 31 v1) :
    Calls Try.prog 5 #[v0, v1] W fun e W' => e = .returned (.bool true) ∧ Below W.heap.size W W' := by
  obtain ⟨t, rfl, ht⟩ := k0.int Try.underlying3
  obtain ⟨A, cap, l, rfl, h1, h2, hr⟩ := k1.slice Act.enc Try.underlying31 cells42 (by decide) (fun cs h => act_dec h)
  exact law_any t A cap l W (Nat.le_trans h1 h2) hr
end Go.Proofs.Ythdjagmeggckcaa.WSlabPlays
