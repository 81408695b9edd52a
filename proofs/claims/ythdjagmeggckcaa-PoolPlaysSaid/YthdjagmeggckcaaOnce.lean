/- The law SlabOnce: its walk. -/
import Derived.Test.YthdjagmeggckcaaOnceLaw
import Derived.Test.YthdjagmeggckcaaLives
import Derived.Test.YthdjagmeggckcaaArg
import Derived.Deep.LoopGhost
import Derived.Deep.DeepCutAuto
import Derived.Deep.CutBlock
namespace Go.Proofs.Ythdjagmeggckcaa.WSlabOnce
open Go.RowKit SlabLaw

def eH (h : H) : List Value := [.int .i64 h.slot, .int .i64 h.turn]
theorem eH_len (h : H) : (eH h).length = 2 := rfl
theorem eH_one (h : H) : ∀ u ∈ eH h, u.oneCell' = true := by simp [eH, Value.oneCell']
theorem info40 : (Try.prog.info? 40).map (fun i => (i.zero, i.size, i.bytes)) = some (some (.agg #[.int .i64 0, .int .i64 0]), 2, 16) := by kernel_rfl

/-- Memory at a round's head. -/
structure St (w wr : World) (p g : Nat) (s : Slab.Sl) (nv ev : Value) (now ever : List H) : Prop where
  slab : Slab.Is wr p g s
  now : Own wr w.heap.size 40 2 eH nv now
  ever : Own wr w.heap.size 40 2 eH ev ever
  apart : (nv.ownBlock = none ∨ nv.ownBlock ≠ ev.ownBlock)
  below : Below w.heap.size w wr
  hp : w.heap.size ≤ p
  hg : w.heap.size ≤ g

section
variable {w wr w' : World} {p g : Nat} {s s' : Slab.Sl} {nv ev v1 v2 : Value} {now ever now' : List H}
theorem St.ext (h : St w wr p g s nv ev now ever) (hk : Kept none_ wr w') : St w w' p g s nv ev now ever :=
  { h with slab := h.slab.kept hk (fun h => h) (fun h => h), now := h.now.kept hk Off.none_, ever := h.ever.kept hk Off.none_, below := h.below.trans (hk.toBelow'.mono h.below.size) }
theorem St.slab_ (h : St w wr p g s nv ev now ever) (hs : Slab.Is w' p g s') (hk : Kept (Slab.Of2 p g) wr w') : St w w' p g s' nv ev now ever :=
  { h with slab := hs, now := h.now.kept hk (h.slab.off (by decide) (by decide)), ever := h.ever.kept hk (h.slab.off (by decide) (by decide)),
           below := h.below.trans (hk.toBelow (fun i hi => by rcases hi with rfl | rfl; exact h.hp; exact h.hg) h.below.size) }
theorem St.al (h : St w wr p g s nv ev now ever) (o : Obj) : St w (wr.alloc o) p g s nv ev now ever := h.ext ((Kept.refl _ _).alloc o)

theorem own_off {W : World} {base t size : Nat} {α : Type} {enc : α → List Value} {v : Value} {l : List α} (h : Own W base t size enc v l) {b t' : Nat} {cs : Array Value} (hb : Blk W b t' cs) (hne : t' ≠ t) : v.ownBlock ≠ some b := by
  obtain ⟨_, h2⟩ := h
  rcases h2 with ⟨rfl, _⟩ | ⟨q, cap, cur, rfl, _, hh, _⟩
  · simp [Value.ownBlock]
  · intro e
    simp [Value.ownBlock] at e
    subst e
    exact Blk.ne_ hb (cs' := cur) hh hne rfl
theorem slab_grown {W W' : World} {base : Nat} {v : Value} {l : List H} (hs : Slab.Is W p g s) (h : Own W base 40 2 eH v l) (hg : W.grownBy W' v.ownBlock) : Slab.Is W' p g s := by
  have hK : Kept (fun i => v.ownBlock = some i) W W' := Kept.grown hg (fun q hq => .inl hq)
  obtain ⟨⟨c, hc, hb⟩, arr, hr, rest⟩ := hs
  exact ⟨⟨c, hc, hb.kept hK (own_off h hb (by decide))⟩, arr, hr.kept hK (own_off h hr (by decide)), rest⟩

theorem St.push_ever (h : St w wr p g s nv ev now ever) {x : H} (ho : Own w' w.heap.size 40 2 eH v1 (ever ++ [x])) (hg : wr.grownBy w' ev.ownBlock) (ha : v1.ownBlock = ev.ownBlock ∨ v1.ownBlock = some wr.heap.size) :
    St w w' p g s nv v1 now (ever ++ [x]) := by
  refine { slab := slab_grown h.slab h.ever hg, now := World.ownsRow.kept h.now hg h.apart, ever := ho, apart := ?_, below := h.below.grown hg h.below.size (fun q hq => (h.ever.lt q hq).1), hp := h.hp, hg := h.hg }
  rcases ha with e | e
  · rw [e]; exact h.apart
  · by_cases hn : nv.ownBlock = none
    · exact .inl hn
    · right
      rw [e]
      intro e'
      have := (h.now.lt _ e').2
      omega
theorem St.push_now (h : St w wr p g s nv ev now ever) {x : H} (ho : Own w' w.heap.size 40 2 eH v1 (now ++ [x])) (hg : wr.grownBy w' nv.ownBlock) (ha : v1.ownBlock = nv.ownBlock ∨ v1.ownBlock = some wr.heap.size) :
    St w w' p g s v1 ev (now ++ [x]) ever := by
  refine { slab := slab_grown h.slab h.now hg, now := ho, ever := World.ownsRow.kept h.ever hg ?_, apart := ?_, below := h.below.grown hg h.below.size (fun q hq => (h.now.lt q hq).1), hp := h.hp, hg := h.hg }
  · by_cases hn : ev.ownBlock = none
    · exact .inl hn
    · rcases h.apart with e | e
      · rw [e]; exact .inr hn
      · exact .inr (Ne.symm e)
  · rcases ha with e | e
    · rw [e]; exact h.apart
    · right
      rw [e]
      intro e'
      have := (h.ever.lt _ e'.symm).2
      omega

theorem newH (W : World) (q : Nat) (hq : W.heap.size = q) (h : H) : ∀ j u, (eH h)[j]? = some u → (W.alloc (.cells #[.int .i64 h.slot, .int .i64 h.turn] 40)).cell? ⟨q, j, none⟩ = some u := by
  subst hq
  intro j u hu
  rw [(Blk.new W 40 #[.int .i64 h.slot, .int .i64 h.turn]).cell j, ← hu]
  exact List.getElem?_toArray
/-- Behind 'append(append([]Handle{}, now[:k]...), now[k+1:]...)'. -/
theorem St.cut (h : St w wr p g s nv ev now ever) {cs : Array Value} {o2 : Obj} {w1 w2 : World}
    (hg1 : (((wr.alloc (.cells cs 40)).alloc o2).drew).grownBy w1 (Value.slice (some ⟨wr.heap.size + 1, 0, none⟩) 0 0).ownBlock)
    (ha1 : v1.ownBlock = (Value.slice (some ⟨wr.heap.size + 1, 0, none⟩) 0 0).ownBlock ∨ v1.ownBlock = some (((wr.alloc (.cells cs 40)).alloc o2).drew).heap.size)
    (ho2 : Own w2 w.heap.size 40 2 eH v2 now') (hg2 : w1.grownBy w2 v1.ownBlock) (ha2 : v2.ownBlock = v1.ownBlock ∨ v2.ownBlock = some w1.heap.size) :
    St w w2 p g s v2 ev now' ever ∧ Blk w2 wr.heap.size 40 cs := by
  have hb1 : ∃ b, v1.ownBlock = some b ∧ wr.heap.size < b := by
    rcases ha1 with e | e
    · exact ⟨_, e, by simp⟩
    · exact ⟨_, e, by simp; omega⟩
  obtain ⟨b, hb, hbl⟩ := hb1
  have hX1 : Kept (fun i => wr.heap.size < i) (((wr.alloc (.cells cs 40)).alloc o2).drew) w1 := Kept.grown hg1 (fun q hq => .inl (by simp [Value.ownBlock] at hq; omega))
  have hX2 : Kept (fun i => wr.heap.size < i) w1 w2 := Kept.grown hg2 (fun q hq => .inl (by rw [hb] at hq; injection hq with hq; omega))
  have hX := hX1.trans hX2
  have hsz := hX1.size
  simp at hsz
  have hK : Kept none_ wr w2 := ((((Kept.refl none_ wr).alloc (.cells cs 40)).alloc o2).drew).trans' hX (fun i hi => .inr (by omega))
  have hS := h.ext hK
  refine ⟨{ hS with now := ho2, apart := ?_ }, ?_⟩
  · right
    intro e
    have hlt : ∀ q, ev.ownBlock = some q → q < wr.heap.size := fun q hq => (h.ever.lt q hq).2
    rcases ha2 with e2 | e2
    · rw [e2, hb] at e
      have := hlt b e.symm
      omega
    · rw [e2] at e
      have := hlt _ e.symm
      omega
  · exact (((Blk.new wr 40 cs).alloc o2).drew).kept hX (by omega)
end

theorem K1 {wr w1 : World} {o1 o2 : Obj} (hg : (((wr.alloc o1).alloc o2).drew).grownBy w1 (Value.slice (some ⟨wr.heap.size + 1, 0, none⟩) 0 0).ownBlock) : Kept none_ wr w1 :=
  (((Kept.refl none_ wr).alloc o1).alloc o2).drew.trans' (Kept.grown (F := fun i => i = wr.heap.size + 1) hg (fun q hq => .inl (by simpa [Value.ownBlock] using hq.symm))) (fun i hi => .inr (by omega))

set_option maxRecDepth 100000 in
set_option maxHeartbeats 4000000 in
theorem law_any (t : Int) (A : Option Addr) (cap : Nat) (es : List Int) (w : World) (hl : es.length ≤ maxLen) (hc : RowsAt w 1 eInt A es) (ht0 : 0 ≤ t) (ht1 : t ≤ 255) :
    Calls Try.prog 6 #[.int .u8 t, .slice A es.length cap] w fun e w' => e = .returned (.bool true) ∧ Below w.heap.size w w' := by
  unfold maxLen at hl
  have HC := Lib.hid hc
  clear hc
  obtain ⟨i0, hi0, hz0, hz1, hz2⟩ := info_parts info40
  obtain ⟨n, hn⟩ : ∃ n : Nat, (n : Int) = 1 + t % 30 := ⟨(1 + t % 30).toNat, by omega⟩
  have n1 : 1 ≤ n := by omega
  have n2 : n ≤ 30 := by omega
  have HN := Lib.hid hn
  clear hn
  go_enter Try.func6, Try.ntmps6
  go_wp2_with fail
  refine (Slab.take_nil _).mono ?_
  rintro e w1 ⟨rfl, b1⟩
  go_wp2_with fail
  refine (Slab.give_nil 0 0 _).mono ?_
  rintro e w2 ⟨rfl, b2⟩
  go_wp2_with fail
  refine (Slab.live_nil 0 0 _).mono ?_
  rintro e w3 ⟨rfl, b3⟩
  go_wp2_with fail
  refine (Slab.left_nil _).mono ?_
  rintro e w4 ⟨rfl, rfl⟩
  go_wp2_with fail
  refine (Slab.copy_nil _).mono ?_
  rintro e w5 ⟨rfl, rfl⟩
  go_wp2_with fail
  refine (Slab.of_nil 0 _).mono ?_
  rintro e w6 ⟨rfl, b6⟩
  have B6 : Below w.heap.size w w6 := ((((b1.trans (((Below.refl w1.heap.size w1).alloc (Nat.le_refl _) (.cells #[.int .i64 0, .int .i64 0] 40)).mono b1.size)).trans (b2.mono (by have := b1.size; simp; omega))).trans (b3.mono (by have := b1.size; have := b2.size; simp at this; omega))).trans (b6.mono (by have := b1.size; have := b2.size; have := b3.size; simp at *; omega)))
  have B7 := B6.alloc B6.size (.cells #[.int .i64 0, .int .i64 0] 40)
  have HB := Lib.hid B7
  clear b1 b2 b3 b6 B6 B7
  go_wp2_with fail
  · refine (lives _).mono ?_
    rintro e w7 ⟨rfl, b7⟩
    go_wp2_with fail
    go_ret
    exact ⟨rfl, HB.out.trans (b7.mono HB.out.size)⟩
  rw [← HN.out]
  refine (Slab.new_good n _ n1 (by omega)).mono ?_
  rintro e w7 ⟨p, g, rfl, hs, hp, hg, b7⟩
  have hS : St w w7 p g (Slab.new n) (.slice none 0 0) (.slice none 0 0) [] [] :=
    { slab := hs, now := Own.nil _ _, ever := Own.nil _ _, apart := .inl rfl, below := HB.out.trans (b7.mono HB.out.size), hp := Nat.le_trans HB.out.size hp, hg := Nat.le_trans HB.out.size hg }
  have HS := Lib.hid hS
  have hlen : (es.length : Int) ≤ 60 := by assumption
  clear hS hs hp hg b7 HB HN
  go_wp2_with fail
  go_loopg [12, 13, 73] es.length (fun m ev nv i wr => ∃ (k : Nat) (s : Slab.Sl) (x : Ref.RS) (now ever : List H), m + k = es.length ∧ i = .int .i64 k ∧ St w wr p g s nv ev now ever ∧ Once n k s x now ever)
  case atStart => exact ⟨0, _, _, _, _, by omega, rfl, HS.out, Once.new n n1⟩
  case round =>
    clear HS
    obtain ⟨k, s, x, now, ever, hm, rfl, hS, hO⟩ := hrel
    obtain ⟨NA, nn, nc, rfl⟩ := hS.now.form'
    obtain ⟨EA, en, ec, rfl⟩ := hS.ever.form'
    have hnl := (hS.now.sl eH_len).len
    have hel := (hS.ever.sl eH_len).len
    obtain ⟨rfl, hn1, hn2⟩ := hnl
    obtain ⟨rfl, he1, he2⟩ := hel
    unfold maxLen at hn2 he2
    have hcnt := hO.count
    have hmany := hO.many
    have hls := hO.inv.ls
    have HLS := Lib.hid hls
    have HCNT := Lib.hid hcnt
    have hnn : now.length ≤ n := by omega
    clear hls hcnt
    by_cases hlt : k < es.length
    · obtain ⟨y, hy⟩ : ∃ y, es[k]? = some y := ⟨es[k]'(by omega), by simp⟩
      obtain ⟨ab, aoff, rfl, hab, hcc⟩ := (HC.out.below hS.below) (by rintro rfl; simp at hy)
      have q0 := hcc k y hy 0 _ rfl
      rw [Nat.mul_one, Nat.add_zero] at q0
      clear hcc hy
      have hk0 : (0 : Int) ≤ (k : Int) := by omega
      have hk1 : (k : Int) < (es.length : Int) := by omega
      have HS := Lib.hid hS
      have HO := Lib.hid hO
      clear hS hO
      by_cases hy0 : 0 ≤ y
      · obtain ⟨j, rfl⟩ := Int.eq_ofNat_of_zero_le hy0
        by_cases hj : now.length ≤ j
        · have hj' : (now.length : Int) ≤ (j : Int) := by omega
          go_wp2_with fail
          go_roundg (gk - 1)
          case measure => omega
          case rel => exact ⟨k + 1, _, _, _, _, by omega, by go_num, HS.out, { HO.out with inv := HO.out.inv.mono (Nat.le_succ k), many := Nat.le_succ_of_le HO.out.many }⟩
        · obtain ⟨h, hh⟩ : ∃ h, now[j]? = some h := ⟨now[j]'(by omega), by simp⟩
          obtain ⟨k0, sl, rfl, hsl, hst, t0', t1', hO', hL1, hL2⟩ := HO.out.give hh
          obtain ⟨hb, hoff, rfl, hhb, _, hhc⟩ := (HS.out.now.sl eH_len).atN hh
          have c0 : wr.cell? ⟨hb, hoff + j * 2, none⟩ = some (.int .i64 (k0 : Int)) := hhc 0 _ rfl
          have c1 : wr.cell? ⟨hb, hoff + j * 2 + 1, none⟩ = some (.int .i64 sl.turn) := hhc 1 _ rfl
          have hjl : j < now.length := by omega
          have j0 : (0 : Int) ≤ (j : Int) := by omega
          have j1 : (j : Int) < (now.length : Int) := by omega
          have j2 : (j : Int) ≤ (nc : Int) := by omega
          have j3 : (j : Int) + 1 ≤ (now.length : Int) := by omega
          have j4 : (0 : Int) ≤ (j : Int) + 1 := by omega
          have j5 : (j : Int) ≤ (j : Int) + 1 := by omega
          have hw : IntKind.i64.wrap ((j : Int) + 1) = (j : Int) + 1 := IntWalk.i64_in _ (by omega)
          have ht : ((j : Int) + 1).toNat = j + 1 := by omega
          have hT := (HS.out.now.sl eH_len).take j (by omega)
          have hD := (HS.out.now.sl eH_len).drop (j + 1) (by omega)
          have hlf := HO.out.inv.left
          have hmf := HO.out.inv.many
          have C25 : ∀ W, Slab.Is W p g s → Calls Try.prog 25 #[.pointer (some ⟨p, 0, none⟩), .agg #[.int .i64 (k0 : Int), .int .i64 sl.turn]] W fun e w' => e = .returned (.bool true) ∧ Below W.heap.size W w' := fun W hW => by
            have := Slab.live_any p g s k0 sl.turn W hW (by rw [HLS.out]; omega)
            rwa [hL1] at this
          have C21 : ∀ W, Slab.Is W p g s → Calls Try.prog 21 #[.pointer (some ⟨p, 0, none⟩), .agg #[.int .i64 (k0 : Int), .int .i64 sl.turn]] W fun e w' => e = .returned (.bool true) ∧ Slab.Is w' p g (Slab.give s k0 sl.turn) ∧ Kept (Slab.Of2 p g) W w' := fun W hW =>
            Slab.give_yes p g s k0 sl W hW (by rw [HLS.out]; omega) hsl hst (by omega) (by omega)
          have C25' : ∀ W, Slab.Is W p g (Slab.give s k0 sl.turn) → Calls Try.prog 25 #[.pointer (some ⟨p, 0, none⟩), .agg #[.int .i64 (k0 : Int), .int .i64 sl.turn]] W fun e w' => e = .returned (.bool false) ∧ Below W.heap.size W w' := fun W hW => by
            have := Slab.live_any p g _ k0 sl.turn W hW (by rw [hO'.inv.ls]; omega)
            rwa [hL2] at this
          have C21' : ∀ W, Slab.Is W p g (Slab.give s k0 sl.turn) → Calls Try.prog 21 #[.pointer (some ⟨p, 0, none⟩), .agg #[.int .i64 (k0 : Int), .int .i64 sl.turn]] W fun e w' => e = .returned (.bool false) ∧ Below W.heap.size W w' := fun W hW =>
            Slab.give_no p g _ k0 sl.turn W hW (by rw [hO'.inv.ls]; omega) hL2
          have D25 := Lib.hid C25
          have D21 := Lib.hid C21
          have D25' := Lib.hid C25'
          have D21' := Lib.hid C21'
          have HO' := Lib.hid hO'
          have hpl := HS.out.slab.lt
          clear hhc hh hsl hst hL1 hL2 hO' C25 C21 C25' C21' hlf hmf hmany
          have hD' : ∃ (A' : Option Addr) (c' : Nat), Sl wr 40 2 eH (.slice A' (now.length - (j + 1)) c') (now.drop (j + 1)) ∧ A' = (if nc = j + 1 then some ⟨hb, hoff, none⟩ else some ⟨hb, hoff + (j + 1) * 2, none⟩) ∧ c' = nc - (j + 1) := by
            refine ⟨_, _, ?_, rfl, rfl⟩
            by_cases hcj : nc = j + 1
            · rw [if_pos hcj] at hD ⊢
              exact hD
            · rw [if_neg hcj] at hD ⊢
              simpa [Addr.add] using hD
          clear hD
          have HT := Lib.hid hT
          clear hT
          by_cases hcj : nc = j + 1
          all_goals
            obtain ⟨A', c', hD, hA', hc'⟩ := hD'
            first
            | rw [if_pos hcj] at hA'
              subst hcj
              have hnl1 : now.length = j + 1 := by omega
              rw [hnl1] at hD
              have HNL := Lib.hid hnl1
              clear hnl1
            | rw [if_neg hcj] at hA'
            subst hA' hc'
            try simp only [Nat.sub_self] at hD
            have HD := Lib.hid hD
            clear hD
            go_wp2_with fail
            go_region_held3 (fun _ => True) (trivial) ((first
              | (refine step_append_sl _ (by rfl) (.tmp 87) (.tmp 90) 55 (by rfl) w.heap.size 40 i0 (.agg #[.int .i64 0, .int .i64 0]) 2 16 Try.underlying55 hi0 hz0 hz1 hz2 rfl (by decide) eH_len eH_one (.slice (some ⟨wr.heap.size + 1, 0, none⟩) 0 0) ([] : List H) (by rfl) (Own.lit0' (wr.alloc _) w.heap.size (wr.heap.size + 1) (by simp) (by have := HS.out.below.size; simp; omega)).drew _ (now.take j) (by rfl) ((HT.out.alloc _).alloc _).drew (by unfold maxLen; simp; omega) (by simp; omega) (by have := HS.out.below.size; simp; omega) ?_; intro v1 w1' hown1 hgrow1 hat1)
              | (refine step_append_sl _ (by rfl) (.tmp 91) (.tmp 95) 55 (by rfl) w.heap.size 40 i0 (.agg #[.int .i64 0, .int .i64 0]) 2 16 Try.underlying55 hi0 hz0 hz1 hz2 rfl (by decide) eH_len eH_one v1 _ (by rfl) hown1 _ (now.drop (j + 1)) (by rfl) (HD.out.kept (F := none_) (K1 hgrow1) Off.none_) (by unfold maxLen; simp; omega) (by simp; omega) (by have := HS.out.below.size; have := hgrow1.size; simp at this; omega) ?_; intro v2 w2' hown2 hgrow2 hat2)))
            obtain ⟨hS2, hH2⟩ := HS.out.cut hgrow1 hat1 hown2 hgrow2 hat2
            obtain ⟨NA', nn', nc', rfl⟩ := hS2.now.form'
            clear c0 c1 hown1 hgrow1 hat1 hown2 hgrow2 hat2
            obtain ⟨c0, c1⟩ := cell2 hH2
            have lH := hH2.lt
            have HS2 := Lib.hid hS2
            clear hS2
            go_wp2_with fail
            refine (D25.out _ HS2.out.slab).mono ?_
            rintro e w3' ⟨rfl, b3⟩
            have HS3 := Lib.hid (HS2.out.ext (Kept.below b3 rfl))
            have hH3 := hH2.kept (F := none_) (Kept.below b3 rfl) (fun h => h)
            clear c0 c1 lH
            obtain ⟨c0, c1⟩ := cell2 hH3
            have lH := hH3.lt
            go_wp2_with fail
            refine (D21.out _ HS3.out.slab).mono ?_
            rintro e w4' ⟨rfl, hs4, k4⟩
            have HS4 := Lib.hid (HS3.out.slab_ hs4 k4)
            have hH4 := hH3.kept k4 (fun h => by rcases h with h | h <;> omega)
            clear c0 c1 lH hs4
            obtain ⟨c0, c1⟩ := cell2 hH4
            have lH := hH4.lt
            go_wp2_with fail
            refine (D25'.out _ HS4.out.slab).mono ?_
            rintro e w5' ⟨rfl, b5⟩
            have HS5 := Lib.hid (HS4.out.ext (Kept.below b5 rfl))
            have hH5 := hH4.kept (F := none_) (Kept.below b5 rfl) (fun h => h)
            clear c0 c1 lH
            obtain ⟨c0, c1⟩ := cell2 hH5
            have lH := hH5.lt
            go_wp2_with fail
            refine (D21'.out _ HS5.out.slab).mono ?_
            rintro e w6' ⟨rfl, b6⟩
            have HS6 := Lib.hid (HS5.out.ext (Kept.below b6 rfl))
            go_wp2_with fail
            go_roundg (gk - 1)
            case measure => omega
            case rel => exact ⟨k + 1, _, _, _, _, by omega, by go_num, HS6.out, by simpa using HO'.out⟩
      · have hy1 : decide (0 ≤ y) = false := by simpa using hy0
        have hpl := HS.out.slab.lt
        rcases HO.out.free with ⟨hf, hnx, hfull⟩ | ⟨k0, rest, sl, hf, hsl, hnx, hnn', hl1⟩
        · have hd : decide ((now.length : Int) < (n : Int)) = false := by simp; omega
          have hd' : decide (now.length < n) = false := by simp; omega
          clear hf hfull
          go_wp2_with fail
          refine (Slab.take_none p g s _ HS.out.slab hnx).mono ?_
          rintro e w3' ⟨rfl, b3⟩
          have HS3 := Lib.hid (HS.out.ext (Kept.below b3 rfl))
          go_wp2_with fail
          go_roundg (gk - 1)
          case measure => omega
          case rel => exact ⟨k + 1, _, _, _, _, by omega, by go_num, HS3.out.al _, { HO.out with inv := HO.out.inv.mono (Nat.le_succ k), many := Nat.le_succ_of_le HO.out.many }⟩
        · have hd : decide ((now.length : Int) < (n : Int)) = true := by simp; omega
          have hd' : decide (now.length < n) = true := by simp; omega
          obtain ⟨g1, hg1, hg2⟩ : ∃ g1, g1 + 1 = gk ∧ g1 + (k + 1) = es.length := ⟨gk - 1, by omega, by omega⟩
          have hfr := HO.out.fresh hf hsl
          have HFR := Lib.hid hfr
          have HO' := Lib.hid (HO.out.take hf hsl hnx)
          have hlf := HO.out.inv.left
          have hmf := HO.out.inv.many
          have D18 := Lib.hid (fun W (hW : Slab.Is W p g s) => Slab.take_some p g s k0 sl W hW hnx hsl (by omega))
          clear hfr hf hsl hnx hlf hmf
          go_wp2_with fail
          refine (D18.out _ HS.out.slab).mono ?_
          rintro e w3' ⟨rfl, hs3, k3⟩
          have HS3 := Lib.hid (HS.out.slab_ hs3 k3)
          clear hs3 k3
          go_wp2_with fail
          go_loopg [132] ever.length (fun m i wq => ∃ q : Nat, m + q = ever.length ∧ i = .int .i64 q ∧ Kept none_ (w3'.alloc (.cells #[.int .i64 k0, .int .i64 sl.turn] 40)) wq)
          case atStart => exact ⟨0, by omega, rfl, Kept.refl _ _⟩
          case round =>
            obtain ⟨q, hq, rfl, hK⟩ := hrel
            have hB := (Blk.new w3' 40 #[.int .i64 k0, .int .i64 sl.turn]).kept hK (fun h => h)
            obtain ⟨c0, c1⟩ := cell2 hB
            have lB := hB.lt
            have HSq := Lib.hid ((HS3.out.al _).ext hK)
            by_cases hql : q < ever.length
            · obtain ⟨⟨es_, et_⟩, hh⟩ : ∃ h, ever[q]? = some h := ⟨ever[q]'hql, by simp⟩
              obtain ⟨eb, eoff, rfl, heb, _, hhc⟩ := (HSq.out.ever.sl eH_len).atN hh
              have d0 : _ = some (Value.int .i64 es_) := hhc 0 _ rfl
              have d1 : _ = some (Value.int .i64 et_) := hhc 1 _ rfl
              rw [Nat.add_zero] at d0
              have q0' : (0 : Int) ≤ (q : Int) := by omega
              have q1' : (q : Int) < (ever.length : Int) := by omega
              have hne := HFR.out _ (List.mem_of_getElem? hh)
              simp only at hne
              clear hhc hh
              have HK := Lib.hid hK
              clear hK
              go_wp2_with fail
              all_goals
                go_roundg (gk - 1)
                case measure => omega
                case rel => exact ⟨q + 1, by omega, by go_num, HK.out.alloc _⟩
            · have hlB := hK.size
              simp at hlB
              have hsz := HSq.out.below.size
              go_wp2_with (first
                | (at_builtin; refine wpList_append_one _ rfl (.tmp 140) (.tmp 142) 55 rfl w.heap.size 40 i0 (.agg #[.int .i64 0, .int .i64 0]) 2 16 Try.underlying55 hi0 hz0 hz1 hz2 rfl (by decide) (.slice EA ever.length ec) _ rfl (HSq.out.al _).ever wr.heap.size (⟨k0, sl.turn⟩ : H) rfl rfl (newH _ _ rfl _) (eH_one _) (by omega) (by unfold maxLen; omega) (by simp; omega) ?_; intro ev1 w4' hown' hgrow hat; have HS4 := Lib.hid ((HSq.out.al _).push_ever hown' hgrow hat); have hB4 := (hB.alloc _).kept (F := fun i => Value.ownBlock (.slice EA ever.length ec) = some i) (Kept.grown hgrow (fun q hq => .inl hq)) (fun h => by have := (HS3.out.ever.lt _ h).2; omega); obtain ⟨EA', en', ec', rfl⟩ := hown'.form'; clear hown' hgrow hat c0 c1 lB; obtain ⟨c0, c1⟩ := cell2 hB4; have lB := hB4.lt; have hsz4 := HS4.out.below.size)
                | (at_builtin; refine wpList_append_one _ rfl (.tmp 144) (.tmp 146) 55 rfl w.heap.size 40 i0 (.agg #[.int .i64 0, .int .i64 0]) 2 16 Try.underlying55 hi0 hz0 hz1 hz2 rfl (by decide) (.slice NA now.length nc) _ rfl (HS4.out.al _).now w4'.heap.size (⟨k0, sl.turn⟩ : H) rfl rfl (newH _ _ rfl _) (eH_one _) (by omega) (by unfold maxLen; omega) (by simp; omega) ?_; intro nv1 w5' hown' hgrow hat; have HS5 := Lib.hid ((HS4.out.al _).push_now hown' hgrow hat); obtain ⟨NA', nn', nc', rfl⟩ := hown'.form'; clear hown' hgrow hat))
              go_roundg g1
              case measure => omega
              case rel => exact ⟨k + 1, _, _, _, _, hg2, by go_num, HS5.out, HO'.out⟩
    · have HS := Lib.hid hS
      have HO := Lib.hid hO
      have hgs := hS.below.size
      clear hS hO
      go_wp2_with fail
      go_loopg [151] now.length (fun m i wq => ∃ (q c' : Nat) (s' : Slab.Sl) (x' : Ref.RS), m + q = now.length ∧ i = .int .i64 q ∧ c' = k + q ∧ St w wq p g s' (.slice NA now.length nc) (.slice EA ever.length ec) now ever ∧ Once n c' s' x' (now.drop q) ever)
      case atStart => exact ⟨0, k, s, x, by omega, rfl, by omega, HS.out, by simpa using HO.out⟩
      case round =>
        clear HS HO HLS HCNT
        obtain ⟨q, c', s', x', hq, rfl, hc', hS, hO⟩ := hrel
        have HS := Lib.hid hS
        have HO := Lib.hid hO
        clear hS hO
        by_cases hql : q < now.length
        · obtain ⟨h, hh⟩ : ∃ h, now[q]? = some h := ⟨now[q]'hql, by simp⟩
          obtain ⟨k0, sl, rfl, hsl, hst, t0', t1', hO', hL1, hL2⟩ := HO.out.give (i := 0) (e := h) (by rw [List.getElem?_drop]; simpa using hh)
          obtain ⟨hb, hoff, rfl, hhb, _, hhc⟩ := (HS.out.now.sl eH_len).atN hh
          have c0 : wr.cell? ⟨hb, hoff + q * 2, none⟩ = some (.int .i64 (k0 : Int)) := hhc 0 _ rfl
          have c1 : wr.cell? ⟨hb, hoff + q * 2 + 1, none⟩ = some (.int .i64 sl.turn) := hhc 1 _ rfl
          have q0' : (0 : Int) ≤ (q : Int) := by omega
          have q1' : (q : Int) < (now.length : Int) := by omega
          have hlf := HO.out.inv.left
          have hmf := HO.out.inv.many
          have D21 := Lib.hid (fun W (hW : Slab.Is W p g s') => Slab.give_yes p g s' k0 sl W hW (by rw [HO.out.inv.ls]; omega) hsl hst (by omega) (by omega))
          have HO' := Lib.hid hO'
          have hpl := HS.out.slab.lt
          clear hhc hh hsl hst hL1 hL2 hO' hlf hmf
          go_wp2_with fail
          refine (D21.out _ (HS.out.slab.al _)).mono ?_
          rintro e w4' ⟨rfl, hs4, k4⟩
          have HS4 := Lib.hid ((HS.out.al _).slab_ hs4 k4)
          clear hs4 k4
          go_wp2_with fail
          go_roundg (gk - 1)
          case measure => omega
          case rel => exact ⟨q + 1, c' + 1, _, _, by omega, by go_num, by omega, HS4.out, by simpa using HO'.out⟩
        · have hqe : now.drop q = [] := List.drop_eq_nil_of_le (by omega)
          have hcnt := HO.out.count
          rw [hqe] at hcnt
          have hlf := HO.out.inv.left
          have hle : s'.left = (n : Int) := by rw [hlf]; simp at hcnt; omega
          have D24 := Lib.hid (fun W (hW : Slab.Is W p g s') => Slab.left_any p g s' W hW)
          rw [hle] at D24
          clear hqe hcnt hlf hle
          go_wp2_with fail
          refine (D24.out _ HS.out.slab).mono ?_
          rintro e w4' ⟨rfl, rfl⟩
          go_wp2_with fail
          refine (lives _).mono ?_
          rintro e w7' ⟨rfl, b7⟩
          go_wp2_with fail
          go_ret
          exact ⟨rfl, HS.out.below.trans (b7.mono HS.out.below.size)⟩

theorem cells3 : Try.prog.cellsOf 3 = 1 := by kernel_rfl
theorem int_dec {W : World} {cs : List Value} (h : Rd Try.prog W 3 cs) : ∃ x : Int, eInt x = cs := by
  obtain ⟨k, e0, _⟩ := h.int Try.underlying3
  exact ⟨k, e0.symm⟩

open Go.ChangeShapes Go.WideShapes Go.ChangeAt in
theorem walk (v0 v1 : Value) (W : World) (k0 : IsArg Try.prog W 5 v0) (k1 : IsArg Try.prog W 34 v1) :
    Calls Try.prog 6 #[v0, v1] W fun e W' => e = .returned (.bool true) ∧ Below W.heap.size W W' := by
  obtain ⟨t, rfl, ht⟩ := k0.int Try.underlying5
  obtain ⟨A, cap, l, rfl, h1, h2, hr⟩ := k1.slice eInt Try.underlying34 cells3 (by decide) (fun cs h => int_dec h)
  have hb := bounds_u8 ht
  exact law_any t A cap l W (Nat.le_trans h1 h2) hr hb.1 hb.2
end Go.Proofs.Ythdjagmeggckcaa.WSlabOnce
