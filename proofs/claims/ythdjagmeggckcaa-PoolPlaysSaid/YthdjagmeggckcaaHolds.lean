/- The law PoolHolds: its walk. -/
import Derived.Test.YthdjagmeggckcaaPoolLives
import Derived.Test.YthdjagmeggckcaaOnce
namespace Go.Proofs.Ythdjagmeggckcaa.WPoolHolds
open Go.RowKit SlabLaw PoolLaw Pool
open WSlabOnce (eH eH_len eH_one info40 newH)

theorem Pk.enc_len (x : Pk) : (Pk.enc x).length = 10 := rfl
theorem Pk.enc_one (x : Pk) : ∀ u ∈ Pk.enc x, u.oneCell' = true := by
  intro u hu
  simp [Pk.enc] at hu
  rcases hu with rfl | rfl | rfl | rfl | rfl | rfl | rfl | rfl | rfl | rfl <;> rfl

/-- Memory at a round's head. -/
structure St (w wr : World) (a p g r : Nat) (y : Pl) (kv hv : Value) (ks : List Pk) (hs : List H) : Prop where
  pool : Pool.Is wr a p g r y
  kept : Own wr w.heap.size 70 10 Pk.enc kv ks
  at_ : Own wr w.heap.size 40 2 eH hv hs
  below : Below w.heap.size w wr
  ha : w.heap.size ≤ a
  hp : w.heap.size ≤ p
  hg : w.heap.size ≤ g
  hr : w.heap.size ≤ r

theorem own_blk {α : Type} {W : World} {base t size b : Nat} {enc : α → List Value} {v : Value} {l : List α} (h : Own W base t size enc v l) (e : v.ownBlock = some b) : ∃ cs fr, W.heap[b]? = some (.cells cs t fr) := by
  obtain ⟨_, h2⟩ := h
  rcases h2 with ⟨rfl, _⟩ | ⟨q, cap, cur, rfl, _, hh, _⟩
  · simp [Value.ownBlock] at e
  · simp [Value.ownBlock] at e
    subst e
    exact ⟨_, _, hh⟩

section
variable {w wr w' : World} {a p g r : Nat} {y y' : Pl} {kv hv v1 : Value} {ks : List Pk} {hs : List H}
theorem St.ext (h : St w wr a p g r y kv hv ks hs) (hk : Kept none_ wr w') : St w w' a p g r y kv hv ks hs :=
  { h with pool := h.pool.ext hk, kept := h.kept.kept hk Off.none_, at_ := h.at_.kept hk Off.none_, below := h.below.trans (hk.toBelow'.mono h.below.size) }
theorem St.al (h : St w wr a p g r y kv hv ks hs) (o : Obj) : St w (wr.alloc o) a p g r y kv hv ks hs := h.ext ((Kept.refl _ _).alloc o)
theorem St.pool_ (h : St w wr a p g r y kv hv ks hs) (hs' : Pool.Is w' a p g r y') (hk : Kept (Of4 a p g r) wr w') : St w w' a p g r y' kv hv ks hs :=
  { h with pool := hs', kept := h.kept.kept hk (h.pool.off (by decide) (by decide) (by decide)), at_ := h.at_.kept hk (h.pool.off (by decide) (by decide) (by decide)),
           below := h.below.trans (hk.toBelow (fun i hi => by rcases hi with rfl | rfl | rfl | rfl; exact h.ha; exact h.hp; exact h.hg; exact h.hr) h.below.size) }
theorem pool_grown {α : Type} {W W' : World} {base t size : Nat} {enc : α → List Value} {v : Value} {l : List α} (hs : Pool.Is W a p g r y) (h : Own W base t size enc v l) (h0 : t ≠ 98) (h1 : t ≠ 91) (h2 : t ≠ 93)
    (hg : W.grownBy W' v.ownBlock) : Pool.Is W' a p g r y := by
  have hK : Kept (fun i => v.ownBlock = some i) W W' := Kept.grown hg (fun q hq => .inl hq)
  have off : ∀ i, v.ownBlock = some i → ¬ Of4 a p g r i := fun i e => by
    obtain ⟨cs, fr, hb⟩ := own_blk h e
    exact hs.off h0 h1 h2 _ _ _ hb
  exact hs.kept hK (fun e => off _ e (.inl rfl)) (fun e => off _ e (.inr (.inl rfl))) (fun e => off _ e (.inr (.inr (.inl rfl)))) (fun e => off _ e (.inr (.inr (.inr rfl))))
theorem St.push_kept (h : St w wr a p g r y kv hv ks hs) {x : Pk} (ho : Own w' w.heap.size 70 10 Pk.enc v1 (ks ++ [x])) (hg : wr.grownBy w' kv.ownBlock) : St w w' a p g r y v1 hv (ks ++ [x]) hs :=
  { h with pool := pool_grown h.pool h.kept (by decide) (by decide) (by decide) hg, kept := ho, at_ := h.at_.grown_own hg (h.at_.apart h.kept (by decide)) h.kept,
           below := h.below.grown hg h.below.size (fun q hq => (h.kept.lt q hq).1) }
theorem St.push_at (h : St w wr a p g r y kv hv ks hs) {x : H} (ho : Own w' w.heap.size 40 2 eH v1 (hs ++ [x])) (hg : wr.grownBy w' hv.ownBlock) : St w w' a p g r y kv v1 ks (hs ++ [x]) :=
  { h with pool := pool_grown h.pool h.at_ (by decide) (by decide) (by decide) hg, at_ := ho, kept := h.kept.grown_own hg (h.kept.apart h.at_ (by decide)) h.at_,
           below := h.below.grown hg h.below.size (fun q hq => (h.at_.lt q hq).1) }
end

theorem newPk (W : World) (q : Nat) (hq : W.heap.size = q) (z : Pk) : ∀ j u, (Pk.enc z)[j]? = some u → (W.alloc (.cells z.cs 70)).cell? ⟨q, j, none⟩ = some u := by
  subst hq
  intro j u hu
  rw [(Blk.new W 70 z.cs).cell j, ← hu]
  exact List.getElem?_toArray

theorem step_al {B : Nat} {w w1 w2 : World} {o : Obj} (h : Below B w w1) (hB : B ≤ w1.heap.size) (hb : Below (w1.alloc o).heap.size (w1.alloc o) w2) : Below B w w2 ∧ B ≤ w2.heap.size :=
  ⟨(h.alloc hB o).trans (hb.mono (by simp; omega)), by have := hb.size; simp at this; omega⟩

set_option maxRecDepth 100000 in
set_option maxHeartbeats 4000000 in
theorem law_any (t u : Int) (A : Option Addr) (cap : Nat) (es : List Pk) (w : World) (hl : es.length ≤ maxLen) (hc : RowsAt w 10 Pk.enc A es) (ht0 : 0 ≤ t) (ht1 : t ≤ 255) (hu0 : 0 ≤ u) (hu1 : u ≤ 65535) :
    Calls Try.prog 8 #[.int .u8 t, .int .u16 u, .slice A es.length cap] w fun e w' => e = .returned (.bool true) ∧ Below w.heap.size w w' := by
  unfold maxLen at hl
  have HC := Lib.hid hc
  clear hc
  obtain ⟨i0, hi0, hz0, hz1, hz2⟩ := info_parts info40
  obtain ⟨j0, hj0, hy0, hy1, hy2⟩ := info_parts Pool.zero70
  obtain ⟨n, hn⟩ : ∃ n : Nat, (n : Int) = 1 + t % 30 := ⟨(1 + t % 30).toNat, by omega⟩
  have n1 : 1 ≤ n := by omega
  have n2 : n ≤ 30 := by omega
  have HN := Lib.hid hn
  clear hn
  go_enter Try.func8, Try.ntmps8
  go_wp2_with fail
  refine (put_nil (pk 1) _).mono ?_
  rintro e w1 ⟨rfl, b1⟩
  have s1 := b1.size
  go_wp2_with fail
  refine (get_nil 0 0 _).mono ?_
  rintro e w2 ⟨rfl, b2⟩
  obtain ⟨B2, s2⟩ := step_al b1 s1 b2
  clear b1 b2
  go_wp2_with fail
  refine (free_nil 0 0 _).mono ?_
  rintro e w3 ⟨rfl, b3⟩
  obtain ⟨B3, s3⟩ := step_al B2 s2 b3
  clear B2 b3
  go_wp2_with fail
  refine (fits_nil 1 _).mono ?_
  rintro e w4 ⟨rfl, b4⟩
  obtain ⟨B4, s4⟩ := step_al B3 s3 b4
  clear B3 b4
  go_wp2_with fail
  refine (slots_nil _).mono ?_
  rintro e w5 ⟨rfl, rfl⟩
  go_wp2_with fail
  refine (bytes_nil _).mono ?_
  rintro e w5 ⟨rfl, rfl⟩
  go_wp2_with fail
  refine (copy_nil _).mono ?_
  rintro e w5 ⟨rfl, rfl⟩
  have HB := Lib.hid B4
  clear B4
  go_wp2_with fail
  · refine (PoolLaw.lives _).mono ?_
    rintro e w7 ⟨rfl, b7⟩
    go_wp2_with fail
    go_ret
    exact ⟨rfl, HB.out.trans (b7.mono HB.out.size)⟩
  rw [← HN.out]
  refine (new_good n u _ n1 (by omega) hu0 (by omega)).mono ?_
  rintro e w7 ⟨a, p, g, r, rfl, h7, ha, hp, hg, hr, b7⟩
  have hlen : (es.length : Int) ≤ 40 := by assumption
  have hB := HB.out.size
  have HS : Hid (St w w7 a p g r (new n u) (.slice none 0 0) (.slice none 0 0) [] []) := Lib.hid
    { pool := h7, kept := Own.nil _ _, at_ := Own.nil _ _, below := HB.out.trans (b7.mono HB.out.size), ha := Nat.le_trans hB ha, hp := Nat.le_trans hB hp, hg := Nat.le_trans hB hg, hr := Nat.le_trans hB hr }
  clear h7 ha hp hg hr b7 HB hB s1 s2 s3 s4
  go_wp2_with fail
  go_loopg [15, 16, 95] es.length (fun m kv hv i wr => ∃ (k : Nat) (y : Pl) (x : Ref.RS) (l : List (H × Pk)) (ever : List H), m + k = es.length ∧ i = .int .i64 k ∧ St w wr a p g r y kv hv (l.map Prod.snd) (l.map Prod.fst) ∧ Hold n k y x l ever ∧ y.room = u)
  case atStart => exact ⟨0, _, _, _, _, by omega, rfl, HS.out, Hold.new n n1 u hu0, rfl⟩
  case round =>
    clear HS
    obtain ⟨k, y, x, l, ever, hm, rfl, hS, hH, hroom⟩ := hrel
    obtain ⟨KA, kn, kc, rfl⟩ := hS.kept.form'
    obtain ⟨EA, en, ec, rfl⟩ := hS.at_.form'
    obtain ⟨hkl, hkl1, hkl2⟩ := (hS.kept.sl Pk.enc_len).len
    obtain ⟨hal, hal1, hal2⟩ := (hS.at_.sl eH_len).len
    rw [List.length_map] at hkl hal hkl1 hal1
    unfold maxLen at hkl2 hal2
    have hlh := hH.once.count
    have hmany := hH.once.inv.many
    have hleft := hH.once.inv.left
    have hbytes := hH.bytes
    have hpos := total_pos hH.sized
    have hle := hH.le
    have hyn := hH.many
    have hln : l.length ≤ n := by rw [List.length_map] at hlh; omega
    have hby0 : 0 ≤ y.bytes := by omega
    have hby1 : y.bytes ≤ u := by omega
    have HS := Lib.hid hS
    have HH := Lib.hid hH
    have HR := Lib.hid hroom
    have hsl := hH.once.inv.ls
    have HSL := Lib.hid hsl
    clear hS hH hbytes hpos hle hlh hmany hleft hroom hsl
    by_cases hlt : k < es.length
    · obtain ⟨z, hz⟩ : ∃ z, es[k]? = some z := ⟨es[k]'(by omega), by simp⟩
      obtain ⟨ab, aoff, rfl, hab, hcc⟩ := (HC.out.below HS.out.below) (by rintro rfl; simp at hz)
      have q0 := hcc k z hz 0 _ rfl
      have q1 := hcc k z hz 1 _ rfl
      have q2 := hcc k z hz 2 _ rfl
      have q3 := hcc k z hz 3 _ rfl
      have q4 := hcc k z hz 4 _ rfl
      have q5 := hcc k z hz 5 _ rfl
      have q6 := hcc k z hz 6 _ rfl
      have q7 := hcc k z hz 7 _ rfl
      have q8 := hcc k z hz 8 _ rfl
      have q9 := hcc k z hz 9 _ rfl
      rw [Nat.add_zero] at q0
      clear hcc hz
      have hk0 : (0 : Int) ≤ (k : Int) := by omega
      have hk1 : (k : Int) < (es.length : Int) := by omega
      by_cases hf : fitsR y z.size = 0
      · obtain ⟨k0, sl, x', ever', g1, g2, g3, g4, g5, hH'⟩ := HH.out.put hf
        have D := Lib.hid (fun W (hW : Pool.Is W a p g r y) => put_yes a p g r y z k0 sl W hW ⟨hby0, by omega⟩ (by rw [HR.out]; omega) hf g1 g2 ⟨g3, by omega⟩)
        have hn' := hH'.once.count
        have hb' := hH'.le
        have hm' := hH'.many
        have hr' : (Pool.put y k0 sl z).room = u := HR.out
        rw [hr'] at hb'
        rw [List.length_map, List.length_append, List.length_singleton] at hn'
        rw [List.length_append, List.length_singleton] at hm'
        have t1 : decide (u < (Pool.put y k0 sl z).bytes) = false := by simp; omega
        have t2 : decide (1 + t % 30 < ((Pool.put y k0 sl z).n : Int)) = false := by have := HN.out; simp; omega
        have HH' := Lib.hid hH'
        have HM' := Lib.hid hm'
        clear hf g1 g2 g3 g4 hH' hn' hb' hr' hm' hkl hal hyn
        go_wp2_with fail
        refine (D.out _ (HS.out.al _).pool).mono ?_
        rintro e w2 ⟨rfl, hP2, K2⟩
        have HS2 := Lib.hid ((HS.out.al (.cells z.cs 70)).pool_ hP2 K2)
        have hZ := ((Blk.new wr 70 z.cs).kept K2 ((HS.out.al (.cells z.cs 70)).pool.off (by decide) (by decide) (by decide) _ _ _ (Blk.new wr 70 z.cs)))
        have HZ := Lib.hid hZ
        obtain ⟨e0, e1, e2, e3, e4, e5, e6, e7, e8, e9⟩ := pk_cells hZ
        have lZ := hZ.lt
        have lw := HS2.out.below.size
        clear hZ hP2 K2 D
        go_wp2_with (first
          | (at_builtin; refine wpList_append_one _ rfl (.tmp 107) (.tmp 109) 60 rfl w.heap.size 70 j0 Pk.zero.v 10 80 Try.underlying60 hj0 hy0 hy1 hy2 rfl (by decide) (.slice KA kn kc) _ rfl ((HS2.out.al _).al _).kept (w2.heap.size + 1) z rfl rfl (newPk _ _ (by simp) _) (Pk.enc_one _) (by rw [List.length_map]; omega) (by unfold maxLen; rw [List.length_map]; omega) (by simp; omega) ?_; intro kv1 w4' hown' hgrow hat; have HS4 := Lib.hid (((HS2.out.al _).al _).push_kept hown' hgrow); have hB4 := (((Blk.new w2 40 #[.int .i64 (k0 : Int), .int .i64 sl.turn]).alloc (.cells z.cs 70)).kept (F := fun i => Value.ownBlock (.slice KA kn kc) = some i) (Kept.grown hgrow (fun q hq => .inl hq)) (fun h => by have := (HS2.out.kept.lt _ h).2; omega)); obtain ⟨KA', kn', kc', rfl⟩ := hown'.form'; have hkn' := ((HS4.out.kept.sl Pk.enc_len).len).1; rw [List.length_append, List.length_map, List.length_singleton] at hkn'; have HKN := Lib.hid hkn'; clear hown' hgrow hat hkn' e0 e1 e2 e3 e4 e5 e6 e7 e8 e9; obtain ⟨c0, c1⟩ := cell2 hB4; have lB := hB4.lt; have hsz4 := HS4.out.below.size)
          | (at_builtin; refine wpList_append_one _ rfl (.tmp 111) (.tmp 113) 55 rfl w.heap.size 40 i0 (.agg #[.int .i64 0, .int .i64 0]) 2 16 Try.underlying55 hi0 hz0 hz1 hz2 rfl (by decide) (.slice EA en ec) _ rfl (HS4.out.al _).at_ w4'.heap.size (⟨k0, sl.turn⟩ : H) rfl rfl (newH _ _ rfl _) (eH_one _) (by rw [List.length_map]; omega) (by unfold maxLen; rw [List.length_map]; omega) (by simp; omega) ?_; intro ev1 w5' hown' hgrow hat; have HS5 := Lib.hid ((HS4.out.al _).push_at hown' hgrow); obtain ⟨EA', en', ec', rfl⟩ := hown'.form'; clear hown' hgrow hat))
        refine (bytes_any a p g r _ _ HS5.out.pool).mono ?_
        rintro e w6 ⟨rfl, rfl⟩
        have t3 : (((Pool.put y k0 sl z).n : Int) != (kn' : Int)) = false := by have := HM'.out; have := HKN.out; simp; omega
        go_wp2_with fail
        refine (slots_any a p g r _ _ HS5.out.pool).mono ?_
        rintro e w6 ⟨rfl, rfl⟩
        go_wp2_with fail
        refine (slots_any a p g r _ _ HS5.out.pool).mono ?_
        rintro e w6 ⟨rfl, rfl⟩
        go_wp2_with fail
        go_roundg (gk - 1)
        case measure => omega
        case rel => exact ⟨k + 1, Pool.put y k0 sl z, x', l ++ [(⟨k0, sl.turn⟩, z)], ever', by omega, by go_num, by rw [List.map_append, List.map_append]; exact HS5.out, HH'.out, HR.out⟩
      · have hf' : (fitsR y z.size == 0) = false := by simpa using hf
        have D := Lib.hid (fun W (hW : Pool.Is W a p g r y) => put_no a p g r y z W hW ⟨hby0, by omega⟩ (by rw [HR.out]; omega) hf)
        have t1 : decide (u < y.bytes) = false := by simp; omega
        have t2 : decide (1 + t % 30 < (y.n : Int)) = false := by have := HN.out; simp; omega
        have t3 : ((y.n : Int) != (kn : Int)) = false := by simp; omega
        clear hf hkl hal hyn
        generalize fitsR y z.size = why at hf' D
        go_wp2_with fail
        refine (D.out _ (HS.out.al _).pool).mono ?_
        rintro e w2 ⟨rfl, b2⟩
        have HS2 := Lib.hid ((HS.out.al _).ext (Kept.below (F := none_) b2 rfl))
        clear b2 D
        go_wp2_with fail
        refine (bytes_any a p g r _ _ (HS2.out.al _).pool).mono ?_
        rintro e w6 ⟨rfl, rfl⟩
        go_wp2_with fail
        refine (slots_any a p g r _ _ (HS2.out.al _).pool).mono ?_
        rintro e w6 ⟨rfl, rfl⟩
        go_wp2_with fail
        refine (slots_any a p g r _ _ (HS2.out.al _).pool).mono ?_
        rintro e w6 ⟨rfl, rfl⟩
        go_wp2_with fail
        go_roundg (gk - 1)
        case measure => omega
        case rel => exact ⟨k + 1, _, x, l, ever, by omega, by go_num, HS2.out.al _, HH.out.mono (Nat.le_succ k), HR.out⟩
    · have HKL := Lib.hid hkl
      have HAL := Lib.hid hal
      clear hkl hal hyn
      go_wp2_with fail
      have hgs := HS.out.below.size
      go_loopg [139] l.length (fun m i wq => ∃ (q : Nat) (y' : Pl) (x' : Ref.RS), m + q = l.length ∧ i = .int .i64 q ∧ St w wq a p g r y' (.slice KA kn kc) (.slice EA en ec) (l.map Prod.snd) (l.map Prod.fst) ∧ Hold n (k + q) y' x' (l.drop q) ever ∧ y'.room = u)
      case atStart => exact ⟨0, y, x, by omega, rfl, HS.out, by simpa using HH.out, HR.out⟩
      case round =>
        clear HS HH HR HSL hby0 hby1
        obtain ⟨q, y', x', hq, rfl, hS, hH, hroom⟩ := hrel
        have HS := Lib.hid hS
        have HR := Lib.hid hroom
        clear hS hroom
        by_cases hql : q < l.length
        · obtain ⟨⟨h, z⟩, hh⟩ : ∃ e, l[q]? = some e := ⟨l[q]'hql, by simp⟩
          have hd : l.drop q = (h, z) :: l.drop (q + 1) := by rw [List.drop_eq_getElem_cons hql]; rw [List.getElem?_eq_getElem hql] at hh; injection hh with hh; rw [hh]
          rw [hd] at hH
          have hbytes := hH.bytes
          have hpos := total_pos (l := l.drop (q + 1)) fun e he => hH.sized e (List.mem_cons_of_mem _ he)
          have hzs : 1 ≤ z.size ∧ z.size ≤ 2048 := hH.sized _ (List.mem_cons_self ..)
          have hle := hH.le
          rw [HR.out] at hle
          simp only [total] at hbytes
          have hlf := hH.once.inv.left
          have hmf := hH.once.count
          have hls := hH.once.inv.ls
          rw [List.map_cons, List.length_cons] at hmf
          obtain ⟨k0, sl, x'', rfl, f2, f3, f4, f5, f6, f7, f8, hH'⟩ := hH.free
          obtain ⟨hb, hoff, rfl, hhb, _, hhc⟩ := (HS.out.at_.sl eH_len).atN (k := q) (x := ⟨k0, sl.turn⟩) (by rw [List.getElem?_map, hh]; rfl)
          obtain ⟨kb, koff, rfl, hkb, _, hkc⟩ := (HS.out.kept.sl Pk.enc_len).atN (k := q) (x := z) (by rw [List.getElem?_map, hh]; rfl)
          have c0 : wr.cell? ⟨hb, hoff + q * 2, none⟩ = some (.int .i64 (k0 : Int)) := hhc 0 _ rfl
          have c1 : wr.cell? ⟨hb, hoff + q * 2 + 1, none⟩ = some (.int .i64 sl.turn) := hhc 1 _ rfl
          have q0' : (0 : Int) ≤ (q : Int) := by omega
          have q1' : (q : Int) < (en : Int) := by have := HAL.out; omega
          have q2' : (q : Int) < (kn : Int) := by have := HKL.out; omega
          have DG := Lib.hid (fun W (hW : Pool.Is W a p g r y') => get_yes a p g r y' k0 sl.turn z W hW (by omega) f7 f6)
          have DF := Lib.hid (fun W (hW : Pool.Is W a p g r y') => free_yes a p g r y' k0 sl z W hW (by omega) f2 f3 f6 ⟨f4, by omega⟩ (by omega) (by omega) (by omega))
          have DN := Lib.hid (fun W (hW : Pool.Is W a p g r (Pool.free y' k0 sl z)) => free_no a p g r _ k0 sl.turn W hW (by show (Slab.give y'.s k0 sl.turn).slots.length ≤ _; simp [Slab.give]; omega) f8)
          have HH' := Lib.hid hH'
          clear hhc hd hbytes hpos hzs hle hlf hmf hls f2 f3 f4 f5 f6 f7 f8 hH' hH hkc
          go_wp2_with fail
          refine (DG.out _ (HS.out.al _).pool).mono ?_
          rintro e w2 ⟨rfl, b2⟩
          have HS2 := Lib.hid ((HS.out.al _).ext (Kept.below (F := none_) b2 rfl))
          have hI := (Blk.new wr 40 #[.int .i64 (k0 : Int), .int .i64 sl.turn]).kept (Kept.below (F := none_) b2 rfl) (fun h => h)
          have HI := Lib.hid hI
          obtain ⟨d0, d1⟩ := cell2 hI
          have lI := hI.lt
          clear b2 DG hI
          go_wp2_with fail
          refine (DF.out _ (HS2.out.al _).pool).mono ?_
          rintro e w3 ⟨rfl, hP3, K3⟩
          have off := (HS2.out.al (.cells z.cs 70)).pool.off (t := 40) (by decide) (by decide) (by decide)
          have off' := (HS2.out.al (.cells z.cs 70)).pool.off (t := 70) (by decide) (by decide) (by decide)
          have HS3 := Lib.hid ((HS2.out.al (.cells z.cs 70)).pool_ hP3 K3)
          have hI3 := (HI.out.alloc (.cells z.cs 70)).kept K3 (off _ _ _ (HI.out.alloc (.cells z.cs 70)))
          have hX3 := (Blk.new w2 70 z.cs).kept K3 (off' _ _ _ (Blk.new w2 70 z.cs))
          clear hP3 K3 off off' DF HI lI d0 d1
          have HI3 := Lib.hid hI3
          have HX3 := Lib.hid hX3
          obtain ⟨d0, d1⟩ := cell2 hI3
          have lI := hI3.lt
          have lX := hX3.lt
          clear hI3 hX3
          go_wp2_with fail
          refine (DN.out _ (HS3.out.al _).pool).mono ?_
          rintro e w5 ⟨rfl, b5⟩
          have HS5 := Lib.hid ((HS3.out.al _).ext (Kept.below (F := none_) b5 rfl))
          have hX5 := (HX3.out.alloc (.cells z.cs 70)).kept (Kept.below (F := none_) b5 rfl) (fun h => h)
          have hY5 := (Blk.new w3 70 z.cs).kept (Kept.below (F := none_) b5 rfl) (fun h => h)
          obtain ⟨kb', koff', e, hkb', _, hkc⟩ := (HS5.out.kept.sl Pk.enc_len).atN (k := q) (x := z) (by rw [List.getElem?_map, hh]; rfl)
          injection e with e
          injection e with e1 e2
          subst e1 e2
          clear b5 DN HX3 hh
          obtain ⟨x0, x1, x2, x3, x4, x5, x6, x7, x8, x9⟩ := pk_cells hX5
          obtain ⟨y0, y1, y2, y3, y4, y5, y6, y7, y8, y9⟩ := pk_cells hY5
          have z0 := hkc 0 _ rfl
          have z1 := hkc 1 _ rfl
          have z2 := hkc 2 _ rfl
          have z3 := hkc 3 _ rfl
          have z4 := hkc 4 _ rfl
          have z5 := hkc 5 _ rfl
          have z6 := hkc 6 _ rfl
          have z7 := hkc 7 _ rfl
          have z8 := hkc 8 _ rfl
          have z9 := hkc 9 _ rfl
          rw [Nat.add_zero] at z0
          have lX5 := hX5.lt
          have lY5 := hY5.lt
          clear hkc hX5 hY5
          go_wp2_with fail
          go_quiet (fail)
          go_wp2_with fail
          go_roundg (gk - 1)
          case measure => omega
          case rel => exact ⟨q + 1, _, x'', by omega, by go_num, (HS5.out.al _).ext ((Kept.refl _ _).drewN _), HH'.out, HR.out⟩
        · have hd : l.drop q = [] := List.drop_eq_nil_of_le (by omega)
          rw [hd] at hH
          have hb0 : y'.bytes = 0 := hH.bytes
          have hn0 : y'.n = 0 := hH.many
          have D1 := Lib.hid (fun W (hW : Pool.Is W a p g r y') => bytes_any a p g r y' W hW)
          have D2 := Lib.hid (fun W (hW : Pool.Is W a p g r y') => slots_any a p g r y' W hW)
          rw [hb0] at D1
          rw [hn0] at D2
          have q1' : ((en : Int) ≤ (q : Int)) := by have := HAL.out; omega
          clear hb0 hn0 hd hH
          go_wp2_with fail
          refine (D1.out _ HS.out.pool).mono ?_
          rintro e w4' ⟨rfl, rfl⟩
          go_wp2_with fail
          refine (D2.out _ HS.out.pool).mono ?_
          rintro e w4' ⟨rfl, rfl⟩
          go_wp2_with fail
          refine (PoolLaw.lives _).mono ?_
          rintro e w7' ⟨rfl, b7⟩
          go_wp2_with fail
          go_ret
          exact ⟨rfl, HS.out.below.trans (b7.mono HS.out.below.size)⟩

theorem cells3 : Try.prog.cellsOf 3 = 1 := by kernel_rfl
theorem cells64 : Try.prog.cellsOf 64 = 1 := by kernel_rfl
theorem cells66 : Try.prog.cellsOf 66 = 2 := by kernel_rfl
theorem cells68 : Try.prog.cellsOf 68 = 8 := by kernel_rfl
theorem cells70 : Try.prog.cellsOf 70 = 10 := by kernel_rfl

theorem pk_dec {W : World} {cs : List Value} (h : Rd Try.prog W 70 cs) : ∃ x : Pk, x.enc = cs := by
  have hl := h.length Try.underlying70 cells70
  match cs, hl with
  | [a, b, c, d, e, f, g, i, j, k], _ =>
    have f0 : Rd Try.prog W 3 [a] := h.field Try.underlying70 0 rfl rfl rfl cells3
    have f1 : Rd Try.prog W 3 [b] := h.field Try.underlying70 1 rfl rfl rfl cells3
    have fk : Rd Try.prog W 68 [c, d, e, f, g, i, j, k] := h.field Try.underlying70 2 rfl rfl rfl cells68
    have f2 : Rd Try.prog W 3 [c] := fk.field Try.underlying68 0 rfl rfl rfl cells3
    have fs : Rd Try.prog W 66 [d, e] := fk.field Try.underlying68 1 rfl rfl rfl cells66
    have fd : Rd Try.prog W 66 [f, g] := fk.field Try.underlying68 2 rfl rfl rfl cells66
    have f3 : Rd Try.prog W 3 [i] := fk.field Try.underlying68 3 rfl rfl rfl cells3
    have f4 : Rd Try.prog W 3 [j] := fk.field Try.underlying68 4 rfl rfl rfl cells3
    have f5 : Rd Try.prog W 3 [k] := fk.field Try.underlying68 5 rfl rfl rfl cells3
    have s0 : Rd Try.prog W 64 [d] := fs.field Try.underlying66 0 rfl rfl rfl cells64
    have s1 : Rd Try.prog W 64 [e] := fs.field Try.underlying66 1 rfl rfl rfl cells64
    have d0 : Rd Try.prog W 64 [f] := fd.field Try.underlying66 0 rfl rfl rfl cells64
    have d1 : Rd Try.prog W 64 [g] := fd.field Try.underlying66 1 rfl rfl rfl cells64
    obtain ⟨n0, e0, _⟩ := f0.int Try.underlying3
    obtain ⟨n1, e1, _⟩ := f1.int Try.underlying3
    obtain ⟨n2, e2, _⟩ := f2.int Try.underlying3
    obtain ⟨n3, e3, _⟩ := s0.int Try.underlying64
    obtain ⟨n4, e4, _⟩ := s1.int Try.underlying64
    obtain ⟨n5, e5, _⟩ := d0.int Try.underlying64
    obtain ⟨n6, e6, _⟩ := d1.int Try.underlying64
    obtain ⟨n7, e7, _⟩ := f3.int Try.underlying3
    obtain ⟨n8, e8, _⟩ := f4.int Try.underlying3
    obtain ⟨n9, e9, _⟩ := f5.int Try.underlying3
    simp only [List.cons.injEq, and_true] at e0 e1 e2 e3 e4 e5 e6 e7 e8 e9
    subst e0 e1 e2 e3 e4 e5 e6 e7 e8 e9
    exact ⟨⟨n0, n1, n2, n3, n4, n5, n6, n7, n8, n9⟩, rfl⟩

open Go.ChangeShapes Go.WideShapes Go.ChangeAt in
theorem walk (v0 v1 v2 : Value) (W : World) (k0 : IsArg Try.prog W 5 v0) (k1 : IsArg Try.prog W 87 v1) (k2 : IsArg Try.prog W 60 v2) :
    Calls Try.prog 8 #[v0, v1, v2] W fun e W' => e = .returned (.bool true) ∧ Below W.heap.size W W' := by
  obtain ⟨t, rfl, ht⟩ := k0.int Try.underlying5
  obtain ⟨u, rfl, hu⟩ := k1.int Try.underlying87
  obtain ⟨A, cap, l, rfl, h1, h2, hr⟩ := k2.slice Pk.enc Try.underlying60 cells70 (by decide) (fun cs h => pk_dec h)
  have hb := bounds_u8 ht
  have hc := bounds_u16 hu
  exact law_any t u A cap l W (Nat.le_trans h1 h2) hr hb.1 hb.2 hc.1 hc.2
end Go.Proofs.Ythdjagmeggckcaa.WPoolHolds
