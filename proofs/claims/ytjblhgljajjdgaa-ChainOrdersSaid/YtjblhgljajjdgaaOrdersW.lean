/- The law ChainOrders: its walk. -/
import Derived.Test.YtjblhgljajjdgaaOrders
namespace Go.Proofs.Ytjblhgljajjdgaa.WChainOrders
open Go.RowKit ChainLaw ChainP
open Chain (Links Rd_ AllP same_yes all_any Of3)

theorem own_kept {α : Type} {w w' : World} {t : TypeId} {size base : Nat} {enc : α → List Value} {v : Value} {l : List α} {F : Nat → Prop} (h : Own w base t size enc v l) (hk : Kept F w w') (hf : ∀ j, base ≤ j → ¬ F j) : Own w' base t size enc v l := by
  obtain ⟨h1, h2⟩ := h
  refine ⟨h1, ?_⟩
  rcases h2 with h2 | ⟨g, cap, cur, hv, hg, hh, r⟩
  · exact .inl h2
  · exact .inr ⟨g, cap, cur, hv, hg, (hk.block g (Array.getElem?_eq_some_iff.1 hh).1 (hf g hg)).trans hh, r⟩

/-- Memory in the law: B is where the call's own rows begin. -/
structure St (w wr : World) (B mb c g1 g2 g3 : Nat) (most : Int) (L : List (List Nat)) (fv sv : Value) (f s : List Nat) : Prop where
  ch : Cs wr c g1 g2 g3 60 L
  fo : Own wr B 3 1 eInt fv (ns f)
  so : Own wr B 3 1 eInt sv (ns s)
  ap : fv.ownBlock = none ∨ fv.ownBlock ≠ sv.ownBlock
  bx : Blk wr mb 3 #[.int .i64 most]
  below : Below w.heap.size w wr
  lt : c < B ∧ g1 < B ∧ g2 < B ∧ g3 < B ∧ mb < B ∧ B ≤ wr.heap.size
  le : w.heap.size ≤ g1 ∧ w.heap.size ≤ g2 ∧ w.heap.size ≤ g3 ∧ w.heap.size ≤ B
  off : mb ≠ g1 ∧ mb ≠ g2 ∧ mb ≠ g3

section
variable {w wr w' : World} {B mb c g1 g2 g3 : Nat} {most : Int} {L L' : List (List Nat)} {fv sv v1 : Value} {f s : List Nat} {k : Nat}
theorem St.ext (h : St w wr B mb c g1 g2 g3 most L fv sv f s) (hk : Kept none_ wr w') : St w w' B mb c g1 g2 g3 most L fv sv f s :=
  { h with ch := h.ch.ext hk, fo := h.fo.kept hk Off.none_, so := h.so.kept hk Off.none_, bx := h.bx.kept hk (fun h => h), below := h.below.trans (hk.toBelow'.mono h.below.size),
           lt := ⟨h.lt.1, h.lt.2.1, h.lt.2.2.1, h.lt.2.2.2.1, h.lt.2.2.2.2.1, Nat.le_trans h.lt.2.2.2.2.2 hk.size⟩ }
theorem St.al (h : St w wr B mb c g1 g2 g3 most L fv sv f s) (o : Obj) : St w (wr.alloc o) B mb c g1 g2 g3 most L fv sv f s := h.ext ((Kept.refl _ _).alloc o)
theorem St.did (h : St w wr B mb c g1 g2 g3 most L fv sv f s) (hc : Cs w' c g1 g2 g3 60 L') (hk : Kept (Of3 g1 g2 g3) wr w') : St w w' B mb c g1 g2 g3 most L' fv sv f s := by
  obtain ⟨l0, l1, l2, l3, l4, l5⟩ := h.lt
  obtain ⟨e1, e2, e3, e4⟩ := h.le
  obtain ⟨o1, o2, o3⟩ := h.off
  have hf : ∀ j, B ≤ j → ¬ Of3 g1 g2 g3 j := fun j hj hF => by rcases hF with rfl | rfl | rfl <;> omega
  exact { h with ch := hc, fo := own_kept h.fo hk hf, so := own_kept h.so hk hf, bx := h.bx.kept hk (by rintro (e | e | e); exact o1 e; exact o2 e; exact o3 e),
                 below := h.below.trans (hk.toBelow (fun i hi => by rcases hi with rfl | rfl | rfl <;> assumption) h.below.size), lt := ⟨l0, l1, l2, l3, l4, Nat.le_trans l5 hk.size⟩ }
theorem St.push_f (h : St w wr B mb c g1 g2 g3 most L fv sv f s) (ho : Own w' B 3 1 eInt v1 (ns f ++ [(k : Int)])) (hg : wr.grownBy w' fv.ownBlock) (ha : v1.ownBlock = fv.ownBlock ∨ v1.ownBlock = some wr.heap.size) :
    St w w' B mb c g1 g2 g3 most L v1 sv (f ++ [k]) s := by
  obtain ⟨l0, l1, l2, l3, l4, l5⟩ := h.lt
  have hk : Kept (fun j => fv.ownBlock = some j) wr w' := Kept.grown hg (fun q hq => .inl hq)
  have far : ∀ j, j < B → ¬ (fv.ownBlock = some j) := fun j hj e => by have := (h.fo.lt j e).1; omega
  refine { h with ch := h.ch.kept hk (far _ l0) (far _ l1) (far _ l2) (far _ l3), fo := by rw [ns_append]; exact ho, so := World.ownsRow.kept h.so hg ?_, ap := ?_, bx := h.bx.kept hk (far _ l4),
                  below := h.below.trans (hk.toBelow (fun j hj => by have := (h.fo.lt j hj).1; have := h.le; omega) h.below.size), lt := ⟨l0, l1, l2, l3, l4, Nat.le_trans l5 hk.size⟩ }
  · by_cases hn : sv.ownBlock = none
    · exact .inl hn
    · rcases h.ap with e | e
      · rw [e]; exact .inr hn
      · exact .inr (Ne.symm e)
  · rcases ha with e | e
    · rw [e]; exact h.ap
    · right
      rw [e]
      intro e'
      have := (h.so.lt _ e'.symm).2
      omega
theorem St.push_s (h : St w wr B mb c g1 g2 g3 most L fv sv f s) (ho : Own w' B 3 1 eInt v1 (ns s ++ [(k : Int)])) (hg : wr.grownBy w' sv.ownBlock) (ha : v1.ownBlock = sv.ownBlock ∨ v1.ownBlock = some wr.heap.size) :
    St w w' B mb c g1 g2 g3 most L fv v1 f (s ++ [k]) := by
  obtain ⟨l0, l1, l2, l3, l4, l5⟩ := h.lt
  have hk : Kept (fun j => sv.ownBlock = some j) wr w' := Kept.grown hg (fun q hq => .inl hq)
  have far : ∀ j, j < B → ¬ (sv.ownBlock = some j) := fun j hj e => by have := (h.so.lt j e).1; omega
  refine { h with ch := h.ch.kept hk (far _ l0) (far _ l1) (far _ l2) (far _ l3), so := by rw [ns_append]; exact ho, fo := World.ownsRow.kept h.fo hg h.ap, ap := ?_, bx := h.bx.kept hk (far _ l4),
                  below := h.below.trans (hk.toBelow (fun j hj => by have := (h.so.lt j hj).1; have := h.le; omega) h.below.size), lt := ⟨l0, l1, l2, l3, l4, Nat.le_trans l5 hk.size⟩ }
  rcases ha with e | e
  · rw [e]; exact h.ap
  · by_cases hn : fv.ownBlock = none
    · exact .inl hn
    · right
      rw [e]
      intro e'
      have := (h.fo.lt _ e').2
      omega
end

/-- The count that ChainOrders' callback makes: all of the list, or most. -/
theorem seen_count (c g1 g2 g3 b1 b2 sb mb : Nat) (most : Int) (L : List (List Nat)) (f : List Nat) (w : World) (hC : Cs w c g1 g2 g3 60 L) (hl : L[0]? = some f) (hf : f.length ≤ 60) (h1 : Blk w b1 23 #[.pointer (some ⟨c, 0, none⟩)])
    (h2 : Blk w b2 3 #[.int .i64 0]) (hs : Blk w sb 3 #[.int .i64 0]) (hm : Blk w mb 3 #[.int .i64 most]) (hne : c < sb ∧ g1 < sb ∧ g2 < sb ∧ g3 < sb ∧ mb < sb ∧ sb < b1 ∧ sb < b2) :
    Calls Try.prog 27 #[.func (.func 22) #[] #[.pointer (some ⟨sb, 0, none⟩), .pointer (some ⟨mb, 0, none⟩)], .pointer (some ⟨b1, 0, none⟩), .pointer (some ⟨b2, 0, none⟩)] w fun e w' =>
      (∃ v, e = .returned v) ∧ ∃ s : Int, (s = (f.length : Int) ∨ s = most) ∧ Blk w' sb 3 #[.int .i64 s] ∧ Kept (fun i => i = sb) w w' := by
  obtain ⟨x, hI, hCI⟩ := hC
  obtain ⟨e, he, _, hk, _⟩ := hCI.ends 0 f hl
  obtain ⟨n0, n1, n2, n3, n4, n5, n6⟩ := hne
  refine (Chain.all1_22 c g1 g2 g3 b1 b2 sb mb x 0 e (ns f) (fun pre W => Kept (fun i => i = sb) w W ∧ Blk W sb 3 #[.int .i64 (pre.length : Int)])
    (fun pre W => Kept (fun i => i = sb) w W ∧ Blk W sb 3 #[.int .i64 most]) w
    (fun pre W hj => ⟨hI.kept hj.1 (by omega) (by omega) (by omega) (by omega), h1.kept hj.1 (by omega), by simpa using h2.kept hj.1 (by omega)⟩)
    (fun pre W n hj => ⟨hj.1.drewN n, hj.2⟩) he hk
    (fun pre k W hj hlen => ?_) ⟨Kept.refl _ _, by simpa using hs⟩).mono ?_
  · rw [ns_length] at hlen
    refine (Chain.cb22 sb mb k pre.length most W hj.2 (hm.kept hj.1 (by omega)) (by omega) ⟨by omega, by omega⟩).mono ?_
    rintro e' W' ⟨rfl, hb, hk'⟩
    by_cases hq : (pre.length : Int) + 1 = most
    · refine .inr ⟨by simp [hq], hj.1.trans hk', by rw [← hq]; exact hb⟩
    · refine .inl ⟨by simp [hq], hj.1.trans hk', by simpa using hb⟩
  · rintro e' W' ⟨hv, hj | ⟨pre, _, hj⟩⟩
    · exact ⟨hv, _, .inl rfl, by simpa [ns_length] using hj.2, hj.1⟩
    · exact ⟨hv, _, .inr rfl, hj.2, hj.1⟩

set_option maxRecDepth 100000 in
set_option maxHeartbeats 4000000 in
theorem law_any (most : Int) (A : Option Addr) (cap : Nat) (es : List Bool) (w : World) (hl : es.length ≤ maxLen) (hc : RowsAt w 1 eBool A es) :
    Calls Try.prog 4 #[.slice A es.length cap, .int .i64 most] w fun e w' => e = .returned (.bool true) ∧ Below w.heap.size w w' := by
  unfold maxLen at hl
  have HC := Lib.hid hc
  clear hc
  obtain ⟨i0, hi0, hz0, hz1, hz2⟩ := info_parts Chain.info3
  go_enter Try.func4, Try.ntmps4
  go_wp2_with fail
  refine (Chain.pop_nil _ _).mono ?_
  rintro e w1 ⟨rfl, rfl⟩
  go_wp2_with fail
  refine (Chain.push_nil _ _ _).mono ?_
  rintro e w1 ⟨rfl, rfl⟩
  go_wp2_with fail
  refine (Chain.join_nil _ _ _).mono ?_
  rintro e w1 ⟨rfl, b1⟩
  have k1 := Kept.below (F := none_) b1 rfl
  have mb1 := (Blk.new w 3 #[.int .i64 most]).kept k1 (fun h => h)
  have lmb := mb1.lt
  have B1 := ((Kept.refl none_ w).alloc (.cells #[.int .i64 most] 3)).trans k1
  clear b1 k1
  go_wp2_with fail
  refine (Chain.len_nil _ _).mono ?_
  rintro e w2 ⟨rfl, rfl⟩
  go_wp2_with fail
  refine (Chain.copy_nil _).mono ?_
  rintro e w2 ⟨rfl, rfl⟩
  go_wp2_with fail
  refine (all_nil _ _).mono ?_
  rintro e w2 ⟨v, rfl, hs2, b2⟩
  obtain ⟨A2, c2, rfl, _⟩ := hs2.form
  have mb2 := mb1.kept (F := none_) (Kept.below b2 rfl) (fun h => h)
  have B2 := B1.trans (Kept.below (F := none_) b2 rfl)
  clear hs2 mb1 B1 b2 lmb
  go_wp2_with fail
  refine (Chain.where_nil _ _).mono ?_
  rintro e w3 ⟨rfl, rfl⟩
  have HB2 := Lib.hid B2
  have HM2 := Lib.hid mb2
  clear B2 mb2
  go_wp2_with fail
  · refine (lives _).mono ?_
    rintro e w7 ⟨rfl, b7⟩
    go_wp2_with fail
    go_ret
    exact ⟨rfl, HB2.out.toBelow'.trans (b7.mono HB2.out.size)⟩
  have hlen : (es.length : Int) ≤ 60 := by assumption
  refine (new_good 60 2 _ (by omega) (by omega) (by omega) (by omega)).mono ?_
  rintro e w4 ⟨c, g1, g2, g3, rfl, h4, b4, hc, hg1, hg2, hg3⟩
  have lm2 := HM2.out.lt
  have hS : St w w4 w4.heap.size w.heap.size c g1 g2 g3 most (List.replicate 2 []) (.slice none 0 0) (.slice none 0 0) [] [] :=
    { ch := h4, fo := Own.nil _ _, so := Own.nil _ _, ap := .inl rfl, bx := HM2.out.kept (F := none_) (Kept.below b4 rfl) (fun h => h), below := HB2.out.toBelow'.trans (b4.mono HB2.out.size),
      lt := ⟨h4.lt.1, h4.lt.2.1, h4.lt.2.2.1, h4.lt.2.2.2, by have := b4.size; omega, Nat.le_refl _⟩,
      le := ⟨by have := HB2.out.size; omega, by have := HB2.out.size; omega, by have := HB2.out.size; omega, by have := HB2.out.size; have := b4.size; omega⟩, off := ⟨by omega, by omega, by omega⟩ }
  have HS := Lib.hid hS
  clear hS h4 b4 hc hg1 hg2 hg3 lm2 HB2 HM2
  go_wp2_with fail
  go_loopg [11, 12, 13, 14, 72] es.length (fun m fv sv _ _ i wr => ∃ (k : Nat) (f s : List Nat), m + k = es.length ∧ i = .int .i64 k ∧ St w wr w4.heap.size w.heap.size c g1 g2 g3 most [f, s] fv sv f s ∧ f.length + s.length = k ∧ (∀ a, a ∈ f ∨ a ∈ s → a < k))
  case atStart => exact ⟨0, [], [], by omega, rfl, HS.out, rfl, by simp⟩
  case round =>
    clear HS
    obtain ⟨k, f, s, hm, rfl, hS, hfs, hall⟩ := hrel
    obtain ⟨FA, fn, fc, rfl⟩ := hS.fo.form'
    obtain ⟨SA, sn, sd, rfl⟩ := hS.so.form'
    have HS := Lib.hid hS
    have HA := Lib.hid hall
    have HFS := Lib.hid hfs
    have hB := hS.lt.2.2.2.2.2
    clear hS hall
    by_cases hlt : k < es.length
    · obtain ⟨b, hb⟩ : ∃ b, es[k]? = some b := ⟨es[k]'(by omega), by simp⟩
      obtain ⟨ab, aoff, rfl, hab, hcc⟩ := (HC.out.below HS.out.below) (by rintro rfl; simp at hb)
      have q0 := hcc k b hb 0 _ rfl
      rw [Nat.mul_one, Nat.add_zero] at q0
      clear hcc hb
      have hk0 : (0 : Int) ≤ (k : Int) := by omega
      have hk1 : (k : Int) < (es.length : Int) := by omega
      have hnl : (ns f).length + 1 ≤ 100 := by rw [ns_length]; omega
      have hnl' : (ns s).length + 1 ≤ 100 := by rw [ns_length]; omega
      have hout : ∀ (j : Nat) (m : List Nat), [f, s][j]? = some m → k ∉ m := fun j m hm hk => by
        rcases two hm with rfl | rfl
        · exact absurd (HA.out k (.inl hk)) (by omega)
        · exact absurd (HA.out k (.inr hk)) (by omega)
      have HO := Lib.hid hout
      clear hout hfs
      cases b with
      | true =>
        go_wp2_with (at_builtin; refine wpList_append_one _ rfl (.tmp 78) (.tmp 80) 40 rfl w4.heap.size 3 i0 (.int .i64 0) 1 8 Try.underlying40 hi0 hz0 hz1 hz2 rfl (by decide) (.slice FA fn fc) (ns f) rfl (HS.out.al _).fo wr.heap.size (k : Int) rfl rfl (new_cell_int _ _ _) (eInt_one _) (by omega) (by unfold maxLen; omega) (by simp; omega) ?_; intro v1 w5 hown hgrow hat; have HS5 := Lib.hid ((HS.out.al _).push_f hown hgrow hat); obtain ⟨FA', fn', fc', rfl⟩ := hown.form'; clear hown hgrow hat)
        refine (push_yes (i := 0) (v := k) (l := f) HS5.out.ch (by omega) rfl (by omega) HO.out).mono ?_
        rintro e w6 ⟨rfl, h6, k6⟩
        have HS6 := Lib.hid (HS5.out.did h6 k6)
        clear h6 k6
        go_wp2_with fail
        refine (push_no (i := 1) (v := k) HS6.out.ch (.inr (.inr (.inr (.inr ⟨k, 0, f ++ [k], rfl, rfl, by simp⟩))))).mono ?_
        rintro e w7 ⟨rfl, rfl⟩
        go_wp2_with fail
        go_roundg (gk - 1)
        case measure => omega
        case rel => exact ⟨k + 1, f ++ [k], s, by omega, by go_num, HS6.out, by have := HFS.out; simp; omega, fun a ha => by
          rcases ha with ha | ha
          · rcases List.mem_append.1 ha with ha | ha
            · have := HA.out a (.inl ha); omega
            · simp at ha; omega
          · have := HA.out a (.inr ha); omega⟩
      | false =>
        go_wp2_with (at_builtin; refine wpList_append_one _ rfl (.tmp 82) (.tmp 84) 40 rfl w4.heap.size 3 i0 (.int .i64 0) 1 8 Try.underlying40 hi0 hz0 hz1 hz2 rfl (by decide) (.slice SA sn sd) (ns s) rfl (HS.out.al _).so wr.heap.size (k : Int) rfl rfl (new_cell_int _ _ _) (eInt_one _) (by omega) (by unfold maxLen; omega) (by simp; omega) ?_; intro v1 w5 hown hgrow hat; have HS5 := Lib.hid ((HS.out.al _).push_s hown hgrow hat); obtain ⟨SA', sn', sd', rfl⟩ := hown.form'; clear hown hgrow hat)
        refine (push_yes (i := 1) (v := k) (l := s) HS5.out.ch (by omega) rfl (by omega) HO.out).mono ?_
        rintro e w6 ⟨rfl, h6, k6⟩
        have HS6 := Lib.hid (HS5.out.did h6 k6)
        clear h6 k6
        go_wp2_with fail
        refine (push_no (i := 1) (v := k) HS6.out.ch (.inr (.inr (.inr (.inr ⟨k, 1, s ++ [k], rfl, rfl, by simp⟩))))).mono ?_
        rintro e w7 ⟨rfl, rfl⟩
        go_wp2_with fail
        go_roundg (gk - 1)
        case measure => omega
        case rel => exact ⟨k + 1, f, s ++ [k], by omega, by go_num, HS6.out, by have := HFS.out; simp; omega, fun a ha => by
          rcases ha with ha | ha
          · have := HA.out a (.inl ha); omega
          · rcases List.mem_append.1 ha with ha | ha
            · have := HA.out a (.inr ha); omega
            · simp at ha; omega⟩
    · go_wp2_with fail
      refine (all_any _ _ _).mono ?_
      rintro e w5 ⟨rfl, rfl⟩
      go_wp2_with fail
      have hC3 := ((HS.out.al (.cells #[.int .i64 0] 3)).al (.cells #[.pointer (some ⟨c, 0, none⟩)] 23)).al (.cells #[.int .i64 0] 3)
      have hl0 := HS.out.lt
      have hsb := ((Blk.new wr 3 #[.int .i64 0]).alloc (.cells #[.pointer (some ⟨c, 0, none⟩)] 23)).alloc (.cells #[.int .i64 0] 3)
      have hb1 := (Blk.new (wr.alloc (.cells #[.int .i64 0] 3)) 23 #[.pointer (some ⟨c, 0, none⟩)]).alloc (.cells #[.int .i64 0] 3)
      have hb2 := Blk.new ((wr.alloc (.cells #[.int .i64 0] 3)).alloc (.cells #[.pointer (some ⟨c, 0, none⟩)] 23)) 3 #[.int .i64 0]
      refine (seen_count c g1 g2 g3 (wr.heap.size + 1) (wr.heap.size + 1 + 1) wr.heap.size w.heap.size most [f, s] f _ hC3.ch rfl (by omega) (by simpa using hb1) (by simpa using hb2) hsb hC3.bx ⟨by omega, by omega, by omega, by omega, by omega, by omega, by omega⟩).mono ?_
      rintro e w6 ⟨⟨v0, rfl⟩, sc, hsc, hB6, k6⟩
      have b6 : Below wr.heap.size wr w6 := ((((Below.refl _ _).alloc (Nat.le_refl _) _).alloc (by simp) _).alloc (by simp; omega) _).trans (k6.toBelow (fun i hi => Nat.le_of_eq hi.symm) (by simp; omega))
      have HS6 := Lib.hid (HS.out.ext (Kept.below (F := none_) b6 rfl))
      have q6 := hB6.cell 0
      simp at q6
      have lb6 := hB6.lt
      have qm := HS6.out.bx.cell 0
      simp at qm
      have lm := HS6.out.bx.lt
      obtain rfl : fn = f.length := by simpa [ns_length] using (HS6.out.fo.sl eInt_len).len.1
      have hsn : sn = s.length := by simpa [ns_length] using (HS6.out.so.sl eInt_len).len.1
      subst hsn
      have hflen : f.length + s.length ≤ 60 := by have := HFS.out; omega
      clear hC3 hsb hb1 hb2 hB6 k6 b6 hl0 HS
      by_cases hq : sc = (f.length : Int)
      case' pos =>
        have t1 : (sc != (f.length : Int)) = false := by simp [hq]
        clear hsc
        go_wp2_with fail
      case' neg =>
        have hsm : most = sc := (hsc.resolve_left hq).symm
        subst hsm
        have t1 : (most != (f.length : Int)) = true := by simp [hq]
        have t2 : (most != most) = false := by simp
        clear hsc
        go_wp2_with fail
      all_goals
        refine (join_yes (i := 0) (j := 1) (l := f) (m := s) HS6.out.ch (by omega) (by omega) rfl rfl).mono ?_
        rintro e w7 ⟨rfl, h7, k7⟩
        have HS7 := Lib.hid (HS6.out.did h7 k7)
        have hB7 := HS7.out.lt.2.2.2.2.2
        clear h7 k7 q6 lb6 qm lm HS6 t1
        try clear t2
        go_wp2_with (at_builtin; first
          | refine wpList_append_sl _ rfl (.tmp 127) (.tmp 128) 40 rfl w7.heap.size 3 i0 (.int .i64 0) 1 8 Try.underlying40 hi0 hz0 hz1 hz2 rfl (by decide) eInt_len eInt_one (.slice (some ⟨w7.heap.size, 0, none⟩) 0 0) ([] : List Int) rfl (Own.lit0' _ _ _ rfl (Nat.le_refl _)) _ (ns f) rfl ((HS7.out.fo.sl eInt_len).alloc _) (by unfold maxLen; simp [ns_length]; omega) (by simp [ns_length]; omega) (by simp) ?_; intro v8 w8 hown8 hgrow8 hat8; have k8 : Kept none_ w7 w8 := Kept.below (((Below.refl _ _).alloc (Nat.le_refl _) _).trans ((Kept.grown (F := fun i => i = w7.heap.size) hgrow8 (fun q hq => .inl (by simpa [Value.ownBlock] using hq.symm))).toBelow (fun i hi => Nat.le_of_eq hi.symm) (by simp))) rfl; obtain ⟨A8, n8, c8, rfl⟩ := hown8.form'; rw [List.nil_append] at hown8; have HO8 := Lib.hid hown8; have hs8 := k8.size; clear hown8 hgrow8 hat8
          | refine wpList_append_sl _ rfl (.tmp 129) (.tmp 130) 40 rfl w7.heap.size 3 i0 (.int .i64 0) 1 8 Try.underlying40 hi0 hz0 hz1 hz2 rfl (by decide) eInt_len eInt_one (.slice A8 n8 c8) (ns f) rfl HO8.out _ (ns s) rfl ((HS7.out.so.kept k8 Off.none_).sl eInt_len) (by unfold maxLen; simp [ns_length]; omega) (by simp [ns_length]; omega) hs8 ?_; intro v9 w9 hown9 hgrow9 hat9; have hq8 := HO8.out.lt; have k9 : Kept none_ w7 w9 := k8.trans' (Kept.grown (F := fun i => Value.ownBlock (.slice A8 n8 c8) = some i) hgrow9 (fun q hq => .inl hq)) (fun i hi => .inr (hq8 i hi).1); rw [← ns_append] at hown9; have hs9 := k9.size; obtain ⟨A9, n9, c9, rfl⟩ := hown9.form'; obtain rfl : n9 = (ns (f ++ s)).length := (hown9.sl eInt_len).len.1; have HO9 := Lib.hid hown9; have HS9 := Lib.hid (HS7.out.ext k9); clear hown9 hgrow9 hat9 hq8 k8 k9)
        go_loopg [18, 19, 20, 134] (f ++ s).length (fun m _ _ _ i wr' => ∃ k : Nat, m + k = (f ++ s).length ∧ i = .int .i64 k ∧ St w wr' w4.heap.size w.heap.size c g1 g2 g3 most [(f ++ s).drop k, []] (.slice FA f.length fc) (.slice SA s.length sd) f s ∧ Own wr' w7.heap.size 3 1 eInt (.slice A9 (ns (f ++ s)).length c9) (ns (f ++ s)))
        case' atStart => exact ⟨0, by omega, rfl, HS9.out, HO9.out⟩
        case' round =>
          clear HS9 HO9 HS7 HO8 HA HFS
          obtain ⟨k, hm2, rfl, hS, hO⟩ := hrel
          have HS := Lib.hid hS
          have HO := Lib.hid hO
          have hnl2 : (ns (f ++ s)).length = (f ++ s).length := ns_length _
          have hfl2 : (f ++ s).length ≤ 60 := by simp; omega
          by_cases hlt2 : k < (f ++ s).length
          case' pos =>
            obtain ⟨v, hv⟩ : ∃ v, v = (f ++ s)[k] := ⟨_, rfl⟩
            have hget : (ns (f ++ s))[k]? = some (v : Int) := by
              show ((f ++ s).map _)[k]? = _
              rw [List.getElem?_map, List.getElem?_eq_getElem hlt2, hv]
              rfl
            obtain ⟨ab, aoff, rfl, hab, q0⟩ := (hO.sl eInt_len).at1 hget rfl
            have hdrop : [(f ++ s).drop k, ([] : List Nat)][0]? = some (v :: (f ++ s).drop (k + 1)) := by rw [hv, ← List.drop_eq_getElem_cons hlt2]; rfl
            have hk0 : (0 : Int) ≤ (k : Int) := by omega
            have hk1 : (k : Int) < ((ns (f ++ s)).length : Int) := by omega
            have HD := Lib.hid hdrop
            have t3 : ((v : Int) != (v : Int)) = false := by simp
            clear hS hO hget hdrop hv hnl2
            go_wp2_with fail
            refine (pop_yes HS.out.ch (by omega) HD.out).mono ?_
            rintro e w11 ⟨rfl, h11, k11⟩
            have HS11 := Lib.hid (HS.out.did h11 k11)
            have hO11 := own_kept HO.out k11 (fun j hj hF => by have := HS.out.lt; rcases hF with rfl | rfl | rfl <;> omega)
            have HO11 := Lib.hid hO11
            clear h11 k11 hO11 q0 hab
            go_wp2_with fail
            go_roundg (gk - 1)
            case measure => omega
            case rel => exact ⟨k + 1, by omega, by go_num, HS11.out, HO11.out⟩
          case' neg =>
            have hk : k = (f ++ s).length := by omega
            subst hk
            have h11 : Cs wr c g1 g2 g3 60 [[], []] := by simpa using hS.ch
            have H11 := Lib.hid h11
            clear hS hO h11
            go_wp2_with fail
            refine (pop_no H11.out (i := 0) (.inr (.inr ⟨0, rfl, rfl⟩))).mono ?_
            rintro e w12 ⟨rfl, rfl⟩
            go_wp2_with fail
            refine (len_yes (i := 0) H11.out rfl).mono ?_
            rintro e w12 ⟨rfl, rfl⟩
            go_wp2_with fail
            refine (len_yes (i := 1) H11.out rfl).mono ?_
            rintro e w12 ⟨rfl, rfl⟩
            go_wp2_with fail
            refine (lives _).mono ?_
            rintro e w12 ⟨rfl, b12⟩
            go_wp2_with fail
            go_ret
            exact ⟨rfl, HS.out.below.trans (b12.mono HS.out.below.size)⟩

theorem cells4 : Try.prog.cellsOf 4 = 1 := by kernel_rfl
open Go.ChangeShapes Go.WideShapes Go.ChangeAt in
theorem walk (v0 v1 : Value) (W : World) (k0 : IsArg Try.prog W 45 v0) (k1 : IsArg Try.prog W 3 v1) :
    Calls Try.prog 4 #[v0, v1] W fun e W' => e = .returned (.bool true) ∧ Below W.heap.size W W' := by
  obtain ⟨t, rfl, _⟩ := k1.int Try.underlying3
  obtain ⟨A, cap, l, rfl, h1, h2, hr⟩ := k0.slice eBool Try.underlying45 cells4 (by decide) (fun cs h => by obtain ⟨b, rfl⟩ := h.bool Try.underlying4; exact ⟨b, rfl⟩)
  exact law_any t A cap l W (Nat.le_trans h1 h2) hr
end Go.Proofs.Ytjblhgljajjdgaa.WChainOrders
