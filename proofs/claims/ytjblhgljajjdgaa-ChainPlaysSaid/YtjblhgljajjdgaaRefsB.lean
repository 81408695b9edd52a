/- The document's answer for the lists: contracts of Push and Pop. -/
import Derived.Test.YtjblhgljajjdgaaRefs
namespace Go.Proofs.Ytjblhgljajjdgaa.Refs
open Go.RowKit ChainLaw

section
variable {w : World} {X : Nat → Prop} {v : Value} {L : List (List Nat)}

def BadPush (L : List (List Nat)) (n i v : Int) : Prop := i < 0 ∨ (L.length : Int) ≤ i ∨ v < 0 ∨ n ≤ v ∨ (∃ (k j : Nat) (m : List Nat), v = k ∧ L[j]? = some m ∧ k ∈ m)
def PushP (w : World) (X : Nat → Prop) (v : Value) (L : List (List Nat)) (n i node : Int) (e : Ending) (w' : World) : Prop :=
  Below w.heap.size w w' ∧ ((BadPush L n i node ∧ e = .returned (.tuple #[v, .bool false])) ∨
    (∃ (a k : Nat) (l : List Nat) (v' : Value), i = a ∧ node = k ∧ (k : Int) < n ∧ L[a]? = some l ∧ (∀ (j : Nat) (m : List Nat), L[j]? = some m → k ∉ m) ∧ e = .returned (.tuple #[v', .bool true]) ∧ LL w' X v' (L.set a (l ++ [k]))))

theorem push_end {w w1 w9 w' : World} {n : Int} {a k : Nat} {l : List Nat} {v' : Value} (b1 : Below w.heap.size w w1) (k9 : Kept none_ w1 w9) (b : Below w9.heap.size w9 w') (hkn : (k : Int) < n) (hl : L[a]? = some l) (hout : ∀ (j : Nat) (m : List Nat), L[j]? = some m → k ∉ m) (hv : LL w' X v' (L.set a (l ++ [k]))) :
    PushP w X v L n a k (.returned (.tuple #[v', .bool true])) w' :=
  ⟨b1.trans ((k9.toBelow'.trans (b.mono k9.size)).mono b1.size), .inr ⟨a, k, l, v', rfl, rfl, hkn, hl, hout, rfl, hv⟩⟩

set_option maxRecDepth 100000 in
set_option maxHeartbeats 1000000 in
theorem push_any (h : LL w X v L) (hL : L.length ≤ 8) (hX : ∀ j, X j → j < w.heap.size) (n i node : Int) (hlen : ∀ (j : Nat) (m : List Nat), L[j]? = some m → m.length ≤ 30) :
    Calls Try.prog 7 #[v, .int .i64 n, .int .i64 i, .int .i64 node] w (PushP w X v L n i node) := by
  obtain ⟨i0, hi0, hz0, hz1, hz2⟩ := info_parts Chain.info3
  obtain ⟨A, c, rfl, hc⟩ := h.form
  have H := Lib.hid h
  have HX := Lib.hid hX
  have HLen := Lib.hid hlen
  clear h hX hlen
  go_enter Try.func7, Try.ntmps7
  go_wp2_with fail
  refine (in_any H.out node).mono ?_
  rintro e w1 ⟨b1, hres⟩
  have HB1 := Lib.hid b1
  have H1 := Lib.hid (H.out.ext (Kept.below (F := none_) b1 rfl))
  clear b1
  by_cases hi : i < 0 ∨ (L.length : Int) ≤ i
  · have HI := Lib.hid hi
    rcases hres with ⟨_, _, _, _, _, _, rfl⟩ | ⟨_, rfl⟩
    all_goals
      clear hi
      go_wp2_with fail
      refine (is_no H1.out HI.out).mono ?_
      rintro e w2 ⟨rfl, rfl⟩
      go_wp2_with fail
      go_ret2
      exact ⟨HB1.out, .inl ⟨HI.out.elim .inl (fun h => .inr (.inl h)), rfl⟩⟩
  · obtain ⟨a, rfl⟩ := Int.eq_ofNat_of_zero_le (by omega : 0 ≤ i)
    have ha : a < L.length := by omega
    clear hi
    rcases hres with ⟨a', k', l', hk', hl', hm', rfl⟩ | ⟨hno, rfl⟩
    · have HB : BadPush L n a node := .inr (.inr (.inr (.inr ⟨k', a', l', hk', hl', hm'⟩)))
      have HB := Lib.hid HB
      clear hk' hl' hm'
      cases t1 : decide (node < 0) <;> cases t2 : decide (n ≤ node)
      all_goals
        go_wp2_with fail
        refine (is_yes H1.out ha).mono ?_
        rintro e w2 ⟨rfl, rfl⟩
        go_wp2_with fail
        go_ret2
        exact ⟨HB1.out, .inl ⟨HB.out, rfl⟩⟩
    · have HN := Lib.hid hno
      clear hno
      by_cases hneg : node < 0
      · have t1 : decide (node < 0) = true := by simp [hneg]
        have HB : BadPush L n a node := .inr (.inr (.inl hneg))
        have HB := Lib.hid HB
        go_wp2_with fail
        refine (is_yes H1.out ha).mono ?_
        rintro e w2 ⟨rfl, rfl⟩
        go_wp2_with fail
        go_ret2
        exact ⟨HB1.out, .inl ⟨HB.out, rfl⟩⟩
      · have t1 : decide (node < 0) = false := by simp [hneg]
        by_cases hbig : n ≤ node
        · have t2 : decide (n ≤ node) = true := by simp [hbig]
          have HB : BadPush L n a node := .inr (.inr (.inr (.inl hbig)))
          have HB := Lib.hid HB
          go_wp2_with fail
          refine (is_yes H1.out ha).mono ?_
          rintro e w2 ⟨rfl, rfl⟩
          go_wp2_with fail
          go_ret2
          exact ⟨HB1.out, .inl ⟨HB.out, rfl⟩⟩
        · have t2 : decide (n ≤ node) = false := by simp [hbig]
          obtain ⟨k, rfl⟩ := Int.eq_ofNat_of_zero_le (by omega : 0 ≤ node)
          have hkn : (k : Int) < n := by omega
          obtain ⟨l, hl⟩ : ∃ l, L[a]? = some l := ⟨L[a], by simp⟩
          have hl30 := HLen.out a l hl
          obtain ⟨b, off, hd, rfl, hbl, q0, hs⟩ := H1.out.at_ hl
          obtain ⟨A2, n2, c2, rfl⟩ := hs.1.form'
          have HS := Lib.hid hs
          have HL := Lib.hid hl
          have k0 : (0 : Int) ≤ (a : Int) := by omega
          have k1 : (a : Int) < (L.length : Int) := by omega
          have hnl : (ns l).length ≤ 30 := by rw [ns_length]; exact hl30
          have HKN := Lib.hid hkn
          clear hs hl hneg hbig hkn
          go_wp2_with fail
          refine (is_yes H1.out ha).mono ?_
          rintro e w2 ⟨rfl, rfl⟩
          go_wp2_with (at_builtin; first
            | refine wpList_append_sl _ rfl (.tmp 37) (.tmp 41) 40 rfl w1.heap.size 3 i0 (.int .i64 0) 1 8 Try.underlying40 hi0 hz0 hz1 hz2 rfl (by decide) eInt_len eInt_one (.slice (some ⟨w1.heap.size, 0, none⟩) 0 0) ([] : List Int) rfl (Own.lit0' _ _ _ rfl (Nat.le_refl _)) _ (ns l) rfl (HS.out.1.alloc _) (by unfold maxLen; simp; omega) (by simp; omega) (by simp) ?_; intro v8 w8 hown8 hgrow8 hat8; have k8 : Kept none_ w1 w8 := Kept.below (((Below.refl _ _).alloc (Nat.le_refl _) _).trans ((Kept.grown (F := fun i => i = w1.heap.size) hgrow8 (fun q hq => .inl (by simpa [Value.ownBlock] using hq.symm))).toBelow (fun i hi => Nat.le_of_eq hi.symm) (by simp))) rfl; obtain ⟨A8, n8, c8, rfl⟩ := hown8.form'; rw [List.nil_append] at hown8; have HO8 := Lib.hid hown8; have hs8 := k8.size; clear hown8 hgrow8 hat8
            | refine wpList_append_one _ rfl (.tmp 42) (.tmp 44) 40 rfl w1.heap.size 3 i0 (.int .i64 0) 1 8 Try.underlying40 hi0 hz0 hz1 hz2 rfl (by decide) (.slice A8 n8 c8) (ns l) rfl (HO8.out.alloc _) w8.heap.size (k : Int) rfl rfl (new_cell_int _ _ _) (eInt_one _) (by omega) (by unfold maxLen; omega) (by simp; omega) ?_; intro v9 w9 hown9 hgrow9 hat9; have hq8 := HO8.out.lt; have k9 : Kept none_ w1 w9 := (k8.alloc _).trans' (Kept.grown (F := fun i => Value.ownBlock (.slice A8 n8 c8) = some i) hgrow9 (fun q hq => .inl hq)) (fun i hi => .inr (hq8 i hi).1); have hown9' : Own w9 w1.heap.size 3 1 eInt v9 (ns (l ++ [k])) := (by rw [ns_append]; exact hown9); have hs9 := k9.size; obtain ⟨A9, n9, c9, rfl⟩ := hown9'.form'; have HO9 := Lib.hid hown9'; have HK9 := Lib.hid k9; clear hown9 hown9' hgrow9 hat9 hq8 k8 k9)
          refine (with_any (H1.out.ext HK9.out) ha hL (own_slx HO9.out eInt_len (fun j hj => Nat.lt_of_lt_of_le (HX.out j hj) HB1.out.size)) (fun j hj => Nat.lt_of_lt_of_le (HX.out j hj) (Nat.le_trans HB1.out.size hs9))).mono ?_
          rintro e w10 ⟨v10, rfl, h10, b10⟩
          have HE := Lib.hid (push_end (X := X) (v := .slice (some ⟨b, off, none⟩) L.length c) HB1.out HK9.out b10 HKN.out HL.out (fun j m hm hk => HN.out j m hm k hk rfl) h10)
          clear h10 b10
          go_wp2_with fail
          go_ret2
          exact HE.out

def BadPop (L : List (List Nat)) (i : Int) : Prop := i < 0 ∨ (L.length : Int) ≤ i ∨ ∃ k : Nat, i = k ∧ L[k]? = some []
def PopP (w : World) (X : Nat → Prop) (v : Value) (L : List (List Nat)) (i : Int) (e : Ending) (w' : World) : Prop :=
  Below w.heap.size w w' ∧ ((BadPop L i ∧ e = .returned (.tuple #[v, .int .i64 0, .bool false])) ∨
    (∃ (a k : Nat) (r : List Nat) (v' : Value), i = a ∧ L[a]? = some (k :: r) ∧ e = .returned (.tuple #[v', .int .i64 (k : Int), .bool true]) ∧ LL w' X v' (L.set a r)))

set_option maxRecDepth 100000 in
set_option maxHeartbeats 1000000 in
theorem pop_bad (h : LL w X v L) (i : Int) (hb : BadPop L i) : Calls Try.prog 11 #[v, .int .i64 i] w (PopP w X v L i) := by
  obtain ⟨A, c, rfl, hc⟩ := h.form
  have H := Lib.hid h
  have HB := Lib.hid hb
  rcases hb with hb | hb | ⟨k, rfl, hl⟩
  · have C := Lib.hid (of_no h (.inl hb))
    clear h hb
    go_enter Try.func11, Try.ntmps11
    go_wp2_with fail
    refine C.out.mono ?_
    rintro e w1 ⟨rfl, rfl⟩
    go_wp2_with fail
    go_ret3
    exact ⟨Below.refl _ _, .inl ⟨HB.out, rfl⟩⟩
  · have C := Lib.hid (of_no h (.inr hb))
    clear h hb
    go_enter Try.func11, Try.ntmps11
    go_wp2_with fail
    refine C.out.mono ?_
    rintro e w1 ⟨rfl, rfl⟩
    go_wp2_with fail
    go_ret3
    exact ⟨Below.refl _ _, .inl ⟨HB.out, rfl⟩⟩
  · have C := Lib.hid (of_yes h hl)
    clear h hl
    go_enter Try.func11, Try.ntmps11
    go_wp2_with fail
    refine C.out.mono ?_
    rintro e w1 ⟨⟨hd, rfl, hs⟩, rfl⟩
    obtain ⟨A1, n1, c1, rfl⟩ := hs.1.form'
    have hn := hs.1.len.1
    have hn0 : n1 = 0 := by simpa [ns] using hn
    subst hn0
    clear hs hn
    go_wp2_with fail
    go_ret3
    exact ⟨Below.refl _ _, .inl ⟨HB.out, rfl⟩⟩

theorem pop_end {w w' : World} {a k : Nat} {r : List Nat} {v' : Value} (b : Below w.heap.size w w') (hl : L[a]? = some (k :: r)) (hv : LL w' X v' (L.set a r)) :
    PopP w X v L a (.returned (.tuple #[v', .int .i64 (k : Int), .bool true])) w' := ⟨b, .inr ⟨a, k, r, v', rfl, hl, rfl, hv⟩⟩

set_option maxRecDepth 100000 in
set_option maxHeartbeats 1000000 in
theorem pop_good (h : LL w X v L) (hL : L.length ≤ 8) (hX : ∀ j, X j → j < w.heap.size) (a k : Nat) (r : List Nat) (hl : L[a]? = some (k :: r)) :
    Calls Try.prog 11 #[v, .int .i64 (a : Int)] w (PopP w X v L a) := by
  obtain ⟨A, c, rfl, hc⟩ := h.form
  have ha := (List.getElem?_eq_some_iff.1 hl).1
  have H := Lib.hid h
  have HX := Lib.hid hX
  have HL := Lib.hid hl
  have C := Lib.hid (of_yes h hl)
  clear h hX hl
  go_enter Try.func11, Try.ntmps11
  go_wp2_with fail
  refine C.out.mono ?_
  rintro e w1 ⟨⟨hd, rfl, hs⟩, rfl⟩
  obtain ⟨A1, n1, c1, rfl⟩ := hs.1.form'
  obtain ⟨hn, hc1, hc2⟩ := hs.1.len
  obtain ⟨b, off, rfl, hbl, q0⟩ := hs.1.at1 (k := 0) (x := (k : Int)) rfl rfl
  rw [Nat.add_zero] at q0
  have hd := hs.1.drop 1 (by simp [ns])
  have hn1 : 1 ≤ n1 := by rw [hn]; simp [ns]
  have hne0 : ((n1 : Int) == 0) = false := beq_eq_false_iff_ne.2 (by omega)
  have hgt : (0 : Int) < (n1 : Int) := by omega
  have hge : (1 : Int) ≤ (n1 : Int) := by omega
  have hcc : (n1 : Int) ≤ (c1 : Int) := by omega
  have hfull : ∃ (A' : Option Addr) (c' : Nat), SlX w X 3 1 eInt (.slice A' (n1 - 1) c') (ns r) ∧ (if c1 = 1 then some (⟨b, off, none⟩ : Addr) else some ⟨b, off + 1, none⟩) = A' ∧ c1 - 1 = c' := by
    refine ⟨_, _, ⟨?_, fun b' o' n' c' hne hv => ?_⟩, rfl, rfl⟩
    · by_cases hc1 : c1 = 1
      · simpa [hc1, ns] using hd
      · simpa [hc1, Addr.add, ns] using hd
    · have : b' = b := by
        by_cases hc1 : c1 = 1
        · rw [if_pos hc1] at hv; injection hv with hv; injection hv with hv; injection hv with hv; exact hv.symm
        · rw [if_neg hc1] at hv; injection hv with hv; injection hv with hv; injection hv with hv; exact hv.symm
      subst this
      exact hs.2 _ off n1 c1 (by simp [ns]) rfl
  unfold maxLen at hc2
  have hc63 : c1 ≤ 2 ^ 63 - 1 := hc2
  clear hs hd hn hc1 hc2
  by_cases hc1' : c1 = 1
  all_goals
    obtain ⟨A', c', hsl, hA', hc'⟩ := hfull
    first
    | rw [if_pos hc1'] at hA'
      subst hc1'
    | rw [if_neg hc1'] at hA'
    subst hA' hc'
    have HSL := Lib.hid hsl
    clear hsl
    clear hc
    go_wp2_with fail
    have hdr : Kept none_ w w.drew := (Kept.refl _ _).drew
    have HD := Lib.hid hdr
    clear hdr
    go_region_with (go_at_call 24; refine (with_any (H.out.ext HD.out) ha hL (HSL.out.ext HD.out) HX.out).mono ?_; rintro e w2 ⟨v2, rfl, h2, b2⟩; have q1 := (b2.cell (p := ⟨b, off, none⟩) hbl).trans q0; have lb2 := Nat.lt_of_lt_of_le hbl b2.size; have HE := Lib.hid (pop_end (X := X) (v := .slice A L.length c) ((Below.refl _ w).drew.trans b2) HL.out h2); clear h2 b2)
    all_goals go_wp2_with fail
    all_goals go_ret3
    all_goals exact HE.out
end
end Go.Proofs.Ytjblhgljajjdgaa.Refs
