/- The document's answer for the lists (slices of slices): contracts of In, With, is, Of. -/
import Derived.Test.YtjblhgljajjdgaaOrders
namespace Go.Proofs.Ytjblhgljajjdgaa.Refs
open Go.RowKit ChainLaw

def eHdr (v : Value) : List Value := [v]
theorem eHdr_len (v : Value) : (eHdr v).length = 1 := rfl

section
variable {α : Type} {w w' : World} {X F : Nat → Prop} {t : TypeId} {size base : Nat} {enc : α → List Value} {v : Value} {l : List α}
/-- A slice whose elements lie in no block of X. -/
def SlX (w : World) (X : Nat → Prop) (t : TypeId) (size : Nat) (enc : α → List Value) (v : Value) (l : List α) : Prop :=
  Sl w t size enc v l ∧ ∀ b o n c, l ≠ [] → v = .slice (some ⟨b, o, none⟩) n c → ¬ X b
theorem SlX.kept (h : SlX w X t size enc v l) (hk : Kept F w w') (hF : ∀ j, F j → X j) : SlX w' X t size enc v l := by
  obtain ⟨⟨A, c, e, h1, h2, h3⟩, hx⟩ := h
  refine ⟨⟨A, c, e, h1, h2, fun hne => ?_⟩, hx⟩
  obtain ⟨b, off, cs, fr, hA, hb, hc⟩ := h3 hne
  have hlt : b < w.heap.size := (Array.getElem?_eq_some_iff.1 hb).1
  have hbb := hk.block b hlt (fun hf => hx b off _ c hne (by rw [e, hA]) (hF b hf))
  exact ⟨b, off, cs, fr, hA, hbb.trans hb, fun k x hx j u hu => (World.cell?_of_block (w := w) (a := ⟨b, _, none⟩) hbb).trans (hc k x hx j u hu)⟩
theorem SlX.ext (h : SlX w X t size enc v l) (hk : Kept none_ w w') : SlX w' X t size enc v l := h.kept hk (fun _ h => h.elim)
/-- Other blocks, all made later, or none of it. -/
theorem SlX.to {Y : Nat → Prop} (h : SlX w X t size enc v l) (hY : ∀ j, Y j → w.heap.size ≤ j) : SlX w Y t size enc v l := by
  obtain ⟨h1, _⟩ := h
  refine ⟨h1, fun b o n c hne hv hb => ?_⟩
  obtain ⟨A, c', e, _, _, h3⟩ := h1
  obtain ⟨b', off, cs, fr, hA, hb', _⟩ := h3 hne
  rw [e, hA] at hv
  injection hv with hv
  injection hv with hv
  injection hv with hv
  have := (Array.getElem?_eq_some_iff.1 hb').1
  have := hY b hb
  omega
theorem SlX.nil (A : Option Addr) (c : Nat) (hc : c ≤ maxLen) : SlX w X t size enc (.slice A 0 c) ([] : List α) := ⟨Sl.nil c hc A, fun _ _ _ _ h => absurd rfl h⟩
theorem own_slx (h : Own w base t size enc v l) (hsz : ∀ x, (enc x).length = size) (hX : ∀ j, X j → j < base) : SlX w X t size enc v l :=
  ⟨h.sl hsz, fun b o n c _ hv hb => by
    have := (h.lt b (by rw [hv]; rfl)).1
    have := hX b hb
    omega⟩
end

/-- The value v holds the lists L; none of it lies in X. -/
def LL (w : World) (X : Nat → Prop) (v : Value) (L : List (List Nat)) : Prop :=
  ∃ hs : List Value, SlX w X 40 1 eHdr v hs ∧ hs.length = L.length ∧ ∀ (i : Nat) (h : Value) (l : List Nat), hs[i]? = some h → L[i]? = some l → SlX w X 3 1 eInt h (ns l)

section
variable {w w' : World} {X F : Nat → Prop} {v : Value} {L : List (List Nat)}
theorem LL.kept (h : LL w X v L) (hk : Kept F w w') (hF : ∀ j, F j → X j) : LL w' X v L := by
  obtain ⟨hs, h1, h2, h3⟩ := h
  exact ⟨hs, h1.kept hk hF, h2, fun i a l ha hl => (h3 i a l ha hl).kept hk hF⟩
theorem LL.ext (h : LL w X v L) (hk : Kept none_ w w') : LL w' X v L := h.kept hk (fun _ h => h.elim)
theorem LL.to {Y : Nat → Prop} (h : LL w X v L) (hY : ∀ j, Y j → w.heap.size ≤ j) : LL w Y v L := by
  obtain ⟨hs, h1, h2, h3⟩ := h
  exact ⟨hs, h1.to hY, h2, fun i a l ha hl => (h3 i a l ha hl).to hY⟩
theorem LL.form (h : LL w X v L) : ∃ A c, v = .slice A L.length c ∧ c ≤ maxLen := by
  obtain ⟨hs, h1, h2, _⟩ := h
  obtain ⟨A, c, e, _, h3⟩ := h1.1.form
  exact ⟨A, c, by rw [e, h2], h3⟩
/-- The header of the list at i. -/
theorem LL.at_ {A : Option Addr} {n c : Nat} (h : LL w X (.slice A n c) L) {i : Nat} {l : List Nat} (hl : L[i]? = some l) :
    ∃ b off hd, A = some ⟨b, off, none⟩ ∧ b < w.heap.size ∧ w.cell? ⟨b, off + i, none⟩ = some hd ∧ SlX w X 3 1 eInt hd (ns l) := by
  obtain ⟨hs, h1, h2, h3⟩ := h
  have hi : i < hs.length := by rw [h2]; exact (List.getElem?_eq_some_iff.1 hl).1
  have hg := List.getElem?_eq_getElem hi
  obtain ⟨b, off, hA, hb, hc⟩ := h1.1.at1 hg rfl
  exact ⟨b, off, _, hA, hb, hc, h3 i _ l hg hl⟩
end

section
variable {w : World} {X : Nat → Prop} {v : Value} {L : List (List Nat)}
theorem is_yes (h : LL w X v L) {i : Nat} (hi : i < L.length) : Calls Try.prog 23 #[v, .int .i64 (i : Int)] w fun e w' => e = .returned (.bool true) ∧ w = w' := by
  obtain ⟨A, c, rfl, _⟩ := h.form
  have t1 : decide (0 ≤ (i : Int)) = true := by simp
  have t2 : decide ((i : Int) < (L.length : Int)) = true := by simp; omega
  clear h
  go_enter Try.func23, Try.ntmps23
  go_wp2
  go_ret
  exact ⟨rfl, rfl⟩
theorem is_no (h : LL w X v L) {i : Int} (hi : i < 0 ∨ (L.length : Int) ≤ i) : Calls Try.prog 23 #[v, .int .i64 i] w fun e w' => e = .returned (.bool false) ∧ w = w' := by
  obtain ⟨A, c, rfl, _⟩ := h.form
  clear h
  by_cases h0 : 0 ≤ i
  · have t1 : decide (0 ≤ i) = true := by simp [h0]
    have t2 : decide (i < (L.length : Int)) = false := by simp; omega
    clear hi
    go_enter Try.func23, Try.ntmps23
    go_wp2
    go_ret
    exact ⟨rfl, rfl⟩
  · have t1 : decide (0 ≤ i) = false := by simp; omega
    clear hi
    go_enter Try.func23, Try.ntmps23
    go_wp2
    go_ret
    exact ⟨rfl, rfl⟩
theorem of_no (h : LL w X v L) {i : Int} (hi : i < 0 ∨ (L.length : Int) ≤ i) : Calls Try.prog 18 #[v, .int .i64 i] w fun e w' => e = .returned (.slice none 0 0) ∧ w = w' := by
  have C := Lib.hid (is_no h hi)
  clear h hi
  go_enter Try.func18, Try.ntmps18
  go_wp2_with fail
  refine C.out.mono ?_
  rintro e w1 ⟨rfl, rfl⟩
  go_wp2_with fail
  go_ret
  exact ⟨rfl, rfl⟩
theorem of_yes (h : LL w X v L) {i : Nat} {l : List Nat} (hl : L[i]? = some l) : Calls Try.prog 18 #[v, .int .i64 (i : Int)] w fun e w' => (∃ hd, e = .returned hd ∧ SlX w X 3 1 eInt hd (ns l)) ∧ w = w' := by
  have hi := (List.getElem?_eq_some_iff.1 hl).1
  have C := Lib.hid (is_yes h hi)
  obtain ⟨A, c, rfl, _⟩ := h.form
  obtain ⟨b, off, hd, rfl, hb, q0, hs⟩ := h.at_ hl
  have HS := Lib.hid hs
  have k0 : (0 : Int) ≤ (i : Int) := by omega
  have k1 : (i : Int) < (L.length : Int) := by omega
  clear h hl hi hs
  go_enter Try.func18, Try.ntmps18
  go_wp2_with fail
  refine C.out.mono ?_
  rintro e w1 ⟨rfl, rfl⟩
  go_wp2_with fail
  go_ret
  exact ⟨⟨_, rfl, HS.out⟩, rfl⟩

theorem of_at {c b off i : Nat} {hd : Value} (h : LL w X (.slice (some ⟨b, off, none⟩) L.length c) L) (hi : i < L.length) (q0 : w.cell? ⟨b, off + i, none⟩ = some hd) :
    Calls Try.prog 18 #[.slice (some ⟨b, off, none⟩) L.length c, .int .i64 (i : Int)] w fun e w' => e = .returned hd ∧ w = w' := by
  have C := Lib.hid (is_yes h hi)
  have hb := World.block_lt_of_cell? w _ q0
  have k0 : (0 : Int) ≤ (i : Int) := by omega
  have k1 : (i : Int) < (L.length : Int) := by omega
  clear h hi
  go_enter Try.func18, Try.ntmps18
  go_wp2_with fail
  refine C.out.mono ?_
  rintro e w1 ⟨rfl, rfl⟩
  go_wp2_with fail
  go_ret
  exact ⟨rfl, rfl⟩

def InP (w : World) (L : List (List Nat)) (node : Int) (e : Ending) (w' : World) : Prop :=
  Below w.heap.size w w' ∧ ((∃ (i k : Nat) (l : List Nat), node = (k : Int) ∧ L[i]? = some l ∧ k ∈ l ∧ e = .returned (.tuple #[.int .i64 (i : Int), .bool true])) ∨
    ((∀ (j : Nat) (m : List Nat), L[j]? = some m → ∀ a ∈ m, (a : Int) ≠ node) ∧ e = .returned (.tuple #[.int .i64 0, .bool false])))

theorem ns_get {l : List Nat} {k a : Nat} (h : l[k]? = some a) : (ns l)[k]? = some (a : Int) := by
  show (l.map _)[k]? = _
  rw [List.getElem?_map, h]
  rfl

set_option maxRecDepth 100000 in
set_option maxHeartbeats 1000000 in
theorem in_any (h : LL w X v L) (node : Int) : Calls Try.prog 16 #[v, .int .i64 node] w (InP w L node) := by
  obtain ⟨A, c, rfl, hc⟩ := h.form
  have H := Lib.hid h
  clear h
  unfold maxLen at hc
  have hlc : L.length ≤ c := by obtain ⟨hs, h1, h2, _⟩ := H.out; rw [← h2]; have := h1.1.len; omega
  go_enter Try.func16, Try.ntmps16
  go_wp2_with fail
  go_loopw [6, 7] (fun i _ wr => ∃ k : Nat, k ≤ L.length ∧ i = .int .i64 k ∧ Below w.heap.size w wr ∧ ∀ (j : Nat) (m : List Nat), j < k → L[j]? = some m → ∀ a ∈ m, (a : Int) ≠ node) (fun i _ _ => L.length - (intOf i).toNat)
  case atStart => exact ⟨0, by omega, rfl, Below.refl _ _, by simp⟩
  case round =>
    obtain ⟨k, hk, rfl, hb, hno⟩ := hrel
    have HB := Lib.hid hb
    have HN := Lib.hid hno
    clear hb hno
    by_cases hlt : k < L.length
    · obtain ⟨l, hl⟩ : ∃ l, L[k]? = some l := ⟨L[k], by simp⟩
      have h1 := H.out.ext (Kept.below (F := none_) HB.out rfl)
      obtain ⟨b, off, hd, rfl, hbl, q0, hs⟩ := h1.at_ hl
      obtain ⟨A2, c2, rfl, hc21, hc22⟩ := hs.1.form
      have HS := Lib.hid hs
      have HL := Lib.hid hl
      have k0 : (0 : Int) ≤ (k : Int) := by omega
      have k1 : (k : Int) < (L.length : Int) := by omega
      unfold maxLen at hc22
      clear hs hl h1
      go_wp2_with fail
      go_loopw [7] (fun j wr2 => ∃ q : Nat, q ≤ l.length ∧ j = .int .i64 q ∧ Below wr.heap.size wr wr2 ∧ ∀ a ∈ l.take q, (a : Int) ≠ node) (fun j _ => l.length - (intOf j).toNat)
      case atStart => exact ⟨0, by omega, rfl, Below.refl _ _, by simp⟩
      case round =>
        obtain ⟨q, hq, rfl, hb2, hno2⟩ := hrel
        have r0 := (hb2.cell (p := ⟨b, off + k, none⟩) hbl).trans q0
        have lb := Nat.lt_of_lt_of_le hbl hb2.size
        have HB2 := Lib.hid hb2
        have HN2 := Lib.hid hno2
        by_cases hqlt : q < l.length
        · obtain ⟨a, ha⟩ : ∃ a, l[q]? = some a := ⟨l[q], by simp⟩
          obtain ⟨b2, o2, rfl, lb2, q2⟩ := (HS.out.1.below hb2).at1 (ns_get ha) rfl
          have c0 : (0 : Int) ≤ (q : Int) := by omega
          have c1 : (q : Int) < ((ns l).length : Int) := by rw [ns_length]; omega
          have HA := Lib.hid ha
          clear ha hb2 hno2 hbl q0
          by_cases han : (a : Int) = node
          · have t1 : ((a : Int) == node) = true := by simp [han]
            go_wp2_with fail
            go_ret2
            have hb3 := HB.out.trans (HB2.out.mono HB.out.size)
            exact ⟨hb3, .inl ⟨k, a, l, han.symm, HL.out, List.mem_of_getElem? HA.out, rfl⟩⟩
          · have t1 : ((a : Int) == node) = false := by simp [han]
            go_wp2_with fail
            go_roundw
            case rel =>
              refine ⟨q + 1, by omega, by go_num, HB2.out, fun d hd => ?_⟩
              rw [List.take_add_one, HA.out] at hd
              rcases List.mem_append.1 hd with hd | hd
              · exact HN2.out d hd
              · simp at hd; subst hd; exact han
            case measure => simp [intOf]; omega
        · have hql : ¬ (q : Int) < ((ns l).length : Int) := by rw [ns_length]; omega
          clear hb2 hno2 hbl q0
          go_wp2_with fail
          go_roundw
          case rel =>
            refine ⟨k + 1, by omega, by go_num, HB.out.trans (HB2.out.mono HB.out.size), fun j m hj hm => ?_⟩
            by_cases hjk : j = k
            · subst hjk
              have hml : l = m := by have := HL.out; rw [hm] at this; injection this with this; exact this.symm
              subst hml
              have := HN2.out
              rwa [List.take_of_length_le (by omega)] at this
            · exact HN.out j m (by omega) hm
          case measure => simp [intOf]; omega
    · have hkl : k = L.length := by omega
      have hkl' : ¬ (k : Int) < (L.length : Int) := by omega
      have HK := Lib.hid hkl
      clear hkl
      go_wp2_with fail
      go_ret2
      exact ⟨HB.out, .inr ⟨fun j m hm => HN.out j m (by have := (List.getElem?_eq_some_iff.1 hm).1; have := HK.out; omega) hm, rfl⟩⟩

theorem info40 : (Try.prog.info? 40).map (fun i => (i.zero, i.size, i.bytes)) = some (some (.slice none 0 0), 1, 24) := by kernel_rfl
theorem new_cell_hdr (w : World) (y : Value) (t : TypeId) : ∀ j u, (eHdr y)[j]? = some u → (w.alloc (.cells #[y] t)).cell? ⟨w.heap.size, j, none⟩ = some u := by
  intro j u hu
  rw [(Blk.new w t #[y]).cell j, ← hu]
  exact List.getElem?_toArray
theorem hdr_one (A : Option Addr) (n c : Nat) : ∀ u ∈ eHdr (.slice A n c), u.oneCell' = true := by simp [eHdr, Value.oneCell']
theorem own_below {α : Type} {w wr w1 : World} {base : Nat} {t : TypeId} {size : Nat} {enc : α → List Value} {v : Value} {l : List α} {o : Obj} (hb : Below base w wr) (ho : Own wr base t size enc v l) (hg : (wr.alloc o).grownBy w1 v.ownBlock) (hsz : base ≤ wr.heap.size) : Below base w w1 := by
  have k1 : Kept (fun j => v.ownBlock = some j) wr w1 := ((Kept.refl none_ wr).alloc o).mono (fun _ _ h => h.elim) |>.trans' (Kept.grown (F := fun i => v.ownBlock = some i) hg (fun q hq => .inl hq)) (fun i h => .inl h)
  exact hb.trans (k1.toBelow (fun j hj => (ho.lt j hj).1) hsz)

set_option maxRecDepth 100000 in
set_option maxHeartbeats 1000000 in
theorem with_any (h : LL w X v L) {at_ : Nat} {l : List Nat} {hx : Value} (hat : at_ < L.length) (hL : L.length ≤ 8) (hh : SlX w X 3 1 eInt hx (ns l)) (hX : ∀ j, X j → j < w.heap.size) :
    Calls Try.prog 24 #[v, .int .i64 (at_ : Int), hx] w fun e w' => ∃ v', e = .returned v' ∧ LL w' X v' (L.set at_ l) ∧ Below w.heap.size w w' := by
  obtain ⟨i0, hi0, hz0, hz1, hz2⟩ := info_parts info40
  obtain ⟨hs, h1, h2, h3⟩ := h
  obtain ⟨A, c, rfl, hc1, hc2⟩ := h1.1.form
  obtain ⟨Ax, nx, cx, rfl⟩ := hh.1.form'
  obtain ⟨T, hT⟩ : ∃ T, T = hs.set at_ (.slice Ax nx cx) := ⟨_, rfl⟩
  have hTl : T.length = hs.length := by rw [hT, List.length_set]
  have hTg : ∀ k, k < hs.length → k = at_ → T[k]? = some (.slice Ax nx cx) := fun k hk e => by rw [hT, e]; exact List.getElem?_set_self (by omega)
  have hTn : ∀ k, k ≠ at_ → T[k]? = hs[k]? := fun k e => by rw [hT, List.getElem?_set_ne (Ne.symm e)]
  have HT := Lib.hid hT
  have HTl := Lib.hid hTl
  have HTg := Lib.hid hTg
  have HTn := Lib.hid hTn
  have H1 := Lib.hid h1
  have H2 := Lib.hid h2
  have H3 := Lib.hid h3
  have HH := Lib.hid hh
  have HX := Lib.hid hX
  have hl8 : hs.length ≤ 8 := by omega
  unfold maxLen at hc2
  clear hT hTl hTg hTn h1 h2 h3 hh hX hat hL
  go_enter Try.func24, Try.ntmps24
  go_wp2_with fail
  go_loopw [7, 8] (fun out i wr => ∃ k : Nat, k ≤ hs.length ∧ i = .int .i64 k ∧ Own wr w.heap.size 40 1 eHdr out (T.take k) ∧ Below w.heap.size w wr) (fun _ i _ => hs.length - (intOf i).toNat)
  case atStart => exact ⟨0, by omega, rfl, by simpa using Own.nil _ _, Below.refl _ _⟩
  case round =>
    obtain ⟨k, hk, rfl, ho, hb⟩ := hrel
    obtain ⟨OA, on, oc, rfl⟩ := ho.form'
    have HO := Lib.hid ho
    have HB := Lib.hid hb
    have hwr := hb.size
    have htk : (T.take k).length + 1 ≤ 100 := by rw [List.length_take]; omega
    clear ho hb
    by_cases hlt : k < hs.length
    · have k0 : (0 : Int) ≤ (k : Int) := by omega
      have k1 : (k : Int) < (hs.length : Int) := by omega
      by_cases hka : k = at_
      · have hTk := HTg.out k hlt hka
        have t1 : ((k : Int) == (at_ : Int)) = true := by simp [hka]
        have HTk := Lib.hid hTk
        clear hka hTk
        go_wp2_with (at_builtin; refine wpList_append_one _ rfl (.tmp 18) (.tmp 20) 26 rfl w.heap.size 40 i0 (.slice none 0 0) 1 24 Try.underlying26 hi0 hz0 hz1 hz2 rfl (by decide) (.slice OA on oc) (T.take k) rfl (HO.out.alloc _) wr.heap.size (.slice Ax nx cx) rfl rfl (new_cell_hdr _ _ _) (hdr_one _ _ _) (by omega) (by unfold maxLen; omega) (by simp; omega) ?_; intro v1 w1 hown hgrow hat; have hbel := own_below HB.out HO.out hgrow hwr; have hown2 : Own w1 w.heap.size 40 1 eHdr v1 (T.take (k + 1)) := (by rw [List.take_add_one, HTk.out]; exact hown); have HO2 := Lib.hid hown2; have HB2 := Lib.hid hbel; clear hown hgrow hat hown2 hbel)
        go_roundw
        case rel => exact ⟨k + 1, by omega, by go_num, HO2.out, HB2.out⟩
        case measure => simp [intOf]; omega
      · obtain ⟨hd, hhd⟩ : ∃ hd, hs[k]? = some hd := ⟨hs[k], by simp⟩
        obtain ⟨lk, hlk⟩ : ∃ lk, L[k]? = some lk := ⟨L[k]'(by have := H2.out; omega), by simp⟩
        obtain ⟨Ad, nd, cd, rfl⟩ := (H3.out k hd lk hhd hlk).1.form'
        obtain ⟨b, off, rfl, hbl, q0⟩ := (H1.out.1.below HB.out).at1 hhd rfl
        have hTk := (HTn.out k hka).trans hhd
        have t1 : ((k : Int) == (at_ : Int)) = false := by simp; omega
        have HTk := Lib.hid hTk
        clear hka hTk hhd hlk
        go_wp2_with (at_builtin; refine wpList_append_one _ rfl (.tmp 22) (.tmp 27) 26 rfl w.heap.size 40 i0 (.slice none 0 0) 1 24 Try.underlying26 hi0 hz0 hz1 hz2 rfl (by decide) (.slice OA on oc) (T.take k) rfl (HO.out.alloc _) wr.heap.size (.slice Ad nd cd) rfl rfl (new_cell_hdr _ _ _) (hdr_one _ _ _) (by omega) (by unfold maxLen; omega) (by simp; omega) ?_; intro v1 w1 hown hgrow hat; have hbel := own_below HB.out HO.out hgrow hwr; have hown2 : Own w1 w.heap.size 40 1 eHdr v1 (T.take (k + 1)) := (by rw [List.take_add_one, HTk.out]; exact hown); have HO2 := Lib.hid hown2; have HB2 := Lib.hid hbel; clear hown hgrow hat hown2 hbel)
        go_roundw
        case rel => exact ⟨k + 1, by omega, by go_num, HO2.out, HB2.out⟩
        case measure => simp [intOf]; omega
    · have hkl : ¬ (k : Int) < (hs.length : Int) := by omega
      go_wp2_with fail
      go_ret
      refine ⟨_, rfl, ⟨T, own_slx (by simpa [List.take_of_length_le (show T.length ≤ k by have := HTl.out; omega)] using HO.out) eHdr_len HX.out, by rw [HTl.out, H2.out, List.length_set], fun i a m ha hm => ?_⟩, HB.out⟩
      have kk : Kept none_ w wr := Kept.below HB.out rfl
      by_cases hia : i = at_
      · have hlt2 : i < hs.length := by rw [← HTl.out]; exact (List.getElem?_eq_some_iff.1 ha).1
        rw [HTg.out i hlt2 hia] at ha
        injection ha with ha
        subst ha
        rw [hia, List.getElem?_set_self (by have := H2.out; omega)] at hm
        injection hm with hm
        subst hm
        exact HH.out.ext kk
      · rw [HTn.out i hia] at ha
        rw [List.getElem?_set_ne (Ne.symm hia)] at hm
        exact (H3.out i a m ha hm).ext kk
end
end Go.Proofs.Ytjblhgljajjdgaa.Refs
