/- The lists: all contracts, told by the lists that the links hold. -/
import Derived.Test.YtjblhgljajjdgaaChainLaw
namespace Go.Proofs.Ytjblhgljajjdgaa.ChainP
open Go.RowKit Chain ChainLaw

/-- Memory holds the lists L. -/
def Cs (W : World) (c g1 g2 g3 n : Nat) (L : List (List Nat)) : Prop := ∃ x, Is W c g1 g2 g3 x ∧ CInv n x L

section
variable {w w' : World} {c g1 g2 g3 n : Nat} {L : List (List Nat)}
theorem Cs.kept {F : Nat → Prop} (h : Cs w c g1 g2 g3 n L) (hk : Kept F w w') (hc : ¬ F c) (h1 : ¬ F g1) (h2 : ¬ F g2) (h3 : ¬ F g3) : Cs w' c g1 g2 g3 n L := by
  obtain ⟨x, hI, hC⟩ := h
  exact ⟨x, hI.kept hk hc h1 h2 h3, hC⟩
theorem Cs.ext (h : Cs w c g1 g2 g3 n L) (hk : Kept none_ w w') : Cs w' c g1 g2 g3 n L := h.kept hk (fun h => h) (fun h => h) (fun h => h) (fun h => h)
theorem Cs.lt (h : Cs w c g1 g2 g3 n L) : c < w.heap.size ∧ g1 < w.heap.size ∧ g2 < w.heap.size ∧ g3 < w.heap.size := by obtain ⟨x, hI, _⟩ := h; exact hI.lt

def Did (W : World) (c g1 g2 g3 n : Nat) (L : List (List Nat)) (v : Value) (e : Ending) (W' : World) : Prop := e = .returned v ∧ Cs W' c g1 g2 g3 n L ∧ Kept (Of3 g1 g2 g3) W W'

theorem push_yes (h : Cs w c g1 g2 g3 n L) (hn : n ≤ 4096) {i v : Nat} {l : List Nat} (hl : L[i]? = some l) (hv : v < n) (hout : ∀ (j : Nat) (m : List Nat), L[j]? = some m → v ∉ m) :
    Calls Try.prog 8 #[.pointer (some ⟨c, 0, none⟩), .int .i64 (i : Int), .int .i64 (v : Int)] w (Did w c g1 g2 g3 n (L.set i (l ++ [v])) (.bool true)) := by
  obtain ⟨x, hI, hC⟩ := h
  obtain ⟨e, he, _⟩ := hC.ends i l hl
  have hw : x.where_[v]? = some (-1) := by
    have hlt : v < x.where_.length := by rw [hC.wl]; exact hv
    have hg := List.getElem?_eq_getElem hlt
    by_cases hm : x.where_[v] = -1
    · rw [hg, hm]
    · obtain ⟨j, m, _, hj, hk⟩ := hC.in_ v _ hg hm
      exact absurd hk (hout j m hj)
  obtain ⟨h1, h2, h3, h4⟩ := hC.push hl he hw
  exact (Chain.push_yes c g1 g2 g3 x i v e w hI he (by rw [hC.nl]; exact hv) hw ⟨h2, by omega⟩ h4).mono fun _ _ ⟨a, b, d⟩ => ⟨a, ⟨_, b, h1⟩, d⟩
theorem push_no (h : Cs w c g1 g2 g3 n L) {i v : Int} (hb : i < 0 ∨ (L.length : Int) ≤ i ∨ v < 0 ∨ (n : Int) ≤ v ∨ (∃ (k j : Nat) (m : List Nat), v = k ∧ L[j]? = some m ∧ k ∈ m)) :
    Calls Try.prog 8 #[.pointer (some ⟨c, 0, none⟩), .int .i64 i, .int .i64 v] w fun e w' => e = .returned (.bool false) ∧ w = w' := by
  obtain ⟨x, hI, hC⟩ := h
  refine Chain.push_no c g1 g2 g3 x i v w hI ?_ (by rw [hC.wl, hC.nl])
  rw [hC.ll, hC.nl]
  rcases hb with hb | hb | hb | hb | ⟨k, j, m, hk, hj, hm⟩
  · exact .inl hb
  · exact .inr (.inl hb)
  · exact .inr (.inr (.inl hb))
  · exact .inr (.inr (.inr (.inl hb)))
  · exact .inr (.inr (.inr (.inr ⟨k, j, hk, hC.mem j m k hj hm, by omega⟩)))

theorem pop_yes (h : Cs w c g1 g2 g3 n L) (hn : n ≤ 4096) {i v : Nat} {r : List Nat} (hl : L[i]? = some (v :: r)) :
    Calls Try.prog 10 #[.pointer (some ⟨c, 0, none⟩), .int .i64 (i : Int)] w (Did w c g1 g2 g3 n (L.set i r) (.tuple #[.int .i64 (v : Int), .bool true])) := by
  obtain ⟨x, hI, hC⟩ := h
  obtain ⟨e, he, _⟩ := hC.ends i _ hl
  obtain ⟨nv, h1, h2, h3, h4, h5, h6⟩ := hC.pop hl he
  exact (Chain.pop_yes c g1 g2 g3 x i v e nv _ w hI he h1 h2 h3 ⟨h4, by omega⟩).mono fun _ _ ⟨a, b, d⟩ => ⟨a, ⟨_, b, h6⟩, d⟩
theorem none_bad {x : Ch} (hC : CInv n x L) {i : Int} (hb : i < 0 ∨ (L.length : Int) ≤ i ∨ ∃ k : Nat, i = k ∧ L[k]? = some []) : i < 0 ∨ (x.lists.length : Int) ≤ i ∨ ∃ (k : Nat) (e : Chain.Ends), i = k ∧ x.lists[k]? = some e ∧ e.many = 0 := by
  rw [hC.ll]
  rcases hb with hb | hb | ⟨k, hk, hl⟩
  · exact .inl hb
  · exact .inr (.inl hb)
  · obtain ⟨e, he, hm, _⟩ := hC.ends k _ hl
    exact .inr (.inr ⟨k, e, hk, he, by simpa using hm⟩)
theorem pop_no (h : Cs w c g1 g2 g3 n L) {i : Int} (hb : i < 0 ∨ (L.length : Int) ≤ i ∨ ∃ k : Nat, i = k ∧ L[k]? = some []) :
    Calls Try.prog 10 #[.pointer (some ⟨c, 0, none⟩), .int .i64 i] w fun e w' => e = .returned (.tuple #[.int .i64 0, .bool false]) ∧ w = w' := by
  obtain ⟨x, hI, hC⟩ := h
  exact Chain.pop_no c g1 g2 g3 x i w hI (none_bad hC hb)
theorem first_yes (h : Cs w c g1 g2 g3 n L) {i v : Nat} {r : List Nat} (hl : L[i]? = some (v :: r)) :
    Calls Try.prog 9 #[.pointer (some ⟨c, 0, none⟩), .int .i64 (i : Int)] w fun e w' => e = .returned (.tuple #[.int .i64 (v : Int), .bool true]) ∧ w = w' := by
  obtain ⟨x, hI, hC⟩ := h
  obtain ⟨e, he, hm, _⟩ := hC.ends i _ hl
  obtain ⟨nv, h1, _⟩ := hC.pop hl he
  have := Chain.first_yes c g1 g2 g3 x i e w hI he (by rw [hm]; simp; omega)
  rwa [h1] at this
theorem first_no (h : Cs w c g1 g2 g3 n L) {i : Int} (hb : i < 0 ∨ (L.length : Int) ≤ i ∨ ∃ k : Nat, i = k ∧ L[k]? = some []) :
    Calls Try.prog 9 #[.pointer (some ⟨c, 0, none⟩), .int .i64 i] w fun e w' => e = .returned (.tuple #[.int .i64 0, .bool false]) ∧ w = w' := by
  obtain ⟨x, hI, hC⟩ := h
  exact Chain.first_no c g1 g2 g3 x i w hI (none_bad hC hb)
theorem len_yes (h : Cs w c g1 g2 g3 n L) {i : Nat} {l : List Nat} (hl : L[i]? = some l) :
    Calls Try.prog 17 #[.pointer (some ⟨c, 0, none⟩), .int .i64 (i : Int)] w fun e w' => e = .returned (.int .i64 (l.length : Int)) ∧ w = w' := by
  obtain ⟨x, hI, hC⟩ := h
  obtain ⟨e, he, hm, _⟩ := hC.ends i _ hl
  have := Chain.len_yes c g1 g2 g3 x i e w hI he
  rwa [hm] at this
theorem len_no (h : Cs w c g1 g2 g3 n L) {i : Int} (hb : i < 0 ∨ (L.length : Int) ≤ i) :
    Calls Try.prog 17 #[.pointer (some ⟨c, 0, none⟩), .int .i64 i] w fun e w' => e = .returned (.int .i64 0) ∧ w = w' := by
  obtain ⟨x, hI, hC⟩ := h
  exact Chain.len_no c g1 g2 g3 x i w hI (by rw [hC.ll]; exact hb)
theorem where_yes (h : Cs w c g1 g2 g3 n L) {k i : Nat} {l : List Nat} (hl : L[i]? = some l) (hk : k ∈ l) :
    Calls Try.prog 15 #[.pointer (some ⟨c, 0, none⟩), .int .i64 (k : Int)] w fun e w' => e = .returned (.tuple #[.int .i64 (i : Int), .bool true]) ∧ w = w' := by
  obtain ⟨x, hI, hC⟩ := h
  exact Chain.where_yes c g1 g2 g3 x k i w hI (hC.mem i l k hl hk) (by omega)
theorem where_no (h : Cs w c g1 g2 g3 n L) {v : Int} (hb : ∀ (k j : Nat) (m : List Nat), v = k → L[j]? = some m → k ∉ m) :
    Calls Try.prog 15 #[.pointer (some ⟨c, 0, none⟩), .int .i64 v] w fun e w' => e = .returned (.tuple #[.int .i64 0, .bool false]) ∧ w = w' := by
  obtain ⟨x, hI, hC⟩ := h
  refine Chain.where_no c g1 g2 g3 x v w hI ?_
  by_cases h0 : v < 0
  · exact .inl h0
  · obtain ⟨k, rfl⟩ := Int.eq_ofNat_of_zero_le (by omega : 0 ≤ v)
    by_cases h1 : x.where_.length ≤ k
    · exact .inr (.inl (by omega))
    · have hg := List.getElem?_eq_getElem (by omega : k < x.where_.length)
      by_cases hm : x.where_[k] = -1
      · exact .inr (.inr ⟨k, rfl, by rw [hg, hm]⟩)
      · obtain ⟨j, m, _, hj, hk⟩ := hC.in_ k _ hg hm
        exact absurd hk (hb k j m rfl hj)

theorem fin_of (n : Nat) : ∀ (m : List Nat), (∀ a ∈ m, a < n) → ∃ l : List (Fin n), l.map (·.val) = m
  | [], _ => ⟨[], rfl⟩
  | a :: m, h => by
    obtain ⟨l, hl⟩ := fin_of n m fun b hb => h b (by simp [hb])
    exact ⟨⟨a, h a (by simp)⟩ :: l, by simp [hl]⟩

theorem join_yes (h : Cs w c g1 g2 g3 n L) (hn : n ≤ 4096) {i j : Nat} {l m : List Nat} (hne : i ≠ j) (hl : L[i]? = some l) (hm : L[j]? = some m) :
    Calls Try.prog 13 #[.pointer (some ⟨c, 0, none⟩), .int .i64 (i : Int), .int .i64 (j : Int)] w (Did w c g1 g2 g3 n ((L.set i (l ++ m)).set j []) (.bool true)) := by
  obtain ⟨x, hI, hC⟩ := h
  obtain ⟨ea, hea, ha, _⟩ := hC.ends i _ hl
  obtain ⟨eb, heb, hb, _⟩ := hC.ends j _ hm
  by_cases hz : eb.many = 0
  · have hm0 : m = [] := List.eq_nil_of_length_eq_zero (by omega)
    subst hm0
    have hL : (L.set i (l ++ [])).set j [] = L := by
      refine List.ext_getElem? fun k => ?_
      by_cases hkj : j = k
      · subst hkj
        rw [List.getElem?_set_self (by simpa using (List.getElem?_eq_some_iff.1 hm).1), hm]
      · rw [List.getElem?_set_ne hkj]
        by_cases hki : i = k
        · subst hki
          rw [List.getElem?_set_self (List.getElem?_eq_some_iff.1 hl).1, hl, List.append_nil]
        · rw [List.getElem?_set_ne hki]
    rw [hL]
    exact (Chain.join_empty c g1 g2 g3 x i j ea eb w hI hea heb hne hz).mono fun _ _ ⟨a, b⟩ => ⟨a, ⟨x, hI.ext (Kept.below b rfl), hC⟩, Kept.below b rfl⟩
  · obtain ⟨h1, h2, h3, h4⟩ := hC.join hne hl hm hea heb hz
    obtain ⟨lf, hlf⟩ := fin_of x.where_.length m fun a ha => by rw [hC.wl]; exact hC.lt hm ha
    subst hlf
    exact (Chain.join_yes c g1 g2 g3 x i j ea eb lf w hI hea heb hne hz (by simpa [ns, List.map_map, Function.comp_def] using h1) h2 (by omega)).mono fun _ _ ⟨a, b, d⟩ => ⟨a, ⟨_, b, h4⟩, d⟩
theorem join_no (h : Cs w c g1 g2 g3 n L) {i j : Int} (hb : i < 0 ∨ (L.length : Int) ≤ i ∨ j < 0 ∨ (L.length : Int) ≤ j ∨ i = j) :
    Calls Try.prog 13 #[.pointer (some ⟨c, 0, none⟩), .int .i64 i, .int .i64 j] w fun e w' => e = .returned (.bool false) ∧ Below w.heap.size w w' := by
  obtain ⟨x, hI, hC⟩ := h
  exact Chain.join_no c g1 g2 g3 x i j w hI (by rw [hC.ll]; exact hb)

theorem all_yes (h : Cs w c g1 g2 g3 n L) (hn : n ≤ 4096) {i : Nat} {l : List Nat} (hl : L[i]? = some l) : Calls Try.prog 20 #[.pointer (some ⟨c, 0, none⟩), .int .i64 (i : Int)] w (AllP w (ns l)) := by
  obtain ⟨x, hI, hC⟩ := h
  obtain ⟨e, he, _, hk, _⟩ := hC.ends i _ hl
  exact Chain.all_yes c g1 g2 g3 x i e (ns l) w hI he hk (by rw [ns_length]; exact Nat.le_trans (hC.len hl) hn)
theorem all_no (h : Cs w c g1 g2 g3 n L) {i : Int} (hb : i < 0 ∨ (L.length : Int) ≤ i) : Calls Try.prog 20 #[.pointer (some ⟨c, 0, none⟩), .int .i64 i] w (AllP w []) := by
  obtain ⟨x, hI, hC⟩ := h
  exact Chain.all_no _ i w fun W hk => Chain.is_no c g1 g2 g3 x i W (hI.ext hk) (by rw [hC.ll]; exact hb)
theorem all_nil (i : Int) (w : World) : Calls Try.prog 20 #[.pointer none, .int .i64 i] w (AllP w []) := Chain.all_no _ i w fun W _ => Chain.is_nil i W

def Made (w : World) (n : Nat) (L : List (List Nat)) (e : Ending) (W' : World) : Prop :=
  ∃ c g1 g2 g3, e = .returned (.pointer (some ⟨c, 0, none⟩)) ∧ Cs W' c g1 g2 g3 n L ∧ Below w.heap.size w W' ∧ w.heap.size ≤ c ∧ w.heap.size ≤ g1 ∧ w.heap.size ≤ g2 ∧ w.heap.size ≤ g3
theorem new_good (n m : Nat) (w : World) (h1 : 1 ≤ n) (h2 : n ≤ 4096) (h3 : 1 ≤ m) (h4 : m ≤ 256) : Calls Try.prog 5 #[.int .i64 (n : Int), .int .i64 (m : Int)] w (Made w n (List.replicate m [])) :=
  (Chain.new_good n m w h1 h2 h3 h4).mono fun _ _ ⟨_, he, c, g1, g2, g3, hv, hI, hb, a, b, d, e⟩ => ⟨c, g1, g2, g3, by rw [he, hv], ⟨_, hI, CInv.new n m⟩, hb, a, b, d, e⟩
theorem copy_any (h : Cs w c g1 g2 g3 n L) (h1 : 1 ≤ n) (h2 : n ≤ 4096) (h3 : 1 ≤ L.length) (h4 : L.length ≤ 256) : Calls Try.prog 14 #[.pointer (some ⟨c, 0, none⟩)] w (Made w n L) := by
  obtain ⟨x, hI, hC⟩ := h
  exact (Chain.copy_any c g1 g2 g3 x w hI (by rw [hC.nl]; exact h1) (by rw [hC.nl]; exact h2) (by rw [hC.nl, hC.wl]) (by rw [hC.ll]; exact h3) (by rw [hC.ll]; exact h4)).mono
    fun _ _ ⟨_, he, c, g1, g2, g3, hv, hI, hb, a, b, d, e⟩ => ⟨c, g1, g2, g3, by rw [he, hv], ⟨_, hI, hC⟩, hb, a, b, d, e⟩
end
end Go.Proofs.Ytjblhgljajjdgaa.ChainP
