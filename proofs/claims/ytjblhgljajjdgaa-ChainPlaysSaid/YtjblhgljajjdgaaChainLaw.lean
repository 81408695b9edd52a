/- The plain law of the lists: the links hold the lists. No program in sight. -/
import Derived.Test.YtjblhgljajjdgaaChainG
namespace Go.Proofs.Ytjblhgljajjdgaa.ChainLaw
open Chain

/-- Nodes as numbers. -/
def ns (l : List Nat) : List Int := l.map (fun a : Nat => (a : Int))
theorem ns_append (l m : List Nat) : ns (l ++ m) = ns l ++ ns m := by simp [ns]
theorem ns_length (l : List Nat) : (ns l).length = l.length := by simp [ns]

theorem links_keep {nx nx' : List Int} : ∀ {l : List Nat} {m : Int}, Links nx m (ns l) → (∀ a ∈ l, nx'[a]? = nx[a]?) → Links nx' m (ns l)
  | [], _, h, _ => h
  | a :: r, m, ⟨k, m', h1, h2, h3, h4⟩, hk => by
    have : a = k := by have h2 : (a : Int) = k := h2; omega
    subst this
    exact ⟨a, m', h1, rfl, (hk a (by simp)).trans h3, links_keep h4 fun b hb => hk b (by simp [hb])⟩

theorem links_append {nx : List Int} {m2 : Int} {l2 : List Nat} (h2 : Links nx m2 (ns l2)) : ∀ {l : List Nat} {m : Int} {u : Nat}, Links nx m (ns l) → l.getLast? = some u → l.Nodup → u ∉ l2 → Links (nx.set u m2) m (ns (l ++ l2))
  | [], _, _, _, hu, _, _ => by simp at hu
  | [a], m, u, ⟨k, m', h1, h2', h3, h4⟩, hu, _, hn => by
    have : a = k := by have h2' : (a : Int) = k := h2'; omega
    subst this
    have : a = u := by simpa using hu
    subst this
    have hlt := (List.getElem?_eq_some_iff.1 h3).1
    exact ⟨a, m2, h1, rfl, List.getElem?_set_self hlt, links_keep h2 fun b hb => by rw [List.getElem?_set_ne]; rintro rfl; exact hn hb⟩
  | a :: b :: r, m, u, ⟨k, m', h1, h2', h3, h4⟩, hu, hd, hn => by
    have : a = k := by have h2' : (a : Int) = k := h2'; omega
    subst this
    rw [List.getLast?_cons_cons] at hu
    rw [List.nodup_cons] at hd
    refine ⟨a, m', h1, rfl, ?_, links_append h2 h4 hu hd.2 hn⟩
    rw [List.getElem?_set_ne]
    · exact h3
    · rintro rfl
      exact hd.1 (List.mem_of_getLast? hu)

structure CInv (n : Nat) (x : Ch) (L : List (List Nat)) : Prop where
  nl : x.next.length = n
  wl : x.where_.length = n
  ll : x.lists.length = L.length
  ends : ∀ (i : Nat) (l : List Nat), L[i]? = some l → ∃ e, x.lists[i]? = some e ∧ e.many = l.length ∧ Links x.next e.first (ns l) ∧ (∀ a, l.getLast? = some a → e.last = a)
  out : ∀ k : Nat, x.where_[k]? = some (-1) → ∀ (i : Nat) (l : List Nat), L[i]? = some l → k ∉ l
  in_ : ∀ (k : Nat) (w : Int), x.where_[k]? = some w → w ≠ -1 → ∃ (i : Nat) (l : List Nat), w = i ∧ L[i]? = some l ∧ k ∈ l
  mem : ∀ (i : Nat) (l : List Nat) (k : Nat), L[i]? = some l → k ∈ l → x.where_[k]? = some (i : Int)
  nodup : ∀ (i : Nat) (l : List Nat), L[i]? = some l → l.Nodup

theorem CInv.apart {n : Nat} {x : Ch} {L : List (List Nat)} (h : CInv n x L) {i j : Nat} {l m : List Nat} (hl : L[i]? = some l) (hm : L[j]? = some m) {k : Nat} (h1 : k ∈ l) (h2 : k ∈ m) : i = j := by
  have a := h.mem i l k hl h1
  have b := h.mem j m k hm h2
  rw [a] at b
  injection b with b
  omega
theorem CInv.lt {n : Nat} {x : Ch} {L : List (List Nat)} (h : CInv n x L) {i : Nat} {l : List Nat} (hl : L[i]? = some l) {k : Nat} (h1 : k ∈ l) : k < n := by
  rw [← h.wl]; exact (List.getElem?_eq_some_iff.1 (h.mem i l k hl h1)).1
theorem nodup_le : ∀ (n : Nat) (l : List Nat), l.Nodup → (∀ a ∈ l, a < n) → l.length ≤ n
  | 0, [], _, _ => Nat.le_refl _
  | 0, a :: l, _, h => absurd (h a (by simp)) (by omega)
  | n + 1, l, hd, h => by
    have h1 := nodup_le n (l.erase n) (hd.erase n) fun a ha => by
      have h2 := (hd.mem_erase_iff).1 ha
      have := h a h2.2
      omega
    by_cases hn : n ∈ l
    · rw [List.length_erase_of_mem hn] at h1; omega
    · rw [List.erase_of_not_mem hn] at h1; omega
theorem CInv.len {n : Nat} {x : Ch} {L : List (List Nat)} (h : CInv n x L) {i : Nat} {l : List Nat} (hl : L[i]? = some l) : l.length ≤ n := nodup_le n l (h.nodup i l hl) fun _ ha => h.lt hl ha

theorem CInv.new (n m : Nat) : CInv n (newC n m) (List.replicate m []) := by
  have hL : ∀ (i : Nat) (l : List Nat), (List.replicate m ([] : List Nat))[i]? = some l → i < m ∧ l = [] := fun i l hl => by
    rw [List.getElem?_replicate] at hl
    split at hl
    · rename_i h; injection hl with hl; exact ⟨h, hl.symm⟩
    · cases hl
  refine { nl := by simp [newC], wl := by simp [newC], ll := by simp [newC], ends := fun i l hl => ?_, out := fun k _ i l hl => by rw [(hL i l hl).2]; simp, in_ := fun k w hk hw => ?_, mem := fun i l k hl hk => by rw [(hL i l hl).2] at hk; simp at hk, nodup := fun i l hl => by rw [(hL i l hl).2]; exact List.nodup_nil }
  · obtain ⟨hi, rfl⟩ := hL i l hl
    exact ⟨⟨-1, -1, 0⟩, by simp [newC, hi], rfl, rfl, by simp⟩
  · simp only [newC] at hk
    rw [List.getElem?_replicate] at hk
    split at hk
    · injection hk with hk; exact absurd hk.symm hw
    · cases hk

theorem set_get {α : Type} {l : List α} {k i : Nat} {a x : α} (h : (l.set k a)[i]? = some x) : (i = k ∧ x = a ∧ k < l.length) ∨ (i ≠ k ∧ l[i]? = some x) := by
  rw [List.getElem?_set] at h
  by_cases hk : k = i
  · subst hk
    rw [if_pos rfl] at h
    split at h
    · rename_i hl
      injection h with h
      exact .inl ⟨rfl, h.symm, hl⟩
    · cases h
  · rw [if_neg hk] at h
    exact .inr ⟨fun e => hk e.symm, h⟩

theorem CInv.push {n : Nat} {x : Ch} {L : List (List Nat)} (h : CInv n x L) {i v : Nat} {l : List Nat} {e : Chain.Ends} (hl : L[i]? = some l) (he : x.lists[i]? = some e) (hw : x.where_[v]? = some (-1)) :
    CInv n (Chain.push x i v e) (L.set i (l ++ [v])) ∧ 0 ≤ e.many ∧ e.many ≤ n ∧ (e.many ≠ 0 → ∃ u : Nat, e.last = (u : Int) ∧ u < x.next.length ∧ u ≠ v) := by
  obtain ⟨e', he', h1, h2, h3⟩ := h.ends i l hl
  rw [he] at he'
  injection he' with he'
  subst he'
  have hil : i < L.length := (List.getElem?_eq_some_iff.1 hl).1
  have hix : i < x.lists.length := by rw [h.ll]; exact hil
  have hvn : v < n := by rw [← h.wl]; exact (List.getElem?_eq_some_iff.1 hw).1
  have hvx : v < x.next.length := by rw [h.nl]; exact hvn
  have hvw : v < x.where_.length := by rw [h.wl]; exact hvn
  have hout : ∀ (j : Nat) (m : List Nat), L[j]? = some m → v ∉ m := h.out v hw
  have hlen := h.len hl
  have hlast : e.many ≠ 0 → ∃ u : Nat, e.last = (u : Int) ∧ u ∈ l ∧ l.getLast? = some u := fun hm => by
    cases hg : l.getLast? with
    | none =>
      have : l = [] := by simpa using hg
      subst this
      exact absurd h1 (by simpa using hm)
    | some u => exact ⟨u, h3 u hg, List.mem_of_getLast? hg, rfl⟩
  -- what the new row of links keeps
  have hkeep : ∀ a : Nat, a ≠ v → (∀ u : Nat, e.many ≠ 0 → e.last = (u : Int) → a ≠ u) → (Chain.push x i v e).next[a]? = x.next[a]? := fun a hav hau => by
    show ((if e.many = 0 then x.next else x.next.set e.last.toNat (v : Int)).set v (-1))[a]? = _
    rw [List.getElem?_set_ne (Ne.symm hav)]
    by_cases hm : e.many = 0
    · rw [if_pos hm]
    · rw [if_neg hm]
      obtain ⟨u, hu, _⟩ := hlast hm
      rw [List.getElem?_set_ne]
      intro e'
      exact hau u hm hu (by rw [hu] at e'; simp at e'; exact e'.symm)
  have hlinks : Links (Chain.push x i v e).next (if e.many = 0 then (v : Int) else e.first) (ns (l ++ [v])) := by
    by_cases hm : e.many = 0
    · rw [if_pos hm]
      have hl0 : l = [] := List.eq_nil_of_length_eq_zero (by omega)
      subst hl0
      refine ⟨v, -1, rfl, rfl, ?_, rfl⟩
      show ((if e.many = 0 then x.next else _).set v (-1))[v]? = _
      rw [if_pos hm]
      exact List.getElem?_set_self hvx
    · rw [if_neg hm]
      obtain ⟨u, hu, hul, hug⟩ := hlast hm
      have huv : u ≠ v := fun e' => hout i l hl (e' ▸ hul)
      have hbase : Links (x.next.set v (-1)) e.first (ns l) := links_keep h2 fun a ha => by rw [List.getElem?_set_ne]; rintro rfl; exact hout i l hl ha
      have hone : Links (x.next.set v (-1)) (v : Int) (ns [v]) := ⟨v, -1, rfl, rfl, List.getElem?_set_self hvx, rfl⟩
      have := links_append hone hbase hug (h.nodup i l hl) (by simpa using huv)
      show Links ((if e.many = 0 then x.next else x.next.set e.last.toNat (v : Int)).set v (-1)) _ _
      rw [if_neg hm, hu, Int.toNat_natCast, List.set_comm _ _ huv]
      exact this
  refine ⟨{ nl := ?_, wl := by simp [Chain.push, h.wl], ll := by simp [Chain.push, h.ll], ends := fun j m hm => ?_, out := fun k hk j m hm => ?_, in_ := fun k w hk hw' => ?_, mem := fun j m k hm hk => ?_, nodup := fun j m hm => ?_ }, by omega, by omega, fun hm => ?_⟩
  · show ((if e.many = 0 then x.next else x.next.set e.last.toNat (v : Int)).set v (-1)).length = n
    by_cases hm : e.many = 0
    · rw [if_pos hm, List.length_set, h.nl]
    · rw [if_neg hm, List.length_set, List.length_set, h.nl]
  · rcases set_get hm with ⟨rfl, rfl, _⟩ | ⟨hne, hm⟩
    · refine ⟨_, List.getElem?_set_self hix, ?_, hlinks, fun a ha => ?_⟩
      · show e.many + 1 = _
        rw [h1]; simp
      · simp at ha
        subst ha
        rfl
    · obtain ⟨f, f1, f2, f3, f4⟩ := h.ends j m hm
      refine ⟨f, ?_, f2, links_keep f3 fun a ha => hkeep a (fun e' => hout j m hm (e' ▸ ha)) fun u hm' hu e' => ?_, f4⟩
      · show (x.lists.set i _)[j]? = _
        rw [List.getElem?_set_ne (Ne.symm hne)]
        exact f1
      · subst e'
        obtain ⟨u', hu', hul, _⟩ := hlast hm'
        have : a = u' := by omega
        subst this
        exact hne (h.apart hm hl ha hul)
  · change (x.where_.set v (i : Int))[k]? = some (-1) at hk
    rcases set_get hk with ⟨_, e', _⟩ | ⟨hkv, hk'⟩
    · omega
    · rcases set_get hm with ⟨rfl, rfl, _⟩ | ⟨_, hm⟩
      · have := h.out k hk' j l hl
        simp [this, hkv]
      · exact h.out k hk' j m hm
  · change (x.where_.set v (i : Int))[k]? = some w at hk
    rcases set_get hk with ⟨rfl, rfl, _⟩ | ⟨hkv, hk⟩
    · exact ⟨i, _, rfl, List.getElem?_set_self hil, by simp⟩
    · obtain ⟨j, m, rfl, hj, hkm⟩ := h.in_ k w hk hw'
      by_cases hij : i = j
      · subst hij
        rw [hl] at hj
        injection hj with hj
        subst hj
        exact ⟨i, _, rfl, List.getElem?_set_self hil, by simp [hkm]⟩
      · exact ⟨j, m, rfl, by rw [List.getElem?_set_ne hij]; exact hj, hkm⟩
  · show (x.where_.set v (i : Int))[k]? = _
    rcases set_get hm with ⟨rfl, rfl, _⟩ | ⟨hne, hm⟩
    · by_cases hkv : k = v
      · subst hkv; exact List.getElem?_set_self hvw
      · rw [List.getElem?_set_ne (Ne.symm hkv)]
        refine h.mem j l k hl ?_
        simpa [hkv] using hk
    · rw [List.getElem?_set_ne]
      · exact h.mem j m k hm hk
      · rintro rfl; exact hout j m hm hk
  · rcases set_get hm with ⟨rfl, rfl, _⟩ | ⟨hne, hm⟩
    · rw [List.nodup_append]
      exact ⟨h.nodup j l hl, by simp, fun a ha b hb => by simp at hb; rintro rfl; subst hb; exact hout j l hl ha⟩
    · exact h.nodup j m hm
  · obtain ⟨u, hu, hul, _⟩ := hlast hm
    exact ⟨u, hu, by rw [h.nl]; exact h.lt hl hul, fun e' => hout i l hl (e' ▸ hul)⟩

theorem CInv.pop {n : Nat} {x : Ch} {L : List (List Nat)} (h : CInv n x L) {i v : Nat} {r : List Nat} {e : Chain.Ends} (hl : L[i]? = some (v :: r)) (he : x.lists[i]? = some e) :
    ∃ nv : Int, e.first = (v : Int) ∧ x.next[v]? = some nv ∧ x.where_[v]? = some (i : Int) ∧ 1 ≤ e.many ∧ e.many ≤ n ∧ CInv n (Chain.pop x i v e nv) (L.set i r) := by
  obtain ⟨e', he', h1, h2, h3⟩ := h.ends i _ hl
  rw [he] at he'
  injection he' with he'
  subst he'
  obtain ⟨k, nv, hk1, hk2, hk3, hk4⟩ := h2
  have : v = k := by have hk2 : (v : Int) = k := hk2; omega
  subst this
  have hil : i < L.length := (List.getElem?_eq_some_iff.1 hl).1
  have hix : i < x.lists.length := by rw [h.ll]; exact hil
  have hwv := h.mem i _ v hl (by simp)
  have hvw : v < x.where_.length := (List.getElem?_eq_some_iff.1 hwv).1
  have hvx : v < x.next.length := (List.getElem?_eq_some_iff.1 hk3).1
  have hnd := h.nodup i _ hl
  rw [List.nodup_cons] at hnd
  have hlen := h.len hl
  rw [List.length_cons] at h1 hlen
  have hother : ∀ (j : Nat) (m : List Nat), j ≠ i → L[j]? = some m → v ∉ m := fun j m hj hm hv => hj (h.apart hm hl hv (by simp))
  refine ⟨nv, hk1, hk3, hwv, by omega, by omega, { nl := by simp [Chain.pop, h.nl], wl := by simp [Chain.pop, h.wl], ll := by simp [Chain.pop, h.ll], ends := fun j m hm => ?_, out := fun k hk j m hm => ?_, in_ := fun k w hk hw' => ?_, mem := fun j m k hm hk => ?_, nodup := fun j m hm => ?_ }⟩
  · rcases set_get hm with ⟨rfl, rfl, _⟩ | ⟨hne, hm⟩
    · refine ⟨_, List.getElem?_set_self hix, ?_, links_keep hk4 fun a ha => ?_, fun a ha => ?_⟩
      · show e.many - 1 = _
        omega
      · show (x.next.set v (-1))[a]? = _
        rw [List.getElem?_set_ne]
        rintro rfl
        exact hnd.1 ha
      · show (if e.many = 1 then (-1 : Int) else e.last) = _
        rw [if_neg]
        · refine h3 a ?_
          cases m with
          | nil => simp at ha
          | cons b m => rw [List.getLast?_cons_cons]; exact ha
        · cases m with
          | nil => simp at ha
          | cons b m => rw [List.length_cons] at h1; omega
    · obtain ⟨f, f1, f2, f3, f4⟩ := h.ends j m hm
      refine ⟨f, ?_, f2, links_keep f3 fun a ha => ?_, f4⟩
      · show (x.lists.set i _)[j]? = _
        rw [List.getElem?_set_ne (Ne.symm hne)]
        exact f1
      · show (x.next.set v (-1))[a]? = _
        rw [List.getElem?_set_ne]
        rintro rfl
        exact hother j m hne hm ha
  · change (x.where_.set v (-1))[k]? = some (-1) at hk
    rcases set_get hk with ⟨rfl, _, _⟩ | ⟨hkv, hk'⟩
    · rcases set_get hm with ⟨rfl, rfl, _⟩ | ⟨hne, hm⟩
      · exact hnd.1
      · exact hother j m hne hm
    · rcases set_get hm with ⟨rfl, rfl, _⟩ | ⟨_, hm⟩
      · have := h.out k hk' j _ hl
        simp at this
        exact this.2
      · exact h.out k hk' j m hm
  · change (x.where_.set v (-1))[k]? = some w at hk
    rcases set_get hk with ⟨_, e', _⟩ | ⟨hkv, hk'⟩
    · exact absurd e' hw'
    · obtain ⟨j, m, rfl, hj, hkm⟩ := h.in_ k w hk' hw'
      by_cases hij : i = j
      · subst hij
        rw [hl] at hj
        injection hj with hj
        subst hj
        exact ⟨i, _, rfl, List.getElem?_set_self hil, by simpa [hkv] using hkm⟩
      · exact ⟨j, m, rfl, by rw [List.getElem?_set_ne hij]; exact hj, hkm⟩
  · show (x.where_.set v (-1))[k]? = _
    have hkv : v ≠ k := by
      rintro rfl
      rcases set_get hm with ⟨rfl, rfl, _⟩ | ⟨hne, hm⟩
      · exact hnd.1 hk
      · exact hother j m hne hm hk
    rw [List.getElem?_set_ne hkv]
    rcases set_get hm with ⟨rfl, rfl, _⟩ | ⟨hne, hm⟩
    · exact h.mem j _ k hl (by simp [hk])
    · exact h.mem j m k hm hk
  · rcases set_get hm with ⟨rfl, rfl, _⟩ | ⟨hne, hm⟩
    · exact hnd.2
    · exact h.nodup j m hm

theorem setAll_get {i : Int} : ∀ {l : List Nat} {wh : List Int} {k : Nat}, (∀ a ∈ l, a < wh.length) → (setAll wh l i)[k]? = if k ∈ l then some i else wh[k]?
  | [], _, _, _ => by simp [setAll]
  | a :: l, wh, k, hl => by
    have ih := setAll_get (i := i) (l := l) (wh := wh.set a i) (k := k) (fun b hb => by rw [List.length_set]; exact hl b (by simp [hb]))
    show (setAll (wh.set a i) l i)[k]? = _
    rw [ih]
    by_cases hk : k ∈ l
    · simp [hk]
    · rw [if_neg hk]
      by_cases hka : a = k
      · subst hka
        simp [hl a (by simp)]
      · rw [List.getElem?_set_ne hka, if_neg (by simp [hk, Ne.symm hka])]

theorem CInv.join {n : Nat} {x : Ch} {L : List (List Nat)} (h : CInv n x L) {i j : Nat} {l m : List Nat} {ea eb : Chain.Ends} (hne : i ≠ j) (hl : L[i]? = some l) (hm : L[j]? = some m) (hea : x.lists[i]? = some ea) (heb : x.lists[j]? = some eb) (hz : eb.many ≠ 0) :
    Links x.next eb.first (ns m) ∧ (ea.many ≠ 0 → ∃ u : Nat, ea.last = (u : Int) ∧ u < x.next.length) ∧ (0 ≤ ea.many ∧ ea.many ≤ n ∧ 0 ≤ eb.many ∧ eb.many ≤ n) ∧ CInv n (Chain.join x i j ea eb m) ((L.set i (l ++ m)).set j []) := by
  obtain ⟨e', he', a1, a2, a3⟩ := h.ends i _ hl
  rw [hea] at he'
  injection he' with he'
  subst he'
  obtain ⟨e', he', b1, b2, b3⟩ := h.ends j _ hm
  rw [heb] at he'
  injection he' with he'
  subst he'
  have hil : i < L.length := (List.getElem?_eq_some_iff.1 hl).1
  have hjl : j < L.length := (List.getElem?_eq_some_iff.1 hm).1
  have hix : i < x.lists.length := by rw [h.ll]; exact hil
  have hjx : j < x.lists.length := by rw [h.ll]; exact hjl
  have hlen := h.len hl
  have hlen' := h.len hm
  have hap : ∀ a ∈ l, a ∉ m := fun a ha hb => hne (h.apart hl hm ha hb)
  have hm0 : m ≠ [] := by rintro rfl; exact hz (by simpa using b1)
  have hlast : ea.many ≠ 0 → ∃ u : Nat, ea.last = (u : Int) ∧ u ∈ l ∧ l.getLast? = some u := fun hm => by
    cases hg : l.getLast? with
    | none =>
      have : l = [] := by simpa using hg
      subst this
      exact absurd a1 (by simpa using hm)
    | some u => exact ⟨u, a3 u hg, List.mem_of_getLast? hg, rfl⟩
  have hkeep : ∀ a : Nat, (∀ u : Nat, ea.many ≠ 0 → ea.last = (u : Int) → a ≠ u) → (Chain.join x i j ea eb m).next[a]? = x.next[a]? := fun a hau => by
    show (if ea.many = 0 then x.next else x.next.set ea.last.toNat eb.first)[a]? = _
    by_cases hm : ea.many = 0
    · rw [if_pos hm]
    · rw [if_neg hm]
      obtain ⟨u, hu, _⟩ := hlast hm
      rw [List.getElem?_set_ne]
      intro e'
      exact hau u hm hu (by rw [hu] at e'; simp at e'; exact e'.symm)
  have hlinks : Links (Chain.join x i j ea eb m).next (if ea.many = 0 then eb.first else ea.first) (ns (l ++ m)) := by
    by_cases hz : ea.many = 0
    · rw [if_pos hz]
      have hl0 : l = [] := List.eq_nil_of_length_eq_zero (by omega)
      subst hl0
      show Links (if ea.many = 0 then x.next else _) _ _
      rw [if_pos hz]
      exact b2
    · rw [if_neg hz]
      obtain ⟨u, hu, hul, hug⟩ := hlast hz
      have := links_append b2 a2 hug (h.nodup i l hl) (hap u hul)
      show Links (if ea.many = 0 then x.next else x.next.set ea.last.toNat eb.first) _ _
      rw [if_neg hz, hu, Int.toNat_natCast]
      exact this
  have hws : ∀ k : Nat, (Chain.join x i j ea eb m).where_[k]? = if k ∈ m then some (i : Int) else x.where_[k]? := fun k => setAll_get fun a ha => by rw [h.wl]; exact h.lt hm ha
  refine ⟨b2, fun hz => ?_, by omega, { nl := ?_, wl := ?_, ll := by simp [Chain.join, h.ll], ends := fun q o hq => ?_, out := fun k hk q o hq => ?_, in_ := fun k w hk hw' => ?_, mem := fun q o k hq hk => ?_, nodup := fun q o hq => ?_ }⟩
  · obtain ⟨u, hu, hul, _⟩ := hlast hz
    exact ⟨u, hu, by rw [h.nl]; exact h.lt hl hul⟩
  · show (if ea.many = 0 then x.next else x.next.set ea.last.toNat eb.first).length = n
    split
    · exact h.nl
    · rw [List.length_set, h.nl]
  · show (setAll x.where_ m i).length = n
    rw [setAll_length, h.wl]
  · rcases set_get hq with ⟨rfl, rfl, _⟩ | ⟨hqj, hq⟩
    · exact ⟨⟨-1, -1, 0⟩, List.getElem?_set_self (by simpa using hjx), rfl, rfl, by simp⟩
    · rcases set_get hq with ⟨rfl, rfl, _⟩ | ⟨hqi, hq⟩
      · refine ⟨_, by show ((x.lists.set q _).set j _)[q]? = _; rw [List.getElem?_set_ne (Ne.symm hqj)]; exact List.getElem?_set_self hix, ?_, hlinks, fun a ha => ?_⟩
        · show ea.many + eb.many = _
          rw [a1, b1, List.length_append]; omega
        · refine b3 a ?_
          rw [List.getLast?_append] at ha
          cases hg : m.getLast? with
          | none => exact absurd (by simpa using hg) hm0
          | some b => rw [hg] at ha; exact ha
      · obtain ⟨f, f1, f2, f3, f4⟩ := h.ends q o hq
        refine ⟨f, ?_, f2, links_keep f3 fun a ha => hkeep a fun u hm' hu e' => ?_, f4⟩
        · show ((x.lists.set i _).set j _)[q]? = _
          rw [List.getElem?_set_ne (Ne.symm hqj), List.getElem?_set_ne (Ne.symm hqi)]
          exact f1
        · subst e'
          obtain ⟨u', hu', hul, _⟩ := hlast hm'
          have : a = u' := by omega
          subst this
          exact hqi (h.apart hq hl ha hul)
  · rw [hws] at hk
    split at hk
    · injection hk with hk; omega
    · rename_i hkm
      rcases set_get hq with ⟨rfl, rfl, _⟩ | ⟨_, hq⟩
      · simp
      · rcases set_get hq with ⟨rfl, rfl, _⟩ | ⟨_, hq⟩
        · have := h.out k hk q l hl
          simp [this, hkm]
        · exact h.out k hk q o hq
  · rw [hws] at hk
    split at hk
    · rename_i hkm
      injection hk with hk
      exact ⟨i, _, hk.symm, by rw [List.getElem?_set_ne (Ne.symm hne)]; exact List.getElem?_set_self hil, by simp [hkm]⟩
    · rename_i hkm
      obtain ⟨q, o, rfl, hq, hko⟩ := h.in_ k w hk hw'
      have hqj : j ≠ q := by
        rintro rfl
        rw [hm] at hq
        injection hq with hq
        exact hkm (hq ▸ hko)
      by_cases hqi : i = q
      · subst hqi
        rw [hl] at hq
        injection hq with hq
        subst hq
        exact ⟨i, _, rfl, by rw [List.getElem?_set_ne hqj]; exact List.getElem?_set_self hil, by simp [hko]⟩
      · exact ⟨q, o, rfl, by rw [List.getElem?_set_ne hqj, List.getElem?_set_ne hqi]; exact hq, hko⟩
  · rw [hws]
    rcases set_get hq with ⟨rfl, rfl, _⟩ | ⟨hqj, hq⟩
    · simp at hk
    · rcases set_get hq with ⟨rfl, rfl, _⟩ | ⟨hqi, hq⟩
      · by_cases hkm : k ∈ m
        · rw [if_pos hkm]
        · rw [if_neg hkm]
          exact h.mem q l k hl (by simpa [hkm] using hk)
      · rw [if_neg (fun hkm => hqj (h.apart hq hm hk hkm))]
        exact h.mem q o k hq hk
  · rcases set_get hq with ⟨rfl, rfl, _⟩ | ⟨_, hq⟩
    · exact List.nodup_nil
    · rcases set_get hq with ⟨rfl, rfl, _⟩ | ⟨_, hq⟩
      · rw [List.nodup_append]
        exact ⟨h.nodup q l hl, h.nodup j m hm, fun a ha b hb e' => hap a ha (e' ▸ hb)⟩
      · exact h.nodup q o hq
end Go.Proofs.Ytjblhgljajjdgaa.ChainLaw
