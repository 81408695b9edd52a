/- The plain law of the slab: the slots with their chain of free ones answer as the reference does. No program in sight. -/
import Derived.Test.YthdjagmeggckcaaSlabC
import Derived.Test.YthdjagmeggckcaaRefC
namespace Go.Proofs.Ythdjagmeggckcaa.SlabLaw
open Slab Ref

/-- The free slots, one behind the other, from `next` on. -/
def Chain (slots : List Slot) : Int → List Int → Prop
  | next, [] => next < 0
  | next, f :: r => ∃ (k : Nat) (sl : Slot), f = k ∧ next = k ∧ slots[k]? = some sl ∧ Chain slots sl.next r

theorem Chain.kept {slots slots' : List Slot} : ∀ {l : List Int} {next : Int}, Chain slots next l →
    (∀ (k : Nat) (sl : Slot), (k : Int) ∈ l → slots[k]? = some sl → ∃ sl', slots'[k]? = some sl' ∧ sl'.next = sl.next) → Chain slots' next l
  | [], _, h, _ => h
  | f :: r, next, ⟨k, sl, hf, hn, hs, hc⟩, hk => by
    obtain ⟨sl', h1, h2⟩ := hk k sl (by rw [hf]; simp) hs
    exact ⟨k, sl', hf, hn, h1, by rw [h2]; exact Chain.kept hc fun k' sl' hm => hk k' sl' (by simp [hm])⟩

structure Inv (n c : Nat) (s : Slab.Sl) (x : RS) : Prop where
  ls : s.slots.length = n
  lt : x.turns.length = n
  lk : x.taken.length = n
  slot : ∀ (k : Nat) (sl : Slot), s.slots[k]? = some sl → x.turns[k]? = some sl.turn ∧ (∃ b, x.taken[k]? = some b ∧ sl.state = if b then 1 else 0) ∧ 0 ≤ sl.turn ∧ sl.turn ≤ c
  chain : Chain s.slots s.next x.free
  free : ∀ f ∈ x.free, ∃ k : Nat, f = k ∧ x.taken[k]? = some false
  nodup : x.free.Nodup
  left : s.left = x.free.length
  many : x.free.length ≤ n + c

theorem Inv.mono {n c c' : Nat} {s : Slab.Sl} {x : RS} (h : Inv n c s x) (hc : c ≤ c') : Inv n c' s x :=
  { h with slot := fun k sl hk => by obtain ⟨a, b, d, e⟩ := h.slot k sl hk; exact ⟨a, b, d, by omega⟩, many := by have := h.many; omega }

theorem set_get {α : Type} {l : List α} {k i : Nat} {a x : α} (h : (l.set k a)[i]? = some x) : (i = k ∧ x = a ∧ k < l.length) ∨ (i ≠ k ∧ l[i]? = some x) := by
  rw [List.getElem?_set] at h
  by_cases hk : k = i
  · subst hk
    rw [if_pos rfl] at h
    split at h
    · rename_i hl
      injection h with h
      exact .inl ⟨rfl, h.symm, hl⟩
    · cases h
  · rw [if_neg hk] at h
    exact .inr ⟨fun e => hk e.symm, h⟩

theorem Inv.take {n c : Nat} {s : Slab.Sl} {x : RS} (h : Inv n c s x) {k : Nat} {rest : List Int} {sl : Slot} (hf : x.free = (k : Int) :: rest) (hs : s.slots[k]? = some sl) (hn : s.next = k) :
    Inv n c (Slab.take s k sl) { x with free := rest, taken := x.taken.set k true } := by
  obtain ⟨t1, ⟨b, t2, t3⟩, t4, t5⟩ := h.slot k sl hs
  have hnd := h.nodup
  rw [hf, List.nodup_cons] at hnd
  have hkl : k < x.taken.length := (List.getElem?_eq_some_iff.1 t2).1
  refine { ls := by simp [Slab.take, h.ls], lt := h.lt, lk := by simp [h.lk], slot := fun i y hy => ?_, chain := ?_, free := fun f hfm => ?_, nodup := hnd.2, left := ?_, many := ?_ }
  · rcases set_get hy with ⟨rfl, rfl, hl⟩ | ⟨hne, hy⟩
    · exact ⟨t1, ⟨true, List.getElem?_set_self hkl, rfl⟩, t4, t5⟩
    · obtain ⟨u1, ⟨b', u2, u3⟩, u4⟩ := h.slot i y hy
      exact ⟨u1, ⟨b', by rw [List.getElem?_set_ne (Ne.symm hne)]; exact u2, u3⟩, u4⟩
  · have hc := h.chain
    rw [hf] at hc
    obtain ⟨k', sl', e1, _, e3, e4⟩ := hc
    have : k' = k := by omega
    subst this
    rw [hs] at e3
    injection e3 with e3
    subst e3
    refine e4.kept fun i y hm hy => ?_
    by_cases hi : i = k'
    · subst hi
      exact absurd hm hnd.1
    · exact ⟨y, by simp only [Slab.take]; rw [List.getElem?_set_ne (Ne.symm hi)]; exact hy, rfl⟩
  · obtain ⟨i, rfl, hi⟩ := h.free f (by rw [hf]; simp [hfm])
    refine ⟨i, rfl, ?_⟩
    have hne : k ≠ i := by rintro rfl; exact hnd.1 hfm
    show (x.taken.set k true)[i]? = _
    rw [List.getElem?_set_ne hne]
    exact hi
  · have := h.left
    rw [hf] at this
    simp only [Slab.take, this, List.length_cons]
    omega
  · have := h.many
    rw [hf, List.length_cons] at this
    show rest.length ≤ _
    omega

theorem Inv.give {n c : Nat} {s : Slab.Sl} {x : RS} (h : Inv n c s x) {k : Nat} {sl : Slot} (hs : s.slots[k]? = some sl) (ht : x.taken[k]? = some true) :
    Inv n (c + 1) (Slab.give s k sl.turn) { free := k :: x.free, turns := x.turns.set k (sl.turn + 1), taken := x.taken.set k false } := by
  obtain ⟨t1, _, t4, t5⟩ := h.slot k sl hs
  have hkl : k < x.taken.length := (List.getElem?_eq_some_iff.1 ht).1
  have hkt : k < x.turns.length := (List.getElem?_eq_some_iff.1 t1).1
  have hks : k < s.slots.length := (List.getElem?_eq_some_iff.1 hs).1
  have hout : (k : Int) ∉ x.free := fun hm => by
    obtain ⟨i, e, hi⟩ := h.free _ hm
    have : i = k := by omega
    subst this
    rw [ht] at hi
    cases hi
  refine { ls := by simp [Slab.give, h.ls], lt := by simp [h.lt], lk := by simp [h.lk], slot := fun i y hy => ?_, chain := ?_, free := fun f hfm => ?_, nodup := List.nodup_cons.2 ⟨hout, h.nodup⟩, left := ?_, many := ?_ }
  · rcases set_get hy with ⟨rfl, rfl, hl⟩ | ⟨hne, hy⟩
    · exact ⟨List.getElem?_set_self hkt, ⟨false, List.getElem?_set_self hkl, rfl⟩, by show 0 ≤ sl.turn + 1; omega, by show sl.turn + 1 ≤ _; omega⟩
    · obtain ⟨u1, ⟨b', u2, u3⟩, u4, u5⟩ := h.slot i y hy
      exact ⟨by rw [List.getElem?_set_ne (Ne.symm hne)]; exact u1, ⟨b', by rw [List.getElem?_set_ne (Ne.symm hne)]; exact u2, u3⟩, u4, by omega⟩
  · refine ⟨k, { state := 0, turn := sl.turn + 1, next := s.next }, rfl, rfl, List.getElem?_set_self hks, ?_⟩
    refine h.chain.kept fun i y hm hy => ?_
    by_cases hi : i = k
    · subst hi
      exact absurd hm hout
    · exact ⟨y, by simp only [Slab.give]; rw [List.getElem?_set_ne (Ne.symm hi)]; exact hy, rfl⟩
  · rcases List.mem_cons.1 hfm with rfl | hm
    · exact ⟨k, rfl, List.getElem?_set_self hkl⟩
    · obtain ⟨i, rfl, hi⟩ := h.free f hm
      refine ⟨i, rfl, ?_⟩
      have hne : k ≠ i := by rintro rfl; exact hout hm
      show (x.taken.set k false)[i]? = _
      rw [List.getElem?_set_ne hne]
      exact hi
  · have := h.left
    simp only [Slab.give, this, List.length_cons]
    omega
  · have := h.many
    show (k :: x.free : List Int).length ≤ _
    rw [List.length_cons]
    omega

theorem Inv.of_ {n c : Nat} {s : Slab.Sl} {x : RS} (h : Inv n c s x) (a : Int) :
    (∃ (k : Nat) (sl : Slot), a = k ∧ s.slots[k]? = some sl ∧ x.taken[k]? = some true ∧ Slab.of_ s a = some sl ∧ sl.state ≠ 0) ∨
    (Slab.of_ s a = none ∧ (a < 0 ∨ (n : Int) ≤ a ∨ ∃ k : Nat, a = k ∧ x.taken[k]? = some false)) := by
  by_cases h0 : a < 0
  · exact .inr ⟨by unfold Slab.of_; rw [if_neg (by omega)], .inl h0⟩
  · obtain ⟨k, rfl⟩ := Int.eq_ofNat_of_zero_le (by omega : 0 ≤ a)
    by_cases h1 : n ≤ k
    · exact .inr ⟨by unfold Slab.of_; rw [if_pos (by omega), Int.toNat_natCast, List.getElem?_eq_none (by rw [h.ls]; exact h1)]; rfl, .inr (.inl (by omega))⟩
    · obtain ⟨sl, hs⟩ : ∃ sl, s.slots[k]? = some sl := ⟨s.slots[k]'(by rw [h.ls]; omega), List.getElem?_eq_getElem _⟩
      obtain ⟨_, ⟨b, t2, t3⟩, _⟩ := h.slot k sl hs
      cases b with
      | true => exact .inl ⟨k, sl, rfl, hs, t2, by unfold Slab.of_; rw [if_pos (by omega), Int.toNat_natCast, hs]; simp [t3, Option.filter], by simp [t3]⟩
      | false => exact .inr ⟨by unfold Slab.of_; rw [if_pos (by omega), Int.toNat_natCast, hs]; simp [t3, Option.filter], .inr (.inr ⟨k, rfl, t2⟩)⟩

theorem Inv.live {n c : Nat} {s : Slab.Sl} {x : RS} (h : Inv n c s x) (a t : Int) : Slab.live s a t = rlive x a t := by
  rcases h.of_ a with ⟨k, sl, rfl, hs, ht, ho, _⟩ | ⟨ho, h1⟩
  · unfold Slab.live rlive
    rw [ho, if_pos (by omega), Int.toNat_natCast, ht, (h.slot k sl hs).1]
  · unfold Slab.live rlive
    rw [ho]
    rcases h1 with h1 | h1 | ⟨k, rfl, h1⟩
    · rw [if_neg (by omega)]
    · obtain ⟨k, rfl⟩ := Int.eq_ofNat_of_zero_le (by omega : 0 ≤ a)
      rw [if_pos (by omega), Int.toNat_natCast, List.getElem?_eq_none (by rw [h.lk]; omega)]
    · rw [if_pos (by omega), Int.toNat_natCast, h1]

theorem chain_new (n : Nat) (hn : 1 ≤ n) : ∀ (m k : Nat), k + m = n → 0 < m → Chain (newSlots n) k ((ints n).drop k)
  | 0, k, h, h0 => absurd h0 (by omega)
  | m + 1, k, h, _ => by
    have hkn : k < n := by omega
    have hd : (ints n).drop k = (k : Int) :: (ints n).drop (k + 1) := by
      rw [List.drop_eq_getElem_cons (by rw [ints_length]; exact hkn)]
      simp [ints]
    rw [hd]
    by_cases hl : k + 1 = n
    · refine ⟨k, ⟨0, 0, -1⟩, rfl, rfl, ?_, ?_⟩
      · unfold newSlots
        rw [show n - 1 = k by omega, List.getElem?_set_self (by simp [mid]; exact hkn)]
      · rw [hl, List.drop_eq_nil_of_le (by rw [ints_length]; exact Nat.le_refl _)]
        show (-1 : Int) < 0
        decide
    · refine ⟨k, ⟨0, 0, (k : Int) + 1⟩, rfl, rfl, ?_, ?_⟩
      · unfold newSlots
        rw [List.getElem?_set_ne (by omega), mid_get hkn, if_pos hkn]
      · exact chain_new n hn m (k + 1) (by omega) (by omega)

theorem newSlots_get {n k : Nat} {sl : Slot} (h : (newSlots n)[k]? = some sl) : k < n ∧ sl.state = 0 ∧ sl.turn = 0 := by
  unfold newSlots at h
  rcases set_get h with ⟨rfl, rfl, hl⟩ | ⟨_, h⟩
  · exact ⟨by simpa [mid] using hl, rfl, rfl⟩
  · have hk : k < n := by
      have := (List.getElem?_eq_some_iff.1 h).1
      simpa [mid] using this
    rw [mid_get hk] at h
    injection h with h
    subst h
    exact ⟨hk, rfl, rfl⟩

theorem Inv.new (n : Nat) (hn : 1 ≤ n) : Inv n 0 (Slab.new n) (newRS n) := by
  refine { ls := by simp [Slab.new, newSlots, mid], lt := by simp [newRS], lk := by simp [newRS], slot := fun k sl hk => ?_, chain := ?_, free := fun f hf => ?_, nodup := ?_, left := by simp [Slab.new, newRS, ints_length], many := by simp [newRS, ints_length] }
  · obtain ⟨h1, h2, h3⟩ := newSlots_get hk
    exact ⟨by simp [newRS, h1, h3], ⟨false, by simp [newRS, h1], by rw [h2]; rfl⟩, by omega, by omega⟩
  · have := chain_new n hn n 0 (by omega) (by omega)
    simpa [Slab.new, newRS] using this
  · simp only [newRS, ints, List.mem_map, List.mem_range] at hf
    obtain ⟨k, hk, rfl⟩ := hf
    exact ⟨k, rfl, by simp [newRS, hk]⟩
  · have : (List.range n).Nodup := List.nodup_range
    simp only [newRS, ints]
    exact List.Pairwise.map _ (fun a b hab e => hab (by omega)) this
end Go.Proofs.Ythdjagmeggckcaa.SlabLaw
