/- The plain law of SlabOnce: no handle is told twice. The reference's slab goes along as a ghost. -/
import Derived.Test.YthdjagmeggckcaaSlabLaw
namespace Go.Proofs.Ythdjagmeggckcaa.SlabLaw
open Slab Ref

structure H where
  slot : Int
  turn : Int
deriving DecidableEq

/-- A handle that is live: of slot k. -/
def LiveH (s : Slab.Sl) (x : RS) (h : H) : Prop := ∃ (k : Nat) (sl : Slot), h.slot = k ∧ h.turn = sl.turn ∧ s.slots[k]? = some sl ∧ x.taken[k]? = some true

structure Once (n c : Nat) (s : Slab.Sl) (x : RS) (now ever : List H) : Prop where
  inv : Inv n c s x
  live : ∀ h ∈ now, LiveH s x h
  apart : (now.map (·.slot)).Nodup
  count : now.length + x.free.length = n
  old : ∀ h ∈ ever, ∃ (k : Nat) (sl : Slot), h.slot = k ∧ s.slots[k]? = some sl ∧ (h.turn < sl.turn ∨ (h.turn = sl.turn ∧ x.taken[k]? = some true))
  many : ever.length ≤ c

theorem Once.new (n : Nat) (hn : 1 ≤ n) : Once n 0 (Slab.new n) (newRS n) [] [] :=
  { inv := Inv.new n hn, live := by simp, apart := by simp, count := by simp [newRS, ints_length], old := by simp, many := by simp }

/-- What Take tells is new. -/
theorem Once.fresh {n c : Nat} {s : Slab.Sl} {x : RS} {now ever : List H} (h : Once n c s x now ever) {k : Nat} {rest : List Int} {sl : Slot} (hf : x.free = (k : Int) :: rest) (hs : s.slots[k]? = some sl) :
    ∀ e ∈ ever, ¬ (e.slot = k ∧ e.turn = sl.turn) := by
  rintro e he ⟨h1, h2⟩
  obtain ⟨k', sl', e1, e2, e3⟩ := h.old e he
  have : k' = k := by omega
  subst this
  rw [hs] at e2
  injection e2 with e2
  subst e2
  rcases e3 with e3 | ⟨_, e3⟩
  · omega
  · obtain ⟨i, hi, ht⟩ := h.inv.free (k' : Int) (by rw [hf]; simp)
    have : i = k' := by omega
    subst this
    rw [ht] at e3
    cases e3

theorem Once.take {n c : Nat} {s : Slab.Sl} {x : RS} {now ever : List H} (h : Once n c s x now ever) {k : Nat} {rest : List Int} {sl : Slot} (hf : x.free = (k : Int) :: rest) (hs : s.slots[k]? = some sl) (hn : s.next = k) :
    Once n (c + 1) (Slab.take s k sl) { x with free := rest, taken := x.taken.set k true } (now ++ [⟨k, sl.turn⟩]) (ever ++ [⟨k, sl.turn⟩]) := by
  have hi := h.inv.take hf hs hn
  have hkl : k < s.slots.length := (List.getElem?_eq_some_iff.1 hs).1
  obtain ⟨_, ⟨b, hb, _⟩, _⟩ := h.inv.slot k sl hs
  have hkt : k < x.taken.length := (List.getElem?_eq_some_iff.1 hb).1
  have hfree : x.taken[k]? = some false := by
    obtain ⟨i, hi, ht⟩ := h.inv.free (k : Int) (by rw [hf]; simp)
    have : i = k := by omega
    subst this
    exact ht
  have hself : LiveH (Slab.take s k sl) { x with free := rest, taken := x.taken.set k true } ⟨k, sl.turn⟩ := ⟨k, { sl with state := 1 }, rfl, rfl, List.getElem?_set_self hkl, List.getElem?_set_self hkt⟩
  have hkeep : ∀ e, LiveH s x e → e.slot ≠ k ∧ LiveH (Slab.take s k sl) { x with free := rest, taken := x.taken.set k true } e := by
    rintro e ⟨k', sl', h1, h2, h3, h4⟩
    have hne : k ≠ k' := by
      rintro rfl
      rw [hfree] at h4
      cases h4
    refine ⟨by omega, k', sl', h1, h2, ?_, ?_⟩
    · simp only [Slab.take]
      rw [List.getElem?_set_ne hne]
      exact h3
    · show (x.taken.set k true)[k']? = _
      rw [List.getElem?_set_ne hne]
      exact h4
  refine { inv := hi.mono (Nat.le_succ c), live := fun e he => ?_, apart := ?_, count := ?_, old := fun e he => ?_, many := by have := h.many; simp; omega }
  · rcases List.mem_append.1 he with he | he
    · exact (hkeep e (h.live e he)).2
    · rw [List.mem_singleton] at he
      subst he
      exact hself
  · rw [List.map_append, List.nodup_append]
    refine ⟨h.apart, by simp, ?_⟩
    intro a ha b hb
    simp at hb
    subst hb
    obtain ⟨e, he, rfl⟩ := List.mem_map.1 ha
    exact (hkeep e (h.live e he)).1
  · have := h.count
    rw [hf, List.length_cons] at this
    simp only [List.length_append, List.length_cons, List.length_nil]
    omega
  · rcases List.mem_append.1 he with he | he
    · obtain ⟨k', sl', h1, h2, h3⟩ := h.old e he
      by_cases hk : k = k'
      · subst hk
        rw [hs] at h2
        injection h2 with h2
        subst h2
        refine ⟨k, { sl with state := 1 }, h1, List.getElem?_set_self hkl, ?_⟩
        rcases h3 with h3 | ⟨_, h3⟩
        · exact .inl h3
        · rw [hfree] at h3; cases h3
      · refine ⟨k', sl', h1, by simp only [Slab.take]; rw [List.getElem?_set_ne hk]; exact h2, ?_⟩
        rcases h3 with h3 | ⟨h3, h4⟩
        · exact .inl h3
        · exact .inr ⟨h3, by show (x.taken.set k true)[k']? = _; rw [List.getElem?_set_ne hk]; exact h4⟩
    · rw [List.mem_singleton] at he
      subst he
      exact ⟨k, { sl with state := 1 }, rfl, List.getElem?_set_self hkl, .inr ⟨rfl, List.getElem?_set_self hkt⟩⟩

/-- A live handle is given back: the i-th. -/
theorem Once.give {n c : Nat} {s : Slab.Sl} {x : RS} {now ever : List H} (h : Once n c s x now ever) {i : Nat} {e : H} (hi : now[i]? = some e) :
    ∃ (k : Nat) (sl : Slot), e = ⟨k, sl.turn⟩ ∧ s.slots[k]? = some sl ∧ sl.state ≠ 0 ∧ 0 ≤ sl.turn ∧ sl.turn ≤ c ∧
      Once n (c + 1) (Slab.give s k sl.turn) { free := k :: x.free, turns := x.turns.set k (sl.turn + 1), taken := x.taken.set k false } (now.take i ++ now.drop (i + 1)) ever ∧
      Slab.live s k sl.turn = true ∧ Slab.live (Slab.give s k sl.turn) k sl.turn = false := by
  obtain ⟨k, sl, h1, h2, h3, h4⟩ := h.live e (List.mem_of_getElem? hi)
  have hkl : k < s.slots.length := (List.getElem?_eq_some_iff.1 h3).1
  have hkt : k < x.taken.length := (List.getElem?_eq_some_iff.1 h4).1
  obtain ⟨t1, ⟨b, t2, t3⟩, t4, t5⟩ := h.inv.slot k sl h3
  rw [h4] at t2
  injection t2 with t2
  subst t2
  have hsp : now = now.take i ++ e :: now.drop (i + 1) := by
    have hl := (List.getElem?_eq_some_iff.1 hi)
    obtain ⟨hl, he⟩ := hl
    rw [← he, ← List.drop_eq_getElem_cons hl, List.take_append_drop]
  have hap := h.apart
  rw [hsp, List.map_append, List.map_cons, List.nodup_append] at hap
  obtain ⟨ap1, ap2, ap3⟩ := hap
  rw [List.nodup_cons] at ap2
  have hother : ∀ f ∈ now.take i ++ now.drop (i + 1), f.slot ≠ k ∧ LiveH s x f := by
    intro f hf
    have hmem : f ∈ now := by
      rw [hsp]
      rcases List.mem_append.1 hf with hf | hf
      · exact List.mem_append.2 (.inl hf)
      · exact List.mem_append.2 (.inr (List.mem_cons_of_mem _ hf))
    refine ⟨fun ek => ?_, h.live f hmem⟩
    rcases List.mem_append.1 hf with hf | hf
    · exact ap3 _ (List.mem_map.2 ⟨f, hf, rfl⟩) _ (List.mem_cons.2 (.inl rfl)) (by rw [ek, h1])
    · exact ap2.1 (by rw [h1, ← ek]; exact List.mem_map.2 ⟨f, hf, rfl⟩)
  refine ⟨k, sl, ?_, h3, by simp [t3], t4, t5, ?_, ?_, ?_⟩
  · cases e; simp only at h1 h2; rw [h1, h2]
  · refine { inv := h.inv.give h3 h4, live := fun f hf => ?_, apart := ?_, count := ?_, old := fun f hf => ?_, many := by have := h.many; omega }
    · obtain ⟨hne, k', sl', u1, u2, u3, u4⟩ := hother f hf
      have hkk : k ≠ k' := by omega
      exact ⟨k', sl', u1, u2, by simp only [Slab.give]; rw [List.getElem?_set_ne hkk]; exact u3, by show (x.taken.set k false)[k']? = _; rw [List.getElem?_set_ne hkk]; exact u4⟩
    · rw [List.map_append, List.nodup_append]
      exact ⟨ap1, ap2.2, fun a ha b hb => ap3 a ha b (List.mem_cons_of_mem _ hb)⟩
    · have := h.count
      rw [hsp, List.length_append, List.length_cons] at this
      show (now.take i ++ now.drop (i + 1)).length + ((k : Int) :: x.free).length = n
      rw [List.length_append, List.length_cons]
      omega
    · obtain ⟨k', sl', u1, u2, u3⟩ := h.old f hf
      by_cases hk : k = k'
      · subst hk
        rw [h3] at u2
        injection u2 with u2
        subst u2
        refine ⟨k, _, u1, List.getElem?_set_self hkl, .inl ?_⟩
        show f.turn < sl.turn + 1
        rcases u3 with u3 | ⟨u3, _⟩ <;> omega
      · refine ⟨k', sl', u1, by simp only [Slab.give]; rw [List.getElem?_set_ne hk]; exact u2, ?_⟩
        rcases u3 with u3 | ⟨u3, u4⟩
        · exact .inl u3
        · exact .inr ⟨u3, by show (x.taken.set k false)[k']? = _; rw [List.getElem?_set_ne hk]; exact u4⟩
  · unfold Slab.live Slab.of_
    rw [if_pos (by omega), Int.toNat_natCast, h3]
    simp [t3, Option.filter]
  · unfold Slab.live Slab.of_
    rw [if_pos (by omega), Int.toNat_natCast]
    simp only [Slab.give]
    rw [List.getElem?_set_self hkl]
    rfl

theorem Once.free {n c : Nat} {s : Slab.Sl} {x : RS} {now ever : List H} (h : Once n c s x now ever) :
    (x.free = [] ∧ s.next < 0 ∧ now.length = n) ∨ (∃ (k : Nat) (rest : List Int) (sl : Slot), x.free = (k : Int) :: rest ∧ s.slots[k]? = some sl ∧ s.next = k ∧ now.length < n ∧ 1 ≤ s.left) := by
  have hc := h.inv.chain
  have hl := h.inv.left
  have hn := h.count
  cases hf : x.free with
  | nil =>
    rw [hf] at hc hn
    exact .inl ⟨rfl, hc, by simpa using hn⟩
  | cons a r =>
    rw [hf] at hc hn hl
    obtain ⟨k, sl, rfl, h2, h3, _⟩ := hc
    rw [List.length_cons] at hn hl
    exact .inr ⟨k, r, sl, rfl, h3, h2, by omega, by omega⟩
end Go.Proofs.Ythdjagmeggckcaa.SlabLaw
