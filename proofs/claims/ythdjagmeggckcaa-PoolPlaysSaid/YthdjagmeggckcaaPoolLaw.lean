/- The plain law of PoolHolds: what is kept comes back, and there is never more than there is room for. No program in sight. -/
import Derived.Test.YthdjagmeggckcaaPoolE
import Derived.Test.YthdjagmeggckcaaOnceLaw
namespace Go.Proofs.Ythdjagmeggckcaa.PoolLaw
open Pool SlabLaw

def total : List (H × Pk) → Int
  | [] => 0
  | e :: l => e.2.size + total l
theorem total_snoc (l : List (H × Pk)) (e : H × Pk) : total (l ++ [e]) = total l + e.2.size := by
  induction l with
  | nil => simp [total]
  | cons a l ih => simp only [List.cons_append, total, ih]; omega

structure Hold (n c : Nat) (y : Pl) (x : Ref.RS) (l : List (H × Pk)) (ever : List H) : Prop where
  once : Once n c y.s x (l.map Prod.fst) ever
  at_ : ∀ e ∈ l, y.f e.1.slot = some e.2
  none_ : ∀ k, (∀ e ∈ l, e.1.slot ≠ k) → y.f k = none
  many : y.n = l.length
  bytes : y.bytes = total l
  sized : ∀ e ∈ l, 1 ≤ e.2.size ∧ e.2.size ≤ 2048
  le : y.bytes ≤ y.room

theorem total_pos {l : List (H × Pk)} (h : ∀ e ∈ l, 1 ≤ e.2.size ∧ e.2.size ≤ 2048) : 0 ≤ total l := by
  induction l with
  | nil => exact Int.le_refl _
  | cons a l ih =>
    have := ih fun e he => h e (List.mem_cons_of_mem _ he)
    have := (h a (List.mem_cons_self ..)).1
    simp only [total]; omega

theorem fits_zero {y : Pl} {n : Int} (h : fitsR y n = 0) : 1 ≤ n ∧ n ≤ 2048 ∧ y.s.left ≠ 0 ∧ n ≤ y.room - y.bytes := by
  unfold fitsR at h
  by_cases h1 : n < 1 ∨ 2048 < n
  · rw [if_pos h1] at h; omega
  · rw [if_neg h1] at h
    by_cases h2 : y.s.left = 0
    · rw [if_pos h2] at h; omega
    · rw [if_neg h2] at h
      by_cases h3 : y.room - y.bytes < n
      · rw [if_pos h3] at h; omega
      · exact ⟨by omega, by omega, h2, by omega⟩

theorem Hold.new (n : Nat) (hn : 1 ≤ n) (room : Int) (hr : 0 ≤ room) : Hold n 0 (Pool.new n room) (Ref.newRS n) [] [] :=
  { once := Once.new n hn, at_ := by simp, none_ := fun _ _ => rfl, many := rfl, bytes := rfl, sized := by simp, le := hr }

theorem Hold.mono {n c c' : Nat} {y : Pl} {x : Ref.RS} {l : List (H × Pk)} {ever : List H} (h : Hold n c y x l ever) (hc : c ≤ c') : Hold n c' y x l ever :=
  { h with once := { h.once with inv := h.once.inv.mono hc, many := Nat.le_trans h.once.many hc } }

theorem Hold.put {n c : Nat} {y : Pl} {x : Ref.RS} {l : List (H × Pk)} {ever : List H} (h : Hold n c y x l ever) {z : Pk} (hf : fitsR y z.size = 0) :
    ∃ (k : Nat) (sl : Slab.Slot) (x' : Ref.RS) (ever' : List H), y.s.next = (k : Int) ∧ y.s.slots[k]? = some sl ∧ 1 ≤ y.s.left ∧ y.s.left ≤ n ∧ l.length < n ∧
      Hold n (c + 1) (Pool.put y k sl z) x' (l ++ [(⟨k, sl.turn⟩, z)]) ever' := by
  obtain ⟨f1, f2, f3, f4⟩ := fits_zero hf
  have hl := h.once.inv.left
  have hc := h.once.count
  rw [List.length_map] at hc
  rcases h.once.free with ⟨e, _, _⟩ | ⟨k, rest, sl, h1, h2, h3, h4, h5⟩
  · rw [e] at hl; exact absurd hl f3
  · have ht := h.once.take h1 h2 h3
    have hap := ht.apart
    rw [List.map_append, List.nodup_append] at hap
    have hne : ∀ e ∈ l, e.1.slot ≠ (k : Int) := fun e he => hap.2.2 _ (List.mem_map.2 ⟨e.1, List.mem_map.2 ⟨e, he, rfl⟩, rfl⟩) _ (by simp)
    have hfk := h.none_ k hne
    have ht' : Once n (c + 1) (Slab.take y.s k sl) { x with free := rest, taken := x.taken.set k true } ((l ++ [((⟨k, sl.turn⟩ : H), z)]).map Prod.fst) (ever ++ [⟨k, sl.turn⟩]) := by rw [List.map_append]; exact ht
    refine ⟨k, sl, { x with free := rest, taken := x.taken.set k true }, ever ++ [⟨k, sl.turn⟩], h3, h2, h5, by omega, by simpa using h4, { once := (show Once n (c + 1) (Pool.put y k sl z).s { x with free := rest, taken := x.taken.set k true } ((l ++ [((⟨k, sl.turn⟩ : H), z)]).map Prod.fst) (ever ++ [⟨k, sl.turn⟩]) from ht'), at_ := fun e he => ?_, none_ := fun j hj => ?_, many := ?_, bytes := ?_, sized := fun e he => ?_, le := ?_ }⟩
    · rcases List.mem_append.1 he with he | he
      · show (if e.1.slot = (k : Int) then some z else y.f e.1.slot) = _
        rw [if_neg (hne e he)]
        exact h.at_ e he
      · rw [List.mem_singleton] at he
        subst he
        show (if (k : Int) = (k : Int) then some z else y.f k) = _
        rw [if_pos rfl]
    · show (if j = (k : Int) then some z else y.f j) = none
      rw [if_neg (fun e => hj (⟨k, sl.turn⟩, z) (by simp) e.symm)]
      exact h.none_ j fun e he => hj e (by simp [he])
    · show (if (y.f k).isSome then y.n else y.n + 1) = _
      rw [hfk, h.many]
      simp
    · show y.bytes + z.size = _
      rw [total_snoc, h.bytes]
    · rcases List.mem_append.1 he with he | he
      · exact h.sized e he
      · rw [List.mem_singleton] at he
        subst he
        exact ⟨f1, f2⟩
    · show y.bytes + z.size ≤ y.room
      omega

theorem Hold.free {n c : Nat} {y : Pl} {x : Ref.RS} {e : H × Pk} {l : List (H × Pk)} {ever : List H} (h : Hold n c y x (e :: l) ever) :
    ∃ (k : Nat) (sl : Slab.Slot) (x' : Ref.RS), e.1 = ⟨k, sl.turn⟩ ∧ y.s.slots[k]? = some sl ∧ sl.state ≠ 0 ∧ 0 ≤ sl.turn ∧ sl.turn ≤ c ∧ y.f k = some e.2 ∧
      Slab.live y.s k sl.turn = true ∧ Slab.live (Slab.give y.s k sl.turn) k sl.turn = false ∧ Hold n (c + 1) (Pool.free y k sl e.2) x' l ever := by
  have hap := h.once.apart
  obtain ⟨k, sl, h1, h2, h3, h4, h5, h6, h7, h8⟩ := h.once.give (i := 0) (e := e.1) (by simp)
  have he := h.at_ e (List.mem_cons_self ..)
  rw [List.map_cons, List.map_cons, List.nodup_cons] at hap
  have hs : e.1.slot = (k : Int) := by rw [h1]
  have hne : ∀ e' ∈ l, e'.1.slot ≠ (k : Int) := fun e' he' hk => hap.1 (by rw [hs, ← hk]; exact List.mem_map.2 ⟨e'.1, List.mem_map.2 ⟨e', he', rfl⟩, rfl⟩)
  rw [hs] at he
  have hb := h.bytes
  have hp := total_pos (l := l) fun e he => h.sized e (List.mem_cons_of_mem _ he)
  have hz := h.sized e (List.mem_cons_self ..)
  have hle := h.le
  simp only [total] at hb
  refine ⟨k, sl, { free := k :: x.free, turns := x.turns.set k (sl.turn + 1), taken := x.taken.set k false }, h1, h2, h3, h4, h5, he, h7, h8, { once := by show Once n (c + 1) (Slab.give y.s k sl.turn) _ _ _; simpa using h6, at_ := fun e' he' => ?_, none_ := fun j hj => ?_, many := ?_, bytes := ?_, sized := fun e' he' => h.sized e' (List.mem_cons_of_mem _ he'), le := ?_ }⟩
  · show (if e'.1.slot = (k : Int) then none else y.f e'.1.slot) = _
    rw [if_neg (hne e' he')]
    exact h.at_ e' (List.mem_cons_of_mem _ he')
  · show (if j = (k : Int) then none else y.f j) = none
    by_cases hj' : j = (k : Int)
    · rw [if_pos hj']
    · rw [if_neg hj']
      refine h.none_ j fun e' he' => ?_
      rcases List.mem_cons.1 he' with rfl | he'
      · rw [hs]; exact Ne.symm hj'
      · exact hj e' he'
  · show (if (y.f k).isSome then y.n - 1 else y.n) = _
    rw [he, h.many]
    simp
  · show y.bytes - e.2.size = _
    omega
  · show y.bytes - e.2.size ≤ y.room
    omega
end Go.Proofs.Ythdjagmeggckcaa.PoolLaw
