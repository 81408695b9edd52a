/- The plain law of PoolPlays: the pool answers as the reference does. No program in sight. -/
import Derived.Test.YthdjagmeggckcaaPrefC
import Derived.Test.YthdjagmeggckcaaPoolLaw
namespace Go.Proofs.Ythdjagmeggckcaa.PlayLaw
open Pool SlabLaw Pref

theorem sum_set_same {tk : List Bool} {kp : List Pk} {k : Nat} {z y : Pk} (hy : kp[k]? = some y) (ht : tk[k]? = some false) :
    ∀ m, sum (tk.set k true) (kp.set k z) m = sum tk kp m + if k < m then z.size else 0
  | 0 => by simp [sum]
  | m + 1 => by
    have ih := sum_set_same (z := z) hy ht m
    unfold sum
    rw [ih]
    by_cases hk : k = m
    · subst hk
      have h1 := (List.getElem?_eq_some_iff.1 ht).1
      have h2 := (List.getElem?_eq_some_iff.1 hy).1
      rw [List.getElem?_set_self h1, List.getElem?_set_self h2, ht]
      simp
    · rw [List.getElem?_set_ne hk, List.getElem?_set_ne hk]
      by_cases hlt : k < m
      · rw [if_pos hlt, if_pos (show k < m + 1 by omega)]; exact Int.add_right_comm _ _ _
      · rw [if_neg hlt, if_neg (show ¬ k < m + 1 by omega), Int.add_zero, Int.add_zero]

theorem sum_unset {tk : List Bool} {kp : List Pk} {k : Nat} {y : Pk} (hy : kp[k]? = some y) (ht : tk[k]? = some true) :
    ∀ m, sum (tk.set k false) kp m = sum tk kp m - if k < m then y.size else 0
  | 0 => by simp [sum]
  | m + 1 => by
    have ih := sum_unset hy ht m
    unfold sum
    rw [ih]
    by_cases hk : k = m
    · subst hk
      have h1 := (List.getElem?_eq_some_iff.1 ht).1
      rw [List.getElem?_set_self h1, ht, hy]
      simp
    · rw [List.getElem?_set_ne hk]
      by_cases hlt : k < m
      · rw [if_pos hlt, if_pos (show k < m + 1 by omega), Int.sub_eq_add_neg, Int.sub_eq_add_neg]; exact Int.add_right_comm _ _ _
      · rw [if_neg hlt, if_neg (show ¬ k < m + 1 by omega), Int.sub_zero, Int.sub_zero]

theorem nodup_len {α : Type} [BEq α] [LawfulBEq α] : ∀ (l m : List α), l.Nodup → (∀ a ∈ l, a ∈ m) → l.length ≤ m.length
  | [], _, _, _ => Nat.zero_le _
  | a :: l, m, hn, hs => by
    rw [List.nodup_cons] at hn
    have ha := hs a (List.mem_cons_self ..)
    have := nodup_len l (m.erase a) hn.2 fun b hb => (List.mem_erase_of_ne (by rintro rfl; exact hn.1 hb)).2 (hs b (List.mem_cons_of_mem _ hb))
    rw [List.length_erase_of_mem ha] at this
    have := List.length_pos_of_mem ha
    rw [List.length_cons]
    omega

structure PInv (n c : Nat) (y : Pl) (x : RP) : Prop where
  inv : Inv n c y.s x.rs
  len : x.kept.length = n
  room : y.room = x.room
  at_ : ∀ k : Nat, x.rs.taken[k]? = some true → ∃ p, x.kept[k]? = some p ∧ y.f k = some p ∧ 1 ≤ p.size ∧ p.size ≤ 2048
  none_ : ∀ k : Int, (∀ j : Nat, k = j → x.rs.taken[j]? ≠ some true) → y.f k = none
  many : y.n + x.rs.free.length = n
  bytes : y.bytes = rbytes x
  le : y.bytes ≤ y.room

theorem PInv.mono {n c c' : Nat} {y : Pl} {x : RP} (h : PInv n c y x) (hc : c ≤ c') : PInv n c' y x := { h with inv := h.inv.mono hc }

theorem sum_zero (n : Nat) (kp : List Pk) : ∀ m, sum (List.replicate n false) kp m = 0
  | 0 => rfl
  | m + 1 => by
    unfold sum
    rw [sum_zero n kp m, if_neg (by rw [List.getElem?_replicate]; split <;> simp)]
    rfl

theorem PInv.new (n : Nat) (hn : 1 ≤ n) (room : Int) (hr : 0 ≤ room) : PInv n 0 (Pool.new n room) (newRP n room) :=
  { inv := Inv.new n hn, len := by simp [newRP], room := rfl,
    at_ := fun k hk => by simp [newRP, Ref.newRS, List.getElem?_replicate] at hk,
    none_ := fun _ _ => rfl, many := by simp [newRP, Ref.newRS, Ref.ints_length, Pool.new],
    bytes := by show (0 : Int) = _; unfold rbytes; simp only [newRP, Ref.newRS]; rw [sum_zero], le := hr }

theorem PInv.sized {n c : Nat} {y : Pl} {x : RP} (h : PInv n c y x) : Sized x := fun i z ht hz => by
  obtain ⟨p, h1, _, h3, h4⟩ := h.at_ i ht
  rw [hz] at h1
  injection h1 with h1
  subst h1
  exact ⟨h3, h4⟩

theorem PInv.bytes0 {n c : Nat} {y : Pl} {x : RP} (h : PInv n c y x) : 0 ≤ y.bytes := by
  rw [h.bytes]; exact (sum_bound h.sized _).1

theorem PInv.fits {n c : Nat} {y : Pl} {x : RP} (h : PInv n c y x) (m : Int) : fitsR y m = rfits x m := by
  unfold fitsR rfits
  have hl := h.inv.left
  have hb := h.bytes
  have hr := h.room
  by_cases h1 : m < 1 ∨ 2048 < m
  · rw [if_pos h1, if_pos h1]
  · rw [if_neg h1, if_neg h1]
    by_cases h2 : x.rs.free = []
    · rw [if_pos h2, if_pos (by rw [hl, h2]; rfl)]
    · have h2' : x.rs.free.length ≠ 0 := fun e => h2 (List.eq_nil_of_length_eq_zero e)
      rw [if_neg h2, if_neg (by omega)]
      by_cases h3 : x.room < rbytes x + m
      · rw [if_pos h3, if_pos (by omega)]
      · rw [if_neg h3, if_neg (by omega)]

theorem PInv.put {n c : Nat} {y : Pl} {x : RP} (h : PInv n c y x) {z : Pk} (hf : fitsR y z.size = 0) :
    ∃ (k : Nat) (rest : List Int) (sl : Slab.Slot), x.rs.free = (k : Int) :: rest ∧ y.s.next = (k : Int) ∧ y.s.slots[k]? = some sl ∧ x.rs.turns[k]? = some sl.turn ∧ k < x.kept.length ∧ 1 ≤ y.s.left ∧ y.s.left ≤ n + c ∧
      PInv n c (Pool.put y k sl z) { x with rs := { x.rs with free := rest, taken := x.rs.taken.set k true }, kept := x.kept.set k z } := by
  obtain ⟨f1, f2, f3, f4⟩ := PoolLaw.fits_zero hf
  have hl := h.inv.left
  have hch := h.inv.chain
  have hmany := h.inv.many
  have hm := h.many
  cases hfr : x.rs.free with
  | nil => rw [hfr] at hl; exact absurd hl f3
  | cons a rest =>
    rw [hfr] at hch hl hmany hm
    obtain ⟨k, sl, rfl, hnx, hsl, _⟩ := hch
    obtain ⟨ht1, ⟨b, ht2, _⟩, _⟩ := h.inv.slot k sl hsl
    have hfree : x.rs.taken[k]? = some false := by
      obtain ⟨i, hi, ht⟩ := h.inv.free (k : Int) (by rw [hfr]; simp)
      have : i = k := by omega
      subst this
      exact ht
    have hkl : k < x.rs.taken.length := (List.getElem?_eq_some_iff.1 ht2).1
    have hkn : k < x.kept.length := by rw [h.len, ← h.inv.lk]; exact hkl
    obtain ⟨w, hw⟩ : ∃ w, x.kept[k]? = some w := ⟨x.kept[k]'hkn, by simp⟩
    have hnone : y.f k = none := h.none_ k fun j e => by
      have : j = k := by omega
      subst this
      rw [hfree]; simp
    rw [List.length_cons] at hl hmany hm
    refine ⟨k, rest, sl, rfl, hnx, hsl, ht1, hkn, by omega, by omega, { inv := h.inv.take hfr hsl hnx, len := by simp [h.len], room := h.room, at_ := fun j hj => ?_, none_ := fun j hj => ?_, many := ?_, bytes := ?_, le := ?_ }⟩
    · show ∃ p, (x.kept.set k z)[j]? = some p ∧ (if (j : Int) = (k : Int) then some z else y.f j) = some p ∧ _
      change (x.rs.taken.set k true)[j]? = some true at hj
      by_cases hjk : k = j
      · subst hjk
        exact ⟨z, List.getElem?_set_self hkn, by rw [if_pos rfl], f1, f2⟩
      · rw [List.getElem?_set_ne hjk] at hj
        obtain ⟨p, p1, p2, p3⟩ := h.at_ j hj
        exact ⟨p, by rw [List.getElem?_set_ne hjk]; exact p1, by rw [if_neg (by omega)]; exact p2, p3⟩
    · show (if j = (k : Int) then some z else y.f j) = none
      by_cases hjk : j = (k : Int)
      · exact absurd (List.getElem?_set_self hkl) (hj k hjk)
      · rw [if_neg hjk]
        refine h.none_ j fun i e ht => hj i e ?_
        show (x.rs.taken.set k true)[i]? = some true
        rw [List.getElem?_set_ne (by omega)]
        exact ht
    · show (if (y.f k).isSome then y.n else y.n + 1) + rest.length = n
      rw [hnone]
      simp; omega
    · show y.bytes + z.size = sum (x.rs.taken.set k true) (x.kept.set k z) (x.kept.set k z).length
      rw [sum_set_same hw hfree, List.length_set, if_pos hkn, h.bytes]
      rfl
    · show y.bytes + z.size ≤ y.room
      omega

/-- A handle that is live, or not. -/
theorem PInv.live {n c : Nat} {y : Pl} {x : RP} (h : PInv n c y x) (a t : Int) :
    (Ref.rlive x.rs a t = false ∧ Slab.live y.s a t = false) ∨
    (Ref.rlive x.rs a t = true ∧ Slab.live y.s a t = true ∧ ∃ (k : Nat) (sl : Slab.Slot) (p : Pk), a = k ∧ t = sl.turn ∧ y.s.slots[k]? = some sl ∧ sl.state ≠ 0 ∧ x.rs.taken[k]? = some true ∧ x.rs.turns[k]? = some sl.turn ∧ x.kept[k]? = some p ∧ y.f k = some p ∧
      1 ≤ p.size ∧ p.size ≤ 2048 ∧ 0 ≤ sl.turn ∧ sl.turn ≤ c) := by
  have hlv := h.inv.live a t
  cases hr : Ref.rlive x.rs a t with
  | false => exact .inl ⟨rfl, by rw [hlv, hr]⟩
  | true =>
    rw [hr] at hlv
    refine .inr ⟨rfl, hlv, ?_⟩
    rcases h.inv.of_ a with ⟨k, sl, h1, h2, h3, h4, h5⟩ | ⟨h4, _⟩
    · unfold Slab.live at hlv
      rw [h4] at hlv
      obtain ⟨p, p1, p2, p3, p4⟩ := h.at_ k h3
      obtain ⟨t1, _, t3, t4⟩ := h.inv.slot k sl h2
      exact ⟨k, sl, p, h1, (by simpa using hlv : sl.turn = t).symm, h2, h5, h3, t1, p1, p2, p3, p4, t3, t4⟩
    · unfold Slab.live at hlv
      rw [h4] at hlv
      cases hlv

theorem PInv.free {n c : Nat} {y : Pl} {x : RP} (h : PInv n c y x) {k : Nat} {sl : Slab.Slot} {p : Pk} (hs : y.s.slots[k]? = some sl) (ht : x.rs.taken[k]? = some true) (hp : x.kept[k]? = some p) :
    PInv n (c + 1) (Pool.free y k sl p) { x with rs := { free := k :: x.rs.free, turns := x.rs.turns.set k (sl.turn + 1), taken := x.rs.taken.set k false } } := by
  obtain ⟨p', p1, p2, p3, p4⟩ := h.at_ k ht
  rw [hp] at p1
  injection p1 with p1
  subst p1
  have hkl : k < x.rs.taken.length := (List.getElem?_eq_some_iff.1 ht).1
  have hkn : k < x.kept.length := (List.getElem?_eq_some_iff.1 hp).1
  have hm := h.many
  have hfr : x.rs.free.length < n := by
    -- the free slots are distinct and k is not among them
    have hnd := h.inv.nodup
    have hmem : ∀ f ∈ ((k : Int) :: x.rs.free), f ∈ Ref.ints n := by
      intro f hf
      simp only [Ref.ints, List.mem_map, List.mem_range]
      rcases List.mem_cons.1 hf with rfl | hf
      · exact ⟨k, by rw [← h.inv.lk]; exact hkl, rfl⟩
      · obtain ⟨i, rfl, hi⟩ := h.inv.free f hf
        exact ⟨i, by rw [← h.inv.lk]; exact (List.getElem?_eq_some_iff.1 hi).1, rfl⟩
    have hout : (k : Int) ∉ x.rs.free := fun hm => by
      obtain ⟨i, e, hi⟩ := h.inv.free _ hm
      have : i = k := by omega
      subst this
      rw [ht] at hi
      cases hi
    have := (List.nodup_cons.2 ⟨hout, hnd⟩ : ((k : Int) :: x.rs.free).Nodup)
    have := nodup_len _ _ this hmem
    rw [Ref.ints_length, List.length_cons] at this
    omega
  refine { inv := h.inv.give hs ht, len := h.len, room := h.room, at_ := fun j hj => ?_, none_ := fun j hj => ?_, many := ?_, bytes := ?_, le := ?_ }
  · change (x.rs.taken.set k false)[j]? = some true at hj
    show ∃ p', x.kept[j]? = some p' ∧ (if (j : Int) = (k : Int) then none else y.f j) = some p' ∧ _
    have hjk : k ≠ j := by
      rintro rfl
      rw [List.getElem?_set_self hkl] at hj
      cases hj
    rw [List.getElem?_set_ne hjk] at hj
    obtain ⟨q, q1, q2, q3⟩ := h.at_ j hj
    exact ⟨q, q1, by rw [if_neg (by omega)]; exact q2, q3⟩
  · show (if j = (k : Int) then none else y.f j) = none
    by_cases hjk : j = (k : Int)
    · rw [if_pos hjk]
    · rw [if_neg hjk]
      refine h.none_ j fun i e hti => hj i e ?_
      show (x.rs.taken.set k false)[i]? = some true
      rw [List.getElem?_set_ne (by omega)]
      exact hti
  · show (if (y.f k).isSome then y.n - 1 else y.n) + ((k : Int) :: x.rs.free).length = n
    rw [p2]
    simp only [Option.isSome_some, if_true, List.length_cons]
    omega
  · show y.bytes - p.size = sum (x.rs.taken.set k false) x.kept x.kept.length
    rw [sum_unset hp ht, if_pos hkn, h.bytes]
    rfl
  · show y.bytes - p.size ≤ y.room
    have := h.le
    omega
end Go.Proofs.Ythdjagmeggckcaa.PlayLaw
