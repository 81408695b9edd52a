/- The plain law of words. No program in sight. -/
import Derived.Test.YtkfkkihdlkhbnaaDoorUnhP
import Derived.Lib.Split
import Derived.Lib.IndexBytes
namespace Go.Proofs.YtkfkkihdlkhbnaaDoor.Str
open Go.RowKit

/-- A text's words, between single blanks. -/
def wordsL : List UInt8 → List (List UInt8)
  | [] => [[]]
  | b :: l => if b = 32 then [] :: wordsL l else (match wordsL l with | [] => [[b]] | x :: r => (b :: x) :: r)
theorem words_ne (l : List UInt8) : wordsL l ≠ [] := by
  cases l with
  | nil => simp [wordsL]
  | cons b l =>
    unfold wordsL
    split
    · simp
    · split <;> simp
theorem words_blank (l : List UInt8) : wordsL (32 :: l) = [] :: wordsL l := by
  rw [wordsL]
  rfl
theorem words_more {b : UInt8} {l x : List UInt8} {r : List (List UInt8)} (hb : b ≠ 32) (h : wordsL l = x :: r) : wordsL (b :: l) = (b :: x) :: r := by
  rw [wordsL, if_neg hb, h]
theorem words_none : ∀ (a : List UInt8), (∀ c ∈ a, c ≠ 32) → wordsL a = [a]
  | [], _ => rfl
  | b :: a, h => words_more (h b (by simp)) (words_none a (fun c hc => h c (by simp [hc])))
theorem words_app : ∀ (a r : List UInt8), (∀ c ∈ a, c ≠ 32) → wordsL (a ++ 32 :: r) = a :: wordsL r
  | [], r, _ => words_blank r
  | b :: a, r, h => words_more (h b (by simp)) (words_app a r (fun c hc => h c (by simp [hc])))
/-- A byte more behind. -/
theorem words_snoc' : ∀ (l : List UInt8) (o : List (List UInt8)) (c : List UInt8) (b : UInt8), wordsL l = o ++ [c] → wordsL (l ++ [b]) = if b = 32 then o ++ [c] ++ [[]] else o ++ [c ++ [b]]
  | [], o, c, b, h => by
    have h' : o ++ [c] = [[]] := h.symm
    cases o with
    | nil =>
      simp at h'
      subst h'
      show wordsL [b] = _
      by_cases hb : b = 32
      · subst hb
        rw [if_pos rfl]
        rfl
      · rw [if_neg hb, words_more hb (x := []) (r := []) rfl]
        rfl
    | cons x o => simp at h'
  | a :: l, o, c, b, h => by
    show wordsL (a :: (l ++ [b])) = _
    by_cases ha : a = 32
    · subst ha
      rw [words_blank] at h ⊢
      cases o with
      | nil =>
        simp at h
        exact absurd h.2 (words_ne l)
      | cons x o =>
        simp at h
        have ih := words_snoc' l o c b h.2
        rw [ih, ← h.1]
        split <;> simp
    · cases hw : wordsL l with
      | nil => exact absurd hw (words_ne l)
      | cons y r =>
        rw [words_more ha hw] at h
        cases o with
        | nil =>
          simp at h
          have ih := words_snoc' l [] y b (by rw [hw, h.2]; rfl)
          by_cases hb : b = 32
          · rw [if_pos hb] at ih ⊢
            rw [words_more ha (x := y) (r := [[]]) (by rw [ih]; rfl), ← h.1]
            rfl
          · rw [if_neg hb] at ih ⊢
            rw [words_more ha (x := y ++ [b]) (r := []) (by rw [ih]; rfl), ← h.1]
            rfl
        | cons x o =>
          simp at h
          have ih := words_snoc' l (y :: o) c b (by rw [hw, h.2]; rfl)
          by_cases hb : b = 32
          · rw [if_pos hb] at ih ⊢
            rw [words_more ha (x := y) (r := o ++ [c] ++ [[]]) (by rw [ih]; simp), ← h.1]
            simp
          · rw [if_neg hb] at ih ⊢
            rw [words_more ha (x := y) (r := o ++ [c ++ [b]]) (by rw [ih]; simp), ← h.1]
            simp

theorem first_blank : ∀ (l : List UInt8), (∀ c ∈ l, c ≠ 32) ∨ ∃ a r, l = a ++ 32 :: r ∧ ∀ c ∈ a, c ≠ 32
  | [] => .inl (by simp)
  | b :: l => by
    by_cases hb : b = 32
    · exact .inr ⟨[], l, by rw [hb]; rfl, by simp⟩
    · rcases first_blank l with h | ⟨a, r, rfl, h⟩
      · exact .inl (fun c hc => by
          rcases List.mem_cons.1 hc with rfl | hc
          · exact hb
          · exact h c hc)
      · exact .inr ⟨b :: a, r, rfl, fun c hc => by
          rcases List.mem_cons.1 hc with rfl | hc
          · exact hb
          · exact h c hc⟩
theorem ib_none : ∀ (l : List UInt8), (∀ c ∈ l, c ≠ 32) → Lib.indexByte l 32 = -1
  | [], _ => rfl
  | b :: l, h => by
    have ih := ib_none l (fun c hc => h c (by simp [hc]))
    have hb : (b == 32) = false := by simpa using h b (by simp)
    simp [Lib.indexByte, hb, ih]
theorem ib_at : ∀ (a r : List UInt8), (∀ c ∈ a, c ≠ 32) → Lib.indexByte (a ++ 32 :: r) 32 = (a.length : Int)
  | [], r, _ => by simp [Lib.indexByte]
  | b :: a, r, h => by
    have ih := ib_at a r (fun c hc => h c (by simp [hc]))
    have hb : (b == 32) = false := by simpa using h b (by simp)
    simp [Lib.indexByte, hb, ih]
theorem split_words : ∀ (n : Nat) (l : List UInt8), l.length ≤ n → Lib.splitK [32] 0 (Lib.count l [32]) l = wordsL l := by
  intro n
  induction n with
  | zero =>
    intro l h
    have : l = [] := List.eq_nil_of_length_eq_zero (by omega)
    subst this
    rfl
  | succ n ih =>
    intro l h
    rcases first_blank l with hb | ⟨a, r, rfl, hb⟩
    · have hi : Lib.index l [32] = -1 := by rw [Lib.index_one, ib_none l hb]
      rw [Lib.count_miss hi, words_none l hb]
      rfl
    · have hi : Lib.index (a ++ 32 :: r) [32] = (a.length : Int) := by rw [Lib.index_one, ib_at a r hb]
      have hd : (a ++ 32 :: r).drop (a.length + 1) = r := by simp
      rw [Lib.count_hit (by simp) hi, words_app a r hb]
      show Lib.splitK [32] 0 (1 + Lib.count ((a ++ 32 :: r).drop (a.length + 1)) [32]) _ = _
      rw [hd, Nat.add_comm]
      unfold Lib.splitK
      rw [hi, if_neg (by simp)]
      have := ih r (by simp at h; omega)
      simp only [Int.toNat_natCast, Nat.add_zero, List.length_singleton]
      rw [hd, this]
      congr 1
      simp
theorem count_words (l : List UInt8) : Lib.count l [32] + 1 = (wordsL l).length := by
  have : ∀ (n : Nat) (l : List UInt8), l.length ≤ n → Lib.count l [32] + 1 = (wordsL l).length := by
    intro n
    induction n with
    | zero =>
      intro l h
      have : l = [] := List.eq_nil_of_length_eq_zero (by omega)
      subst this
      rfl
    | succ n ih =>
      intro l h
      rcases first_blank l with hb | ⟨a, r, rfl, hb⟩
      · have hi : Lib.index l [32] = -1 := by rw [Lib.index_one, ib_none l hb]
        rw [Lib.count_miss hi, words_none l hb]
        rfl
      · have hi : Lib.index (a ++ 32 :: r) [32] = (a.length : Int) := by rw [Lib.index_one, ib_at a r hb]
        have hd : (a ++ 32 :: r).drop (a.length + 1) = r := by simp
        rw [Lib.count_hit (by simp) hi, words_app a r hb]
        show 1 + Lib.count ((a ++ 32 :: r).drop (a.length + 1)) [32] + 1 = _
        rw [hd, List.length_cons, ← ih r (by simp at h; omega)]
        omega
  exact this l.length l (Nat.le_refl _)
theorem words_len' : ∀ (l : List UInt8), (wordsL l).length ≤ l.length + 1
  | [] => by simp [wordsL]
  | b :: l => by
    have ih := words_len' l
    by_cases hb : b = 32
    · subst hb
      rw [words_blank]
      simp
      omega
    · cases hw : wordsL l with
      | nil => exact absurd hw (words_ne l)
      | cons y r =>
        rw [words_more hb hw]
        rw [hw] at ih
        simp at ih ⊢
        omega
theorem word_len : ∀ (l : List UInt8), ∀ x ∈ wordsL l, x.length ≤ l.length
  | [], x, h => by simp [wordsL] at h; simp [h]
  | b :: l, x, h => by
    by_cases hb : b = 32
    · subst hb
      rw [words_blank] at h
      rcases List.mem_cons.1 h with rfl | h
      · simp
      · have := word_len l x h; simp; omega
    · cases hw : wordsL l with
      | nil => exact absurd hw (words_ne l)
      | cons y r =>
        rw [words_more hb hw] at h
        rcases List.mem_cons.1 h with rfl | h
        · have := word_len l y (by rw [hw]; simp); simp; omega
        · have := word_len l x (by rw [hw]; simp [h]); simp; omega
end Go.Proofs.YtkfkkihdlkhbnaaDoor.Str
