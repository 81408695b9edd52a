/- The plain law of the heap: no program in sight. -/
import Derived.Test.YtnnbpmjcdcmigaaLineB
namespace Go.Proofs.Ytnnbpmjcdcmigaa.HeapLaw
open Line

def le (a b : E) : Prop := lessE b a = false
theorem le_iff {a b : E} : le a b ↔ a.at_ < b.at_ ∨ (a.at_ = b.at_ ∧ a.id ≤ b.id) := by
  unfold le lessE
  simp only [Bool.or_eq_false_iff, Bool.and_eq_false_iff, decide_eq_false_iff_not]
  omega
theorem lt_iff {a b : E} : lessE a b = true ↔ a.at_ < b.at_ ∨ (a.at_ = b.at_ ∧ a.id < b.id) := by
  unfold lessE
  simp only [Bool.or_eq_true, Bool.and_eq_true, decide_eq_true_eq]
theorem le_refl (a : E) : le a a := le_iff.2 (by omega)
theorem le_trans {a b c : E} (h : le a b) (k : le b c) : le a c := by
  rw [le_iff] at *
  omega
theorem le_of_lt {a b : E} (h : lessE a b = true) : le a b := by
  rw [lt_iff] at h
  rw [le_iff]
  omega

def par (i : Nat) : Nat := (i - 1) / 2
def Ok (l : List E) (i k : Nat) : Prop := ∀ a b, l[i]? = some a → l[k]? = some b → le a b
/-- The first n entries are a heap. -/
def Heap (n : Nat) (l : List E) : Prop := ∀ k, 0 < k → k < n → Ok l (par k) k
/-- All in place but j towards the root. -/
def Up (n : Nat) (l : List E) (j : Nat) : Prop := (∀ k, 0 < k → k < n → k ≠ j → Ok l (par k) k) ∧ (∀ k, 0 < k → k < n → par k = j → 0 < j → Ok l (par j) k)
/-- All in place but i towards its children; and, if it has not been moved, towards the root. -/
def Down (n : Nat) (l : List E) (i : Nat) (moved : Bool) : Prop :=
  (∀ k, 0 < k → k < n → k ≠ i → par k ≠ i → Ok l (par k) k) ∧ (∀ k, 0 < k → k < n → par k = i → 0 < i → Ok l (par i) k) ∧ (moved = true → 0 < i → i < n → Ok l (par i) i)

theorem par_lt {k : Nat} (h : 0 < k) : par k < k := by unfold par; omega
theorem par_child {i k : Nat} (h : par k = i) (hk : 0 < k) : k = 2 * i + 1 ∨ k = 2 * i + 2 := by unfold par at h; omega

def sw (l : List E) (i k : Nat) (a b : E) : List E := (l.set i b).set k a
section
variable {l : List E} {i k j n : Nat} {a b : E}
theorem sw_at_k (hk : l[k]? = some b) : (sw l i k a b)[k]? = some a := List.getElem?_set_self (by rw [List.length_set]; exact (List.getElem?_eq_some_iff.1 hk).1)
theorem sw_at_i (hi : l[i]? = some a) (hne : i ≠ k) : (sw l i k a b)[i]? = some b := by
  unfold sw
  rw [List.getElem?_set_ne (Ne.symm hne), List.getElem?_set_self (List.getElem?_eq_some_iff.1 hi).1]
theorem sw_at (h1 : j ≠ i) (h2 : j ≠ k) : (sw l i k a b)[j]? = l[j]? := by
  unfold sw
  rw [List.getElem?_set_ne (Ne.symm h2), List.getElem?_set_ne (Ne.symm h1)]
theorem sw_len : (sw l i k a b).length = l.length := by simp [sw]

/-- up: the end. -/
theorem Up.stop (h : Up n l j) (hs : j = 0 ∨ Ok l (par j) j) : Heap n l := by
  intro k h0 hn
  by_cases hk : k = j
  · subst hk
    rcases hs with hs | hs
    · omega
    · exact hs
  · exact h.1 k h0 hn hk
/-- up: a step. -/
theorem Up.step (h : Up n l j) (hj : 0 < j) (hjn : j < n) (ha : l[par j]? = some a) (hb : l[j]? = some b) (hlt : lessE b a = true) : Up n (sw l (par j) j a b) (par j) := by
  have hpj := par_lt hj
  have hne : par j ≠ j := by omega
  have e1 := sw_at_i (b := b) ha hne
  have e2 := sw_at_k (i := par j) (a := a) hb
  have hle := le_of_lt hlt
  refine ⟨fun k h0 hn hk => ?_, fun k h0 hn hp h0' => ?_⟩
  · by_cases hkj : k = j
    · subst hkj
      intro x y hx hy
      rw [e1] at hx
      rw [e2] at hy
      injection hx with hx
      injection hy with hy
      subst hx hy
      exact hle
    · have hyk : (sw l (par j) j a b)[k]? = l[k]? := sw_at hk hkj
      by_cases hpk : par k = j
      · intro x y hx hy
        rw [hpk, e2] at hx
        rw [hyk] at hy
        injection hx with hx
        subst hx
        exact h.2 k h0 hn hpk hj a y ha hy
      · by_cases hpk2 : par k = par j
        · intro x y hx hy
          rw [hpk2, e1] at hx
          rw [hyk] at hy
          injection hx with hx
          subst hx
          exact le_trans hle (h.1 k h0 hn hkj a y (by rw [hpk2]; exact ha) hy)
        · intro x y hx hy
          rw [sw_at hpk2 hpk] at hx
          rw [hyk] at hy
          exact h.1 k h0 hn hkj x y hx hy
  · have hpp := par_lt h0'
    have hx0 : (sw l (par j) j a b)[par (par j)]? = l[par (par j)]? := sw_at (by omega) (by omega)
    have hp1 := h.1 (par j) h0' (by omega) hne
    by_cases hkj : k = j
    · subst hkj
      intro x y hx hy
      rw [hx0] at hx
      rw [e2] at hy
      injection hy with hy
      subst hy
      exact hp1 x a hx ha
    · intro x y hx hy
      rw [hx0] at hx
      rw [sw_at (by have := par_lt h0; omega) hkj] at hy
      exact le_trans (hp1 x a hx ha) (h.1 k h0 hn hkj a y (by rw [hp]; exact ha) hy)

/-- down: the end: a heap if it was moved, else but towards the root. -/
theorem Down.stop {m : Bool} (h : Down n l i m) (hs : ∀ k, 0 < k → k < n → par k = i → Ok l i k) : Up n l i ∧ (m = true → Heap n l) := by
  have hU : Up n l i := ⟨fun k h0 hn hk => by
    by_cases hp : par k = i
    · rw [hp]; exact hs k h0 hn hp
    · exact h.1 k h0 hn hk hp, h.2.1⟩
  refine ⟨hU, fun hm => ?_⟩
  intro k h0 hn
  by_cases hk : k = i
  · subst hk; exact h.2.2 hm h0 hn
  · exact hU.1 k h0 hn hk
/-- down: a step to the smaller child j. -/
theorem Down.step {m : Bool} (h : Down n l i m) (hp : par j = i) (hj : 0 < j) (hjn : j < n) (ha : l[i]? = some a) (hb : l[j]? = some b) (hlt : lessE b a = true) (hmin : ∀ k, 0 < k → k < n → par k = i → Ok l j k) : Down n (sw l i j a b) j true := by
  have hpj : par j < j := par_lt hj
  have hne : i ≠ j := by omega
  have e1 := sw_at_i (b := b) ha hne
  have e2 := sw_at_k (i := i) (a := a) hb
  have hle := le_of_lt hlt
  refine ⟨fun k h0 hn hk hpk => ?_, fun k h0 hn hpk h0' => ?_, fun _ _ _ => ?_⟩
  · by_cases hki : k = i
    · subst hki
      intro x y hx hy
      have hpk' := par_lt h0
      rw [sw_at (by omega) hpk] at hx
      rw [e1] at hy
      injection hy with hy
      subst hy
      exact h.2.1 j hj hjn hp h0 x b hx hb
    · have hyk : (sw l i j a b)[k]? = l[k]? := sw_at hki hk
      by_cases hpi : par k = i
      · intro x y hx hy
        rw [hpi, e1] at hx
        rw [hyk] at hy
        injection hx with hx
        subst hx
        exact hmin k h0 hn hpi b y hb hy
      · intro x y hx hy
        rw [sw_at hpi hpk] at hx
        rw [hyk] at hy
        exact h.1 k h0 hn hki hpi x y hx hy
  · intro x y hx hy
    rw [hp, e1] at hx
    injection hx with hx
    subst hx
    have hpk' := par_lt h0
    rw [sw_at (by omega) (by omega)] at hy
    exact h.1 k h0 hn (by omega) (by omega) b y (by rw [hpk]; exact hb) hy
  · intro x y hx hy
    rw [hp, e1] at hx
    rw [e2] at hy
    injection hx with hx
    injection hy with hy
    subst hx hy
    exact hle
end
end Go.Proofs.Ytnnbpmjcdcmigaa.HeapLaw
