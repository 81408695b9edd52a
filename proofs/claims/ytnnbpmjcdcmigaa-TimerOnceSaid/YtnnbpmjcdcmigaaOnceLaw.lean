/- The plain law of TimerOnce: two fillings give one list; who is woken, step by step. No program in sight. -/
import Derived.Test.YtnnbpmjcdcmigaaTimH
namespace Go.Proofs.Ytnnbpmjcdcmigaa.TimLaw
open Line HeapLaw

theorem setL_mem {x : List E} {id at_ : Int} {e : E} : e ∈ setL x id at_ ↔ e = ⟨id, at_⟩ ∨ (e ∈ x ∧ e.id ≠ id) := by
  rw [(setL_perm x id at_).mem_iff, List.mem_append, without_mem, List.mem_singleton]
  exact Or.comm
theorem setL_new_len {x : List E} {id at_ : Int} (h : ∀ a ∈ x, a.id ≠ id) : (setL x id at_).length = x.length + 1 := by
  rw [(setL_perm x id at_).length_eq, without_none h, List.length_append, List.length_singleton]
theorem lt_asymm {a b : E} (h : lessE a b = true) : lessE b a = false := by
  have := lt_iff.1 h
  cases hb : lessE b a with
  | false => rfl
  | true => have := lt_iff.1 hb; omega
/-- Lists in order that have the same members are the same. -/
theorem srt_ext : ∀ {x y : List E}, Srt x → Srt y → (∀ e, e ∈ x ↔ e ∈ y) → x = y
  | [], [], _, _, _ => rfl
  | [], b :: y, _, _, h => by have := (h b).2 (by simp); simp at this
  | a :: x, [], _, _, h => by have := (h a).1 (by simp); simp at this
  | a :: x, b :: y, hx, hy, h => by
    obtain ⟨x1, x2⟩ := List.pairwise_cons.1 hx
    obtain ⟨y1, y2⟩ := List.pairwise_cons.1 hy
    have hab : a = b := by
      rcases List.mem_cons.1 ((h a).1 (by simp)) with h1 | h1
      · exact h1
      · rcases List.mem_cons.1 ((h b).2 (by simp)) with h2 | h2
        · exact h2.symm
        · have := lt_asymm (y1 a h1)
          rw [x1 b h2] at this
          cases this
    subst hab
    congr 1
    refine srt_ext x2 y2 fun e => ⟨fun he => ?_, fun he => ?_⟩
    · rcases List.mem_cons.1 ((h e).1 (by simp [he])) with h1 | h1
      · subst h1
        have := lt_irrefl e
        rw [x1 e he] at this
        cases this
      · exact h1
    · rcases List.mem_cons.1 ((h e).2 (by simp [he])) with h1 | h1
      · subst h1
        have := lt_irrefl e
        rw [y1 e he] at this
        cases this
      · exact h1

def ent (L : List Int) (i : Nat) : E := ⟨(i : Int), L.getD i 0⟩
def Filled (L : List Int) (f : Nat → Nat) (k : Nat) (x : List E) : Prop := x.length = k ∧ ∀ e, e ∈ x ↔ ∃ i, i < k ∧ e = ent L (f i)
theorem Filled.start (L : List Int) (f : Nat → Nat) : Filled L f 0 [] := ⟨rfl, fun e => by simp⟩
theorem Filled.step {L : List Int} {f : Nat → Nat} {k : Nat} {x : List E} (h : Filled L f k x) (hf : ∀ i, i < k → f i ≠ f k) : Filled L f (k + 1) (setL x (f k) (L.getD (f k) 0)) := by
  have hnew : ∀ a ∈ x, a.id ≠ (f k : Int) := fun a ha => by
    obtain ⟨i, hi, rfl⟩ := (h.2 a).1 ha
    have := hf i hi
    unfold ent
    simp only
    omega
  refine ⟨by rw [setL_new_len hnew, h.1], fun e => ?_⟩
  rw [setL_mem]
  constructor
  · rintro (rfl | ⟨he, _⟩)
    · exact ⟨k, by omega, rfl⟩
    · obtain ⟨i, hi, rfl⟩ := (h.2 e).1 he
      exact ⟨i, by omega, rfl⟩
  · rintro ⟨i, hi, rfl⟩
    by_cases hik : i = k
    · subst hik; exact .inl rfl
    · have hm := (h.2 (ent L (f i))).2 ⟨i, by omega, rfl⟩
      exact .inr ⟨hm, hnew _ hm⟩
theorem Filled.eq {L : List Int} {x y : List E} (h : Filled L (fun i => i) L.length x) (k : Filled L (fun i => L.length - 1 - i) L.length y) (hx : Srt x) (hy : Srt y) : x = y := by
  refine srt_ext hx hy fun e => ?_
  rw [h.2, k.2]
  constructor
  · rintro ⟨i, hi, rfl⟩
    exact ⟨L.length - 1 - i, by omega, by show ent L i = ent L (L.length - 1 - (L.length - 1 - i)); rw [show L.length - 1 - (L.length - 1 - i) = i by omega]⟩
  · rintro ⟨i, hi, rfl⟩
    exact ⟨L.length - 1 - i, by omega, rfl⟩

/-- Behind k steps. -/
structure Woken (X : List E) (k : Nat) (now : Int) (done cur : List E) : Prop where
  all : X = done ++ cur
  le : ∀ e ∈ done, e.at_ ≤ now
  late : 1 ≤ k → ∀ e ∈ cur, now < e.at_
  first : k = 0 → now = 0 ∧ done = []
  now0 : 0 ≤ now
  now1 : now ≤ 255 * (k : Int)
theorem Woken.start (X : List E) : Woken X 0 0 [] X := ⟨rfl, by simp, fun h => absurd h (by decide), fun _ => ⟨rfl, rfl⟩, Int.le_refl _, by decide⟩
theorem Woken.step {X : List E} {k : Nat} {now s : Int} {done cur : List E} (h : Woken X k now done cur) (hs : Srt cur) (s0 : 0 ≤ s) (s1 : s ≤ 255) :
    Woken X (k + 1) (now + s) (done ++ due cur (now + s)) (rest cur (now + s)) ∧ ∀ e ∈ due cur (now + s), e.at_ ≤ now + s ∧ (e.at_ ≤ now → now = 0) := by
  refine ⟨⟨by rw [List.append_assoc, due_rest, ← h.all], ?_, fun _ => rest_late hs _, fun h => by omega, by have := h.now0; omega, by have := h.now1; omega⟩, ?_⟩
  · intro e he
    rcases List.mem_append.1 he with he | he
    · have := h.le e he; omega
    · exact due_early _ e he
  · intro e he
    refine ⟨due_early _ e he, fun hle => ?_⟩
    by_cases hk : k = 0
    · exact (h.first hk).1
    · have hm : e ∈ cur := by rw [← due_rest cur (now + s)]; exact List.mem_append_left _ he
      have := h.late (by omega) e hm
      omega
theorem Woken.final {X : List E} {k : Nat} {now : Int} {done cur : List E} (h : Woken X k now done cur) (hk : 1 ≤ k) : due X now = done := by
  rw [h.all]
  exact (due_cut h.le (fun e he => h.late hk e (List.mem_of_mem_head? he))).1
theorem Woken.mem {X : List E} {k : Nat} {now : Int} {done cur : List E} (h : Woken X k now done cur) {e : E} {m : Int} (he : e ∈ due cur m) : e ∈ X := by
  rw [h.all, ← due_rest cur m]
  exact List.mem_append_right _ (List.mem_append_left _ he)
end Go.Proofs.Ytnnbpmjcdcmigaa.TimLaw
