/- Two timers side by side in a law's walk. -/
import Derived.Test.YtnnbpmjcdcmigaaTimI
import Derived.Test.YtnnbpmjcdcmigaaOnceLaw
import Derived.Test.YtnnbpmjcdcmigaaArg
namespace Go.Proofs.Ytnnbpmjcdcmigaa.WTimer
open Go.RowKit Line HeapLaw TimLaw RefT

/-- Two timers that share no block. -/
def Two (w wr : World) (ta ra tb rb : Nat) (xa xb : List E) : Prop :=
  ∃ va vb, Tb w wr ta ra va xa ∧ Tb w wr tb rb vb xb ∧ ∀ j, Fb ta ra va j → ¬ Fb tb rb vb j
/-- Rows of other elements are as they were. -/
def Sp (wr w' : World) : Prop := ∀ (base : Nat) (u : Value) (m : List Int), Own wr base 3 1 eInt u m → Own w' base 3 1 eInt u m
section
variable {w wr w' : World} {ta ra tb rb : Nat} {v vx : Value} {xa xb x' : List E}
theorem Two.below (h : Two w wr ta ra tb rb xa xb) : Below w.heap.size w wr := by
  obtain ⟨_, _, h, _⟩ := h
  exact h.below
theorem Two.ext (h : Two w wr ta ra tb rb xa xb) (hk : Kept none_ wr w') : Two w w' ta ra tb rb xa xb := by
  obtain ⟨va, vb, h1, h2, h3⟩ := h
  exact ⟨va, vb, h1.ext hk, h2.ext hk, h3⟩
theorem Two.bel (h : Two w wr ta ra tb rb xa xb) (hb : Below wr.heap.size wr w') : Two w w' ta ra tb rb xa xb := h.ext (Kept.below hb rfl)
theorem Two.swap (h : Two w wr ta ra tb rb xa xb) : Two w wr tb rb ta ra xb xa := by
  obtain ⟨va, vb, h1, h2, h3⟩ := h
  exact ⟨vb, va, h2, h1, fun j hj hj' => h3 j hj' hj⟩
theorem aft_a {va vb : Value} (h1 : Tb w wr ta ra va xa) (h2 : Tb w wr tb rb vb xb) (h3 : ∀ j, Fb ta ra va j → ¬ Fb tb rb vb j) (hA : Aft wr ta ra va x' w') : Two w w' ta ra tb rb x' xb ∧ Sp wr w' := by
  have hk := aft_kept hA
  obtain ⟨va', g1⟩ := h1.aft hA
  obtain ⟨va2, a1, a2, a3⟩ := hA
  have hb' : Tb w w' ta ra va2 x' := by
    have hs := h1.below.size
    refine ⟨a1, g1.below, ?_⟩
    rintro j (hj | hj | hj)
    · exact h1.own j (.inl hj)
    · exact h1.own j (.inr (.inl hj))
    · rcases a3 with a3 | ⟨g, a3, hg⟩
      · exact h1.own j (.inr (.inr (a3 ▸ hj)))
      · rw [a3] at hj
        injection hj with hj
        omega
  refine ⟨⟨va2, vb, hb', ⟨h2.tm.kept hk (fun j hj hf => h3 j hf hj), g1.below, h2.own⟩, ?_⟩, fun base u m ho => ho.kept hk (h1.tm.off (by decide) (by decide))⟩
  intro j hj hj'
  have hlt := h2.tm.lt j hj'
  rcases hj with hj | hj | hj
  · exact h3 j (.inl hj) hj'
  · exact h3 j (.inr (.inl hj)) hj'
  · rcases a3 with a3 | ⟨g, a3, hg⟩
    · exact h3 j (.inr (.inr (a3 ▸ hj))) hj'
    · rw [a3] at hj
      injection hj with hj
      omega
theorem two_set (h : Two w wr ta ra tb rb xa xb) (hx : xa.length < 199) (id at_ : Int) :
    Calls Try.prog 8 #[.pointer (some ⟨ta, 0, none⟩), .int .i64 id, .int .i64 at_] wr fun e w' => e = .returned (.tuple #[]) ∧ Two w w' ta ra tb rb (setL xa id at_) xb ∧ Sp wr w' := by
  obtain ⟨va, vb, h1, h2, h3⟩ := h
  exact (tset h1.tm hx id at_).mono fun e w' ⟨he, hA⟩ => ⟨he, aft_a h1 h2 h3 hA⟩
theorem two_due (h : Two w wr ta ra tb rb xa xb) (now : Int) :
    Calls Try.prog 14 #[.pointer (some ⟨ta, 0, none⟩), .int .i64 now] wr fun e w' => ∃ o, e = .returned o ∧ Own w' wr.heap.size 3 1 eInt o ((TimLaw.due xa now).map E.id) ∧ Two w w' ta ra tb rb (TimLaw.rest xa now) xb ∧ Sp wr w' := by
  obtain ⟨va, vb, h1, h2, h3⟩ := h
  exact (Line.due_any h1.tm now).mono fun e w' ⟨o, he, ho, hA⟩ => ⟨o, he, ho, aft_a h1 h2 h3 hA⟩
theorem two_len (h : Two w wr ta ra tb rb xa xb) : Calls Try.prog 17 #[.pointer (some ⟨ta, 0, none⟩)] wr fun e w' => e = .returned (.int .i64 (xa.length : Int)) ∧ wr = w' := by
  obtain ⟨va, vb, h1, h2, h3⟩ := h
  exact tlen h1.tm
theorem Two.srt (h : Two w wr ta ra tb rb xa xb) : Srt xa := by
  obtain ⟨va, vb, h1, h2, h3⟩ := h
  obtain ⟨_, _, _, _, _, _, _, h, _⟩ := h1.tm
  exact h
/-- A row of numbers grows. -/
theorem Two.grown {base : Nat} {u : Value} {m : List Int} (h : Two w wr ta ra tb rb xa xb) (ho : Own wr base 3 1 eInt u m) (hbase : w.heap.size ≤ base) (hg : wr.grownBy w' u.ownBlock) : Two w w' ta ra tb rb xa xb := by
  obtain ⟨va, vb, h1, h2, h3⟩ := h
  have hb : Below w.heap.size w w' := h1.below.grown hg h1.below.size (fun q hq => Nat.le_trans hbase (ho.lt q hq).1)
  exact ⟨va, vb, ⟨h1.tm.grown ho (by decide) (by decide) hg, hb, h1.own⟩, ⟨h2.tm.grown ho (by decide) (by decide) hg, hb, h2.own⟩, h3⟩
end
/-- Two new ones. -/
theorem two_mk {w w1 w2 : World} {ta ra tb rb : Nat} {va vb : Value} (h1 : Tm w1 ta ra va []) (b1 : Below w.heap.size w w1) (f1 : ∀ j, Fb ta ra va j → w.heap.size ≤ j)
    (h2 : Tm w2 tb rb vb []) (b2 : Below w1.heap.size w1 w2) (f2 : ∀ j, Fb tb rb vb j → w1.heap.size ≤ j) : Two w w2 ta ra tb rb [] [] := by
  have t1 : Tb w w1 ta ra va [] := ⟨h1, b1, f1⟩
  have t2 := t1.bel b2
  exact ⟨va, vb, t2, ⟨h2, t2.below, fun j hj => Nat.le_trans b1.size (f2 j hj)⟩, fun j hj hj' => by have := h1.lt j hj; have := f2 j hj'; omega⟩

theorem due_nil (now : Int) (w : World) : Calls Try.prog 14 #[.pointer none, .int .i64 now] w fun e w' => e = .returned (.slice none 0 0) ∧ w = w' := by
  go_enter Try.func14, Try.ntmps14
  go_wp2_with fail
  go_loopg [5] 0 (fun m out wr => out = .slice none 0 0 ∧ w = wr)
  case atStart => exact ⟨rfl, rfl⟩
  case round =>
    obtain ⟨rfl, rfl⟩ := hrel
    go_wp2_with fail
    refine (next_nil _).mono ?_
    rintro e w1 ⟨rfl, rfl⟩
    go_wp2_with fail
    go_ret
    exact ⟨rfl, rfl⟩
end Go.Proofs.Ytnnbpmjcdcmigaa.WTimer
