/- Small general lemmas on walks, worlds and slices that this seat's texts use. -/
import Derived.WalkKit
import Derived.WalkMore
import Derived.ScopeJumps
import Derived.Lib.Hide
import Derived.Below
import Derived.Deep.Slices
import Derived.Deep.Draws
namespace Go.Proofs.YtkfkkihdlkhbnaaDoor
open Go.RowKit

/-- A scope that is entered at its label again and again, from the start on too: one lemma for the code behind the label. -/
theorem wp_scope_body {P : Program} {Q : Exit → Act → World → Prop} {a : Act} {w : World} {c b : Code} (l : Nat) (J : Act → World → Prop) (μ : Act → World → Nat)
    (hf : findLabel c l = some (.seq .skip b))
    (body : ∀ a w, J a w → b.wp P (Exit.jump l (fun a' w' => J a' w' ∧ μ a' w' < μ a w) Q) a w)
    (first : (∀ a w, J a w → b.wp P (Exit.jump l J Q) a w) → c.wp P (Exit.jump l J Q) a w) : (Code.scope c).wp P Q a w := by
  refine wp_scope_jumps l J μ hf (first fun a w hJ => ?_) fun a w hJ => wp_seq (wp_skip (body a w hJ |> fun h => Code.wp_mono (fun e a w h => h) h))
  exact Code.wp_mono (fun e a w h => by cases e <;> first | exact h | exact ⟨h.1, h.2.1⟩) (body a w hJ)

theorem q_left {P : Program} {f : FuncId} {args : Array Value} {w : World} {n : Nat} {v : Value}
    (h : Calls P f args (w.drewN n) fun e w' => e = .returned v ∧ w.drewN n = w') : Calls P f args (w.drewN n) fun e w'' => e = .returned v ∧ ∃ m, w'' = w.drewN m :=
  h.mono fun _ _ ⟨he, hm⟩ => ⟨he, n, hm.symm⟩

theorem below_drewN {B : Nat} {a w : World} (h : Below B a w) (n : Nat) : Below B a (w.drewN n) := ⟨h.os, h.tape, h.output, h.size, h.block⟩

/-- From 'for every index there is one' to a list. -/
theorem list_of {α : Type} {p : Nat → α → Prop} (n : Nat) (h : ∀ i, i < n → ∃ x, p i x) : ∃ l : List α, l.length = n ∧ ∀ i x, l[i]? = some x → p i x := by
  induction n with
  | zero => exact ⟨[], rfl, by simp⟩
  | succ n ih =>
    obtain ⟨l, hl, hp⟩ := ih fun i hi => h i (by omega)
    obtain ⟨x, hx⟩ := h n (by omega)
    refine ⟨l ++ [x], by simp [hl], fun i y hy => ?_⟩
    by_cases hi : i < n
    · rw [List.getElem?_append_left (by omega)] at hy
      exact hp i y hy
    · have hlt : i < (l ++ [x]).length := by
        rcases Nat.lt_or_ge i (l ++ [x]).length with h | h
        · exact h
        · rw [List.getElem?_eq_none h] at hy; cases hy
      have : i = n := by simp [hl] at hlt; omega
      subst this
      rw [List.getElem?_append_right (by omega)] at hy
      simp [hl] at hy
      rw [← hy]; exact hx
end Go.Proofs.YtkfkkihdlkhbnaaDoor
