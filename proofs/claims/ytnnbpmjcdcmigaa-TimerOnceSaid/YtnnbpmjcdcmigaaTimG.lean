/- The timer as a list in order: what memory holds, what each call does to it. -/
import Derived.Test.YtnnbpmjcdcmigaaTimF
namespace Go.Proofs.Ytnnbpmjcdcmigaa.Line
open Go.RowKit HeapLaw TimLaw

/-- The timer at block t holds the entries x, in order. -/
def Tm (w : World) (t r : Nat) (v : Value) (x : List E) : Prop := ∃ l f n, Ln w t r v l f n ∧ Place l f ∧ Heap l.length l ∧ l.Perm x ∧ Srt x ∧ Nod x
/-- The timer's own blocks. -/
def Fb (t r : Nat) (v : Value) (j : Nat) : Prop := j = t ∨ j = r ∨ v.ownBlock = some j
def Ob (w : World) (v v' : Value) : Prop := v'.ownBlock = v.ownBlock ∨ ∃ g, v'.ownBlock = some g ∧ w.heap.size ≤ g
def Aft (w : World) (t r : Nat) (v : Value) (x' : List E) (w' : World) : Prop := ∃ v', Tm w' t r v' x' ∧ Kept (Fb t r v) w w' ∧ Ob w v v'

section
variable {w w' : World} {t r n : Nat} {v : Value} {l x x' : List E} {f : Int → Option Value} {F : Nat → Prop}
theorem Ln.off (h : Ln w t r v l f n) {ty : TypeId} (h1 : 54 ≠ ty) (h2 : 56 ≠ ty) : Off w ty (Fb t r v) := by
  refine (Off.one h.bx h1).or ((off_map h.map ty).or ?_)
  obtain ⟨_, h3⟩ := h.row
  rcases h3 with ⟨rfl, _⟩ | ⟨g, cap, cur, rfl, _, hh, _⟩
  · intro b cs fr _ e
    simp [Value.ownBlock] at e
  · have hB : Blk w g 56 cur := hh
    intro b cs fr hb e
    simp [Value.ownBlock] at e
    exact Off.one hB h2 b cs fr hb e.symm
theorem Ln.kept (h : Ln w t r v l f n) (hk : Kept F w w') (h1 : ¬ F t) (h2 : ¬ F r) (h3 : ∀ g, v.ownBlock = some g → ¬ F g) : Ln w' t r v l f n := by
  refine ⟨h.bx.kept hk h1, ?_, h.map.kept hk h2, h.stm.kept hk h2, h.len⟩
  obtain ⟨a1, a2⟩ := h.row
  refine ⟨a1, ?_⟩
  rcases a2 with a2 | ⟨g, cap, cur, hv, hg, hh, rr⟩
  · exact .inl a2
  · exact .inr ⟨g, cap, cur, hv, hg, (hk.block g (Array.getElem?_eq_some_iff.1 hh).1 (h3 g (by rw [hv]; rfl))).trans hh, rr⟩
theorem Tm.kept (h : Tm w t r v x) (hk : Kept F w w') (hF : ∀ j, Fb t r v j → ¬ F j) : Tm w' t r v x := by
  obtain ⟨l, f, n, h1, h2⟩ := h
  exact ⟨l, f, n, h1.kept hk (hF t (.inl rfl)) (hF r (.inr (.inl rfl))) (fun g hg => hF g (.inr (.inr hg))), h2⟩
theorem Tm.ext (h : Tm w t r v x) (hk : Kept none_ w w') : Tm w' t r v x := h.kept hk (fun _ _ h => h)
theorem Tm.off (h : Tm w t r v x) {ty : TypeId} (h1 : 54 ≠ ty) (h2 : 56 ≠ ty) : Off w ty (Fb t r v) := by
  obtain ⟨l, f, n, h, _⟩ := h
  exact h.off h1 h2
/-- Its blocks lie in memory. -/
theorem Tm.lt (h : Tm w t r v x) : ∀ j, Fb t r v j → j < w.heap.size := by
  obtain ⟨l, f, n, h, _⟩ := h
  rintro j (rfl | rfl | hj)
  · exact h.bx.lt
  · obtain ⟨es, clock, hb, _⟩ := h.map
    exact (Array.getElem?_eq_some_iff.1 hb).1
  · exact (h.row.lt j hj).2
/-- A row of another type's elements is kept. -/
theorem Tm.own {α : Type} {base size : Nat} {ty : TypeId} {enc : α → List Value} {u : Value} {m : List α} (_h : Tm w t r v x) (ho : Own w base ty size enc u m) (h1 : 54 ≠ ty) (h2 : 56 ≠ ty) (hk : Kept (Fb t r v) w w') : Own w' base ty size enc u m := ho.kept hk (_h.off h1 h2)
/-- A row of another type's elements grows: the timer stays. -/
theorem Tm.grown {α : Type} {base size : Nat} {ty : TypeId} {enc : α → List Value} {u : Value} {m : List α} (h : Tm w t r v x) (ho : Own w base ty size enc u m) (h1 : 54 ≠ ty) (h2 : 56 ≠ ty) (hg : w.grownBy w' u.ownBlock) : Tm w' t r v x := by
  refine h.kept (F := fun j => u.ownBlock = some j) (Kept.grown hg (fun k hk => .inl hk)) ?_
  intro j hj e
  obtain ⟨_, h3⟩ := ho
  rcases h3 with ⟨rfl, _⟩ | ⟨g, cap, cur, rfl, _, hh, _⟩
  · simp [Value.ownBlock] at e
  · simp [Value.ownBlock] at e
    subst e
    exact h.off h1 h2 g cur (0, 0) hh hj

theorem Aft.start (h : Tm w t r v x) : Aft w t r v x w := ⟨v, h, Kept.refl _ _, .inl rfl⟩
theorem Aft.trans {w1 : World} {v1 : Value} (k1 : Kept (Fb t r v) w w1) (o1 : Ob w v v1) (h : Aft w1 t r v1 x' w') : Aft w t r v x' w' := by
  obtain ⟨v', h1, h2, h3⟩ := h
  refine ⟨v', h1, k1.trans' h2 ?_, ?_⟩
  · rintro i (hi | hi | hi)
    · exact .inl (.inl hi)
    · exact .inl (.inr (.inl hi))
    · rcases o1 with o1 | ⟨g, o1, hg⟩
      · exact .inl (.inr (.inr (o1 ▸ hi)))
      · rw [o1] at hi
        injection hi with hi
        exact .inr (by omega)
  · have hs := k1.size
    rcases h3 with h3 | ⟨g, h3, hg⟩
    · rcases o1 with o1 | ⟨g, o1, hg⟩
      · exact .inl (h3.trans o1)
      · exact .inr ⟨g, h3.trans o1, hg⟩
    · exact .inr ⟨g, h3, by omega⟩
theorem Aft.ext {w1 : World} (h : Aft w t r v x w1) (hk : Kept none_ w1 w') : Aft w t r v x w' := by
  obtain ⟨v', h1, h2, h3⟩ := h
  exact ⟨v', h1.ext hk, h2.trans' hk (fun _ h => h.elim), h3⟩
theorem After.aft {l' : List E} (h : After w t r v l' w') (hp : l'.Perm x') (hs : Srt x') (hn : Nod x') : Aft w t r v x' w' := by
  obtain ⟨v', f', n', h1, h2, h3, h4, h5⟩ := h
  exact ⟨v', ⟨l', f', n', h1, h2, h3, hp, hs, hn⟩, h4, h5⟩

theorem Tm.find_at (h : Tm w t r v x) {id : Int} {a : E} (hf : find x id = some a) : ∃ l f n, ∃ i : Nat, Ln w t r v l f n ∧ Place l f ∧ Heap l.length l ∧ l.Perm x ∧ l[i]? = some a ∧ a.id = id := by
  obtain ⟨l, f, n, h1, h2, h3, h4, h5, h6⟩ := h
  have hm := List.mem_of_find?_eq_some hf
  have he := List.find?_some hf
  obtain ⟨i, hi, e⟩ := List.getElem_of_mem (h4.symm.subset hm)
  exact ⟨l, f, n, i, h1, h2, h3, h4, by rw [List.getElem?_eq_getElem hi, e], by simpa using he⟩

theorem tset (h : Tm w t r v x) (hx : x.length < 199) (id at_ : Int) :
    Calls Try.prog 8 #[.pointer (some ⟨t, 0, none⟩), .int .i64 id, .int .i64 at_] w fun e w' => e = .returned (.tuple #[]) ∧ Aft w t r v (setL x id at_) w' := by
  have h' := h
  obtain ⟨l, f, n, h1, h2, h3, h4, h5, h6⟩ := h
  cases hf : find x id with
  | none =>
    have hnew : ∀ a ∈ l, a.id ≠ id := fun a ha => find_none.1 hf a (h4.subset ha)
    refine (set_new h1 h2 h3 hnew (by rw [h4.length_eq]; exact hx) at_).mono ?_
    rintro e w' ⟨he, l', hp, hA⟩
    exact ⟨he, hA.aft (TimLaw.set_new hp h4 hnew) (h5.setL id at_) (h6.setL id at_)⟩
  | some a =>
    obtain ⟨l, f, n, i, g1, g2, g3, g4, g5, rfl⟩ := h'.find_at hf
    refine (set_old g1 g2 g3 g5 at_).mono ?_
    rintro e w' ⟨he, l', hp, hA⟩
    exact ⟨he, hA.aft (TimLaw.set_old hp g5 g4 h6) (h5.setL _ at_) (h6.setL _ at_)⟩

theorem tstop (h : Tm w t r v x) (id : Int) :
    Calls Try.prog 11 #[.pointer (some ⟨t, 0, none⟩), .int .i64 id] w fun e w' => e = .returned (.bool (find x id).isSome) ∧ Aft w t r v (without x id) w' := by
  have h' := h
  obtain ⟨l, f, n, h1, h2, h3, h4, h5, h6⟩ := h
  cases hf : find x id with
  | none =>
    have hn := find_none.1 hf
    refine (stop_none h1 (h2.2 id (fun a ha => hn a (h4.subset ha)))).mono ?_
    rintro e w' ⟨he, rfl⟩
    rw [without_none hn]
    exact ⟨he, Aft.start h'⟩
  | some a =>
    obtain ⟨l, f, n, i, g1, g2, g3, g4, g5, rfl⟩ := h'.find_at hf
    obtain ⟨m, hm⟩ : ∃ m, l.length = m + 1 := ⟨l.length - 1, by have := (List.getElem?_eq_some_iff.1 g5).1; omega⟩
    refine (stop_yes g1 g2 hm (by rw [← hm]; exact g3) g5).mono ?_
    rintro e w' ⟨he, l', hp, hA⟩
    exact ⟨he, hA.aft (without_off hp g4 h6) (h5.without _) (h6.without _)⟩

def atOf (x : List E) (id : Int) : Int := match find x id with | some a => a.at_ | none => 0
theorem tat (h : Tm w t r v x) (id : Int) :
    Calls Try.prog 15 #[.pointer (some ⟨t, 0, none⟩), .int .i64 id] w fun e w' => e = .returned (.tuple #[.int .i64 (atOf x id), .bool (find x id).isSome]) ∧ w = w' := by
  have h' := h
  obtain ⟨l, f, n, h1, h2, h3, h4, h5, h6⟩ := h
  unfold atOf
  cases hf : find x id with
  | none =>
    have hn := find_none.1 hf
    exact at_none h1 (h2.2 id (fun a ha => hn a (h4.subset ha)))
  | some a =>
    obtain ⟨l, f, n, i, g1, g2, g3, g4, g5, rfl⟩ := h'.find_at hf
    exact at_yes g1 g2 g5
theorem tlen (h : Tm w t r v x) : Calls Try.prog 17 #[.pointer (some ⟨t, 0, none⟩)] w fun e w' => e = .returned (.int .i64 (x.length : Int)) ∧ w = w' := by
  obtain ⟨l, f, n, h1, h2, h3, h4, h5, h6⟩ := h
  rw [← h4.length_eq]
  exact tlen_any h1
theorem tnext_nil (h : Tm w t r v []) : Calls Try.prog 16 #[.pointer (some ⟨t, 0, none⟩)] w fun e w' => e = .returned (.tuple #[.int .i64 0, .int .i64 0, .bool false]) ∧ Below w.heap.size w w' := by
  obtain ⟨l, f, n, h1, h2, h3, h4, h5, h6⟩ := h
  obtain rfl := h4.eq_nil
  refine (next_none h1).mono ?_
  rintro e w' ⟨he, rfl⟩
  exact ⟨he, Below.refl _ _⟩
theorem tnext_cons {b : E} (h : Tm w t r v (b :: x)) : Calls Try.prog 16 #[.pointer (some ⟨t, 0, none⟩)] w fun e w' => e = .returned (.tuple #[.int .i64 b.id, .int .i64 b.at_, .bool true]) ∧ Below w.heap.size w w' := by
  obtain ⟨l, f, n, h1, h2, h3, h4, h5, h6⟩ := h
  exact next_some h1 (head_root h4 h5 h3)
theorem Tm.len_le (h : Tm w t r v x) : x.length ≤ 200 := by
  obtain ⟨l, f, n, h1, h2, h3, h4, h5, h6⟩ := h
  rw [← h4.length_eq]
  exact h1.len
theorem without_head {b : E} (h : Nod (b :: x)) : without (b :: x) b.id = x := by
  obtain ⟨h1, h2⟩ := List.pairwise_cons.1 h
  unfold without
  rw [List.filter_cons]
  simp
  intro a ha
  exact Ne.symm (h1 a ha)
/-- The first one is stopped. -/
theorem tstop_head {b : E} (h : Tm w t r v (b :: x)) :
    Calls Try.prog 11 #[.pointer (some ⟨t, 0, none⟩), .int .i64 b.id] w fun e w' => e = .returned (.bool true) ∧ Aft w t r v x w' := by
  have h' := h
  obtain ⟨l, f, n, h1, h2, h3, h4, h5, h6⟩ := h
  have hc := tstop h' b.id
  rw [find_some h6 (List.mem_cons_self ..), without_head h6] at hc
  exact hc
theorem tnew (w : World) : Calls Try.prog 6 #[] w fun e w' => ∃ t r v, e = .returned (.pointer (some ⟨t, 0, none⟩)) ∧ Tm w' t r v [] ∧ Below w.heap.size w w' ∧ (∀ j, Fb t r v j → w.heap.size ≤ j) := by
  refine (new_any w).mono ?_
  rintro e w' ⟨t, r, he, hL, hb, ht, hr⟩
  refine ⟨t, r, _, he, ⟨[], _, _, hL, ⟨fun i a h => by simp at h, fun _ _ => rfl⟩, fun k _ h => by simp at h, List.Perm.refl _, List.Pairwise.nil, List.Pairwise.nil⟩, hb, ?_⟩
  rintro j (rfl | rfl | hj)
  · exact ht
  · exact hr
  · simp [Value.ownBlock] at hj
end
end Go.Proofs.Ytnnbpmjcdcmigaa.Line
