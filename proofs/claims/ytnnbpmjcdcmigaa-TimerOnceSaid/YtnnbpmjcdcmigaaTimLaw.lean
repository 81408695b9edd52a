/- The plain law of the timer: the entries in order, as the document has them; no program in sight. -/
import Derived.Test.YtnnbpmjcdcmigaaHeapLaw
namespace Go.Proofs.Ytnnbpmjcdcmigaa.TimLaw
open Line HeapLaw

def Srt (x : List E) : Prop := x.Pairwise (fun a b => lessE a b = true)
def Nod (x : List E) : Prop := x.Pairwise (fun a b => a.id ≠ b.id)
theorem lt_irrefl (a : E) : lessE a a = false := le_refl a
theorem lt_trans {a b c : E} (h : lessE a b = true) (k : lessE b c = true) : lessE a c = true := by rw [lt_iff] at *; omega
theorem lt_of_le {a b : E} (k : le a b) (h : a.id ≠ b.id) : lessE a b = true := by
  rw [le_iff] at k
  rw [lt_iff]
  omega

theorem Nod.perm {x y : List E} (h : Nod x) (p : x.Perm y) : Nod y := (p.pairwise_iff (fun h => Ne.symm h)).1 h
theorem Nod.eq {x : List E} (h : Nod x) {a b : E} (ha : a ∈ x) (hb : b ∈ x) (e : a.id = b.id) : a = b := by
  obtain ⟨i, hi, rfl⟩ := List.getElem_of_mem ha
  obtain ⟨j, hj, rfl⟩ := List.getElem_of_mem hb
  have := List.pairwise_iff_getElem.1 h
  rcases Nat.lt_trichotomy i j with h1 | h1 | h1
  · exact absurd e (this i j hi hj h1)
  · subst h1; rfl
  · exact absurd e.symm (this j i hj hi h1)

/-- The root of a heap is the least. -/
theorem root_min {l : List E} {a : E} (hH : Heap l.length l) (h0 : l[0]? = some a) : ∀ (k : Nat) (e : E), l[k]? = some e → le a e := by
  intro k
  induction k using Nat.strongRecOn with
  | ind k ih =>
    intro e he
    by_cases hk : k = 0
    · subst hk
      rw [h0] at he
      injection he with he
      subst he
      exact le_refl a
    · have hlt := (List.getElem?_eq_some_iff.1 he).1
      have hp := par_lt (k := k) (by omega)
      have hb : l[par k]? = some (l[par k]'(by omega)) := List.getElem?_eq_getElem _
      exact le_trans (ih _ hp _ hb) (hH k (by omega) hlt _ _ hb he)
theorem head_root {l x : List E} {b : E} (hp : l.Perm (b :: x)) (hs : Srt (b :: x)) (hH : Heap l.length l) : l[0]? = some b := by
  have hl : 0 < l.length := by rw [hp.length_eq]; simp
  have h0 : l[0]? = some (l[0]'hl) := List.getElem?_eq_getElem _
  rw [h0]
  congr 1
  have hm : l[0]'hl ∈ b :: x := hp.subset (List.getElem_mem _)
  rcases List.mem_cons.1 hm with h | h
  · exact h
  · have h1 := (List.pairwise_cons.1 hs).1 _ h
    have hb : b ∈ l := hp.symm.subset (by simp)
    obtain ⟨k, hk, e⟩ := List.getElem_of_mem hb
    have h2 : le (l[0]'hl) b := root_min hH h0 k b (by rw [List.getElem?_eq_getElem hk, e])
    unfold le at h2
    rw [h1] at h2
    cases h2

def without (x : List E) (id : Int) : List E := x.filter (fun e => e.id != id)
theorem without_snoc (x : List E) (a : E) (id : Int) : without (x ++ [a]) id = without x id ++ (if a.id != id then [a] else []) := by
  unfold without
  rw [List.filter_append]
  congr 1
  by_cases h : (a.id != id) = true
  · rw [if_pos h]; simp [h]
  · rw [if_neg h]; simp [h]
theorem without_none {x : List E} {id : Int} (h : ∀ a ∈ x, a.id ≠ id) : without x id = x := List.filter_eq_self.2 (fun a ha => by simpa using h a ha)
theorem without_mem {x : List E} {id : Int} {a : E} : a ∈ without x id ↔ a ∈ x ∧ a.id ≠ id := by simp [without]
theorem without_perm {x y : List E} {id : Int} (h : x.Perm y) : (without x id).Perm (without y id) := h.filter _
theorem Srt.without {x : List E} (h : Srt x) (id : Int) : Srt (without x id) := h.filter _
theorem Nod.without {x : List E} (h : Nod x) (id : Int) : Nod (without x id) := h.filter _
/-- One entry is taken off. -/
theorem without_off {l' l x : List E} {a : E} (h : (l' ++ [a]).Perm l) (hp : l.Perm x) (hn : Nod x) : l'.Perm (TimLaw.without x a.id) := by
  have h1 := without_perm (id := a.id) (h.trans hp)
  rw [without_snoc] at h1
  have hn' : Nod (l' ++ [a]) := hn.perm (h.trans hp).symm
  have : TimLaw.without l' a.id = l' := without_none (fun b hb => (List.pairwise_append.1 hn').2.2 b hb a (by simp))
  rw [this] at h1
  simpa using h1

def ins : List E → E → List E
  | [], e => [e]
  | b :: x, e => if lessE e b then e :: b :: x else b :: ins x e
def setL (x : List E) (id at_ : Int) : List E := ins (without x id) ⟨id, at_⟩
theorem ins_perm : ∀ (x : List E) (e : E), (ins x e).Perm (x ++ [e])
  | [], e => List.Perm.refl _
  | b :: x, e => by
    unfold ins
    split
    · exact (List.perm_append_comm (l₁ := [e]) (l₂ := b :: x))
    · exact (ins_perm x e).cons b
theorem Srt.ins : ∀ {x : List E} {e : E}, Srt x → (∀ b ∈ x, b.id ≠ e.id) → Srt (ins x e)
  | [], e, _, _ => List.pairwise_singleton _ _
  | b :: x, e, h, hn => by
    unfold TimLaw.ins
    obtain ⟨h1, h2⟩ := List.pairwise_cons.1 h
    split
    · rename_i hl
      refine List.pairwise_cons.2 ⟨fun c hc => ?_, h⟩
      rcases List.mem_cons.1 hc with rfl | hc
      · exact hl
      · exact lt_trans hl (h1 c hc)
    · rename_i hl
      refine List.pairwise_cons.2 ⟨fun c hc => ?_, Srt.ins h2 (fun c hc => hn c (by simp [hc]))⟩
      have hc' := (ins_perm x e).subset hc
      rcases List.mem_append.1 hc' with hc' | hc'
      · exact h1 c hc'
      · rw [List.mem_singleton.1 hc']
        exact lt_of_le (by simpa [le] using hl) (hn b (by simp))
theorem Srt.setL {x : List E} (h : Srt x) (id at_ : Int) : Srt (setL x id at_) := (h.without id).ins (fun b hb => (without_mem.1 hb).2)
theorem setL_perm (x : List E) (id at_ : Int) : (setL x id at_).Perm (TimLaw.without x id ++ [⟨id, at_⟩]) := ins_perm _ _
theorem Nod.setL {x : List E} (h : Nod x) (id at_ : Int) : Nod (setL x id at_) := by
  refine Nod.perm ?_ (setL_perm x id at_).symm
  refine List.pairwise_append.2 ⟨h.without id, List.pairwise_singleton _ _, fun a ha b hb => ?_⟩
  rw [List.mem_singleton.1 hb]
  exact (without_mem.1 ha).2
/-- One entry more. -/
theorem set_new {l' l x : List E} {e : E} (h : l'.Perm (l ++ [e])) (hp : l.Perm x) (hnew : ∀ a ∈ l, a.id ≠ e.id) : l'.Perm (setL x e.id e.at_) := by
  refine h.trans (((hp.append_right [e])).trans ?_)
  have := (setL_perm x e.id e.at_).symm
  rw [without_none (x := x) (id := e.id) (fun a ha => hnew a (hp.symm.subset ha))] at this
  exact this
/-- One entry at another time. -/
theorem set_old {l' l x : List E} {i : Nat} {a : E} {at_ : Int} (h : l'.Perm (l.set i ⟨a.id, at_⟩)) (ha : l[i]? = some a) (hp : l.Perm x) (hn : Nod x) : l'.Perm (setL x a.id at_) := by
  obtain ⟨hi, he⟩ := List.getElem?_eq_some_iff.1 ha
  have hsp : l = l.take i ++ a :: l.drop (i + 1) := by
    conv => lhs; rw [← List.take_append_drop i l, List.drop_eq_getElem_cons hi, he]
  have hset : l.set i ⟨a.id, at_⟩ = l.take i ++ ⟨a.id, at_⟩ :: l.drop (i + 1) := List.set_eq_take_append_cons_drop.trans (if_pos hi)
  have hm : ((l.take i ++ l.drop (i + 1)) ++ [a]).Perm l := by
    conv => rhs; rw [hsp]
    rw [List.append_assoc]
    exact List.Perm.append_left _ List.perm_append_comm
  have hw := without_off hm hp hn
  refine h.trans ?_
  rw [hset]
  refine List.Perm.trans ?_ ((hw.append_right [(⟨a.id, at_⟩ : E)]).trans (setL_perm x a.id at_).symm)
  rw [List.append_assoc]
  exact List.Perm.append_left _ (List.perm_append_comm (l₁ := [_]) (l₂ := l.drop (i + 1)))

theorem setL_len (x : List E) (id at_ : Int) : (setL x id at_).length ≤ x.length + 1 := by
  rw [(setL_perm x id at_).length_eq, List.length_append]
  have := List.length_filter_le (fun e : E => e.id != id) x
  simp [TimLaw.without]
  omega

/-- The reference's insertion, round by round. -/
def insStep (e : E) (s : Bool × List E) (b : E) : Bool × List E := if !s.1 && lessE e b then (true, s.2 ++ [e, b]) else (s.1, s.2 ++ [b])
def insState (e : E) (y : List E) : Bool × List E := y.foldl (insStep e) (false, [])
def insEnd (e : E) (s : Bool × List E) : List E := if s.1 then s.2 else s.2 ++ [e]
theorem fold_true (e : E) : ∀ (y o : List E), y.foldl (insStep e) (true, o) = (true, o ++ y)
  | [], o => by simp
  | b :: y, o => by
    rw [List.foldl_cons]
    have : insStep e (true, o) b = (true, o ++ [b]) := by simp [insStep]
    rw [this, fold_true e y]
    simp
theorem fold_false (e : E) : ∀ (y o : List E), insEnd e (y.foldl (insStep e) (false, o)) = o ++ ins y e
  | [], o => by simp [insEnd, ins]
  | b :: y, o => by
    rw [List.foldl_cons]
    unfold ins
    cases h : lessE e b with
    | true =>
      have : insStep e (false, o) b = (true, o ++ [e, b]) := by simp [insStep, h]
      rw [this, fold_true]
      simp [insEnd]
    | false =>
      have : insStep e (false, o) b = (false, o ++ [b]) := by simp [insStep, h]
      rw [this, fold_false e y]
      simp
theorem insState_end (e : E) (y : List E) : insEnd e (insState e y) = ins y e := by
  unfold insState
  rw [fold_false]
  rfl
theorem insState_snoc (e : E) (y : List E) (b : E) : insState e (y ++ [b]) = insStep e (insState e y) b := by
  unfold insState
  rw [List.foldl_append]
  rfl
theorem insState_len (e : E) (y : List E) : (insState e y).2.length ≤ y.length + 1 := by
  have h := insState_end e y
  have h2 := (ins_perm y e).length_eq
  rw [← h] at h2
  unfold insEnd at h2
  split at h2 <;> simp at h2 <;> omega

/-- One's time, if there is one. -/
def find (x : List E) (id : Int) : Option E := x.find? (fun e => e.id == id)
theorem find_some {x : List E} {a : E} (hn : Nod x) (ha : a ∈ x) : find x a.id = some a := by
  unfold find
  cases h : x.find? (fun e => e.id == a.id) with
  | none =>
    have := List.find?_eq_none.1 h a ha
    simp at this
  | some b =>
    have h1 := List.find?_some h
    have h2 := List.mem_of_find?_eq_some h
    rw [hn.eq h2 ha (by simpa using h1)]
theorem find_none {x : List E} {id : Int} : find x id = none ↔ ∀ a ∈ x, a.id ≠ id := by
  unfold find
  rw [List.find?_eq_none]
  simp

/-- Who is due, and the others. -/
def early (now : Int) (e : E) : Bool := decide (e.at_ ≤ now)
def due (x : List E) (now : Int) : List E := x.takeWhile (early now)
def rest (x : List E) (now : Int) : List E := x.dropWhile (early now)
theorem due_rest (x : List E) (now : Int) : due x now ++ rest x now = x := List.takeWhile_append_dropWhile
theorem Srt.rest {x : List E} (h : Srt x) (now : Int) : Srt (rest x now) := h.sublist (List.dropWhile_sublist _)
theorem Nod.rest {x : List E} (h : Nod x) (now : Int) : Nod (rest x now) := h.sublist (List.dropWhile_sublist _)
theorem rest_late {x : List E} (h : Srt x) (now : Int) : ∀ e ∈ rest x now, now < e.at_ := by
  induction x with
  | nil => intro e he; simp [TimLaw.rest] at he
  | cons b x ih =>
    obtain ⟨h1, h2⟩ := List.pairwise_cons.1 h
    intro e he
    unfold TimLaw.rest at he
    rw [List.dropWhile_cons] at he
    split at he
    · exact ih h2 e he
    · rename_i hb
      have hb' : now < b.at_ := by unfold early at hb; simp at hb; omega
      rcases List.mem_cons.1 he with rfl | he
      · exact hb'
      · have := lt_iff.1 (h1 e he)
        omega
theorem due_early {x : List E} (now : Int) : ∀ e ∈ due x now, e.at_ ≤ now := by
  intro e he
  have := List.all_eq_true.1 (List.all_takeWhile (p := early now) (l := x)) e he
  simpa [early] using this
end Go.Proofs.Ytnnbpmjcdcmigaa.TimLaw
