/- Slices by the lists that they hold: a slice that is only read; a slice that the call owns and appends to; laws for append and for cutting. -/
import Derived.Test.YtkfkkihdlkhbnaaDoorMem
import Derived.Maps.AppendAt
import Derived.OwnWalk
import Derived.RegionTactic
namespace Go.Proofs.YtkfkkihdlkhbnaaDoor
open Go.RowKit

section
variable {α : Type} {w w' : World} {t : TypeId} {size : Nat} {enc : α → List Value} {v : Value} {l : List α} {F : Nat → Prop}

/-- The slice v holds the elements of l, of type t, each of `size` cells as `enc` tells. -/
def Sl (w : World) (t : TypeId) (size : Nat) (enc : α → List Value) (v : Value) (l : List α) : Prop :=
  ∃ A c, v = .slice A l.length c ∧ l.length ≤ c ∧ c ≤ maxLen ∧
    (l ≠ [] → ∃ b off cs fr, A = some ⟨b, off, none⟩ ∧ w.heap[b]? = some (.cells cs t fr) ∧ ∀ k x, l[k]? = some x → ∀ j u, (enc x)[j]? = some u → w.cell? ⟨b, off + k * size + j, none⟩ = some u)

theorem Sl.nil (c : Nat) (hc : c ≤ maxLen) (A : Option Addr) : Sl w t size enc (.slice A 0 c) ([] : List α) := ⟨A, c, rfl, Nat.zero_le _, hc, fun h => absurd rfl h⟩
theorem Sl.kept (h : Sl w t size enc v l) (hk : Kept F w w') (hf : Off w t F) : Sl w' t size enc v l := by
  obtain ⟨A, c, e, h1, h2, h3⟩ := h
  refine ⟨A, c, e, h1, h2, fun hne => ?_⟩
  obtain ⟨b, off, cs, fr, hA, hb, hc⟩ := h3 hne
  have hlt : b < w.heap.size := (Array.getElem?_eq_some_iff.1 hb).1
  have hbb := hk.block b hlt (hf b cs fr hb)
  exact ⟨b, off, cs, fr, hA, hbb.trans hb, fun k x hx j u hu => (World.cell?_of_block (w := w) (a := ⟨b, _, none⟩) hbb).trans (hc k x hx j u hu)⟩
theorem Sl.below (h : Sl w t size enc v l) (hb : Below w.heap.size w w') : Sl w' t size enc v l := h.kept (F := none_) (Kept.below hb rfl) Off.none_
theorem Sl.drewN (h : Sl w t size enc v l) (n : Nat) : Sl (w.drewN n) t size enc v l := h
theorem Sl.drew (h : Sl w t size enc v l) : Sl w.drew t size enc v l := h
theorem Sl.alloc (h : Sl w t size enc v l) (o : Obj) : Sl (w.alloc o) t size enc v l := h.kept (F := none_) ((Kept.refl _ _).alloc o) Off.none_
theorem Sl.far (h : Sl w t size enc v l) {p : Addr} {t' : TypeId} {cs : Array Value} (hp : Blk w p.block t' cs) (hne : t' ≠ t) (u : Value) : Sl (w.setCell p u) t size enc v l :=
  h.kept (F := fun i => i = p.block) (Kept.setCell (F := fun i => i = p.block) (Kept.refl _ _) (.inl rfl) u) (Off.one hp hne)
/-- Its one element at k, where elements are of one cell. -/
theorem Sl.at1 {A : Option Addr} {n c : Nat} (h : Sl w t 1 enc (.slice A n c) l) {k : Nat} {x : α} (hx : l[k]? = some x) {u : Value} (hu : enc x = [u]) :
    ∃ b off, A = some ⟨b, off, none⟩ ∧ b < w.heap.size ∧ w.cell? ⟨b, off + k, none⟩ = some u := by
  obtain ⟨A', c', e, _, _, h3⟩ := h
  injection e with e1 e2 e3
  subst e1
  obtain ⟨b, off, cs, fr, hA, hb, hc⟩ := h3 (by rintro rfl; simp at hx)
  refine ⟨b, off, hA, (Array.getElem?_eq_some_iff.1 hb).1, ?_⟩
  have := hc k x hx 0 u (by rw [hu]; rfl)
  simpa using this
/-- Its one element at k, cell by cell. -/
theorem Sl.atN {A : Option Addr} {n c : Nat} (h : Sl w t size enc (.slice A n c) l) {k : Nat} {x : α} (hx : l[k]? = some x) :
    ∃ b off, A = some ⟨b, off, none⟩ ∧ b < w.heap.size ∧ (∃ cs fr, w.heap[b]? = some (.cells cs t fr)) ∧ ∀ j u, (enc x)[j]? = some u → w.cell? ⟨b, off + k * size + j, none⟩ = some u := by
  obtain ⟨A', c', e, _, _, h3⟩ := h
  injection e with e1 e2 e3
  subst e1
  obtain ⟨b, off, cs, fr, hA, hb, hc⟩ := h3 (by rintro rfl; simp at hx)
  exact ⟨b, off, hA, (Array.getElem?_eq_some_iff.1 hb).1, ⟨cs, fr, hb⟩, hc k x hx⟩
/-- Cut up to hi: 's[:hi]', as the model has it. -/
theorem Sl.take {A : Option Addr} {n c : Nat} (h : Sl w t size enc (.slice A n c) l) (hi : Nat) (hhi : hi ≤ l.length) : Sl w t size enc (.slice A hi c) (l.take hi) := by
  obtain ⟨A', c', e, h1, h2, h3⟩ := h
  injection e with e1 e2 e3
  subst e1 e2 e3
  have hl : (l.take hi).length = hi := by rw [List.length_take]; omega
  refine ⟨A, c, by rw [hl], by omega, h2, fun hne => ?_⟩
  obtain ⟨b, off, cs, fr, hA, hb, hc⟩ := h3 (by rintro rfl; simp at hne)
  refine ⟨b, off, cs, fr, hA, hb, fun k x hx => ?_⟩
  rw [List.getElem?_take] at hx
  split at hx
  · exact hc k x hx
  · cases hx
theorem Sl.len {A : Option Addr} {n c : Nat} (h : Sl w t size enc (.slice A n c) l) : n = l.length ∧ l.length ≤ c ∧ c ≤ maxLen := by
  obtain ⟨A', c', e, h1, h2, _⟩ := h
  injection e with e1 e2 e3
  subst e1 e2 e3
  exact ⟨rfl, h1, h2⟩
theorem Sl.form (h : Sl w t size enc v l) : ∃ A c, v = .slice A l.length c ∧ l.length ≤ c ∧ c ≤ maxLen := by
  obtain ⟨A, c, e, h1, h2, _⟩ := h
  exact ⟨A, c, e, h1, h2⟩

theorem Sl.form' (h : Sl w t size enc v l) : ∃ A n c, v = .slice A n c := by
  obtain ⟨A, c, e, _⟩ := h
  exact ⟨A, _, c, e⟩

/-- Cut from lo on: 's[lo:]', as the model has it. -/
theorem Sl.drop {A : Option Addr} {n c : Nat} (h : Sl w t size enc (.slice A n c) l) (lo : Nat) (hlo : lo ≤ l.length) :
    Sl w t size enc (.slice (if c = lo then A else A.map (·.add (lo * size))) (n - lo) (c - lo)) (l.drop lo) := by
  obtain ⟨A', c', e, h1, h2, h3⟩ := h
  injection e with e1 e2 e3
  subst e1 e2 e3
  refine ⟨_, _, by rw [List.length_drop], by rw [List.length_drop]; omega, by omega, fun hne => ?_⟩
  have hne' : l ≠ [] := by rintro rfl; simp at hne
  have hlt : lo < l.length := by
    rcases Nat.lt_or_ge lo l.length with h | h
    · exact h
    · rw [List.drop_eq_nil_of_le h] at hne; exact absurd rfl hne
  obtain ⟨b, off, cs, fr, hA, hb, hc⟩ := h3 hne'
  subst hA
  refine ⟨b, off + lo * size, cs, fr, ?_, hb, fun k x hx j u hu => ?_⟩
  · rw [if_neg (by omega)]
    by_cases h0 : lo * size = 0 <;> simp [Addr.add, h0]
  · rw [List.getElem?_drop] at hx
    have := hc _ x hx j u hu
    rw [Nat.add_mul] at this
    rw [← this]
    congr 2
    omega

/-- The slice v, of the call's own (from block `base` on), holds the elements of l. -/
def Own (w : World) (base : Nat) (t : TypeId) (size : Nat) (enc : α → List Value) (v : Value) (l : List α) : Prop := w.ownsRow base t size v l.length (l.flatMap enc)

theorem Own.nil (w : World) (base : Nat) : Own w base t size enc (.slice none 0 0) ([] : List α) := World.ownsRow_nil w base t size
/-- One element, laid in a block of its own. -/
theorem Own.lit1 (w : World) (base : Nat) (hb : base ≤ w.heap.size) (x : α) {u : Value} (hx : enc x = [u]) : Own (w.alloc (.cells #[u] t)) base t 1 enc (.slice (some ⟨w.heap.size, 0, none⟩) 1 1) [x] :=
  ⟨by simp [hx], .inr ⟨w.heap.size, 1, #[u], rfl, hb, heap_alloc_new w _, Nat.le_refl _, by decide, rfl, by simp [hx]⟩⟩
theorem Own.lit1' (w : World) (base g : Nat) (hg : w.heap.size = g) (hb : base ≤ w.heap.size) (x : α) {u : Value} (hx : enc x = [u]) : Own (w.alloc (.cells #[u] t)) base t 1 enc (.slice (some ⟨g, 0, none⟩) 1 1) [x] := by
  subst hg
  exact Own.lit1 w base hb x hx
/-- No element, a block of its own. -/
theorem Own.lit0' (w : World) (base g : Nat) (hg : w.heap.size = g) (hb : base ≤ w.heap.size) : Own (w.alloc (.cells #[] t)) base t size enc (.slice (some ⟨g, 0, none⟩) 0 0) ([] : List α) := by
  subst hg
  exact ⟨by simp, .inr ⟨w.heap.size, 0, #[], rfl, hb, heap_alloc_new w _, Nat.le_refl _, Nat.zero_le _, by simp, by simp⟩⟩
theorem Own.drew {base : Nat} (h : Own w base t size enc v l) : Own w.drew base t size enc v l := h
theorem Own.alloc {base : Nat} (h : Own w base t size enc v l) (o : Obj) : Own (w.alloc o) base t size enc v l := World.ownsRow.alloc h o
theorem Own.drewN {base : Nat} (h : Own w base t size enc v l) (n : Nat) : Own (w.drewN n) base t size enc v l := h
theorem Own.kept {base : Nat} (h : Own w base t size enc v l) (hk : Kept F w w') (hf : Off w t F) : Own w' base t size enc v l := by
  obtain ⟨h1, h2⟩ := h
  refine ⟨h1, ?_⟩
  rcases h2 with h2 | ⟨g, cap, cur, hv, hg, hh, r⟩
  · exact .inl h2
  · exact .inr ⟨g, cap, cur, hv, hg, (hk.block g (Array.getElem?_eq_some_iff.1 hh).1 (hf g cur (0, 0) hh)).trans hh, r⟩
theorem Own.far {base : Nat} (h : Own w base t size enc v l) {p : Addr} {t' : TypeId} {cs : Array Value} (hp : Blk w p.block t' cs) (hne : t' ≠ t) (u : Value) : Own (w.setCell p u) base t size enc v l :=
  h.kept (F := fun i => i = p.block) (Kept.setCell (F := fun i => i = p.block) (Kept.refl _ _) (.inl rfl) u) (Off.one hp hne)
theorem Own.sl {base : Nat} (h : Own w base t size enc v l) (hsz : ∀ x, (enc x).length = size) : Sl w t size enc v l := by
  obtain ⟨h1, h2⟩ := h
  rcases h2 with ⟨rfl, hn⟩ | ⟨g, cap, cur, rfl, hg, hh, hnc, hcm, hcs, hx⟩
  · have : l = [] := List.eq_nil_of_length_eq_zero hn
    subst this
    exact Sl.nil 0 (Nat.zero_le _) none
  · refine ⟨_, _, rfl, hnc, hcm, fun _ => ⟨g, 0, cur, (0, 0), rfl, hh, fun k x hk j u hu => ?_⟩⟩
    have := flat_get hsz l k x hk j u hu
    rw [← hx, List.getElem?_take] at this
    split at this
    · rw [Array.getElem?_toList] at this
      rw [cell_of_row w g _ cur t (0, 0) hh, Nat.zero_add]
      exact this
    · cases this
theorem Own.grown_blk {base g : Nat} {t' : TypeId} {cs : Array Value} (h : Own w base t size enc v l) (hg : w.grownBy w' v.ownBlock) (hb : Blk w g t' cs) (hne : t' ≠ t) : Blk w' g t' cs := by
  refine (hg.block g hb.lt fun e => ?_).trans hb
  obtain ⟨_, h2⟩ := h
  rcases h2 with ⟨rfl, _⟩ | ⟨g', cap, cur, rfl, _, hh, _⟩
  · simp [Value.ownBlock] at e
  · simp [Value.ownBlock] at e
    subst e
    exact Blk.ne_ hb (t' := t) (cs' := cur) hh hne rfl
/-- What another row holds is as it was. -/
theorem Own.grown_own {β : Type} {base base' : Nat} {t' : TypeId} {size' : Nat} {enc' : β → List Value} {v' : Value} {l' : List β} (h : Own w base t size enc v l) (hg : w.grownBy w' v'.ownBlock) (ha : v.ownBlock = none ∨ v.ownBlock ≠ v'.ownBlock)
    (_h' : Own w base' t' size' enc' v' l') : Own w' base t size enc v l := World.ownsRow.kept h hg ha
theorem Own.apart {β : Type} {base base' : Nat} {t' : TypeId} {size' : Nat} {enc' : β → List Value} {v' : Value} {l' : List β} (h : Own w base t size enc v l) (h' : Own w base' t' size' enc' v' l') (hne : t ≠ t') : v.ownBlock = none ∨ v.ownBlock ≠ v'.ownBlock := by
  obtain ⟨_, h2⟩ := h
  obtain ⟨_, h2'⟩ := h'
  rcases h2 with ⟨rfl, _⟩ | ⟨g, cap, cur, rfl, _, hh, _⟩
  · exact .inl rfl
  · rcases h2' with ⟨rfl, _⟩ | ⟨g', cap', cur', rfl, _, hh', _⟩
    · exact .inr (by simp [Value.ownBlock])
    · refine .inr fun e => ?_
      simp [Value.ownBlock] at e
      subst e
      exact Blk.ne_ (cs := cur) (cs' := cur') hh hh' hne rfl
theorem Own.form {base : Nat} (h : Own w base t size enc v l) : ∃ A c, v = .slice A l.length c := by
  obtain ⟨_, h2⟩ := h
  rcases h2 with ⟨rfl, hn⟩ | ⟨g, cap, cur, rfl, _⟩
  · exact ⟨none, 0, by rw [hn]⟩
  · exact ⟨_, _, rfl⟩
theorem Own.form' {base : Nat} (h : Own w base t size enc v l) : ∃ A n c, v = .slice A n c := by
  obtain ⟨A, c, h⟩ := h.form
  exact ⟨A, _, c, h⟩
theorem Own.lt {base : Nat} (h : Own w base t size enc v l) : ∀ k, v.ownBlock = some k → base ≤ k ∧ k < w.heap.size := World.ownsRow.lt h
end

section
variable {α : Type} {P : Program} (w : World) {enc : α → List Value}

/-- 'append(v, x)' at a plain step: the new element lies in a block of its own. -/
theorem wpList_append_one {ops : Array Oper} {rest : List Oper} {o : Oper} {a : Act} {Q : Exit → Act → World → Prop} (hgd : o.guard = none) (s x : Operand) (t : TypeId)
    (ho : o.op = .call { callee := .builtin .append, args := #[s, x], argTypes := #[t, t] })
    (base : Nat) (e : TypeId) (i : TypeInfo) (z : Value) (size bytes : Nat) (ht : P.underlying t = some (.slice e)) (hi : P.info? e = some i) (hz : i.zero = some z)
    (hsize : i.size = size) (hby : i.bytes = bytes) (hzs : z.cells.size = size) (hsz : 0 < size)
    (v : Value) (l : List α) (hs : a.eval s = v) (hown : Own w base e size enc v l) (g : Nat) (y : α) (hx : a.eval x = .slice (some ⟨g, 0, none⟩) 1 1)
    (hy : (enc y).length = size) (hcell : ∀ j u, (enc y)[j]? = some u → w.cell? ⟨g, j, none⟩ = some u) (h1 : ∀ u ∈ enc y, u.oneCell' = true)
    (hbytes : (l.length + 1) * bytes ≤ 140737488355328) (h63 : l.length + 1 ≤ maxLen) (hbase : base ≤ w.heap.size)
    (h : ∀ v' w', Own w' base e size enc v' (l ++ [y]) → w.grownBy w' v.ownBlock → (v'.ownBlock = v.ownBlock ∨ v'.ownBlock = some w.heap.size) → wpList P ops Q rest (a.put o.dst v') w') :
    wpList P ops Q (o :: rest) a w := by
  refine wpList_append_own_at w hgd s x t ho base e i z size bytes ht hi hz hsize hby hzs hsz v l.length (l.flatMap enc) hs hown ⟨g, 0, none⟩ 1 1 (enc y) hx (by rw [hy, Nat.one_mul]) (fun j u hu => ?_) h1 h63 hbytes hbase
    fun v' w' h2 h3 _ h5 => h v' w' ?_ h3 h5
  · rw [← hcell j u hu]
    congr 1
    by_cases h0 : j = 0 <;> simp [Addr.add, h0]
  · unfold Own
    simpa using h2

theorem run_append_of_nil (base : Nat) (t ty e : TypeId) (i : TypeInfo) (size : Nat) (ht : P.underlying t = some (.slice e)) (hi : P.info? e = some i)
    (v : Value) (n : Nat) (xs : List Value) (hown : w.ownsRow base e size v n xs) (A : Option Addr) (c : Nat) : (Builtin.append_ #[t, t] ty #[v, .slice none 0 c]).run P w = .ok v w := by
  rcases hown.2 with ⟨rfl, rfl⟩ | ⟨g, cap, cur, rfl, _, _, hnc, _⟩
  · simp [Builtin.append_, run_underlying ht, sizeOf, typeInfo, hi, Builtin.lenOf, Builtin.firstCells]
  · simp [Builtin.append_, run_underlying ht, sizeOf, typeInfo, hi, Builtin.lenOf, Builtin.firstCells, hnc, storeCells]

theorem run_append_sl (base : Nat) (t ty e : TypeId) (i : TypeInfo) (z : Value) (size bytes : Nat) (ht : P.underlying t = some (.slice e)) (hi : P.info? e = some i) (hz : i.zero = some z)
    (hsize : i.size = size) (hby : i.bytes = bytes) (hzs : z.cells.size = size) (hsz : 0 < size) (henc : ∀ x, (enc x).length = size) (h1 : ∀ x, ∀ u ∈ enc x, u.oneCell' = true)
    (v : Value) (l : List α) (hown : Own w base e size enc v l) (sv : Value) (m : List α) (hr : Sl w e size enc sv m)
    (h63 : l.length + m.length ≤ maxLen) (hbytes : (l.length + m.length) * bytes ≤ 140737488355328) (hbase : base ≤ w.heap.size) :
    ∃ v' w', (Builtin.append_ #[t, t] ty #[v, sv]).run P w = .ok v' w' ∧ Own w' base e size enc v' (l ++ m) ∧ w.grownBy w' v.ownBlock ∧ (v'.ownBlock = v.ownBlock ∨ v'.ownBlock = some w.heap.size) := by
  obtain ⟨A, c, rfl, _, _, h3⟩ := hr
  rcases A with _ | ad
  · have hm : m = [] := by
      rcases m with _ | ⟨x, m⟩
      · rfl
      · obtain ⟨_, _, _, _, h, _⟩ := h3 (by simp)
        cases h
    subst hm
    exact ⟨v, w, run_append_of_nil w base t ty e i size ht hi v _ _ hown none c, by simpa using hown, World.grownBy.refl w _, .inl rfl⟩
  · have hcells : ∀ j u, (m.flatMap enc)[j]? = some u → w.cell? (ad.add j) = some u := by
      intro j u hu
      obtain ⟨k, x, j', hk, hj, rfl⟩ := flat_split henc m j u hu
      obtain ⟨b, off, cs, fr, hA, hb, hc⟩ := h3 (by rintro rfl; simp at hk)
      injection hA with hA
      subst hA
      rw [← hc k x hk j' u hj]
      congr 1
      rw [Nat.add_assoc]
      generalize k * size + j' = q
      by_cases h0 : q = 0 <;> simp [Addr.add, h0]
    obtain ⟨v', w', hrun, h2, h3, _, h5⟩ := run_append_own_at (P := P) w base t ty e i z size bytes ht hi hz hsize hby hzs hsz v l.length _ hown ad m.length c (m.flatMap enc) (flat_length henc m) hcells
      (by intro u hu; obtain ⟨x, _, hx⟩ := List.mem_flatMap.1 hu; exact h1 x u hx) h63 hbytes hbase
    refine ⟨v', w', hrun, ?_, h3, h5⟩
    unfold Own
    simpa using h2

/-- 'append(v, s...)' at a plain step, s whatever. -/
theorem wpList_append_sl {ops : Array Oper} {rest : List Oper} {o : Oper} {a : Act} {Q : Exit → Act → World → Prop} (hgd : o.guard = none) (s x : Operand) (t : TypeId)
    (ho : o.op = .call { callee := .builtin .append, args := #[s, x], argTypes := #[t, t] })
    (base : Nat) (e : TypeId) (i : TypeInfo) (z : Value) (size bytes : Nat) (ht : P.underlying t = some (.slice e)) (hi : P.info? e = some i) (hz : i.zero = some z)
    (hsize : i.size = size) (hby : i.bytes = bytes) (hzs : z.cells.size = size) (hsz : 0 < size) (henc : ∀ x, (enc x).length = size) (h1 : ∀ x, ∀ u ∈ enc x, u.oneCell' = true)
    (v : Value) (l : List α) (hs : a.eval s = v) (hown : Own w base e size enc v l) (sv : Value) (m : List α) (hx : a.eval x = sv) (hr : Sl w e size enc sv m)
    (h63 : l.length + m.length ≤ maxLen) (hbytes : (l.length + m.length) * bytes ≤ 140737488355328) (hbase : base ≤ w.heap.size)
    (h : ∀ v' w', Own w' base e size enc v' (l ++ m) → w.grownBy w' v.ownBlock → (v'.ownBlock = v.ownBlock ∨ v'.ownBlock = some w.heap.size) → wpList P ops Q rest (a.put o.dst v') w') :
    wpList P ops Q (o :: rest) a w := by
  refine wpList_plain hgd fun K hK => ?_
  obtain ⟨v', w', hr', h2, h3, h5⟩ := run_append_sl (P := P) w base t o.type e i z size bytes ht hi hz hsize hby hzs hsz henc h1 v l hown sv m hr h63 hbytes hbase
  unfold Oper.wp execOp
  simp only [ho, resolve, invoke, builtin, Sem.run_bind, Sem.run_pure, Result.andThen_ok, List.map_toArray, List.map_cons, List.map_nil, hs, hx, hr']
  exact hK _ _ (h v' w' h2 h3 h5)

/-- The same at a step of a region that draws its order. -/
theorem step_append_sl {ops : Array Oper} {o : Oper} {a : Act} {K : Act → World → Prop} {Q : Exit → Act → World → Prop} {E : Prop} (hgd : o.guard = none) (s x : Operand) (t : TypeId)
    (ho : o.op = .call { callee := .builtin .append, args := #[s, x], argTypes := #[t, t] })
    (base : Nat) (e : TypeId) (i : TypeInfo) (z : Value) (size bytes : Nat) (ht : P.underlying t = some (.slice e)) (hi : P.info? e = some i) (hz : i.zero = some z)
    (hsize : i.size = size) (hby : i.bytes = bytes) (hzs : z.cells.size = size) (hsz : 0 < size) (henc : ∀ x, (enc x).length = size) (h1 : ∀ x, ∀ u ∈ enc x, u.oneCell' = true)
    (v : Value) (l : List α) (hs : a.eval s = v) (hown : Own w base e size enc v l) (sv : Value) (m : List α) (hx : a.eval x = sv) (hr : Sl w e size enc sv m)
    (h63 : l.length + m.length ≤ maxLen) (hbytes : (l.length + m.length) * bytes ≤ 140737488355328) (hbase : base ≤ w.heap.size)
    (h : ∀ v' w', Own w' base e size enc v' (l ++ m) → w.grownBy w' v.ownBlock → (v'.ownBlock = v.ownBlock ∨ v'.ownBlock = some w.heap.size) → K (a.put o.dst v') w') :
    if Region.wanted o (yielded ops a.tmps) = true then Oper.wp P o a w K Q else E := by
  have hw : Region.wanted o (yielded ops a.tmps) = true := by simp [Region.wanted, hgd]
  rw [if_pos hw]
  obtain ⟨v', w', hr', h2, h3, h5⟩ := run_append_sl (P := P) w base t o.type e i z size bytes ht hi hz hsize hby hzs hsz henc h1 v l hown sv m hr h63 hbytes hbase
  unfold Oper.wp execOp
  simp only [ho, resolve, invoke, builtin, Sem.run_bind, Sem.run_pure, Result.andThen_ok, List.map_toArray, List.map_cons, List.map_nil, hs, hx, hr']
  exact h v' w' h2 h3 h5
end

def eInt (n : Int) : List Value := [.int .i64 n]
def eBool (b : Bool) : List Value := [.bool b]
theorem eInt_len (n : Int) : (eInt n).length = 1 := rfl
theorem eBool_len (b : Bool) : (eBool b).length = 1 := rfl
theorem eInt_one (n : Int) : ∀ u ∈ eInt n, u.oneCell' = true := by simp [eInt, Value.oneCell']
theorem eBool_one (b : Bool) : ∀ u ∈ eBool b, u.oneCell' = true := by simp [eBool, Value.oneCell']
theorem new_cell_int (w : World) (n : Int) (t : TypeId) : ∀ j u, (eInt n)[j]? = some u → (w.alloc (.cells #[.int .i64 n] t)).cell? ⟨w.heap.size, j, none⟩ = some u := by
  intro j u hu
  rw [(Blk.new w t #[.int .i64 n]).cell j, ← hu]
  exact List.getElem?_toArray
theorem new_cell_bool (w : World) (b : Bool) (t : TypeId) : ∀ j u, (eBool b)[j]? = some u → (w.alloc (.cells #[.bool b] t)).cell? ⟨w.heap.size, j, none⟩ = some u := by
  intro j u hu
  rw [(Blk.new w t #[.bool b]).cell j, ← hu]
  exact List.getElem?_toArray
theorem new_cell_int' (w : World) (g : Nat) (hg : w.heap.size = g) (n : Int) (t : TypeId) : ∀ j u, (eInt n)[j]? = some u → (w.alloc (.cells #[.int .i64 n] t)).cell? ⟨g, j, none⟩ = some u := by
  subst hg; exact new_cell_int w n t
theorem new_cell_bool' (w : World) (g : Nat) (hg : w.heap.size = g) (b : Bool) (t : TypeId) : ∀ j u, (eBool b)[j]? = some u → (w.alloc (.cells #[.bool b] t)).cell? ⟨g, j, none⟩ = some u := by
  subst hg; exact new_cell_bool w b t
end Go.Proofs.YtkfkkihdlkhbnaaDoor
