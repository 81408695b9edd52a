/- Words for memory: a block that is known whole; rows of elements of several cells in one block, read and written; what a call has left as it was. -/
import Derived.Test.YtkfkkihdlkhbnaaDoorKit
import Derived.Laws.OwnMore
import Derived.Laws.Rows
import Derived.Laws.MakeOwn
namespace Go.Proofs.YtkfkkihdlkhbnaaDoor
open Go.RowKit

/-- Block g is just the cells cs of element type t, none frozen. -/
def Blk (w : World) (g : Nat) (t : TypeId) (cs : Array Value) : Prop := w.heap[g]? = some (.cells cs t (0, 0))

/-- But for the blocks of F, and new ones, the world w is as a was. -/
structure Kept (F : Nat → Prop) (a w : World) : Prop where
  os : w.os = a.os
  tape : w.tape = a.tape
  output : w.output = a.output
  size : a.heap.size ≤ w.heap.size
  block : ∀ i, i < a.heap.size → ¬ F i → w.heap[i]? = a.heap[i]?

/-- No block that was there has turned. -/
def none_ : Nat → Prop := fun _ => False

section
variable {w w' a b c : World} {g : Nat} {t : TypeId} {cs : Array Value} {F G : Nat → Prop}
theorem Kept.refl (F : Nat → Prop) (w : World) : Kept F w w := ⟨rfl, rfl, rfl, Nat.le_refl _, fun _ _ _ => rfl⟩
theorem Kept.mono (h : Kept F a w) (hFG : ∀ i, i < a.heap.size → F i → G i) : Kept G a w := ⟨h.os, h.tape, h.output, h.size, fun i hi hg => h.block i hi fun hf => hg (hFG i hi hf)⟩
theorem Kept.trans (h : Kept F a b) (k : Kept F b c) : Kept F a c :=
  ⟨k.os.trans h.os, k.tape.trans h.tape, k.output.trans h.output, Nat.le_trans h.size k.size, fun i hi hf => (k.block i (Nat.lt_of_lt_of_le hi h.size) hf).trans (h.block i hi hf)⟩
theorem Kept.trans' (h : Kept F a b) (k : Kept G b c) (hG : ∀ i, G i → F i ∨ a.heap.size ≤ i) : Kept F a c :=
  ⟨k.os.trans h.os, k.tape.trans h.tape, k.output.trans h.output, Nat.le_trans h.size k.size, fun i hi hf => (k.block i (Nat.lt_of_lt_of_le hi h.size) fun hg => by
    rcases hG i hg with h | h
    · exact hf h
    · omega).trans (h.block i hi hf)⟩
theorem Kept.drewN (h : Kept F a w) (n : Nat) : Kept F a (w.drewN n) := ⟨h.os, h.tape, h.output, h.size, h.block⟩
theorem Kept.drew (h : Kept F a w) : Kept F a w.drew := ⟨h.os, h.tape, h.output, h.size, h.block⟩
theorem Kept.alloc (h : Kept F a w) (o : Obj) : Kept F a (w.alloc o) :=
  h.trans ⟨rfl, rfl, rfl, by simp, fun _ hi _ => Below.heap_alloc _ _ _ hi⟩
theorem Kept.setCell (h : Kept F a w) {p : Addr} (hp : F p.block ∨ a.heap.size ≤ p.block) (u : Value) : Kept F a (w.setCell p u) :=
  ⟨h.os, h.tape, h.output, by simpa [World.setCell] using h.size, fun i hi hf => (Below.heap_setCell w p u i (by
    rintro rfl
    rcases hp with hp | hp
    · exact hf hp
    · omega)).trans (h.block i hi hf)⟩
theorem Kept.below {B : Nat} (h : Below B w w') (hB : B = w.heap.size) : Kept F w w' := ⟨h.os, h.tape, h.output, h.size, fun i hi _ => h.block i (by omega)⟩
theorem Kept.grown {row : Option Nat} (h : w.grownBy w' row) (hr : ∀ k, row = some k → F k ∨ w.heap.size ≤ k) : Kept F w w' :=
  ⟨h.os, h.tape, h.output, h.size, fun i hi hf => h.block i hi fun e => by
    rcases hr i e.symm with h | h
    · exact hf h
    · omega⟩
/-- Below B, where all that may turn lies from B on. -/
theorem Kept.toBelow {B : Nat} (h : Kept F a w) (hF : ∀ i, F i → B ≤ i) (hB : B ≤ a.heap.size) : Below B a w :=
  ⟨h.os, h.tape, h.output, h.size, fun i hi => h.block i (by omega) fun hf => by have := hF i hf; omega⟩
theorem Kept.toBelow' (h : Kept none_ a w) : Below a.heap.size a w := h.toBelow (fun _ h => h.elim) (Nat.le_refl _)
theorem Kept.cell (h : Kept F a w) {p : Addr} (hp : p.block < a.heap.size) (hf : ¬ F p.block) : w.cell? p = a.cell? p := World.cell?_of_block (w := a) (h.block p.block hp hf)

theorem Blk.lt (h : Blk w g t cs) : g < w.heap.size := by
  rcases Nat.lt_or_ge g w.heap.size with hlt | hge
  · exact hlt
  · unfold Blk at h; rw [Array.getElem?_eq_none hge] at h; cases h
theorem Blk.cell (h : Blk w g t cs) (i : Nat) : w.cell? ⟨g, i, none⟩ = cs[i]? := cell_of_row w g i cs t (0, 0) h
theorem Blk.frozen (h : Blk w g t cs) (i : Nat) : w.frozen? ⟨g, i, none⟩ = false := by
  unfold Blk at h
  simp [World.frozen?, h]
theorem Blk.new (w : World) (t : TypeId) (cs : Array Value) : Blk (w.alloc (.cells cs t)) w.heap.size t cs := heap_alloc_new w _
theorem Blk.drewN (h : Blk w g t cs) (n : Nat) : Blk (w.drewN n) g t cs := h
theorem Blk.drew (h : Blk w g t cs) : Blk w.drew g t cs := h
theorem Blk.alloc (h : Blk w g t cs) (o : Obj) : Blk (w.alloc o) g t cs := (Below.heap_alloc w o g h.lt).trans h
theorem Blk.set_ (h : Blk w g t cs) (i : Nat) (u : Value) : Blk (w.setCell ⟨g, i, none⟩ u) g t (cs.setIfInBounds i u) := by
  unfold Blk at h ⊢
  simp [World.setCell, Array.getElem?_modify, h]
theorem Blk.far (h : Blk w g t cs) {p : Addr} (hp : g ≠ p.block) (u : Value) : Blk (w.setCell p u) g t cs := (Below.heap_setCell w p u g hp).trans h
theorem Blk.kept (h : Blk w g t cs) (hk : Kept F w w') (hf : ¬ F g) : Blk w' g t cs := (hk.block g h.lt hf).trans h
theorem Blk.ne_ {g' : Nat} {t' : TypeId} {cs' : Array Value} (h : Blk w g t cs) (h' : Blk w g' t' cs') (hne : t ≠ t') : g ≠ g' := by
  rintro rfl
  unfold Blk at h h'
  rw [h] at h'
  injection h' with h'
  injection h' with _ ht
  exact hne ht
end

section
variable {w : World} {t : TypeId}
/-- Blocks of elements of type t are not among F. -/
def Off (w : World) (t : TypeId) (F : Nat → Prop) : Prop := ∀ b cs fr, w.heap[b]? = some (.cells cs t fr) → ¬ F b

theorem Off.none_ : Off w t none_ := fun _ _ _ _ h => h
theorem Off.one {g : Nat} {t' : TypeId} {cs : Array Value} (h : Blk w g t' cs) (hne : t' ≠ t) : Off w t (· = g) := by
  rintro b cs' fr hb rfl
  unfold Blk at h
  rw [h] at hb
  injection hb with hb
  injection hb with _ hb
  exact hne hb
theorem Off.or {F G : Nat → Prop} (h : Off w t F) (k : Off w t G) : Off w t (fun i => F i ∨ G i) := fun b cs fr hb hf => hf.elim (h b cs fr hb) (k b cs fr hb)
end

/-- Behind a call that left what was there: a block, two blocks that the caller had just laid. -/
theorem one_new {w w1 : World} {t : TypeId} {cs : Array Value} (hb : Below (w.alloc (.cells cs t)).heap.size (w.alloc (.cells cs t)) w1) : Blk w1 w.heap.size t cs ∧ w.heap.size < w1.heap.size ∧ Below w.heap.size w w1 := by
  have hs := hb.size
  simp at hs
  exact ⟨(Blk.new w t cs).kept (F := none_) (Kept.below hb rfl) (fun h => h), by omega, ((Below.refl _ _).alloc (Nat.le_refl _) _).trans (hb.mono (by simp))⟩
theorem two_new {w w1 : World} {t t' : TypeId} {cs cs' : Array Value} (hb : Below ((w.alloc (.cells cs t)).alloc (.cells cs' t')).heap.size ((w.alloc (.cells cs t)).alloc (.cells cs' t')) w1) :
    Blk w1 w.heap.size t cs ∧ Blk w1 (w.heap.size + 1) t' cs' ∧ w.heap.size + 1 < w1.heap.size ∧ Below w.heap.size w w1 := by
  have hs := hb.size
  simp at hs
  have h2 : Blk ((w.alloc (.cells cs t)).alloc (.cells cs' t')) (w.heap.size + 1) t' cs' := by have := Blk.new (w.alloc (.cells cs t)) t' cs'; simpa using this
  exact ⟨((Blk.new w t cs).alloc _).kept (F := none_) (Kept.below hb rfl) (fun h => h), h2.kept (F := none_) (Kept.below hb rfl) (fun h => h), by omega,
    (((Below.refl _ _).alloc (Nat.le_refl _) _).alloc (by simp) _).trans (hb.mono (by simp; omega))⟩

/-! ### Rows of elements in one block -/
section
variable {α : Type} {w w' : World} {g : Nat} {t : TypeId} {size : Nat} {enc : α → List Value} {l : List α} {F : Nat → Prop}

/-- Block g holds, from its first cell on, the elements of l one behind the other, each of `size` cells as `enc` tells. -/
def RowsIn (w : World) (g : Nat) (t : TypeId) (size : Nat) (enc : α → List Value) (l : List α) : Prop :=
  ∃ arr, Blk w g t arr ∧ l.length * size ≤ arr.size ∧ ∀ k x, l[k]? = some x → ∀ j u, (enc x)[j]? = some u → arr[k * size + j]? = some u

theorem RowsIn.lt (h : RowsIn w g t size enc l) : g < w.heap.size := by obtain ⟨_, h, _⟩ := h; exact h.lt
theorem RowsIn.cell (h : RowsIn w g t size enc l) {k : Nat} {x : α} (hx : l[k]? = some x) (j : Nat) {u : Value} (hu : (enc x)[j]? = some u) : w.cell? ⟨g, k * size + j, none⟩ = some u := by
  obtain ⟨arr, hb, _, hr⟩ := h
  rw [hb.cell]
  exact hr k x hx j u hu
theorem RowsIn.frozen (h : RowsIn w g t size enc l) (i : Nat) : w.frozen? ⟨g, i, none⟩ = false := by obtain ⟨_, h, _⟩ := h; exact h.frozen i
theorem RowsIn.drewN (h : RowsIn w g t size enc l) (n : Nat) : RowsIn (w.drewN n) g t size enc l := h
theorem RowsIn.drew (h : RowsIn w g t size enc l) : RowsIn w.drew g t size enc l := h
theorem RowsIn.alloc (h : RowsIn w g t size enc l) (o : Obj) : RowsIn (w.alloc o) g t size enc l := by
  obtain ⟨arr, hb, r⟩ := h
  exact ⟨arr, hb.alloc o, r⟩
theorem RowsIn.far (h : RowsIn w g t size enc l) {p : Addr} (hp : g ≠ p.block) (u : Value) : RowsIn (w.setCell p u) g t size enc l := by
  obtain ⟨arr, hb, r⟩ := h
  exact ⟨arr, hb.far hp u, r⟩
theorem RowsIn.kept (h : RowsIn w g t size enc l) (hk : Kept F w w') (hf : ¬ F g) : RowsIn w' g t size enc l := by
  obtain ⟨arr, hb, r⟩ := h
  exact ⟨arr, hb.kept hk hf, r⟩

/-- One cell of one element is written: cell j of element k. -/
theorem RowsIn.set_ (h : RowsIn w g t size enc l) (hsz : ∀ x, (enc x).length = size) {k : Nat} {x x' : α} (hx : l[k]? = some x) {j : Nat} (hj : j < size) {u : Value} (he : enc x' = (enc x).set j u) :
    RowsIn (w.setCell ⟨g, k * size + j, none⟩ u) g t size enc (l.set k x') := by
  obtain ⟨arr, hb, hle, hr⟩ := h
  have hkl : k < l.length := (List.getElem?_eq_some_iff.1 hx).1
  have hin : k * size + j < arr.size := by
    have h1 : (k + 1) * size ≤ l.length * size := Nat.mul_le_mul_right _ hkl
    rw [Nat.succ_mul] at h1
    omega
  refine ⟨arr.setIfInBounds (k * size + j) u, hb.set_ _ _, by simpa using hle, fun k' y hy j' v hv => ?_⟩
  have hj' : j' < size := by rw [← hsz y]; exact (List.getElem?_eq_some_iff.1 hv).1
  rw [Array.getElem?_setIfInBounds]
  rw [List.getElem?_set] at hy
  by_cases hk : k = k'
  · subst hk
    simp only [if_true, hkl] at hy
    injection hy with hy
    subst hy
    rw [he, List.getElem?_set] at hv
    by_cases hjj : j = j'
    · subst hjj
      rw [if_pos rfl, if_pos (by rw [hsz]; exact hj)] at hv
      rw [if_pos rfl, if_pos hin]
      exact hv
    · rw [if_neg hjj] at hv
      rw [if_neg (by omega)]
      exact hr _ _ hx _ _ hv
  · rw [if_neg hk] at hy
    have hne : ¬ (k * size + j = k' * size + j') := by
      intro e
      rcases Nat.lt_or_gt_of_ne hk with h | h
      · have : (k + 1) * size ≤ k' * size := Nat.mul_le_mul_right _ h
        rw [Nat.succ_mul] at this; omega
      · have : (k' + 1) * size ≤ k * size := Nat.mul_le_mul_right _ h
        rw [Nat.succ_mul] at this; omega
    rw [if_neg hne]
    exact hr _ _ hy _ _ hv


theorem flat_get (hsz : ∀ x, (enc x).length = size) : ∀ (l : List α) (k : Nat) (x : α), l[k]? = some x → ∀ (j : Nat) (u : Value), (enc x)[j]? = some u → (l.flatMap enc)[k * size + j]? = some u
  | [], _, _, h, _, _, _ => by simp at h
  | y :: l, 0, x, h, j, u, hu => by
    simp at h
    subst h
    rw [List.flatMap_cons, Nat.zero_mul, Nat.zero_add, List.getElem?_append_left (List.getElem?_eq_some_iff.1 hu).1]
    exact hu
  | y :: l, k + 1, x, h, j, u, hu => by
    rw [List.flatMap_cons, List.getElem?_append_right (by rw [hsz, Nat.succ_mul]; omega), hsz, show (k + 1) * size + j - size = k * size + j from by rw [Nat.succ_mul]; omega]
    exact flat_get hsz l k x (by simpa using h) j u hu

theorem flat_split (hsz : ∀ x, (enc x).length = size) : ∀ (l : List α) (m : Nat) (u : Value), (l.flatMap enc)[m]? = some u → ∃ k x j, l[k]? = some x ∧ (enc x)[j]? = some u ∧ m = k * size + j
  | [], m, u, h => by simp at h
  | y :: l, m, u, h => by
    rw [List.flatMap_cons] at h
    by_cases hm : m < size
    · rw [List.getElem?_append_left (by rw [hsz]; exact hm)] at h
      exact ⟨0, y, m, rfl, h, by omega⟩
    · rw [List.getElem?_append_right (by rw [hsz]; omega), hsz] at h
      obtain ⟨k, x, j, h1, h2, h3⟩ := flat_split hsz l _ u h
      exact ⟨k + 1, x, j, by simpa using h1, h2, by rw [Nat.succ_mul]; omega⟩

theorem flat_length (hsz : ∀ x, (enc x).length = size) (l : List α) : (l.flatMap enc).length = l.length * size := by
  induction l with
  | nil => simp
  | cons x l ih => rw [List.flatMap_cons, List.length_append, hsz, ih, List.length_cons, Nat.succ_mul]; omega

/-- What the rows hold, cell by cell: for an append of all of them. -/
theorem RowsIn.news (h : RowsIn w g t size enc l) (hsz : ∀ x, (enc x).length = size) (j : Nat) (u : Value) (hu : (l.flatMap enc)[j]? = some u) : w.cell? ((⟨g, 0, none⟩ : Addr).add j) = some u := by
  obtain ⟨k, x, j', h1, h2, rfl⟩ := flat_split hsz l j u hu
  have := h.cell h1 j' h2
  rw [← this]
  congr 1
  generalize k * size + j' = m
  by_cases h0 : m = 0 <;> simp [Addr.add, h0]

/-- A row that the call owns, its elements known. -/
theorem RowsIn.of_own {base n cap : Nat} (hsz : ∀ x, (enc x).length = size) (h : w.ownsRow base t size (.slice (some ⟨g, 0, none⟩) n cap) n (l.flatMap enc)) (hn : l.length = n) :
    RowsIn w g t size enc l ∧ n ≤ cap := by
  obtain ⟨hl, h⟩ := h
  rcases h with ⟨h, _⟩ | ⟨g', cap', cur, h, _, hh, hnc, _, hcs, hx⟩
  · cases h
  · injection h with h1 h2 h3
    injection h1 with h1
    injection h1 with h1
    subst h1 h3 hn
    have hle : l.length * size ≤ cap * size := Nat.mul_le_mul_right _ hnc
    refine ⟨⟨cur, hh, by omega, fun k x hk j u hu => ?_⟩, hnc⟩
    have := flat_get hsz l k x hk j u hu
    rw [← hx, List.getElem?_take] at this
    split at this
    · rw [Array.getElem?_toList] at this
      exact this
    · cases this

theorem madeCells_get (z : Array Value) (m i : Nat) (hi : i < m) (hz : 0 < z.size) : (madeCells z m)[i]? = z[i % z.size]? := by
  unfold madeCells
  have h : i % z.size < z.size := Nat.mod_lt _ hz
  simp [hi, h, getElem!_pos]

/-- A row that make has made: n zero elements. -/
theorem RowsIn.made (w : World) (z : Array Value) (x0 : α) (n : Nat) (hz : enc x0 = z.toList) (hsz : z.size = size) (hpos : 0 < size) :
    RowsIn (w.alloc (.cells (madeCells z (n * size)) t)) w.heap.size t size enc (List.replicate n x0) := by
  refine ⟨_, Blk.new w t _, by rw [size_madeCells]; simp, fun k x hx j u hu => ?_⟩
  rw [List.getElem?_replicate] at hx
  split at hx
  · rename_i hk
    injection hx with hx
    subst hx
    rw [hz, Array.getElem?_toList] at hu
    have hj : j < size := by
      rw [← hsz]
      exact (Array.getElem?_eq_some_iff.1 hu).1
    have hin : k * size + j < n * size := by
      have : (k + 1) * size ≤ n * size := Nat.mul_le_mul_right _ hk
      rw [Nat.succ_mul] at this; omega
    rw [madeCells_get z _ _ hin (by omega), ← hu, hsz]
    congr 1
    rw [Nat.add_comm, Nat.add_mul_mod_self_right, Nat.mod_eq_of_lt hj]
  · cases hx

theorem run_make_rows {P : Program} (t e : TypeId) (i : TypeInfo) (z : Value) (ht : P.underlying t = some (.slice e)) (hi : P.info? e = some i) (hz : i.zero = some z)
    (kl kc : IntKind) (n c : Nat) (hnc : n ≤ c) (hbytes : i.bytes * c ≤ 281474976710656) (h63 : c ≤ 9223372036854775807) (w : World) :
    (Instr.makeSlice t (.int kl (n : Int)) (.int kc (c : Int))).run P w = .ok (.slice (some ⟨w.heap.size, 0, none⟩) n c) (w.alloc (.cells (madeCells z.cells (c * i.size)) e)) := by
  have hb : (i.bytes : Int) * (c : Int) ≤ 281474976710656 := by
    have h : ((i.bytes * c : Nat) : Int) ≤ 281474976710656 := by omega
    rwa [Int.natCast_mul] at h
  have hr := run_make (P := P) w t e i z ht hi hz kl kc n c (by omega) (by omega) hb (by omega)
  simp only [Int.toNat_natCast] at hr
  exact hr
end
end Go.Proofs.YtkfkkihdlkhbnaaDoor
