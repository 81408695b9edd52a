/- What a law's walk is told of an argument: it is a value of its type that reads as a datum in the world as it stands; and what that says of numbers, structs and slices. -/
import Derived.Test.YtkfkkihdlkhbnaaDoorRows
import Derived.Test.YtkfkkihdlkhbnaaDoorKit
import Derived.ProofKit
import Derived.OpenShut
import Derived.ShutString
import Derived.ChangeOld
import Derived.Lib.SmallJoins
import Derived.Deep.Slices
import Derived.Deep.Fields
namespace Go.Proofs.YtkfkkihdlkhbnaaDoor
open Go.ChangeShapes Go.WideShapes Go.ChangeAt Go.RowKit Go.Deep Go.Joins

def IsArg (P : Program) (W : World) (t : TypeId) (v : Value) : Prop :=
  ∃ base, Value.okWide P W .any base t v ∧ ∃ (H : Type) (enc : TypeId × Value → H) (d : DataW H) (p : List MemPlace), DataW.Trod enc P W 0 (fun _ => true) true t v d p

/-- Cells that read as a value of a type. -/
def Rd (P : Program) (W : World) (t : TypeId) (cs : List Value) : Prop :=
  ∃ (H : Type) (enc : TypeId × Value → H) (n : Nat) (y : DataW H × List MemPlace), DataW.trod enc P W 0 (fun _ => true) true n t cs = some y

section
variable {P : Program} {W : World} {t e : TypeId} {v : Value} {cs : List Value}

theorem Rd.int {k : IntKind} (ht : P.underlying t = some (.int k)) (h : Rd P W t cs) : ∃ n, cs = [.int k n] ∧ (Lit.int k n).wf = true := by
  obtain ⟨H, enc, n, y, h⟩ := h
  obtain ⟨m, e, _, hw⟩ := DataW.trod_int ht h
  exact ⟨m, e, hw⟩
theorem Rd.bool (ht : P.underlying t = some .bool) (h : Rd P W t cs) : ∃ b, cs = [.bool b] := by
  obtain ⟨H, enc, n, y, h⟩ := h
  obtain ⟨m, e, _⟩ := DataW.trod_bool ht h
  exact ⟨m, e⟩
theorem Rd.string (ht : P.underlying t = some .string) (h : Rd P W t cs) : ∃ s : ByteArray, cs = [.string s] ∧ s.size ≤ maxLen := by
  obtain ⟨H, enc, n, y, h⟩ := h
  obtain ⟨m, e, _, hw⟩ := DataW.trod_string ht h
  exact ⟨m, e, hw⟩
theorem Rd.struct {fs : Array Field} (ht : P.underlying t = some (.struct fs)) (h : Rd P W t cs) :
    cs.length = P.cellsOf t ∧ ∀ (i : Nat) (f : Field), fs[i]? = some f → Rd P W f.type ((cs.drop f.offset).take (P.cellsOf f.type)) := by
  obtain ⟨H, enc, n, y, h⟩ := h
  obtain ⟨xs, m, _, _, hl, hx, hf⟩ := DataW.trod_struct ht h
  refine ⟨hl, fun i f hi => ?_⟩
  have hlt : i < xs.length := by rw [hx]; exact (Array.getElem?_eq_some_iff.1 hi).1
  exact ⟨H, enc, m, xs[i], by rw [hf i f hi, List.getElem?_eq_getElem hlt]⟩

theorem Rd.length {fs : Array Field} (h : Rd P W t cs) (ht : P.underlying t = some (.struct fs)) {n : Nat} (hC : P.cellsOf t = n) : cs.length = n := (h.struct ht).1.trans hC
theorem Rd.field {fs : Array Field} {f : Field} {ft : TypeId} {o n : Nat} (h : Rd P W t cs) (ht : P.underlying t = some (.struct fs)) (i : Nat) (hi : fs[i]? = some f) (hft : f.type = ft) (ho : f.offset = o)
    (hn : P.cellsOf ft = n) : Rd P W ft ((cs.drop o).take n) := by
  have := (h.struct ht).2 i f hi
  rw [hft, ho, hn] at this
  exact this

theorem IsArg.rd (h : IsArg P W t v) : Rd P W t v.cells.toList := by
  obtain ⟨_, _, H, enc, d, p, n, hn⟩ := h
  exact ⟨H, enc, n, _, hn⟩

theorem IsArg.int {k : IntKind} (ht : P.underlying t = some (.int k)) (h : IsArg P W t v) : ∃ n, v = .int k n ∧ (Lit.int k n).wf = true := by
  have hr := h.rd
  obtain ⟨base, hok, _⟩ := h
  obtain ⟨n, rfl⟩ := okWide_int ht hok
  obtain ⟨n', e, hw⟩ := hr.int ht
  simp [Value.cells] at e
  subst e
  exact ⟨n, rfl, hw⟩

theorem IsArg.struct {fs : Array Field} (ht : P.underlying t = some (.struct fs)) (h : IsArg P W t v) : ∃ cs : List Value, v = .agg cs.toArray ∧ Rd P W t cs := by
  have hr := h.rd
  obtain ⟨base, hok, _⟩ := h
  obtain ⟨cs, rfl, _⟩ := okWide_struct ht hok
  exact ⟨cs.toList, by simp, by simpa [Value.cells] using hr⟩

/-- Elements that lie in a row, each as the cells that `enc` tells, behind the address A (nothing is said of A where there are none). -/
def RowsAt {α : Type} (w : World) (size : Nat) (enc : α → List Value) (A : Option Addr) (l : List α) : Prop :=
  l ≠ [] → ∃ b off, A = some ⟨b, off, none⟩ ∧ b < w.heap.size ∧ ∀ k x, l[k]? = some x → ∀ j u, (enc x)[j]? = some u → w.cell? ⟨b, off + k * size + j, none⟩ = some u

theorem RowsAt.below {α : Type} {w w' : World} {size : Nat} {enc : α → List Value} {A : Option Addr} {l : List α} (h : RowsAt w size enc A l) (hb : Below w.heap.size w w') : RowsAt w' size enc A l := by
  intro hne
  obtain ⟨b, off, e, hlt, hc⟩ := h hne
  exact ⟨b, off, e, Nat.lt_of_lt_of_le hlt hb.size, fun k x hx j u hu => (hb.cell (p := ⟨b, _, none⟩) hlt).trans (hc k x hx j u hu)⟩

theorem IsArg.slice {α : Type} {size : Nat} (enc : α → List Value) (ht : P.underlying t = some (.slice e)) (hC : P.cellsOf e = size) (hpos : 0 < size)
    (dec : ∀ cs, Rd P W e cs → ∃ x, enc x = cs) (h : IsArg P W t v) :
    ∃ (A : Option Addr) (cap : Nat) (l : List α), v = .slice A l.length cap ∧ l.length ≤ cap ∧ cap ≤ maxLen ∧ RowsAt W size enc A l := by
  obtain ⟨base, hok, H, en, d, p, n, hn⟩ := h
  obtain ⟨a0, len0, cap0, rfl⟩ := okWide_slice ht hok
  rcases open_slice ht hn with ⟨hcs, _⟩ | ⟨a, len, cap, m, n', D, Pl, hcs, _, hl, hm, hmm, hx, hi⟩
  · simp [Value.cells] at hcs
    obtain ⟨rfl, rfl, rfl⟩ := hcs
    exact ⟨none, 0, [], rfl, Nat.le_refl _, Nat.zero_le _, fun h => absurd rfl h⟩
  · simp [Value.cells] at hcs
    obtain ⟨rfl, rfl, rfl⟩ := hcs
    simp only [if_true] at hmm
    subst hmm
    rw [hC] at hi
    obtain ⟨l, hlen, hp⟩ := list_of (p := fun i x => W.cells? 0 (a.add (i * size)) size = some (enc x)) len0 fun i hi' => by
      obtain ⟨cs', hc, ht'⟩ := hi i (by omega)
      obtain ⟨x, rfl⟩ := dec cs' ⟨H, en, n', _, ht'⟩
      exact ⟨x, hc⟩
    subst hlen
    refine ⟨some a, m, l, rfl, hl, hm, fun hne => ?_⟩
    obtain ⟨b, off, spot⟩ := a
    obtain ⟨x0, hx0⟩ : ∃ x, l[0]? = some x := by
      cases l with
      | nil => exact absurd rfl hne
      | cons x _ => exact ⟨x, rfl⟩
    obtain ⟨_, hcl0, hat0⟩ := World.cells?_some (hp 0 x0 hx0)
    have h00 := hat0 0 hpos
    rw [show (((⟨b, off, spot⟩ : Addr).add (0 * size)).add 0) = ⟨b, off, spot⟩ from by simp [Addr.add]] at h00
    obtain ⟨u, hu⟩ : ∃ u, (enc x0)[0]? = some u := ⟨(enc x0)[0]'(by omega), List.getElem?_eq_getElem _⟩
    rw [hu] at h00
    have hs := World.cell?_spot h00
    simp only at hs
    subst hs
    refine ⟨b, off, rfl, ?_, fun k x hx j u hu => ?_⟩
    · exact World.block_lt_of_cell? _ _ h00
    · obtain ⟨_, hcl, hat⟩ := World.cells?_some (hp k x hx)
      have hj : j < size := by
        rw [← hcl]
        rcases Nat.lt_or_ge j (enc x).length with h | h
        · exact h
        · rw [List.getElem?_eq_none h] at hu; cases hu
      have hjj := hat j hj
      rw [hu] at hjj
      rw [← hjj]
      congr 1
      by_cases h1 : k * size = 0 <;> by_cases h2 : j = 0 <;> simp [Addr.add, h1, h2]
end
end Go.Proofs.YtkfkkihdlkhbnaaDoor
