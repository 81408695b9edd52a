/- The eight cells of an output, stored one behind the other. -/
import Derived.Test.YtkfkkihdlkhbnaaDoorReadLaw
namespace Go.Proofs.YtkfkkihdlkhbnaaDoor.Str
open Go.RowKit
@[reducible] def set8 (w : World) (g : Nat) (u0 u1 u2 u3 u4 u5 u6 u7 : Value) : World := ((((((((w.setCell ⟨g, 0, none⟩ u0).setCell ⟨g, 1, none⟩ u1).setCell ⟨g, 2, none⟩ u2).setCell ⟨g, 3, none⟩ u3).setCell ⟨g, 4, none⟩ u4).setCell ⟨g, 5, none⟩ u5).setCell ⟨g, 6, none⟩ u6).setCell ⟨g, 7, none⟩ u7)
theorem Below.set8 {B : Nat} {a w : World} (h : Below B a w) {g : Nat} (hg : B ≤ g) (u0 u1 u2 u3 u4 u5 u6 u7 : Value) : Below B a (set8 w g u0 u1 u2 u3 u4 u5 u6 u7) := ((((((((h.setCell hg u0).setCell hg u1).setCell hg u2).setCell hg u3).setCell hg u4).setCell hg u5).setCell hg u6).setCell hg u7)
theorem Kept.set8 {F : Nat → Prop} {a w : World} (h : Kept F a w) {g : Nat} (hg : F g ∨ a.heap.size ≤ g) (u0 u1 u2 u3 u4 u5 u6 u7 : Value) : Kept F a (set8 w g u0 u1 u2 u3 u4 u5 u6 u7) := ((((((((h.setCell hg u0).setCell hg u1).setCell hg u2).setCell hg u3).setCell hg u4).setCell hg u5).setCell hg u6).setCell hg u7)
theorem Blk.set8 {w : World} {g : Nat} {x0 x1 x2 x3 x4 x5 x6 x7 : Value} (h : Blk w g 23 #[x0, x1, x2, x3, x4, x5, x6, x7]) (u0 u1 u2 u3 u4 u5 u6 u7 : Value) : Blk (set8 w g u0 u1 u2 u3 u4 u5 u6 u7) g 23 #[u0, u1, u2, u3, u4, u5, u6, u7] := by
  have := ((((((((h.set_ 0 u0).set_ 1 u1).set_ 2 u2).set_ 3 u3).set_ 4 u4).set_ 5 u5).set_ 6 u6).set_ 7 u7)
  simpa using this
def readV (o : Option Ou) : Value := .tuple #[(o.getD Ou.zero).v, .bool o.isSome]
theorem wd_at {W : World} {B O n c : Nat} {ws : List (List UInt8)} (h : Wd W (.slice (some ⟨B, O, none⟩) n c) ws) {i : Nat} {x : List UInt8} (hx : ws[i]? = some x) : W.cell? ⟨B, O + i, none⟩ = some (.string ⟨x.toArray⟩) ∧ B < W.heap.size := by
  obtain ⟨b, off, e, hb, hc⟩ := h.at1 hx rfl
  injection e with e
  injection e with e1 e2
  subst e1 e2
  exact ⟨hc, hb⟩
theorem ou_cells {W : World} {g : Nat} {o : Ou} (h : Blk W g 23 o.cs) : W.cell? ⟨g, 0, none⟩ = some (.int .i64 o.kind) ∧ W.cell? ⟨g, 1, none⟩ = some (.int .i64 o.seq) ∧ W.cell? ⟨g, 2, none⟩ = some (.int .i64 o.leaf) ∧ W.cell? ⟨g, 3, none⟩ = some (.int .i64 o.lender) ∧ W.cell? ⟨g, 4, none⟩ = some (.int .i64 o.reason) ∧ W.cell? ⟨g, 5, none⟩ = some (.int .i64 o.now) ∧ W.cell? ⟨g, 6, none⟩ = some (.int .i64 o.wake) ∧ W.cell? ⟨g, 7, none⟩ = some (.string o.reply) :=
  ⟨h.cell 0, h.cell 1, h.cell 2, h.cell 3, h.cell 4, h.cell 5, h.cell 6, h.cell 7⟩
theorem readP_none {l : List UInt8} {ws : List (List UInt8)} (hw : wordsL l = ws) (h2 : ws.length % 2 = 0) (hf : foldP ws (startO ws) = none) : readP l = none := by
  unfold readP
  rw [hw, if_pos h2, hf]
theorem unhG_size (b : List UInt8) : (unhG b).size ≤ b.length := by
  unfold unhG baOf
  show (((unhx b).getD []).toArray).size ≤ _
  rw [List.size_toArray]
  unfold unhx
  split
  · have := rp_len b; simp; omega
  · simp
theorem told_reply (o : Ou) (x : List UInt8) (n : Int) : (toldO o x n).reply = o.reply := by
  unfold toldO
  split
  · unfold setF; split <;> rfl
  · rfl
theorem drop_two {ws : List (List UInt8)} {p : Nat} {a b : List UInt8} (ha : ws[p]? = some a) (hb : ws[p + 1]? = some b) : ws.drop p = a :: b :: ws.drop (p + 2) := by
  obtain ⟨h1, rfl⟩ := List.getElem?_eq_some_iff.1 ha
  obtain ⟨h2, rfl⟩ := List.getElem?_eq_some_iff.1 hb
  rw [List.drop_eq_getElem_cons h1, List.drop_eq_getElem_cons h2]
end Go.Proofs.YtkfkkihdlkhbnaaDoor.Str
