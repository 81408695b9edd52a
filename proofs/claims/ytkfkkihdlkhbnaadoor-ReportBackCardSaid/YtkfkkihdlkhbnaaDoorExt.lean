/- A region that draws its order, whose operations only read and whose callees leave all that was there as it was (they may make memory): one walk of the text's order. -/
import Derived.Test.YtkfkkihdlkhbnaaDoorMem
import Derived.BigQuiet
import Derived.Deep.QuietTactic
namespace Go.Proofs.YtkfkkihdlkhbnaaDoor
open Go.RowKit

/-- A world that holds all that W holds. -/
def Ext (W : World) : Type := { w' : World // Below W.heap.size W w' }
instance (W : World) : Nonempty (Ext W) := ⟨⟨W, Below.refl _ _⟩⟩
def Ext.w {W : World} (z : Ext W) : World := z.1
theorem Ext.below {W : World} (z : Ext W) : Below W.heap.size W z.w := z.2

theorem wp_region_ext {P : Program} {id : Nat} {Q : Exit → Act → World → Prop} {a : Act} {w : World} {l : List Oper} (hm : P.follows .mixedOrders = true) (hB : Region.lexB .any l.toArray = true)
    (h : wpQuiet P l.toArray (fun w' => ∃ z : Ext w, w' = z.w) (fun a' => ∀ w', (∃ z : Ext w, w' = z.w) → Q .normal a' w') l a) : (Code.region id l.toArray true).wp P Q a w :=
  wp_region_quiet (C := fun w' => ∃ z : Ext w, w' = z.w) hm hB ⟨⟨{ w with drawn := w.drawn + 1 }, (Below.refl _ w).drew⟩, rfl⟩ (by simpa using h)

theorem Ext.cell {W : World} {b o : Nat} {v : Value} (h : W.cell? ⟨b, o, none⟩ = some v) (z : Ext W) : z.w.cell? ⟨b, o, none⟩ = some v :=
  (z.below.cell (p := ⟨b, o, none⟩) (World.block_lt_of_cell? W _ h)).trans h

theorem Ext.cell_al {w : World} {H : Obj} {b o : Nat} {v : Value} (h : w.cell? ⟨b, o, none⟩ = some v) (z : Ext (w.alloc H)) : z.w.cell? ⟨b, o, none⟩ = some v :=
  Ext.cell ((World.cell?_alloc_lt w H ⟨b, o, none⟩ (World.block_lt_of_cell? w _ h)).trans h) z
theorem Ext.blk_al {w : World} {t : TypeId} {cs : Array Value} (z : Ext (w.alloc (.cells cs t))) : Blk z.w w.heap.size t cs := (Blk.new w t cs).kept (F := none_) (Kept.below z.below rfl) (fun h => h)
theorem Ext.kept {W : World} (z : Ext W) : Kept none_ W z.w := Kept.below z.below rfl
theorem Ext.kept_al {w : World} {H : Obj} (z : Ext (w.alloc H)) : Kept none_ w z.w := ((Kept.refl _ _).alloc H).trans (Kept.below z.below rfl)
theorem ext_call {P : Program} {f : FuncId} {args : Array Value} {W : World} {v : Value} {z : Ext W}
    (h : Calls P f args z.w fun e w' => e = .returned v ∧ Below z.w.heap.size z.w w') : Calls P f args z.w fun e w'' => e = .returned v ∧ ∃ z' : Ext W, w'' = z'.w :=
  h.mono fun _ w' ⟨he, hb⟩ => ⟨he, ⟨w', z.below.trans (hb.mono z.below.size)⟩, rfl⟩
theorem ext_same {P : Program} {f : FuncId} {args : Array Value} {W : World} {v : Value} {z : Ext W}
    (h : Calls P f args z.w fun e w' => e = .returned v ∧ z.w = w') : Calls P f args z.w fun e w'' => e = .returned v ∧ ∃ z' : Ext W, w'' = z'.w :=
  h.mono fun _ _ ⟨he, hb⟩ => ⟨he, z, hb.symm⟩
end Go.Proofs.YtkfkkihdlkhbnaaDoor
