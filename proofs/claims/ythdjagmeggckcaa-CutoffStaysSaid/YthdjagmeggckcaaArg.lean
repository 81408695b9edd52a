/- What a law's walk is told of an argument: it is a value of its type that reads as a datum in the world as it stands. -/
import Derived.Test.YthdjagmeggckcaaRows
import Derived.WalkKit
import Derived.ProofKit
import Derived.OpenShut
import Derived.ShutString
import Derived.ChangeOld
import Derived.Below
import Derived.Lib.SmallJoins
import Derived.Deep.Slices
import Derived.Deep.Fields
namespace Go.Proofs.Ythdjagmeggckcaa
open Go.ChangeShapes Go.WideShapes Go.ChangeAt Go.RowKit Go.Deep Go.Joins

def IsArg (P : Program) (W : World) (t : TypeId) (v : Value) : Prop :=
  ∃ base, Value.okWide P W .any base t v ∧ ∃ (H : Type) (enc : TypeId × Value → H) (d : DataW H) (p : List MemPlace), DataW.Trod enc P W 0 (fun _ => true) true t v d p

theorem IsArg.int {P : Program} {W : World} {t : TypeId} {v : Value} {k : IntKind} (ht : P.underlying t = some (.int k)) (h : IsArg P W t v) :
    ∃ n, v = .int k n ∧ (Lit.int k n).wf = true := by
  obtain ⟨base, hok, H, enc, d, p, hr⟩ := h
  obtain ⟨n, rfl⟩ := okWide_int ht hok
  obtain ⟨m, hm⟩ := hr
  obtain ⟨n', e, _, hw⟩ := DataW.trod_int ht hm
  simp [Value.cells] at e
  subst e
  exact ⟨n, rfl, hw⟩

theorem IsArg.struct4 {P : Program} {W : World} {t : TypeId} {v : Value} {f0 f1 f2 f3 : Field} (ht : P.underlying t = some (.struct #[f0, f1, f2, f3]))
    (hone : oneCellFields P #[f0, f1, f2, f3] = true) (hC : P.cellsOf t = 4) (h : IsArg P W t v) :
    ∃ v0 v1 v2 v3, v = .agg #[v0, v1, v2, v3] ∧ ∃ (H : Type) (enc : TypeId × Value → H) (n : Nat) (y0 y1 y2 y3 : DataW H × List MemPlace),
      DataW.trod enc P W 0 (fun _ => true) true n f0.type [v0] = some y0 ∧ DataW.trod enc P W 0 (fun _ => true) true n f1.type [v1] = some y1 ∧
      DataW.trod enc P W 0 (fun _ => true) true n f2.type [v2] = some y2 ∧ DataW.trod enc P W 0 (fun _ => true) true n f3.type [v3] = some y3 := by
  obtain ⟨base, hok, H, enc, d, p, hr⟩ := h
  obtain ⟨v0, v1, v2, v3, y0, y1, y2, y3, n, rfl, _, _, g0, g1, g2, g3⟩ := open_agg4 ht hone hC hok hr
  exact ⟨v0, v1, v2, v3, rfl, H, enc, n, y0, y1, y2, y3, g0, g1, g2, g3⟩
end Go.Proofs.Ythdjagmeggckcaa
