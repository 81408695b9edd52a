/-
  No cell of these rows narrows 'for every input' (looked for: loops, veiled, ifaces, maps, wideKeys, modest, calm, conditions, laid).
  DERIVED. THE GIVEN ROWS OF THIS SEAT. 6 by the template 'for every input the law returns true; each argument reads behind the call as it read before'; 0 by the template 'total and deterministic' (their statements: YthdjagmeggckcaaTotals.lean).
  GIVEN WITH THE SEED: the statements are not yours to turn. If you find one false, say at which input.
  Laid BY PROGRAM, IN A SANDBOX (cutbox-rows.mjs): the forced cells as the released guide's own fill.sh prints them over the translation 181f17ed16b22fbd… (all of the seat's roots in one cut). By AI agents, Wed Nov 11 2026. No macro, syntax, notation, axiom, sorry.
-/
import Derived.Test.YthdjagmeggckcaaChecked
import GoSem.Claim
import GoSem.ClaimJoined
import GoSem.ClaimMapViews
import Derived.JoinedTies
import Derived.KernelRfl
namespace Go.Proofs.Ythdjagmeggckcaa
/- THE CELL 'sum', in the pinned program and in every row, IS THE sha256 OF THE DUMP (.gsa) THAT YthdjagmeggckcaaProg.lean LOADS. Nothing in Lean hashes anything: it is a label: what it is worth is what the hold of that sum in a sandbox is worth. -/
noncomputable def Try.pinned : Pinned := { name := "ythdjagmeggckcaa", sum := "181f17ed16b22fbdff5c5efedcdd09874919cb04c8a4d1ae019c2a60f025ce14", checked := Try.checked }
namespace Rows
def none {H : Type} : Left H := { results := [], args := [] }

/-- 'flashlocklaw28.CutoffStays': WHATEVER THE INPUT: true; the input reads as it did. -/
def cutoffStaysSpec : ChangeSpec := { name := "cutoffStays", fn := fun _ => fun
  | [d1, d2] => { results := [.lit (.bool true)], args := [d1, d2] }
  | _ => none }
def cutoffStaysRow : OpenClaim := { program := "ythdjagmeggckcaa", sum := "181f17ed16b22fbdff5c5efedcdd09874919cb04c8a4d1ae019c2a60f025ce14", func := "flashlock/flashlocklaw28.CutoffStays", spec := "cutoffStays", apart := false }
def CutoffStaysSaid : Prop := cutoffStaysRow.holds Try.pinned (OpenSpec.ofChange cutoffStaysSpec)

/-- ITS FALSE NEIGHBOUR: 'it returns false'. Refute it at one input. -/
def cutoffStaysWrong : ChangeSpec := { name := "cutoffStays", fn := fun _ => fun
  | [d1, d2] => { results := [.lit (.bool false)], args := [d1, d2] }
  | _ => none }
def CutoffStaysWrongFalsely : Prop := cutoffStaysRow.holds Try.pinned (OpenSpec.ofChange cutoffStaysWrong)

/-- 'flashlocklaw28.CutoffRuns': WHATEVER THE INPUT: true; the input reads as it did. -/
def cutoffRunsSpec : ChangeSpec := { name := "cutoffRuns", fn := fun _ => fun
  | [d1, d2] => { results := [.lit (.bool true)], args := [d1, d2] }
  | _ => none }
def cutoffRunsRow : OpenClaim := { program := "ythdjagmeggckcaa", sum := "181f17ed16b22fbdff5c5efedcdd09874919cb04c8a4d1ae019c2a60f025ce14", func := "flashlock/flashlocklaw28.CutoffRuns", spec := "cutoffRuns", apart := false }
def CutoffRunsSaid : Prop := cutoffRunsRow.holds Try.pinned (OpenSpec.ofChange cutoffRunsSpec)

/-- ITS FALSE NEIGHBOUR: 'it returns false'. Refute it at one input. -/
def cutoffRunsWrong : ChangeSpec := { name := "cutoffRuns", fn := fun _ => fun
  | [d1, d2] => { results := [.lit (.bool false)], args := [d1, d2] }
  | _ => none }
def CutoffRunsWrongFalsely : Prop := cutoffRunsRow.holds Try.pinned (OpenSpec.ofChange cutoffRunsWrong)

/-- 'flashlocklaw06.SlabPlays': WHATEVER THE INPUT: true; the input reads as it did. -/
def slabPlaysSpec : ChangeSpec := { name := "slabPlays", fn := fun _ => fun
  | [d1, d2] => { results := [.lit (.bool true)], args := [d1, d2] }
  | _ => none }
def slabPlaysRow : OpenClaim := { program := "ythdjagmeggckcaa", sum := "181f17ed16b22fbdff5c5efedcdd09874919cb04c8a4d1ae019c2a60f025ce14", func := "flashlock/flashlocklaw06.SlabPlays", spec := "slabPlays", apart := false }
def SlabPlaysSaid : Prop := slabPlaysRow.holds Try.pinned (OpenSpec.ofChange slabPlaysSpec)

/-- ITS FALSE NEIGHBOUR: 'it returns false'. Refute it at one input. -/
def slabPlaysWrong : ChangeSpec := { name := "slabPlays", fn := fun _ => fun
  | [d1, d2] => { results := [.lit (.bool false)], args := [d1, d2] }
  | _ => none }
def SlabPlaysWrongFalsely : Prop := slabPlaysRow.holds Try.pinned (OpenSpec.ofChange slabPlaysWrong)

/-- 'flashlocklaw06.SlabOnce': WHATEVER THE INPUT: true; the input reads as it did. -/
def slabOnceSpec : ChangeSpec := { name := "slabOnce", fn := fun _ => fun
  | [d1, d2] => { results := [.lit (.bool true)], args := [d1, d2] }
  | _ => none }
def slabOnceRow : OpenClaim := { program := "ythdjagmeggckcaa", sum := "181f17ed16b22fbdff5c5efedcdd09874919cb04c8a4d1ae019c2a60f025ce14", func := "flashlock/flashlocklaw06.SlabOnce", spec := "slabOnce", apart := false }
def SlabOnceSaid : Prop := slabOnceRow.holds Try.pinned (OpenSpec.ofChange slabOnceSpec)

/-- ITS FALSE NEIGHBOUR: 'it returns false'. Refute it at one input. -/
def slabOnceWrong : ChangeSpec := { name := "slabOnce", fn := fun _ => fun
  | [d1, d2] => { results := [.lit (.bool false)], args := [d1, d2] }
  | _ => none }
def SlabOnceWrongFalsely : Prop := slabOnceRow.holds Try.pinned (OpenSpec.ofChange slabOnceWrong)

/-- 'flashlocklaw08.PoolPlays': WHATEVER THE INPUT: true; the input reads as it did. -/
def poolPlaysSpec : ChangeSpec := { name := "poolPlays", fn := fun _ => fun
  | [d1, d2, d3] => { results := [.lit (.bool true)], args := [d1, d2, d3] }
  | _ => none }
def poolPlaysRow : OpenClaim := { program := "ythdjagmeggckcaa", sum := "181f17ed16b22fbdff5c5efedcdd09874919cb04c8a4d1ae019c2a60f025ce14", func := "flashlock/flashlocklaw08.PoolPlays", spec := "poolPlays", inPlace := ["maps.clone"], apart := false }
def PoolPlaysSaid : Prop := poolPlaysRow.holds Try.pinned (OpenSpec.ofChange poolPlaysSpec)

/-- ITS FALSE NEIGHBOUR: 'it returns false'. Refute it at one input. -/
def poolPlaysWrong : ChangeSpec := { name := "poolPlays", fn := fun _ => fun
  | [d1, d2, d3] => { results := [.lit (.bool false)], args := [d1, d2, d3] }
  | _ => none }
def PoolPlaysWrongFalsely : Prop := poolPlaysRow.holds Try.pinned (OpenSpec.ofChange poolPlaysWrong)

/-- 'flashlocklaw08.PoolHolds': WHATEVER THE INPUT: true; the input reads as it did. -/
def poolHoldsSpec : ChangeSpec := { name := "poolHolds", fn := fun _ => fun
  | [d1, d2, d3] => { results := [.lit (.bool true)], args := [d1, d2, d3] }
  | _ => none }
def poolHoldsRow : OpenClaim := { program := "ythdjagmeggckcaa", sum := "181f17ed16b22fbdff5c5efedcdd09874919cb04c8a4d1ae019c2a60f025ce14", func := "flashlock/flashlocklaw08.PoolHolds", spec := "poolHolds", inPlace := ["maps.clone"], apart := false }
def PoolHoldsSaid : Prop := poolHoldsRow.holds Try.pinned (OpenSpec.ofChange poolHoldsSpec)

/-- ITS FALSE NEIGHBOUR: 'it returns false'. Refute it at one input. -/
def poolHoldsWrong : ChangeSpec := { name := "poolHolds", fn := fun _ => fun
  | [d1, d2, d3] => { results := [.lit (.bool false)], args := [d1, d2, d3] }
  | _ => none }
def PoolHoldsWrongFalsely : Prop := poolHoldsRow.holds Try.pinned (OpenSpec.ofChange poolHoldsWrong)

/- THE SECOND FORM. 'bulk': how many values and letters a reading holds, each counted each time it is reached (what is shared counts as often as it is met; a slice's spare places count too). A statement '..UptoSaid' is the law's where the arguments, and the package variables that the reading takes, are together of bulk at most 1048576: NARROWER than '..Said'. Prove '..Said' where nothing that the law and all that it calls make is longer than what came in: it says more and counts as full. Else prove '..UptoSaid'. A law counts once. -/
mutual
def uptoBulk {H : Type} : DataW H → Nat
  | .lit (.string bytes) => bytes.length + 1
  | .lit _ => 1
  | .nil => 1
  | .ptr d => uptoBulk d + 1
  | .slice elems spare => uptoBulkAll elems + uptoBulkAll spare + 1
  | .agg parts => uptoBulkAll parts + 1
  | .iface _ d => uptoBulk d + 1
  | .map entries => uptoBulkEntries entries + 1
  | .held _ => 1
def uptoBulkAll {H : Type} : List (DataW H) → Nat
  | [] => 0
  | d :: r => uptoBulk d + uptoBulkAll r
def uptoBulkEntries {H : Type} : List (Lit × DataW H) → Nat
  | [] => 0
  | x :: r => uptoBulkEntry x + uptoBulkEntries r
def uptoBulkEntry {H : Type} : Lit × DataW H → Nat
  | (.string bytes, d) => bytes.length + uptoBulk d + 1
  | (_, d) => uptoBulk d + 1
 end
def uptoSmall : (H : Type) → List (DataW H) → Bool := fun _ ds => decide (uptoBulkAll ds ≤ 1048576)
def OpenSpec.upto (s : _root_.Go.ChangeSpec) : _root_.Go.OpenSpec := { _root_.Go.OpenSpec.ofChange s with cond := some uptoSmall }

/-- 'flashlocklaw28.CutoffStays', WHERE WHAT IT READS IS OF BULK AT MOST 1048576: true; the input reads as it did. -/
def cutoffStaysUptoRow : OpenClaim := { program := "ythdjagmeggckcaa", sum := "181f17ed16b22fbdff5c5efedcdd09874919cb04c8a4d1ae019c2a60f025ce14", func := "flashlock/flashlocklaw28.CutoffStays", spec := "cutoffStays", apart := false, narrowed := true }
def CutoffStaysUptoSaid : Prop := cutoffStaysUptoRow.holds Try.pinned (OpenSpec.upto cutoffStaysSpec)

/-- 'flashlocklaw28.CutoffRuns', WHERE WHAT IT READS IS OF BULK AT MOST 1048576: true; the input reads as it did. -/
def cutoffRunsUptoRow : OpenClaim := { program := "ythdjagmeggckcaa", sum := "181f17ed16b22fbdff5c5efedcdd09874919cb04c8a4d1ae019c2a60f025ce14", func := "flashlock/flashlocklaw28.CutoffRuns", spec := "cutoffRuns", apart := false, narrowed := true }
def CutoffRunsUptoSaid : Prop := cutoffRunsUptoRow.holds Try.pinned (OpenSpec.upto cutoffRunsSpec)

/-- 'flashlocklaw06.SlabPlays', WHERE WHAT IT READS IS OF BULK AT MOST 1048576: true; the input reads as it did. -/
def slabPlaysUptoRow : OpenClaim := { program := "ythdjagmeggckcaa", sum := "181f17ed16b22fbdff5c5efedcdd09874919cb04c8a4d1ae019c2a60f025ce14", func := "flashlock/flashlocklaw06.SlabPlays", spec := "slabPlays", apart := false, narrowed := true }
def SlabPlaysUptoSaid : Prop := slabPlaysUptoRow.holds Try.pinned (OpenSpec.upto slabPlaysSpec)

/-- 'flashlocklaw06.SlabOnce', WHERE WHAT IT READS IS OF BULK AT MOST 1048576: true; the input reads as it did. -/
def slabOnceUptoRow : OpenClaim := { program := "ythdjagmeggckcaa", sum := "181f17ed16b22fbdff5c5efedcdd09874919cb04c8a4d1ae019c2a60f025ce14", func := "flashlock/flashlocklaw06.SlabOnce", spec := "slabOnce", apart := false, narrowed := true }
def SlabOnceUptoSaid : Prop := slabOnceUptoRow.holds Try.pinned (OpenSpec.upto slabOnceSpec)

/-- 'flashlocklaw08.PoolPlays', WHERE WHAT IT READS IS OF BULK AT MOST 1048576: true; the input reads as it did. -/
def poolPlaysUptoRow : OpenClaim := { program := "ythdjagmeggckcaa", sum := "181f17ed16b22fbdff5c5efedcdd09874919cb04c8a4d1ae019c2a60f025ce14", func := "flashlock/flashlocklaw08.PoolPlays", spec := "poolPlays", inPlace := ["maps.clone"], apart := false, narrowed := true }
def PoolPlaysUptoSaid : Prop := poolPlaysUptoRow.holds Try.pinned (OpenSpec.upto poolPlaysSpec)

/-- 'flashlocklaw08.PoolHolds', WHERE WHAT IT READS IS OF BULK AT MOST 1048576: true; the input reads as it did. -/
def poolHoldsUptoRow : OpenClaim := { program := "ythdjagmeggckcaa", sum := "181f17ed16b22fbdff5c5efedcdd09874919cb04c8a4d1ae019c2a60f025ce14", func := "flashlock/flashlocklaw08.PoolHolds", spec := "poolHolds", inPlace := ["maps.clone"], apart := false, narrowed := true }
def PoolHoldsUptoSaid : Prop := poolHoldsUptoRow.holds Try.pinned (OpenSpec.upto poolHoldsSpec)

end Rows
end Go.Proofs.Ythdjagmeggckcaa
