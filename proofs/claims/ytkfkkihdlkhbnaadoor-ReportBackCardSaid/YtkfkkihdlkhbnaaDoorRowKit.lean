/- What both rows of Read share: the tables out of the listed variables and the world's shape; a wrap that hands both on. -/
import Derived.Test.YtkfkkihdlkhbnaaDoorWritesRow
import Derived.Test.YtkfkkihdlkhbnaaDoorNum
import Derived.Stop.LaidErr
import Derived.Shelf.Vars
import Derived.HandedShaped
namespace Go.Proofs.YtkfkkihdlkhbnaaDoor.FReportWrites
open Go.ChangeShapes Go.WideShapes Go.ChangeAt Go.RowKit Str
set_option linter.unusedVariables false

theorem arg_str {P : Program} {W : World} {t : TypeId} {v : Value} (ht : P.underlying t = some .string) (h : IsArg P W t v) : ∃ s : ByteArray, v = .string s := by
  obtain ⟨base, hok, _⟩ := h
  exact okWide_string ht hok
theorem cells121 : Tryd.prog.cellsOf 121 = 1 := by kernel_rfl
theorem star : "*" ++ "errors.errorString" = "*errors.errorString" := by decide
theorem err_row (u : TypeId) (h : Tryd.prog.typeName? 3 u = some "*errors.errorString") : u = 119 :=
  typeName_ptr_named (nm := "errors.errorString") (by rw [star]; kernel_rfl) (by kernel_rfl) (by decide) u (by rw [star]; exact h)
theorem gRange : Tryd.prog.globalNamed "strconv.ErrRange" = some 3 := by kernel_rfl
theorem gSyntax : Tryd.prog.globalNamed "strconv.ErrSyntax" = some 2 := by kernel_rfl
theorem gRangeT : (Tryd.prog.globals[3]?).map (·.type) = some 46 := by kernel_rfl
theorem gSyntaxT : (Tryd.prog.globals[2]?).map (·.type) = some 46 := by kernel_rfl

theorem rtabs_of {W : World} (h : laidMetH Tryd.prog Rows.reportReadsRow.laid W) (hsh : W.ShapedOpen Tryd.prog) : RTabs W := by
  rw [MakeChecks.laidMetH_plain _ _ _ (by kernel_rfl)] at h
  have h2 := h.tail.tail
  have h4 := h2.tail.tail
  have h5 := h4.tail
  have h7 := h5.tail.tail
  obtain ⟨a4, s4, hv4, -, -, -⟩ := laid_sentinel h4 gRange gRangeT Tryd.underlying46 err_row Tryd.underlying119 Tryd.underlying121 rfl rfl Tryd.underlying9 cells121 cells9
  obtain ⟨a5, s5, hv5, -, -, -⟩ := laid_sentinel h5 gSyntax gSyntaxT Tryd.underlying46 err_row Tryd.underlying119 Tryd.underlying121 rfl rfl Tryd.underlying9 cells121 cells9
  obtain ⟨_, ⟨g2, t2, cs2, f2, p2, q2, hg2, ht2, hv2, hd2, _⟩, _⟩ := h2
  obtain ⟨_, ⟨g7, t7, cs7, f7, p7, q7, hg7, ht7, hv7, hd7, _⟩, _⟩ := h7
  obtain rfl := Option.some.inj ((show Tryd.prog.globalNamed "internal/strconv.uint64pow10" = some 5 by kernel_rfl).symm.trans hg2)
  obtain rfl := Option.some.inj ((show Tryd.prog.globalNamed "strings.asciiSpace" = some 0 by kernel_rfl).symm.trans hg7)
  obtain rfl := Option.some.inj ((show (Tryd.prog.globals[5]?).map (·.type) = some 123 by kernel_rfl).symm.trans ht2)
  obtain rfl := Option.some.inj ((show (Tryd.prog.globals[0]?).map (·.type) = some 72 by kernel_rfl).symm.trans ht7)
  rw [pow_tab] at hd2
  rw [sp_tab] at hd7
  refine ⟨⟨?_, ?_⟩, ⟨_, _, by have h0 := World.var?_cell gSyntax hv5 0; simpa using h0⟩, ⟨_, _, by have h0 := World.var?_cell gRange hv4 0; simpa using h0⟩, ?_⟩
  · unfold Lib.TabIs
    rw [hv7, ← Lib.cells_of_tab Tryd.underlying72 Tryd.underlying5 (by kernel_rfl) (by kernel_rfl) hd7]
  · unfold Lib.TabIs
    rw [hv2, ← Lib.cells_of_tab Tryd.underlying123 Tryd.underlying62 (by kernel_rfl) (by kernel_rfl) hd2]
  · exact cell_of_shapedOpen_int (g := 4) (t := 3) (zero := #[.int .i64 0]) hsh (of_decide_eq_true (by kernel_rfl)) (by kernel_rfl) rfl (by kernel_rfl) (by kernel_rfl) Tryd.underlying3

theorem wrap_shaped {H : Type} {enc : TypeId × Value → H} {a : Assume} {C : Checked} {os : Os} {f : FuncId} {fn : Func} {s : ChangeSpec} {conds : List PathCond} {apart fresh handsOn again : Bool} {X : World → Array Value → Prop}
    (hX : ∀ (w w' : World) (args : Array Value), w.heap = w'.heap → X w args → X w' args)
    (own : ownKnob C.prog.godebug = none) (started : os.Started) (noInit : C.prog.inits.idxOf? f = none) (hfn : C.prog.funcs[f]? = some fn)
    (witness : ∃ (w : World) (tape : Tape) (i : Input), w.os = os ∧ (w.forCall tape i).Shaped C.prog ∧ i.vars = [] ∧ Input.okWide C.prog (w.forCall tape i) .any w.heap.size f i ∧
      ((s.pre enc C.prog fn conds apart (w.forCall tape i).memory i.args ∧ X (w.forCall tape i).memory i.args) ∧ sizedMet enc C.prog fn (OpenSpec.ofChange s) apart (w.forCall tape i).memory i.args) ∧ a.holds C.prog (lone (Frame.enter C.prog f i.args .normal) [] (w.forCall tape i)))
    (contract : ∀ (W : World) (base : Nat) (args : Array Value) (ds gs : List (DataW H)) (before : List MemPlace),
      (∀ (j : Nat) t v, fn.params[j]? = some t → args[j]? = some v → Value.okWide C.prog W .any base t v) →
      DataW.Whole enc C.prog fn.params.toList s.vars apart W args.toList ds gs before →
      X W args → W.ShapedOpen C.prog →
      Calls C.prog f args W fun e W' => ∃ v, e = .returned v ∧ s.post enc C.prog fn apart fresh handsOn again W args v W') :
    ReturnsInHanded a C os f .any (fun w args => (s.pre enc C.prog fn conds apart w args ∧ X w args) ∧ sizedMet enc C.prog fn (OpenSpec.ofChange s) apart w args) (s.post enc C.prog fn apart fresh handsOn again) := by
  refine returnsInHanded_of_calls own started noInit witness ?_
  intro w tape i _ hsh _ hok hpre hholds
  obtain ⟨_, _, _, fn', hfn', _, _, _, _, hval⟩ := hok
  have e : fn' = fn := Option.some.inj (hfn'.symm.trans hfn)
  subst e
  obtain ⟨⟨⟨ds, gs, before, hw, hc⟩, hx⟩, hz⟩ := hpre
  have hw' := DataW.Whole.of_heap (w' := w.forCall tape i) (by rfl) hw
  refine (contract (w.forCall tape i) w.heap.size i.args ds gs before hval hw' (hX _ _ _ (by rfl) hx) hsh).mono fun e W' ⟨v, he, hp⟩ => ?_
  subst he
  exact ChangeSpec.post_blind hp
end Go.Proofs.YtkfkkihdlkhbnaaDoor.FReportWrites
