/- The statement ReportWritesCardSaid: for every input the law flashlock/flashlocklaw52.ReportWrites returns true, and each argument reads afterwards as it read before; the listed tables of Go's library hold what their initialisers lay (the card ties them to the program's text). -/
import Derived.Test.YtkfkkihdlkhbnaaDoorWrites
import Derived.Test.YtkfkkihdlkhbnaaDoorCards
import Derived.Test.YtkfkkihdlkhbnaaDoorTie
import Derived.WalkKit
import Derived.ProofKit
import Derived.OpenShut
import Derived.ShutString
import Derived.ChangeOld
import Derived.Below
import Derived.LaidMore
import Derived.Lay
import Derived.SevenTiedAt
import Derived.Stop.Joined
namespace Go.Proofs.YtkfkkihdlkhbnaaDoor.FReportWrites
open Go.ChangeShapes Go.WideShapes Go.ChangeAt Go.RowKit Str
set_option linter.unusedVariables false

theorem own : ownKnob Tryd.prog.godebug = none := by kernel_rfl
theorem laidOut : laidOutB Tryd.prog = true := by kernel_rfl
theorem pow_tab {H : Type} : (Rows.laid_internal_strconv_uint64pow10 : DataW H) = Lib.tabData .u64 Lib.pow10Tab := by kernel_rfl
theorem sp_tab {H : Type} : (Rows.laid_strings_asciiSpace : DataW H) = Lib.tabData .u8 Lib.asciiSpaceTab := by kernel_rfl

theorem tabs_of {W : World} (h : laidMetH Tryd.prog Rows.reportWritesRow.laid W) : Tabs W := by
  rw [MakeChecks.laidMetH_plain _ _ _ (by kernel_rfl)] at h
  obtain ⟨ps, ⟨g0, t0, cs0, f0, p0, q0, hg0, ht0, hv0, hd0, ⟨g1, t1, cs1, f1, p1, q1, hg1, ht1, hv1, hd1, ⟨g2, t2, cs2, f2, p2, q2, hg2, ht2, hv2, hd2, ⟨g3, t3, cs3, f3, p3, q3, hg3, ht3, hv3, hd3, ⟨g4, t4, cs4, f4, p4, q4, hg4, ht4, hv4, hd4, _, _⟩, _⟩, _⟩, _⟩, _⟩, _, _⟩ := h
  obtain rfl := Option.some.inj ((show Tryd.prog.globalNamed "internal/strconv.uint64pow10" = some 5 by kernel_rfl).symm.trans hg2)
  obtain rfl := Option.some.inj ((show Tryd.prog.globalNamed "strings.asciiSpace" = some 0 by kernel_rfl).symm.trans hg4)
  obtain rfl := Option.some.inj ((show (Tryd.prog.globals[5]?).map (·.type) = some 123 by kernel_rfl).symm.trans ht2)
  obtain rfl := Option.some.inj ((show (Tryd.prog.globals[0]?).map (·.type) = some 72 by kernel_rfl).symm.trans ht4)
  rw [pow_tab] at hd2
  rw [sp_tab] at hd4
  refine ⟨?_, ?_⟩
  · unfold Lib.TabIs
    rw [hv4, ← Lib.cells_of_tab Tryd.underlying72 Tryd.underlying5 (by kernel_rfl) (by kernel_rfl) hd4]
  · unfold Lib.TabIs
    rw [hv2, ← Lib.cells_of_tab Tryd.underlying123 Tryd.underlying62 (by kernel_rfl) (by kernel_rfl) hd2]

theorem cells3 : Tryd.prog.cellsOf 3 = 1 := by kernel_rfl
theorem cells9 : Tryd.prog.cellsOf 9 = 1 := by kernel_rfl
theorem cells23 : Tryd.prog.cellsOf 23 = 8 := by kernel_rfl
theorem cells25 : Tryd.prog.cellsOf 25 = 6 := by kernel_rfl
theorem i64_wf {n : Int} (h : (Lit.int .i64 n).wf = true) : I64 n := by
  have e1 : IntKind.i64.min = -9223372036854775808 := by kernel_rfl
  have e2 : IntKind.i64.max = 9223372036854775807 := by kernel_rfl
  have h' : (decide (IntKind.i64.min ≤ n) && decide (n ≤ IntKind.i64.max)) = true := h
  rw [e1, e2, Bool.and_eq_true, decide_eq_true_eq, decide_eq_true_eq] at h'
  exact h'
theorem out_dec {W : World} {cs : List Value} (h : Rd Tryd.prog W 23 cs) : ∃ o : Ou, o.cs.toList = cs ∧ o.Ok := by
  have hl := h.length Tryd.underlying23 cells23
  match cs, hl with
  | [a, b, c, d, e, f, g, s], _ =>
    have f0 : Rd Tryd.prog W 3 [a] := h.field Tryd.underlying23 0 rfl rfl rfl cells3
    have f1 : Rd Tryd.prog W 3 [b] := h.field Tryd.underlying23 1 rfl rfl rfl cells3
    have f2 : Rd Tryd.prog W 3 [c] := h.field Tryd.underlying23 2 rfl rfl rfl cells3
    have f3 : Rd Tryd.prog W 3 [d] := h.field Tryd.underlying23 3 rfl rfl rfl cells3
    have f4 : Rd Tryd.prog W 3 [e] := h.field Tryd.underlying23 4 rfl rfl rfl cells3
    have f5 : Rd Tryd.prog W 3 [f] := h.field Tryd.underlying23 5 rfl rfl rfl cells3
    have f6 : Rd Tryd.prog W 3 [g] := h.field Tryd.underlying23 6 rfl rfl rfl cells3
    have f7 : Rd Tryd.prog W 9 [s] := h.field Tryd.underlying23 7 rfl rfl rfl cells9
    obtain ⟨n0, e0, w0⟩ := f0.int Tryd.underlying3
    obtain ⟨n1, e1, w1⟩ := f1.int Tryd.underlying3
    obtain ⟨n2, e2, w2⟩ := f2.int Tryd.underlying3
    obtain ⟨n3, e3, w3⟩ := f3.int Tryd.underlying3
    obtain ⟨n4, e4, w4⟩ := f4.int Tryd.underlying3
    obtain ⟨n5, e5, w5⟩ := f5.int Tryd.underlying3
    obtain ⟨n6, e6, w6⟩ := f6.int Tryd.underlying3
    obtain ⟨n7, e7, w7⟩ := f7.string Tryd.underlying9
    simp only [List.cons.injEq, and_true] at e0 e1 e2 e3 e4 e5 e6 e7
    subst e0 e1 e2 e3 e4 e5 e6 e7
    exact ⟨⟨n0, n1, n2, n3, n4, n5, n6, n7⟩, rfl, ⟨i64_wf w0, i64_wf w1, i64_wf w2, i64_wf w3, i64_wf w4, i64_wf w5, i64_wf w6⟩⟩
theorem sta_dec {W : World} {cs : List Value} (h : Rd Tryd.prog W 25 cs) : ∃ o : Sta, o.cs.toList = cs ∧ o.Ok := by
  have hl := h.length Tryd.underlying25 cells25
  match cs, hl with
  | [a, b, c, d, e, f], _ =>
    have f0 : Rd Tryd.prog W 3 [a] := h.field Tryd.underlying25 0 rfl rfl rfl cells3
    have f1 : Rd Tryd.prog W 3 [b] := h.field Tryd.underlying25 1 rfl rfl rfl cells3
    have f2 : Rd Tryd.prog W 3 [c] := h.field Tryd.underlying25 2 rfl rfl rfl cells3
    have f3 : Rd Tryd.prog W 3 [d] := h.field Tryd.underlying25 3 rfl rfl rfl cells3
    have f4 : Rd Tryd.prog W 3 [e] := h.field Tryd.underlying25 4 rfl rfl rfl cells3
    have f5 : Rd Tryd.prog W 3 [f] := h.field Tryd.underlying25 5 rfl rfl rfl cells3
    obtain ⟨n0, e0, w0⟩ := f0.int Tryd.underlying3
    obtain ⟨n1, e1, w1⟩ := f1.int Tryd.underlying3
    obtain ⟨n2, e2, w2⟩ := f2.int Tryd.underlying3
    obtain ⟨n3, e3, w3⟩ := f3.int Tryd.underlying3
    obtain ⟨n4, e4, w4⟩ := f4.int Tryd.underlying3
    obtain ⟨n5, e5, w5⟩ := f5.int Tryd.underlying3
    simp only [List.cons.injEq, and_true] at e0 e1 e2 e3 e4 e5
    subst e0 e1 e2 e3 e4 e5
    exact ⟨⟨n0, n1, n2, n3, n4, n5⟩, rfl, ⟨i64_wf w0, i64_wf w1, i64_wf w2, i64_wf w3, i64_wf w4, i64_wf w5⟩⟩
theorem walk (v0 v1 : Value) (W : World) (k0 : IsArg Tryd.prog W 23 v0) (k1 : IsArg Tryd.prog W 25 v1) (hT : Tabs W) :
    Calls Tryd.prog 3 #[v0, v1] W fun e W' => e = .returned (.bool true) ∧ Below W.heap.size W W' := by
  obtain ⟨cs, rfl, hr⟩ := k0.struct Tryd.underlying23
  obtain ⟨cs', rfl, hr'⟩ := k1.struct Tryd.underlying25
  obtain ⟨o, rfl, ho⟩ := out_dec hr
  obtain ⟨s, rfl, hs⟩ := sta_dec hr'
  by_cases h : 200 < o.reply.size
  · exact WReportWrites.law_off o s W hT h
  · exact WReportWrites.law_any o s W hT ho hs (by omega)

set_option maxRecDepth 100000 in
theorem lifted (os : Os) (started : os.Started) (H : Type) (enc : TypeId × Value → H) :
    ReturnsInHanded {} Tryd.checked os 3 .any (fun w args => (Rows.reportWritesSpec.pre enc Tryd.prog Tryd.f3 Rows.reportWritesRow.domain false w args ∧ laidMetH Tryd.prog Rows.reportWritesRow.laid w) ∧ sizedMet enc Tryd.prog Tryd.f3 (OpenSpec.ofChange Rows.reportWritesSpec) false w args)
      (Rows.reportWritesSpec.post enc Tryd.prog Tryd.f3 false true false false) := by
  refine returnsInHanded_of_change_and (C := Tryd.checked) (X := fun w _ => laidMetH Tryd.prog Rows.reportWritesRow.laid w) (fun _ _ _ hh h => h.of_heap hh) own started (by kernel_rfl) Tryd.func3
    (ChangeSpec.witness_shaped (enc := enc) (C := Tryd.checked) (os := os) (X := fun w _ => laidMetH Tryd.prog Rows.reportWritesRow.laid w) false (World.laidAll Tryd.prog os Rows.reportWritesRow.laid) #[.agg #[.int .i64 0, .int .i64 0, .int .i64 0, .int .i64 0, .int .i64 0, .int .i64 0, .int .i64 0, .string ⟨#[]⟩], .agg #[.int .i64 0, .int .i64 0, .int .i64 0, .int .i64 0, .int .i64 0, .int .i64 0]] 12 (World.laidAll_os _ _ _)
      (World.shaped_of_ZipB (by kernel_rfl) (by kernel_rfl)) (by kernel_rfl) (by kernel_rfl) (by kernel_rfl)
      (by rw [MakeChecks.laidMetH_plain _ _ _ (by kernel_rfl)]; exact laidMet_laidAll _ (by kernel_rfl) (by kernel_rfl))) ?_
  intro W base args ds gs before hval0 hW hcnd _ hL _
  have hval : ∀ (j : Nat) t v, Tryd.f3.params[j]? = some t → args[j]? = some v → Value.okWide Tryd.prog W .any base t v := hval0
  have hW' := hW
  obtain ⟨p, q, hA0, hV, rfl, hfz, hnd⟩ := hW
  have hA : DataW.TrodAll enc Tryd.prog W 0 (fun _ => true) true Tryd.f3.params.toList args.toList ds p := hA0
  rw [Tryd.params3] at hA hval
  obtain ⟨v0, vs0, d0, ds0, p0, q0, hargs, rfl, rfl, h0, r0⟩ := trodAll_cons hA
  obtain ⟨v1, vs1, d1, ds1, p1, q1, rfl, rfl, rfl, h1, r1⟩ := trodAll_cons r0
  obtain ⟨rfl, rfl, rfl⟩ := trodAll_nil r1
  obtain rfl : args = #[v0, v1] := by cases args; simp_all
  obtain ⟨rfl, rfl⟩ := trodVars_none hV
  have lt0 : ∀ x ∈ p0, x.block < W.heap.size := by obtain ⟨m, hm⟩ := h0; exact DataW.trod_lt m _ _ _ hm
  have k0 : IsArg Tryd.prog W 23 v0 := ⟨base, hval 0 23 v0 rfl rfl, H, enc, d0, p0, h0⟩
  have lt1 : ∀ x ∈ p1, x.block < W.heap.size := by obtain ⟨m, hm⟩ := h1; exact DataW.trod_lt m _ _ _ hm
  have k1 : IsArg Tryd.prog W 25 v1 := ⟨base, hval 1 25 v1 rfl rfl, H, enc, d1, p1, h1⟩
  clear hA0 hval0
  refine (walk v0 v1 W k0 k1 (tabs_of hL)).mono fun e W' ⟨he, bel⟩ => ?_
  subst he
  exact ⟨_, rfl, _, _, _, [], _, [], hW', trodAll_mk1 (shut_bool Tryd.underlying4 _), (trodAll_cons_mk (Below.trod laidOut (by kernel_rfl) (of_decide_eq_true (by kernel_rfl)) h0 bel lt0) (trodAll_cons_mk (Below.trod laidOut (by kernel_rfl) (of_decide_eq_true (by kernel_rfl)) h1 bel lt1) trodAll_mk0)), rfl, bel.frame _, fun h => by cases h⟩

theorem over : Rows.ReportWritesSaid :=
  OpenClaim.holds_of_wide 3 Tryd.f3 rfl rfl rfl rfl rfl rfl rfl ⟨rfl, rfl, rfl, rfl, rfl⟩ rfl rfl rfl rfl rfl (by kernel_rfl) Tryd.func3 (by kernel_rfl)
    (of_decide_eq_true (by kernel_rfl)) (by unfold Func.isWrapper; rw [if_neg (of_decide_eq_false (by kernel_rfl))]; exact ⟨rfl, rfl⟩)
    (fun os started H enc _ => lifted os started H enc)
theorem card : Rows.ReportWritesCardSaid :=
  Claim7.holds_tied_plain_at .later [] [.data, .data, .data, .listed, .data] true (true, "0de0df9fc967735c2221d03912c63c80164d67be46bd6337aa347c8fbd8ff051") true over (fun _ h => by cases h) (by kernel_rfl) (fun _ h => by cases h) reportWrites_row_tie rfl ⟨rfl, rfl⟩ (by kernel_rfl) rfl
    (fun f fn hf hfn => by
      obtain rfl : f = 3 := Option.some.inj ((show Tryd.prog.funcNamed "flashlock/flashlocklaw52.ReportWrites" = some 3 by kernel_rfl).symm.trans hf) |>.symm
      obtain rfl : fn = Tryd.f3 := (Option.some.inj (Tryd.func3.symm.trans hfn)).symm
      exact ⟨by kernel_rfl, fun j t ht => by
        rw [Tryd.params3] at ht
        have hm : t ∈ [23, 25] := by simpa using Array.mem_of_getElem? ht
        have hall : ([23, 25].all fun u => !Tryd.prog.wantsStandIn u) = true := by kernel_rfl
        exact (show Tryd.prog.wantsStandIn t = false by simpa using List.all_eq_true.1 hall t hm)⟩)
    (by kernel_rfl)
end Go.Proofs.YtkfkkihdlkhbnaaDoor.FReportWrites
namespace Go.Proofs.YtkfkkihdlkhbnaaDoor
theorem reportWrites_holds : Rows.ReportWritesCardSaid := FReportWrites.card
end Go.Proofs.YtkfkkihdlkhbnaaDoor
#print axioms Go.Proofs.YtkfkkihdlkhbnaaDoor.reportWrites_holds
