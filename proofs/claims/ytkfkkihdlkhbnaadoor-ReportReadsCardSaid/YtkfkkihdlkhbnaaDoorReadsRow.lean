/- The statement ReportReadsCardSaid: for every input the law flashlock/flashlocklaw52.ReportReads returns true, and each argument reads afterwards as it read before; the listed tables and errors of Go's library hold what their initialisers lay (the card ties them to the program's text). -/
import Derived.Test.YtkfkkihdlkhbnaaDoorReads
import Derived.Test.YtkfkkihdlkhbnaaDoorRowKit
namespace Go.Proofs.YtkfkkihdlkhbnaaDoor.FReportReads
open Go.ChangeShapes Go.WideShapes Go.ChangeAt Go.RowKit Str FReportWrites
set_option linter.unusedVariables false
theorem str_arg {W : World} {v : Value} (k : IsArg Tryd.prog W 9 v) : ∃ s : ByteArray, v = .string s := arg_str Tryd.underlying9 k
theorem walk (v0 : Value) (W : World) (k0 : IsArg Tryd.prog W 9 v0) (hT : RTabs W) :
    Calls Tryd.prog 4 #[v0] W fun e W' => e = .returned (.bool true) ∧ Below W.heap.size W W' := by
  obtain ⟨s, rfl⟩ := str_arg k0
  by_cases h : 300 < s.size
  · exact WReportReads.law_off s W hT.t h
  · exact WReportReads.law_any s W hT (by omega)

set_option maxRecDepth 100000 in
theorem lifted (os : Os) (started : os.Started) (H : Type) (enc : TypeId × Value → H) :
    ReturnsInHanded {} Tryd.checked os 4 .any (fun w args => (Rows.reportReadsSpec.pre enc Tryd.prog Tryd.f4 Rows.reportReadsRow.domain false w args ∧ laidMetH Tryd.prog Rows.reportReadsRow.laid w) ∧ sizedMet enc Tryd.prog Tryd.f4 (OpenSpec.ofChange Rows.reportReadsSpec) false w args)
      (Rows.reportReadsSpec.post enc Tryd.prog Tryd.f4 false true false false) := by
  refine wrap_shaped (C := Tryd.checked) (X := fun w _ => laidMetH Tryd.prog Rows.reportReadsRow.laid w) (fun _ _ _ hh h => h.of_heap hh) own started (by kernel_rfl) Tryd.func4
    (ChangeSpec.witness_shaped (enc := enc) (C := Tryd.checked) (os := os) (X := fun w _ => laidMetH Tryd.prog Rows.reportReadsRow.laid w) false (World.laidAll Tryd.prog os Rows.reportReadsRow.laid) #[.string ⟨#[]⟩] 12 (World.laidAll_os _ _ _)
      (World.shaped_of_ZipB (by kernel_rfl) (by kernel_rfl)) (by kernel_rfl) (by kernel_rfl) (by kernel_rfl)
      (by rw [MakeChecks.laidMetH_plain _ _ _ (by kernel_rfl)]; exact laidMet_laidAll _ (by kernel_rfl) (by kernel_rfl))) ?_
  intro W base args ds gs before hval0 hW hL hsh
  have hval : ∀ (j : Nat) t v, Tryd.f4.params[j]? = some t → args[j]? = some v → Value.okWide Tryd.prog W .any base t v := hval0
  have hW' := hW
  obtain ⟨p, q, hA0, hV, rfl, hfz, hnd⟩ := hW
  have hA : DataW.TrodAll enc Tryd.prog W 0 (fun _ => true) true Tryd.f4.params.toList args.toList ds p := hA0
  rw [Tryd.params4] at hA hval
  obtain ⟨v0, vs0, d0, ds0, p0, q0, hargs, rfl, rfl, h0, r0⟩ := trodAll_cons hA
  obtain ⟨rfl, rfl, rfl⟩ := trodAll_nil r0
  obtain rfl : args = #[v0] := by cases args; simp_all
  obtain ⟨rfl, rfl⟩ := trodVars_none hV
  have lt0 : ∀ x ∈ p0, x.block < W.heap.size := by obtain ⟨m, hm⟩ := h0; exact DataW.trod_lt m _ _ _ hm
  have k0 : IsArg Tryd.prog W 9 v0 := ⟨base, hval 0 9 v0 rfl rfl, H, enc, d0, p0, h0⟩
  clear hA0 hval0
  refine (walk v0 W k0 (rtabs_of hL hsh)).mono fun e W' ⟨he, bel⟩ => ?_
  subst he
  exact ⟨_, rfl, _, _, _, [], _, [], hW', trodAll_mk1 (shut_bool Tryd.underlying4 _), (trodAll_cons_mk (Below.trod laidOut (by kernel_rfl) (of_decide_eq_true (by kernel_rfl)) h0 bel lt0) trodAll_mk0), rfl, bel.frame _, fun h => by cases h⟩

theorem over : Rows.ReportReadsSaid :=
  OpenClaim.holds_of_wide 4 Tryd.f4 rfl rfl rfl rfl rfl rfl rfl ⟨rfl, rfl, rfl, rfl, rfl⟩ rfl rfl rfl rfl rfl (by kernel_rfl) Tryd.func4 (by kernel_rfl)
    (of_decide_eq_true (by kernel_rfl)) (by unfold Func.isWrapper; rw [if_neg (of_decide_eq_false (by kernel_rfl))]; exact ⟨rfl, rfl⟩)
    (fun os started H enc _ => lifted os started H enc)
theorem card : Rows.ReportReadsCardSaid :=
  Claim7.holds_tied_plain_at .later [] [.data, .data, .data, .data, .sentinel, .sentinel, .listed, .data, .pinned] true (true, "0de0df9fc967735c2221d03912c63c80164d67be46bd6337aa347c8fbd8ff051") true over (fun _ h => by cases h) (by kernel_rfl) (fun _ h => by cases h) reportReads_row_tie rfl ⟨rfl, rfl⟩ (by kernel_rfl) rfl
    (fun f fn hf hfn => by
      obtain rfl : f = 4 := Option.some.inj ((show Tryd.prog.funcNamed "flashlock/flashlocklaw52.ReportReads" = some 4 by kernel_rfl).symm.trans hf) |>.symm
      obtain rfl : fn = Tryd.f4 := (Option.some.inj (Tryd.func4.symm.trans hfn)).symm
      exact ⟨by kernel_rfl, fun j t ht => by
        rw [Tryd.params4] at ht
        have hm : t ∈ [9] := by simpa using Array.mem_of_getElem? ht
        have hall : ([9].all fun u => !Tryd.prog.wantsStandIn u) = true := by kernel_rfl
        exact (show Tryd.prog.wantsStandIn t = false by simpa using List.all_eq_true.1 hall t hm)⟩)
    (by kernel_rfl)
end Go.Proofs.YtkfkkihdlkhbnaaDoor.FReportReads
namespace Go.Proofs.YtkfkkihdlkhbnaaDoor
theorem reportReads_holds : Rows.ReportReadsCardSaid := FReportReads.card
end Go.Proofs.YtkfkkihdlkhbnaaDoor
#print axioms Go.Proofs.YtkfkkihdlkhbnaaDoor.reportReads_holds
