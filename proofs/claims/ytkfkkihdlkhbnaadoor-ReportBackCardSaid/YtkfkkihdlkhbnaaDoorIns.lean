/- A drawn region's inserts into a map, in whatever order. -/
import Derived.Test.YtkfkkihdlkhbnaaDoorMapp
import Derived.RegionTactic
namespace Go.Proofs.YtkfkkihdlkhbnaaDoor
open Go.RowKit Go.MapKept

section
variable {κ : Type} [DecidableEq κ] {kv : κ → Value} {P : Program} {kt et mt : TypeId} {ops : Array Oper} {Q : Exit → Act → World → Prop} {md : Region.Mode}

/-- Whatever is not among the full waits for each of ix; each of ix waits for the full that are not of ix. -/
def waitsB (md : Region.Mode) (ops : Array Oper) (full : Array Bool) (ix : List Nat) : Bool :=
  decide (full.size = ops.size) && ix.all (fun k => full.getD k false) &&
  ((List.range ops.size).all fun j => full.getD j true || ix.all fun k => ((ops[j]?).map fun o => o.after.any fun e => Region.binds md e && e.on == k).getD false) &&
  ix.all fun k => ((ops[k]?).map fun o => o.after.all fun e => !Region.binds md e || (full.getD e.on false && !ix.contains e.on)).getD false

def LInv (full listed : Array Bool) (rem : List Nat) : Prop := listed.size = full.size ∧ ∀ j, j < full.size → listed[j]? = some (full.getD j false && !rem.contains j)

theorem LInv.set {full listed : Array Bool} {rem : List Nat} (h : LInv full listed rem) (hnd : rem.Nodup) {i : Nat} (hi : i ∈ rem) (hf : full.getD i false = true) : LInv full (listed.setIfInBounds i true) (rem.erase i) := by
  refine And.intro (by simpa using h.1) ?_
  intro j hj
  by_cases e : i = j
  · subst e
    rw [Array.getElem?_setIfInBounds, if_pos rfl, if_pos (by rw [h.1]; exact hj), hf]
    have : i ∉ rem.erase i := fun hm => (List.Nodup.mem_erase_iff hnd).1 hm |>.1 rfl
    simp [this]
  · have : (rem.erase i).contains j = rem.contains j := by
      rw [Bool.eq_iff_iff]
      simp [List.mem_erase_of_ne (Ne.symm e)]
    rw [Array.getElem?_setIfInBounds, if_neg e, h.2 j hj, this]
theorem LInv.end_ {full listed : Array Bool} (h : LInv full listed []) : listed = full := by
  refine Array.ext h.1 fun j h1 h2 => ?_
  have := h.2 j h2
  rw [Array.getElem?_eq_getElem h1] at this
  injection this with this
  rw [this]
  simp [Array.getD, h2]

def FInv (ix rem : List Nat) (key : Nat → κ) (val : Nat → Value) (f : κ → Option Value) : Prop :=
  (∀ i ∈ ix, i ∉ rem → f (key i) = some (val i)) ∧ ∀ k, (∀ i ∈ ix, key i ≠ k) → f k = none

theorem wpAny_ins (K : KeyOk P kt kv) (hm : P.underlying mt = some (.map kt et)) {full : Array Bool} {ix : List Nat} (key : Nat → κ) (val : Nat → Value) {a : Act} {r fuel : Nat} {w0 : World}
    (hinj : ∀ i ∈ ix, ∀ j ∈ ix, key i = key j → i = j)
    (hops : ∀ i ∈ ix, ∃ o m x v, ops[i]? = some o ∧ o.guard = none ∧ o.dst = none ∧ o.op = Op.insert mt m x v ∧ a.eval m = .map (some r) ∧ a.eval x = kv (key i) ∧ a.eval v = val i)
    (hw : waitsB md ops full ix = true)
    (hK : ∀ w' f' c', MapIs kv w' r f' c' → Kept (· = r) w0 w' → FInv ix [] key val f' → wpAny P md ops Q fuel full a w') :
    ∀ (n : Nat) (rem : List Nat) (f : κ → Option Value) (c : Nat) (listed : Array Bool) (w : World), rem.length = n → rem.Nodup → (∀ i ∈ rem, i ∈ ix) → LInv full listed rem →
      MapIs kv w r f c → Kept (· = r) w0 w → FInv ix rem key val f → wpAny P md ops Q (fuel + n) listed a w := by
  simp only [waitsB, Bool.and_eq_true, decide_eq_true_eq, List.all_eq_true, List.mem_range] at hw
  obtain ⟨⟨⟨hN, hfull⟩, hwait⟩, hgo⟩ := hw
  intro n
  induction n with
  | zero =>
    intro rem f c listed w hl hnd hsub hL hM hk hF
    have : rem = [] := List.eq_nil_of_length_eq_zero hl
    subst this
    rw [hL.end_]
    exact hK w f c hM hk hF
  | succ n ih =>
    intro rem f c listed w hl hnd hsub hL hM hk hF
    obtain ⟨k0, hk0⟩ : ∃ k0, k0 ∈ rem := List.exists_mem_of_length_pos (by omega)
    have hlt : ∀ j, j < ops.size → listed[j]? = some (full.getD j false && !rem.contains j) := fun j hj => hL.2 j (by rw [hN]; exact hj)
    have hrdy : k0 ∈ Region.ready md ops listed := by
      obtain ⟨o, m, x, v, ho, -⟩ := hops k0 (hsub k0 hk0)
      have hk := (Array.getElem?_eq_some_iff.1 ho).1
      refine mem_ready.2 ⟨?_, o, ho, fun e he hb => ?_⟩
      · rw [Array.getD_eq_getD_getElem?, hlt k0 hk]
        simp [hk0]
      · have := hgo k0 (hsub k0 hk0)
        rw [ho] at this
        simp only [Option.map_some, Option.getD_some, Array.all_eq_true_iff_forall_mem, Bool.or_eq_true, Bool.not_eq_true'] at this
        have h1 := (this e he).resolve_left (by simp [hb])
        simp only [Bool.and_eq_true, Bool.not_eq_true', List.contains_eq_mem, decide_eq_false_iff_not] at h1
        have he1 : e.on < full.size := by
          rcases Nat.lt_or_ge e.on full.size with h | h
          · exact h
          · exfalso
            have := h1.1
            simp [Array.getD, Nat.not_lt.2 h] at this
        rw [Array.getD_eq_getD_getElem?, hlt e.on (by omega)]
        have h3 : e.on ∉ rem := fun hm => h1.2 (hsub _ hm)
        simp [h1.1, h3]
    refine ⟨fun h0 => absurd (h0 ▸ hrdy) (by simp), fun i hi => ?_⟩
    have hir : i ∈ rem := by
      obtain ⟨h0, o, ho, hall⟩ := mem_ready.1 hi
      have hil := (Array.getElem?_eq_some_iff.1 ho).1
      rw [Array.getD_eq_getD_getElem?, hlt i hil] at h0
      simp only [Option.getD_some, Bool.and_eq_false_iff, Bool.not_eq_false', List.contains_eq_mem, decide_eq_true_eq] at h0
      rcases h0 with h0 | h0
      · exfalso
        have h1 := hwait i hil
        have hft : full.getD i true = false := by
          simp only [Array.getD, hN, hil, dif_pos] at h0 ⊢
          exact h0
        rw [hft] at h1
        simp only [Bool.false_or, Bool.false_eq_true, List.all_eq_true] at h1
        have h2 := h1 k0 (hsub k0 hk0)
        rw [ho] at h2
        simp only [Option.map_some, Option.getD_some, Array.any_eq_true', Bool.and_eq_true, beq_iff_eq] at h2
        obtain ⟨e, he, hb, heq⟩ := h2
        have h3 := hall e he hb
        rw [heq] at h3
        obtain ⟨o', _, _, _, ho', -⟩ := hops k0 (hsub k0 hk0)
        rw [Array.getD_eq_getD_getElem?, hlt k0 (Array.getElem?_eq_some_iff.1 ho').1] at h3
        simp [hk0] at h3
      · exact h0
    obtain ⟨o, m, x, v, ho, hgd, hdst, hop, e1, e2, e3⟩ := hops i (hsub i hir)
    obtain ⟨w', hrun, hM', hk'⟩ := hM.run_put K hm (key i) (val i)
    have hnext : wpAny P md ops Q (fuel + n) (listed.setIfInBounds i true) a w' := by
      refine ih (rem.erase i) _ _ _ w' (by rw [List.length_erase_of_mem hir]; omega) (hnd.erase i) (fun j hj => hsub j (List.mem_of_mem_erase hj)) (hL.set hnd hir (hfull i (hsub i hir))) hM' (hk.trans hk') ⟨fun j hj hjr => ?_, fun k hk => ?_⟩
      · unfold upd
        by_cases hji : j = i
        · subst hji; rw [if_pos rfl]
        · rw [if_neg (fun e => hji (hinj j hj i (hsub i hir) e))]
          exact hF.1 j hj (fun hm => hjr ((List.mem_erase_of_ne hji).2 hm))
      · unfold upd
        rw [if_neg (fun e => hk i (hsub i hir) e.symm)]
        exact hF.2 k hk
    have hwd : Region.wanted o (yielded ops a.tmps) = true := by simp [Region.wanted, hgd]
    unfold wpOp
    rw [ho]
    simp only [hwd, if_true]
    refine .inl ?_
    unfold Oper.wp
    simp [execOp, hop, e1, e2, e3, hrun, Result.andThen, Oper.upon]
    simpa [hdst, Act.put] using hnext
end
theorem KeyOk.str {P : Program} {kt : TypeId} (h : P.underlying kt = some .string) : KeyOk P kt (fun l : List UInt8 => Value.string ⟨l.toArray⟩) :=
  ⟨⟨_, h, fun _ => trivial⟩, fun a b h => by injection h with h; injection h with h; simpa using h⟩
end Go.Proofs.YtkfkkihdlkhbnaaDoor
