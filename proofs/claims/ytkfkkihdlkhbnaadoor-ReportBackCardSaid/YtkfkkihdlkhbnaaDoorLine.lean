/- report.line: its contract. -/
import Derived.Test.YtkfkkihdlkhbnaaDoorHexP
import Derived.Test.YtkfkkihdlkhbnaaDoorSln
import Derived.Lib.Join
namespace Go.Proofs.YtkfkkihdlkhbnaaDoor.Str
open Go.RowKit

/-- The library's tables, as their initialisers lay them. -/
structure Tabs (w : World) : Prop where
  sp : Lib.TabIs Tryd.prog w "strings.asciiSpace" .u8 Lib.asciiSpaceTab
  pw : Lib.TabIs Tryd.prog w "internal/strconv.uint64pow10" .u64 Lib.pow10Tab

theorem tab_kept {w w' : World} {name : String} {g : Nat} {k : IntKind} {zs : List Int} (hgn : Tryd.prog.globalNamed name = some g) (h : Lib.TabIs Tryd.prog w name k zs) (hb : Below w.heap.size w w') : Lib.TabIs Tryd.prog w' name k zs := by
  unfold Lib.TabIs World.var? at h ⊢
  rw [hgn] at h ⊢
  simp only [Option.bind_some] at h ⊢
  have hlt : g < w.heap.size := by
    rcases Nat.lt_or_ge g w.heap.size with h' | h'
    · exact h'
    · rw [Array.getElem?_eq_none h'] at h; cases h
  rw [hb.block g hlt]
  exact h
theorem Tabs.below {w w' : World} (h : Tabs w) (hb : Below w.heap.size w w') : Tabs w' :=
  ⟨tab_kept (g := 0) (by kernel_rfl) h.sp hb, tab_kept (g := 5) (by kernel_rfl) h.pw hb⟩

theorem below_grow (w : World) (k : Nat) (os : Array Obj) : Below w.heap.size w (Go.Sort.grow (w.drewN k) os) :=
  ⟨rfl, rfl, rfl, by simp, fun i hi => by rw [Go.Sort.heap_grow_old _ os (by simpa using hi)]; rfl⟩
theorem itoa_any (n : Int) (h : I64 n) (w : World) (hT : Tabs w) : Calls Tryd.prog 32 #[.int .i64 n] w fun e w' => e = .returned (.string ⟨(Lib.itoa n).toArray⟩) ∧ Below w.heap.size w w' :=
  (Tryd.strconv_Itoa n h.1 h.2 w hT.pw).mono fun _ _ ⟨he, k, os, hw⟩ => ⟨he, hw ▸ below_grow w k os⟩

def eStr (l : List UInt8) : List Value := [.string ⟨l.toArray⟩]
theorem eStr_len (l : List UInt8) : (eStr l).length = 1 := rfl
theorem eStr_one (l : List UInt8) : ∀ u ∈ eStr l, u.oneCell' = true := by simp [eStr, Value.oneCell']
theorem info9 : (Tryd.prog.info? 9).map (fun i => (i.zero, i.size, i.bytes)) = some (some (.string ⟨#[]⟩), 1, 16) := by kernel_rfl
theorem info_parts' {P : Program} {t : TypeId} {z : Value} {s b : Nat} (h : (P.info? t).map (fun i => (i.zero, i.size, i.bytes)) = some (some z, s, b)) : ∃ i, P.info? t = some i ∧ i.zero = some z ∧ i.size = s ∧ i.bytes = b := by
  cases hi : P.info? t with
  | none => rw [hi] at h; cases h
  | some i => rw [hi] at h; simp at h; exact ⟨i, rfl, h.1, h.2.1, h.2.2⟩

/-- Words with numbers behind them. -/
def words (ps : List (List UInt8 × Int)) : List (List UInt8) := ps.flatMap fun p => [p.1, Lib.itoa p.2]
def lineL (ps : List (List UInt8 × Int)) : List UInt8 := Lib.join (words ps) [32]
theorem words_snoc (ps : List (List UInt8 × Int)) (k : Nat) (p : List UInt8 × Int) (h : ps[k]? = some p) : words (ps.take (k + 1)) = words (ps.take k) ++ [p.1, Lib.itoa p.2] := by
  obtain ⟨h1, h2⟩ := List.getElem?_eq_some_iff.1 h
  unfold words
  rw [List.take_succ_eq_append_getElem h1, h2]
  simp
theorem words_len (ps : List (List UInt8 × Int)) : (words ps).length = 2 * ps.length := by
  induction ps with
  | nil => rfl
  | cons p ps ih => unfold words at *; simp [ih]; omega
theorem lens_le : ∀ (xs : List (List UInt8)), (∀ x ∈ xs, x.length ≤ 21) → Lib.lens xs ≤ 21 * xs.length
  | [], _ => by simp [Lib.lens]
  | x :: xs, h => by
    have h1 := h x (by simp)
    have h2 := lens_le xs (fun y hy => h y (by simp [hy]))
    simp only [Lib.lens, List.map_cons, List.sum_cons, List.length_cons] at *
    omega
theorem join_le (xs : List (List UInt8)) (h : ∀ x ∈ xs, x.length ≤ 21) : (Lib.join xs [32]).length ≤ 22 * xs.length := by
  cases xs with
  | nil => simp [Lib.join_nil]
  | cons x r =>
    rw [Lib.join_cons, List.length_append, Lib.joinTail_length]
    have h1 := h x (by simp)
    have h2 := lens_le r (fun y hy => h y (by simp [hy]))
    simp only [List.length_cons, List.length_nil]
    omega

theorem sl_two (w : World) (a b : List UInt8) : Sl (w.alloc (.cells #[.string ⟨a.toArray⟩, .string ⟨b.toArray⟩] 9)) 9 1 eStr (.slice (some ⟨w.heap.size, 0, none⟩) 2 2) [a, b] := by
  refine ⟨_, 2, rfl, by simp, by decide, fun _ => ⟨w.heap.size, 0, _, (0, 0), rfl, heap_alloc_new w _, fun k x hx j u hu => ?_⟩⟩
  rw [(Blk.new w 9 _).cell]
  match k, hx with
  | 0, hx =>
    injection hx with hx
    subst hx
    match j, hu with
    | 0, hu => exact hu
  | 1, hx =>
    injection hx with hx
    subst hx
    match j, hu with
    | 0, hu => exact hu

def Good (ps : List (List UInt8 × Int)) : Prop := ps ≠ [] ∧ ps.length ≤ 8 ∧ ∀ p ∈ ps, I64 p.2 ∧ p.1.length ≤ 21
theorem Good.words {ps : List (List UInt8 × Int)} (h : Good ps) : ∀ x ∈ words ps, x.length ≤ 21 := by
  intro x hx
  unfold Str.words at hx
  obtain ⟨p, hp, hx⟩ := List.mem_flatMap.1 hx
  obtain ⟨h1, h2⟩ := h.2.2 p hp
  simp at hx
  rcases hx with rfl | rfl
  · exact h2
  · exact itoa_len h1
theorem Good.line {ps : List (List UInt8 × Int)} (h : Good ps) : (lineL ps).length ≤ 352 := by
  have h1 := join_le _ h.words
  have h2 := h.2.1
  rw [words_len] at h1
  unfold lineL
  omega

def LineR (w w1 : World) (ps : List (List UInt8 × Int)) (m : Nat) (out i : Value) (wr : World) : Prop :=
  ∃ k : Nat, m + k = ps.length ∧ i = .int .i64 k ∧ Own wr w1.heap.size 9 1 eStr out (words (ps.take k)) ∧ Below w1.heap.size w1 wr ∧ w1.heap.size ≤ wr.heap.size

set_option maxRecDepth 100000 in
set_option maxHeartbeats 2000000 in
theorem line_any (s : ByteArray) (v : Value) (ps : List (List UInt8 × Int)) (w : World) (hs : s.size ≤ 4096) (hascii : ∀ (j : Nat) b, s.data.toList[j]? = some b → b.toNat < 128) (hf : Lib.fields s.data.toList = ps.map (·.1))
    (hG : Good ps) (hv : Sl w 3 1 eInt v (ps.map (·.2))) (hT : Tabs w) :
    Calls Tryd.prog 19 #[.string s, v] w fun e w' => e = .returned (.string ⟨(lineL ps).toArray⟩) ∧ Below w.heap.size w w' := by
  obtain ⟨i0, hi0, hz0, hz1, hz2⟩ := info_parts' info9
  have C := Tryd.strings_Fields_laid s w (by omega) hascii hT.sp
  rw [hf, List.length_map, List.map_map] at C
  have HC := Lib.hid C
  have hB := Blk.new w 9 ((ps.map ((fun l => Value.string ⟨l.toArray⟩) ∘ (·.1))).toArray)
  have HB := Lib.hid hB
  obtain ⟨A, c, rfl, hc⟩ := hv.form
  rw [List.length_map]
  have HV := Lib.hid hv
  have HT := Lib.hid hT
  have HG := Lib.hid hG
  have hpl : ps.length ≤ 8 := hG.2.1
  have hb0 : Below w.heap.size w (w.alloc (.cells ((ps.map ((fun l => Value.string ⟨l.toArray⟩) ∘ (·.1))).toArray) 9)) := (Below.refl _ _).alloc (Nat.le_refl _) _
  have HB0 := Lib.hid hb0
  have hsz : w.heap.size < (w.alloc (.cells ((ps.map ((fun l => Value.string ⟨l.toArray⟩) ∘ (·.1))).toArray) 9)).heap.size := by simp
  generalize hW1 : w.alloc (.cells ((ps.map ((fun l => Value.string ⟨l.toArray⟩) ∘ (·.1))).toArray) 9) = w1 at *
  clear C hB hv hT hG hf hascii hc hb0 hW1
  go_enter Tryd.func19, Tryd.ntmps19
  go_wp2_with fail
  refine HC.out.mono ?_
  rintro e w1' ⟨rfl, rfl⟩
  clear HC
  go_wp2_with fail
  go_loopg [5, 11] ps.length (fun m out i wr => LineR w w1' ps m out i wr)
  case atStart => exact ⟨0, by omega, rfl, Own.nil _ _, Below.refl _ _, Nat.le_refl _⟩
  case round =>
    obtain ⟨k, hm, rfl, ho, hb, hsz2⟩ := hrel
    obtain ⟨B, N, c', rfl⟩ := ho.form'
    have HO := Lib.hid ho
    have HBW := Lib.hid hb
    clear ho hb
    by_cases hlt : k < ps.length
    · obtain ⟨p, hp⟩ : ∃ p, ps[k]? = some p := ⟨ps[k]'hlt, List.getElem?_eq_getElem hlt⟩
      obtain ⟨ab, aoff, rfl, hab, q1⟩ := ((HV.out.below HB0.out).below ((HBW.out).mono (Nat.le_refl _))).at1 (k := k) (x := p.2) (by rw [List.getElem?_map, hp]; rfl) rfl
      have q0 : wr.cell? ⟨w.heap.size, k, none⟩ = some (.string ⟨p.1.toArray⟩) := by
        have h1 := HB.out.cell k
        have h2 := (HBW.out.cell (p := ⟨w.heap.size, k, none⟩) (by simpa using hsz)).trans h1
        rw [h2]
        simp [List.getElem?_map, hp]
      have k0 : (0 : Int) ≤ (k : Int) := by omega
      have k1 : (k : Int) < (ps.length : Int) := by omega
      obtain ⟨g1, g2⟩ := HG.out.2.2 p (List.mem_of_getElem? hp)
      have HC2 := Lib.hid (itoa_any p.2 g1 wr ((HT.out.below HB0.out).below HBW.out))
      have HW := Lib.hid (words_snoc ps k p hp)
      have hwl : (words (ps.take k)).length ≤ 16 := by rw [words_len, List.length_take]; omega
      have HWL := Lib.hid hwl
      clear hp g1 g2 hwl
      go_wp2_with fail
      refine HC2.out.mono ?_
      rintro e w2 ⟨rfl, hb2⟩
      have HB2 := Lib.hid hb2
      have hs2 := hb2.size
      clear hb2 HC2 q0 q1 hab
      go_wp2_with (at_builtin; refine wpList_append_sl _ rfl (.tmp 16) (.tmp 23) 51 rfl w1'.heap.size 9 i0 (.string ⟨#[]⟩) 1 16 Tryd.underlying51 hi0 hz0 hz1 hz2 rfl (by decide) eStr_len eStr_one (.slice B N c') _ rfl ((HO.out.kept (F := none_) (Kept.below HB2.out rfl) Off.none_).alloc _) _ [p.1, Lib.itoa p.2] rfl (sl_two w2 _ _) (by have := HWL.out; unfold maxLen; simp; omega) (by have := HWL.out; simp; omega) (by simp; omega) ?_; intro v' w3 hown' hgrow hat)
      have hb3 : Below w1'.heap.size w1' w3 := ((HBW.out.trans (HB2.out.mono hsz2)).alloc (by omega) _).grown hgrow (by simp; omega) (fun q hq => (HO.out.lt q hq).1)
      have HB3 := Lib.hid hb3
      have HO3 : Hid (Own w3 w1'.heap.size 9 1 eStr v' (words (ps.take (k + 1)))) := Lib.hid (by rw [HW.out]; exact hown')
      obtain ⟨B', N', c'', rfl⟩ := hown'.form'
      clear hb3 hown' hgrow hat
      go_wp2_with fail
      go_roundg (gk - 1)
      case measure => omega
      case rel => exact ⟨k + 1, by omega, by go_num, HO3.out, HB3.out, HB3.out.size⟩
    · obtain rfl : k = ps.length := by omega
      have ho := HO.out
      rw [List.take_length] at ho
      have hsl := ho.sl eStr_len
      obtain ⟨hN, hNc, hcm⟩ := hsl.len
      have hwl := words_len ps
      have hne := HG.out.1
      obtain ⟨p0, hp0⟩ : ∃ p, ps[0]? = some p := by
        cases ps with
        | nil => exact absurd rfl hne
        | cons p _ => exact ⟨p, rfl⟩
      obtain ⟨x0, hx0⟩ : ∃ x, (words ps)[0]? = some x := ⟨(words ps)[0]'(by have := (List.getElem?_eq_some_iff.1 hp0).1; omega), List.getElem?_eq_getElem _⟩
      obtain ⟨g, off, rfl, hg, _⟩ := hsl.at1 hx0 rfl
      have hcells : ∀ (j : Nat) (x : ByteArray), ((words ps).map fun l => (⟨l.toArray⟩ : ByteArray))[j]? = some x → wr.cell? ⟨g, off + j, none⟩ = some (.string x) := by
        intro j x hx
        rw [List.getElem?_map] at hx
        obtain ⟨l, hl, rfl⟩ := Option.map_eq_some_iff.1 hx
        obtain ⟨g', off', e, _, hc⟩ := hsl.at1 hl rfl
        injection e with e
        injection e with e1 e2
        subst e1 e2
        exact hc
      have hjoin : Lib.join (((words ps).map fun l => (⟨l.toArray⟩ : ByteArray)).map (·.data.toList)) (⟨#[32]⟩ : ByteArray).data.toList = lineL ps := by
        unfold lineL
        rw [List.map_map]
        have he : (words ps).map ((fun x : ByteArray => x.data.toList) ∘ fun l => (⟨l.toArray⟩ : ByteArray)) = words ps := by
          conv => rhs; rw [← List.map_id (words ps)]
          exact List.map_congr_left fun l _ => by simp
        rw [he]
      have hC := Tryd.strings_Join g off c' ((words ps).map fun l => (⟨l.toArray⟩ : ByteArray)) ⟨#[32]⟩ wr hcells hg (by rw [List.length_map]; omega) (by rw [List.length_map]; omega) (by rw [hjoin]; have := HG.out.line; omega)
      rw [hjoin, List.length_map] at hC
      subst hN
      have HC := Lib.hid hC
      clear hC hjoin hcells hsl ho hNc hcm hwl hne hp0 hx0 HO
      go_wp2_with fail
      refine HC.out.mono ?_
      rintro e w4 ⟨rfl, hb4⟩
      have HB4 := Lib.hid hb4
      clear hb4 HC
      go_wp2_with fail
      go_ret
      exact ⟨rfl, HB0.out.trans ((HBW.out.trans (HB4.out.mono hsz2)).mono (by omega))⟩
end Go.Proofs.YtkfkkihdlkhbnaaDoor.Str
