/- The reference's rows: contracts of Without, At. -/
import Derived.Test.YtnnbpmjcdcmigaaTimH
namespace Go.Proofs.Ytnnbpmjcdcmigaa.RefT
open Go.RowKit Line HeapLaw TimLaw

/-- The slice v holds the rows x. -/
abbrev Rw (w : World) (v : Value) (x : List E) : Prop := Sl w 45 2 E.enc v x
def Made (w : World) (x : List E) (e : Ending) (w' : World) : Prop := ∃ o, e = .returned o ∧ Own w' w.heap.size 45 2 E.enc o x ∧ Below w.heap.size w w'
theorem info45 : (Try.prog.info? 45).map (fun i => (i.zero, i.size, i.bytes)) = some (some (.agg #[.int .i64 0, .int .i64 0]), 2, 16) := by kernel_rfl
theorem new_row (w : World) (g : Nat) (hg : w.heap.size = g) (e : E) : ∀ j u, (E.enc e)[j]? = some u → (w.alloc (.cells #[.int .i64 e.id, .int .i64 e.at_] 45)).cell? ⟨g, j, none⟩ = some u := by
  subst hg
  intro j u hu
  rw [(Blk.new w 45 #[.int .i64 e.id, .int .i64 e.at_]).cell j, ← hu]
  exact List.getElem?_toArray

theorem take_next {x : List E} {k : Nat} {a : E} (h : x[k]? = some a) : x.take (k + 1) = x.take k ++ [a] := by
  obtain ⟨h1, h2⟩ := List.getElem?_eq_some_iff.1 h
  rw [List.take_succ_eq_append_getElem h1, h2]
theorem without_len (x : List E) (id : Int) : (TimLaw.without x id).length ≤ x.length := List.length_filter_le _ _

def LoopR (w : World) (x : List E) (id : Int) (m : Nat) (out i : Value) (wr : World) : Prop :=
  ∃ k : Nat, m + k = x.length ∧ i = .int .i64 k ∧ Own wr w.heap.size 45 2 E.enc out (TimLaw.without (x.take k) id) ∧ Below w.heap.size w wr

set_option maxRecDepth 100000 in
set_option maxHeartbeats 1000000 in
theorem without_any {w : World} {vx : Value} {x : List E} (h : Rw w vx x) (hl : x.length ≤ 200) (id : Int) : Calls Try.prog 10 #[vx, .int .i64 id] w (Made w (TimLaw.without x id)) := by
  obtain ⟨i0, hi0, hz0, hz1, hz2⟩ := info_parts' info45
  obtain ⟨A, c, rfl, hc⟩ := h.form
  have HS := Lib.hid h
  clear h hc
  go_enter Try.func10, Try.ntmps10
  go_wp2_with fail
  go_loopg [5, 6] x.length (fun m out i wr => LoopR w x id m out i wr)
  case atStart => exact ⟨0, by omega, rfl, Own.nil _ _, Below.refl _ _⟩
  case round =>
    obtain ⟨k, hm, rfl, ho, hb⟩ := hrel
    obtain ⟨B, N, c', rfl⟩ := ho.form'
    by_cases hlt : k < x.length
    · obtain ⟨a, ha⟩ : ∃ a, x[k]? = some a := ⟨x[k]'hlt, List.getElem?_eq_getElem hlt⟩
      obtain ⟨b, off, rfl, hbl, _, hcell⟩ := (HS.out.below hb).atN ha
      have q0 := hcell 0 _ rfl
      have q1 := hcell 1 _ rfl
      rw [Nat.add_zero] at q0
      have k0 : (0 : Int) ≤ (k : Int) := by omega
      have k1 : (k : Int) < (x.length : Int) := by omega
      have HT := Lib.hid (take_next ha)
      have HO := Lib.hid ho
      have HB := Lib.hid hb
      have hlen : (TimLaw.without (x.take k) id).length ≤ 200 := by have := without_len (x.take k) id; rw [List.length_take] at this; omega
      have HLEN := Lib.hid hlen
      clear ho hb ha hcell hlen
      by_cases hid : a.id = id
      · have t1 : (a.id != id) = false := by simpa using hid
        have HID := Lib.hid t1
        clear hid
        go_wp2_with fail
        go_roundg (gk - 1)
        case measure => omega
        case rel => exact ⟨k + 1, by omega, by go_num, by rw [HT.out, without_snoc, HID.out]; simpa using HO.out, HB.out⟩
      · have t1 : (a.id != id) = true := by simpa using hid
        have HID := Lib.hid t1
        clear hid
        go_wp2_with (at_builtin; refine wpList_append_one _ rfl (.tmp 20) (.tmp 25) 26 rfl w.heap.size 45 i0 (.agg #[.int .i64 0, .int .i64 0]) 2 16 Try.underlying26 hi0 hz0 hz1 hz2 rfl (by decide) (.slice B N c') _ rfl (HO.out.alloc _) wr.heap.size a rfl rfl (new_row wr _ rfl a) (ent_one _) (by have := HLEN.out; omega) (by have := HLEN.out; unfold maxLen; omega) (by have := HB.out.size; simp; omega) ?_; intro v' w1 hown' hgrow hat)
        have hb1 : Below w.heap.size w w1 := (HB.out.alloc HB.out.size _).grown hgrow (by have := HB.out.size; simp; omega) (fun q hq => (HO.out.lt q hq).1)
        have HB1 := Lib.hid hb1
        have HO1 := Lib.hid hown'
        obtain ⟨B', N', c'', rfl⟩ := hown'.form'
        clear hb1 hown' hgrow hat
        go_wp2_with fail
        go_roundg (gk - 1)
        case measure => omega
        case rel => exact ⟨k + 1, by omega, by go_num, by rw [HT.out, without_snoc, HID.out]; simpa using HO1.out, HB1.out⟩
    · obtain rfl : k = x.length := by omega
      have HO : Hid (Own wr w.heap.size 45 2 E.enc (.slice B N c') (TimLaw.without x id)) := Lib.hid (by rw [List.take_length] at ho; exact ho)
      have HB := Lib.hid hb
      clear ho hb
      go_wp2_with fail
      go_ret
      exact ⟨_, rfl, HO.out, HB.out⟩

set_option maxRecDepth 100000 in
set_option maxHeartbeats 1000000 in
theorem at_any {w : World} {vx : Value} {x : List E} (h : Rw w vx x) (hl : x.length ≤ 200) (id : Int) :
    Calls Try.prog 9 #[vx, .int .i64 id] w fun e w' => e = .returned (.tuple #[.int .i64 (atOf x id), .bool (TimLaw.find x id).isSome]) ∧ w = w' := by
  obtain ⟨A, c, rfl, hc⟩ := h.form
  have HS := Lib.hid h
  clear h hc
  go_enter Try.func9, Try.ntmps9
  go_wp2_with fail
  go_loopg [6] x.length (fun m i wr => ∃ k : Nat, m + k = x.length ∧ i = .int .i64 k ∧ TimLaw.find (x.take k) id = none ∧ w = wr)
  case atStart => exact ⟨0, by omega, rfl, rfl, rfl⟩
  case round =>
    obtain ⟨k, hm, rfl, hn, rfl⟩ := hrel
    have HN := Lib.hid hn
    clear hn
    by_cases hlt : k < x.length
    · obtain ⟨a, ha⟩ : ∃ a, x[k]? = some a := ⟨x[k]'hlt, List.getElem?_eq_getElem hlt⟩
      obtain ⟨b, off, rfl, hbl, _, hcell⟩ := HS.out.atN ha
      have q0 := hcell 0 _ rfl
      have q1 := hcell 1 _ rfl
      rw [Nat.add_zero] at q0
      have k0 : (0 : Int) ≤ (k : Int) := by omega
      have k1 : (k : Int) < (x.length : Int) := by omega
      have HT := Lib.hid (take_next ha)
      clear ha hcell
      by_cases hid : a.id = id
      · have t1 : (a.id == id) = true := by simpa using hid
        have hf : TimLaw.find x id = some a := by
          have : x = (x.take k ++ [a]) ++ x.drop (k + 1) := by rw [← HT.out, List.take_append_drop]
          rw [this]
          unfold TimLaw.find
          have hn' := HN.out
          unfold TimLaw.find at hn'
          rw [List.find?_append, List.find?_append, hn']
          simp [hid]
        have HF := Lib.hid hf
        clear hid hf
        go_wp2_with fail
        go_ret2
        unfold atOf
        rw [HF.out]
        exact ⟨rfl, rfl⟩
      · have t1 : (a.id == id) = false := by simpa using hid
        have hf : TimLaw.find (x.take (k + 1)) id = none := by
          rw [HT.out]
          unfold TimLaw.find
          have hn' := HN.out
          unfold TimLaw.find at hn'
          rw [List.find?_append, hn']
          simp [hid]
        have HF := Lib.hid hf
        clear hid hf
        go_wp2_with fail
        go_roundg (gk - 1)
        case measure => omega
        case rel => exact ⟨k + 1, by omega, by go_num, HF.out, rfl⟩
    · obtain rfl : k = x.length := by omega
      have HF : Hid (TimLaw.find x id = none) := Lib.hid (by have := HN.out; rwa [List.take_length] at this)
      go_wp2_with fail
      go_ret2
      unfold atOf
      rw [HF.out]
      exact ⟨rfl, rfl⟩
end Go.Proofs.Ytnnbpmjcdcmigaa.RefT
