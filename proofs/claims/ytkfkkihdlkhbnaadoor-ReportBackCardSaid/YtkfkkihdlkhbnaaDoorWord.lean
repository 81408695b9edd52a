/- The reference's Words and at; the library's Split at a blank. -/
import Derived.Test.YtkfkkihdlkhbnaaDoorWordL
import Derived.Test.YtkfkkihdlkhbnaaDoorPLine
namespace Go.Proofs.YtkfkkihdlkhbnaaDoor.Str
open Go.RowKit

/-- The slice holds the words. -/
abbrev Wd (w : World) (v : Value) (ws : List (List UInt8)) : Prop := Sl w 9 1 eStr v ws

theorem ext_list (s : ByteArray) (a b : Nat) : s.extract a b = ⟨((s.data.toList.take b).drop a).toArray⟩ := by
  refine str_eq ?_
  rw [ByteArray.data_extract]
  simp [List.drop_take]
theorem split_any (s : ByteArray) (w : World) (hs : s.size ≤ 4096) (hT : RTabs w) :
    Calls Tryd.prog 24 #[.string s, .string ⟨#[32]⟩] w fun e w' => ∃ v, e = .returned v ∧ Wd w' v (wordsL s.data.toList) ∧ Below w.heap.size w w' := by
  obtain ⟨m, hm⟩ := hT.max
  refine (Tryd.strings_Split s ⟨#[32]⟩ m w (by omega) hm (by decide)).mono ?_
  rintro e w' ⟨he, rfl⟩
  have hsp : (Lib.splitB ⟨#[32]⟩ 0 (Lib.countB s ⟨#[32]⟩) s).map (·.data.toList) = wordsL s.data.toList := by
    rw [Lib.splitB_data]
    exact split_words _ _ (Nat.le_refl _)
  have hlen : Lib.countB s ⟨#[32]⟩ + 1 = (wordsL s.data.toList).length := count_words s.data.toList
  refine ⟨_, he, ?_, (Below.refl _ _).alloc (Nat.le_refl _) _⟩
  rw [hlen]
  have hwl := words_len' s.data.toList
  have hl : s.data.toList.length = s.size := by simp
  refine ⟨_, _, rfl, Nat.le_refl _, by unfold maxLen; omega, fun _ => ⟨w.heap.size, 0, _, (0, 0), rfl, heap_alloc_new w _, fun k x hx j u hu => ?_⟩⟩
  have hj : j = 0 := by
    have := (List.getElem?_eq_some_iff.1 hu).1
    simp [eStr] at this
    exact this
  subst hj
  rw [(Blk.new w 9 _).cell]
  rw [← hsp, List.getElem?_map] at hx
  obtain ⟨y, hy, rfl⟩ := Option.map_eq_some_iff.1 hx
  simp [eStr] at hu
  simp [hy, ← hu]

theorem sl_str (w : World) (x : ByteArray) (l : List UInt8) (h : x = ⟨l.toArray⟩) : Sl (w.alloc (.cells #[.string x] 9)) 9 1 eStr (.slice (some ⟨w.heap.size, 0, none⟩) 1 1) [l] := by
  subst h
  refine ⟨_, 1, rfl, Nat.le_refl _, by decide, fun _ => ⟨w.heap.size, 0, _, (0, 0), rfl, heap_alloc_new w _, fun k x hx j u hu => ?_⟩⟩
  match k, hx with
  | 0, hx =>
    injection hx with hx
    subst hx
    match j, hu with
    | 0, hu => rw [(Blk.new w 9 _).cell]; exact hu

def WordR (w : World) (s : ByteArray) (m : Nat) (out from_ i : Value) (wr : World) : Prop :=
  ∃ (k f : Nat) (o : List (List UInt8)), m + k = s.size ∧ i = .int .i64 k ∧ from_ = .int .i64 f ∧ f ≤ k ∧ Own wr w.heap.size 9 1 eStr out o ∧ wordsL (s.data.toList.take k) = o ++ [(s.data.toList.take k).drop f] ∧ Below w.heap.size w wr ∧ o.length ≤ k

set_option maxRecDepth 100000 in
set_option maxHeartbeats 2000000 in
theorem words_any (s : ByteArray) (w : World) (hs : s.size ≤ 4096) :
    Calls Tryd.prog 27 #[.string s] w fun e w' => ∃ v, e = .returned v ∧ Wd w' v (wordsL s.data.toList) ∧ Below w.heap.size w w' := by
  obtain ⟨i0, hi0, hz0, hz1, hz2⟩ := info_parts' info9
  have hlen : s.data.toList.length = s.size := by simp
  have HL := Lib.hid hlen
  clear hlen
  go_enter Tryd.func27, Tryd.ntmps27
  go_wp2_with fail
  go_loopg [3, 4, 5] s.size (fun m out f i wr => WordR w s m out f i wr)
  case atStart => exact ⟨0, 0, [], by omega, rfl, rfl, Nat.le_refl _, Own.nil _ _, by simp [wordsL], Below.refl _ _, Nat.le_refl _⟩
  case round =>
    obtain ⟨k, f, o, hm, rfl, rfl, hfk, ho, hw, hb, hol⟩ := hrel
    obtain ⟨B, N, c, rfl⟩ := ho.form'
    have HO := Lib.hid ho
    have HW := Lib.hid hw
    have HB := Lib.hid hb
    have f0 : (0 : Int) ≤ (f : Int) := by omega
    have f1 : (f : Int) ≤ (k : Int) := by omega
    have k0 : (0 : Int) ≤ (k : Int) := by omega
    have hol2 : o.length ≤ 4096 := by omega
    clear ho hw hb
    by_cases hlt : k < s.size
    · have hts := take_snoc s k hlt
      have hk1 : (k : Int) < (s.size : Int) := by omega
      have hk2 : (k : Int) ≤ (s.size : Int) := by omega
      have b0 : (0 : Int) ≤ (s[k].toNat : Int) := by omega
      have b1 : (s[k].toNat : Int) ≤ 255 := by have := s[k].toNat_lt; omega
      by_cases h32 : s[k] = 32
      · have t1 : ((s[k].toNat : Int) == 32) = true := by rw [h32]; rfl
        have t1' : (s[k] == 32) = true := by rw [h32]; rfl
        have t1'' : (s[k].toNat == 32) = true := by rw [h32]; rfl
        have HN : Hid (wordsL (s.data.toList.take (k + 1)) = o ++ [(s.data.toList.take k).drop f] ++ [(s.data.toList.take (k + 1)).drop (k + 1)]) := Lib.hid (by
          rw [hts, words_snoc' _ _ _ _ HW.out, if_pos h32]
          congr 2
          rw [List.drop_of_length_le]
          simp
          omega)
        have HE := Lib.hid (ext_list s f k)
        clear hts h32
        go_wp2_with (at_builtin; refine wpList_append_sl _ rfl (.tmp 16) (.tmp 21) 51 rfl w.heap.size 9 i0 (.string ⟨#[]⟩) 1 16 Tryd.underlying51 hi0 hz0 hz1 hz2 rfl (by decide) eStr_len eStr_one (.slice B N c) _ rfl (HO.out.alloc _) _ [(s.data.toList.take k).drop f] rfl (sl_str wr _ _ HE.out) (by unfold maxLen; simp; omega) (by simp; omega) (by have := HB.out.size; simp; omega) ?_; intro v' w3 hown' hgrow hat)
        have hR : WordR w s (gk - 1) v' (.int .i64 ((k : Int) + 1)) (.int .i64 ((k : Int) + 1)) w3 :=
          ⟨k + 1, k + 1, _, by omega, by go_num, by go_num, Nat.le_refl _, hown', HN.out, (HB.out.alloc HB.out.size _).grown hgrow (by have := HB.out.size; simp; omega) (fun q hq => (HO.out.lt q hq).1), by simp; omega⟩
        have HR := Lib.hid hR
        obtain ⟨B', N', c', rfl⟩ := hown'.form'
        clear hR hown' hgrow hat
        go_wp2_with fail
        go_roundg (gk - 1)
        case measure => omega
        case rel => exact HR.out
      · have t1 : ((s[k].toNat : Int) == 32) = false := by
          have : s[k].toNat ≠ 32 := fun h => h32 (UInt8.toNat_inj.1 h)
          simp
          omega
        have t1' : (s[k] == 32) = false := by simpa using h32
        have t1'' : (s[k].toNat == 32) = false := by
          have : s[k].toNat ≠ 32 := fun h => h32 (UInt8.toNat_inj.1 h)
          simpa using this
        have HN : Hid (wordsL (s.data.toList.take (k + 1)) = o ++ [(s.data.toList.take (k + 1)).drop f]) := Lib.hid (by
          rw [hts, words_snoc' _ _ _ _ HW.out, if_neg h32, List.drop_append_of_le_length]
          simp
          omega)
        clear hts h32
        go_wp2_with fail
        go_roundg (gk - 1)
        case measure => omega
        case rel => exact ⟨k + 1, f, o, by omega, by go_num, rfl, by omega, HO.out, HN.out, HB.out, by omega⟩
    · obtain rfl : k = s.size := by omega
      have hw := HW.out
      rw [List.take_of_length_le (by rw [HL.out]; omega)] at hw
      have HWW := Lib.hid hw
      have HE : Hid (s.extract f s.size = ⟨(s.data.toList.drop f).toArray⟩) := Lib.hid (by rw [ext_list, List.take_of_length_le (by rw [HL.out]; omega)])
      clear hw HW
      go_wp2_with (at_builtin; refine wpList_append_sl _ rfl (.tmp 25) (.tmp 29) 51 rfl w.heap.size 9 i0 (.string ⟨#[]⟩) 1 16 Tryd.underlying51 hi0 hz0 hz1 hz2 rfl (by decide) eStr_len eStr_one (.slice B N c) _ rfl (HO.out.alloc _) _ [s.data.toList.drop f] rfl (sl_str wr _ _ HE.out) (by unfold maxLen; simp; omega) (by simp; omega) (by have := HB.out.size; simp; omega) ?_; intro v' w3 hown' hgrow hat)
      have hb3 : Below w.heap.size w w3 := (HB.out.alloc HB.out.size _).grown hgrow (by have := HB.out.size; simp; omega) (fun q hq => (HO.out.lt q hq).1)
      have HB3 := Lib.hid hb3
      have HS3 : Hid (Wd w3 v' (wordsL s.data.toList)) := Lib.hid (by rw [HWW.out]; exact hown'.sl eStr_len)
      obtain ⟨B', N', c', rfl⟩ := hown'.form'
      clear hb3 hown' hgrow hat
      go_wp2_with fail
      go_ret
      exact ⟨_, rfl, HS3.out, HB3.out⟩

/-- The number of a word, if there are as many. -/
def atW (ws : List (List UInt8)) (i : Nat) : Int := match ws[i]? with | some x => (num x).getD 0 | none => 0
set_option maxRecDepth 100000 in
theorem at_any (v : Value) (ws : List (List UInt8)) (i : Nat) (w : World) (hv : Wd w v ws) (hlen : ∀ x ∈ ws, x.length ≤ 4096) (hi : i ≤ 100) :
    Calls Tryd.prog 28 #[v, .int .i64 (i : Int)] w fun e w' => e = .returned (.int .i64 (atW ws i)) ∧ Below w.heap.size w w' := by
  obtain ⟨A, c, rfl, _⟩ := hv.form
  have HV := Lib.hid hv
  clear hv
  have i0 : (0 : Int) ≤ (i : Int) := by omega
  by_cases hlt : i < ws.length
  · obtain ⟨x, hx⟩ : ∃ x, ws[i]? = some x := ⟨ws[i], List.getElem?_eq_getElem hlt⟩
    obtain ⟨b, off, rfl, hb, q0⟩ := HV.out.at1 hx rfl
    have i1 : (i : Int) < (ws.length : Int) := by omega
    have t1 : decide (ws.length ≤ i) = false := by simp; omega
    have C := rnumber_any ⟨x.toArray⟩ w (by show x.toArray.size ≤ 4096; rw [List.size_toArray]; exact hlen x (List.mem_of_getElem? hx))
    have HV2 : atW ws i = (num x).getD 0 := by unfold atW; rw [hx]
    rw [HV2]
    unfold numV at C
    change Calls Tryd.prog 18 #[.string ⟨x.toArray⟩] w fun e w' => e = .returned (.tuple #[.int .i64 ((num x).getD 0), .bool (num x).isSome]) ∧ Below w.heap.size w w' at C
    generalize (num x).getD 0 = G at C ⊢
    generalize (num x).isSome = q at C
    have HC := Lib.hid C
    clear hx C hlen HV2
    go_enter Tryd.func28, Tryd.ntmps28
    go_wp2_with fail
    refine HC.out.mono ?_
    rintro e w1 ⟨rfl, hb1⟩
    have HB1 := Lib.hid hb1
    clear hb1 HC
    go_wp2_with fail
    go_ret
    exact ⟨rfl, HB1.out⟩
  · have hn : ws[i]? = none := List.getElem?_eq_none (by omega)
    have t1 : decide (ws.length ≤ i) = true := by simp; omega
    have HV2 : Hid (atW ws i = 0) := Lib.hid (by unfold atW; rw [hn])
    clear hn hlen hlt
    go_enter Tryd.func28, Tryd.ntmps28
    go_wp2_with fail
    go_ret
    exact ⟨by rw [HV2.out]; rfl, Below.refl _ _⟩
end Go.Proofs.YtkfkkihdlkhbnaaDoor.Str
