/- The lists: the function that All gives, as an iterator of a range over a function. -/
import Derived.Test.YtjblhgljajjdgaaChainE
import Derived.RangeFuncNested
import Derived.RangeFuncBound
import Derived.RangeFuncCalls
import Derived.RangeFuncLeaves
import Derived.RangeFuncWrites
import Derived.Shelf.Abstract
import Derived.Shelf.RegionOpen
import Derived.OwnWalkIn
import Derived.TacticsInMore
import Derived.LoopNIn
import Derived.LoopIn
namespace Go.Proofs.Ytjblhgljajjdgaa.Chain
open Go.RowKit Go.Shelf
attribute [local go_sem] Oper.semAt_some

/-- What the iterator reads: all but the row 'where'. -/
structure Rn (W : World) (c g1 g3 b1 b2 : Nat) (nx : List Int) (ls : List Ends) (i : Int) : Prop where
  s : ∃ c1 c3 u, Blk W c 53 #[.slice (some ⟨g1, 0, none⟩) nx.length c1, u, .slice (some ⟨g3, 0, none⟩) ls.length c3]
  nx : RowsIn W g1 3 1 eInt nx
  ls : RowsIn W g3 55 3 Ends.enc ls
  p : Blk W b1 23 #[.pointer (some ⟨c, 0, none⟩)]
  i : Blk W b2 3 #[.int .i64 i]

theorem Rn.kept {W W' : World} {c g1 g3 b1 b2 : Nat} {nx : List Int} {ls : List Ends} {i : Int} {F : Nat → Prop} (h : Rn W c g1 g3 b1 b2 nx ls i) (hk : Kept F W W') (h0 : ¬ F c) (h1 : ¬ F g1) (h3 : ¬ F g3) (h4 : ¬ F b1) (h5 : ¬ F b2) : Rn W' c g1 g3 b1 b2 nx ls i := by
  obtain ⟨c1, c3, u, hb⟩ := h.s
  exact ⟨⟨c1, c3, u, hb.kept hk h0⟩, h.nx.kept hk h1, h.ls.kept hk h3, h.p.kept hk h4, h.i.kept hk h5⟩
/-- What a round leaves: all but g2 and what lies from n₀ on. -/
def Kp (g2 n₀ : Nat) (W W' : World) : Prop := Kept (fun j => j = g2 ∨ n₀ ≤ j) W W'

theorem is_cell (c g3 m c3 i : Nat) (w : World) (p2 : w.cell? ⟨c, 2, none⟩ = some (.slice (some ⟨g3, 0, none⟩) m c3)) (lt : c < w.heap.size) (hi : i < m) :
    Calls Try.prog 25 #[.pointer (some ⟨c, 0, none⟩), .int .i64 (i : Int)] w fun e w' => e = .returned (.bool true) ∧ w = w' := by
  have t1 : decide (0 ≤ (i : Int)) = true := by simp
  have t2 : decide ((i : Int) < (m : Int)) = true := by simp; omega
  go_enter Try.func25, Try.ntmps25
  go_wp2
  go_ret
  exact ⟨rfl, rfl⟩

set_option maxRecDepth 100000 in
set_option maxHeartbeats 1000000 in
theorem all1_stops {α : Type} (val : α → Nat) (n : Nat) (c g1 g2 g3 b1 b2 n₀ : Nat) (nx : List Int) (ls : List Ends) (i : Nat) (e : Ends) (l : List α) (w : World) (h : Rn w c g1 g3 b1 b2 nx ls i) (hi : ls[i]? = some e) (hl : Links nx e.first (l.map (fun a => (val a : Int))))
    (hn : c < n₀ ∧ g1 < n₀ ∧ g3 < n₀ ∧ b1 < n₀ ∧ b2 < n₀) (hg : g2 ≠ c ∧ g2 ≠ g1 ∧ g2 ≠ g3 ∧ g2 ≠ b1 ∧ g2 ≠ b2) (hnn : 2 ≤ n) :
    SeqStopsK Fence.wide n Try.prog 27 #[.pointer (some ⟨b1, 0, none⟩), .pointer (some ⟨b2, 0, none⟩)] (fun k : α => #[.int .i64 (val k : Int)]) (Kp g2 n₀) (fun xs => xs = l) (fun pre => pre <+: l) l.length w := by
  intro y J Jx W hW hJ hJx hY h0
  have R : Rn W c g1 g3 b1 b2 nx ls i := h.kept (F := none_) (Kept.below hW rfl) (fun h => h) (fun h => h) (fun h => h) (fun h => h) (fun h => h)
  have HR := Lib.hid R
  have q1 := R.p.cell 0
  have q2 := R.i.cell 0
  simp at q1 q2
  obtain ⟨c1, c3, u2, hs⟩ := R.s
  have p0 := hs.cell 0
  have p2 := hs.cell 2
  simp at p0 p2
  have lt0 := hs.lt
  have hil := (List.getElem?_eq_some_iff.1 hi).1
  have i0 : (0 : Int) ≤ (i : Int) := by omega
  have i1 : (i : Int) < (ls.length : Int) := by omega
  have e0 := R.ls.cell hi 0 rfl
  rw [Nat.add_zero] at e0
  have HL := Lib.hid hl
  have HY := Lib.hid hY
  have HJ := Lib.hid hJ
  have H0 := Lib.hid h0
  clear hi hl hY hJ h0 R hs h hJx hW
  refine callsIn_of_wp Try.func27 rfl trivial ?_ rfl
  simp only [Try.ntmps27, List.size_toArray, List.length_cons, List.length_nil, Nat.reduceAdd, Nat.reduceSub, Array.replicate_succ, Array.replicate_zero, List.push_toArray, List.append_toArray, List.nil_append, List.cons_append]
  gi_wp2
  refine ⟨trivial, fun _ => by omega, (callsIn_wide.2 (is_cell c g3 ls.length c3 i W p2 lt0 hil)).mono ?_⟩
  rintro e' w1 ⟨rfl, rfl⟩
  gi_wp2
  refine wpIn_wide.2 ?_
  go_quiet (fail)
  gi_wp2
  refine wpIn_wide.2 ?_
  go_loopg [4] l.length (fun m nd wr => ∃ (pre rest : List α) (nv : Int), l = pre ++ rest ∧ m = rest.length ∧ nd = .int .i64 nv ∧ Links nx nv (rest.map (fun a => (val a : Int))) ∧ J pre wr ∧ Rn wr c g1 g3 b1 b2 nx ls i)
  case atStart => exact ⟨[], l, _, rfl, rfl, rfl, HL.out, HJ.out _ _ _ none H0.out ⟨rfl, rfl, rfl, Nat.le_refl _, fun _ _ _ => rfl⟩ (fun r e => by cases e), HR.out.kept (F := none_) ((Kept.refl _ _).drewN _) (fun h => h) (fun h => h) (fun h => h) (fun h => h) (fun h => h)⟩
  case round =>
    clear HL H0 HR q1 q2 p0 p2 lt0 i0 i1 e0
    obtain ⟨pre, rest, nv, hpr, hm, rfl, hlk, hj, hr⟩ := hrel
    have HJ' := Lib.hid hj
    have HPR := Lib.hid hpr
    have HM := Lib.hid hm
    have HR := Lib.hid hr
    clear hj hpr hm hr
    cases rest with
    | nil =>
      obtain rfl : nv = -1 := hlk
      refine (wpIn_wide (n := n)).1 ?_
      gi_wp2
      go_end0
      exact ⟨⟨_, rfl⟩, .inl ⟨pre, by rw [HPR.out, List.append_nil], HJ'.out⟩⟩
    | cons a rest =>
      obtain ⟨k, m, rfl, hak, hk, hlk⟩ := hlk
      have hak1 : (val a : Int) = (k : Int) := hak
      obtain rfl : val a = k := by omega
      clear hak hak1
      have t1 : ((val a : Int) != -1) = true := by rw [bne_iff_ne]; omega
      obtain ⟨fn, tmps, assign, body, hy, hRR⟩ := HY.out pre a wr HJ'.out (by rw [HPR.out]; simp)
      have HRR := Lib.hid hRR
      have HK := Lib.hid hk
      have HLK := Lib.hid hlk
      have hkl := (List.getElem?_eq_some_iff.1 hk).1
      have k0 : (0 : Int) ≤ (val a : Int) := by omega
      have k1 : (val a : Int) < (nx.length : Int) := by omega
      clear hk hlk hkl hRR
      refine (wpIn_wide (n := n)).1 ?_
      gi_wp2
      refine ⟨fun _ => by omega, HRR.out.mono ?_⟩
      rintro e' w2 (⟨rfl, hj2, hkp⟩ | ⟨rfl, hx2⟩)
      · have hr2 := HR.out.kept hkp (by omega) (by omega) (by omega) (by omega) (by omega)
        have q1 := hr2.p.cell 0
        simp at q1
        obtain ⟨c1, c3, u2, hs⟩ := hr2.s
        have p0 := hs.cell 0
        simp at p0
        have lt0 := hs.lt
        have nx_ := hr2.nx.cell HK.out 0 rfl
        have lt1 := hr2.nx.lt
        simp at nx_
        have HJ2 := Lib.hid hj2
        have HR2 := Lib.hid hr2
        clear hj2 hr2 hkp hs
        gi_wp2
        go_roundg rest.length
        case measure => rw [HM.out]; simp
        case rel => exact ⟨pre ++ [a], rest, m, by rw [HPR.out]; simp, rfl, rfl, HLK.out, HJ2.out, HR2.out⟩
      · have HX2 := Lib.hid hx2
        clear hx2
        gi_wp2
        refine bodyPost_ret (results_none rfl _ _ _) rfl ?_
        exact ⟨⟨_, rfl⟩, .inr ⟨pre ++ [a], ⟨rest, by rw [HPR.out]; simp⟩, HX2.out⟩⟩
end Go.Proofs.Ytjblhgljajjdgaa.Chain
