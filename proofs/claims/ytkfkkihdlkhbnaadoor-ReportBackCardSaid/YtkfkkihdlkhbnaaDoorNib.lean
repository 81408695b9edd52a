/- report.nibble. -/
import Derived.Test.YtkfkkihdlkhbnaaDoorUnh
import Derived.Lib.OthersKept
namespace Go.Proofs.YtkfkkihdlkhbnaaDoor.Str
open Go.RowKit

def nibN (r : Int) : Int := if 48 ≤ r ∧ r ≤ 57 then r - 48 else if 97 ≤ r ∧ r ≤ 102 then r - 87 else -1
theorem hexDig_nat : ∀ k : Fin 16, (hexDig k.val).toNat = if k.val < 10 then 48 + k.val else 87 + k.val := by decide
theorem hexDig_toNat {k : Nat} (h : k < 16) : (hexDig k).toNat = if k < 10 then 48 + k else 87 + k := hexDig_nat ⟨k, h⟩
theorem nib_hit {k : Nat} (h : k < 16) {r : Int} (hr : ((hexDig k).toNat : Int) = r) : nibN r = (k : Int) := by
  rw [hexDig_toNat h] at hr
  unfold nibN
  split at hr
  · rw [if_pos (by omega)]; omega
  · rw [if_neg (by omega), if_pos (by omega)]; omega
theorem nib_miss {r : Int} (h : ∀ k, k < 16 → ((hexDig k).toNat : Int) ≠ r) : nibN r = -1 := by
  unfold nibN
  split
  · rename_i h1
    have := h (r - 48).toNat (by omega)
    rw [hexDig_toNat (by omega), if_pos (by omega)] at this
    omega
  · split
    · rename_i h1
      have := h (r - 87).toNat (by omega)
      rw [hexDig_toNat (by omega), if_neg (by omega)] at this
      omega
    · rfl
def digs : ByteArray := ⟨#[48, 49, 50, 51, 52, 53, 54, 55, 56, 57, 97, 98, 99, 100, 101, 102]⟩
theorem digs_at (k : Nat) (h : k < digs.size) : (digs[k]'h) = hexDig k := tab_at k h h

theorem iter_heap (w : World) (s : ByteArray) (n : Nat) : (w.iter s n).heap[w.heap.size]? = some (.stringIter s n) := World.iter_heap w s n
theorem iter_below (w : World) (s : ByteArray) (n : Nat) : Below w.heap.size w (w.iter s n) := (Below.refl _ _).alloc (Nat.le_refl _) (.stringIter s n)
def NibR (w : World) (r : Int) (m : Nat) (wr : World) : Prop :=
  ∃ k : Nat, m + k = 16 ∧ wr.heap[w.heap.size]? = some (.stringIter digs k) ∧ (∀ j, j < k → ((hexDig j).toNat : Int) ≠ r) ∧ Below w.heap.size w wr

set_option maxRecDepth 100000 in
set_option maxHeartbeats 1000000 in
theorem nibble_any (r : Int) (w : World) : Calls Tryd.prog 29 #[.int .i32 r] w fun e w' => e = .returned (.int .i64 (nibN r)) ∧ Below w.heap.size w w' := by
  have hd : (⟨#[48, 49, 50, 51, 52, 53, 54, 55, 56, 57, 97, 98, 99, 100, 101, 102]⟩ : ByteArray) = digs := rfl
  go_enter Tryd.func29, Tryd.ntmps29
  go_wp2_with fail
  go_loopg [] 16 (fun m wr => NibR w r m wr)
  case atStart => exact ⟨0, rfl, iter_heap w digs 0, fun j h => by omega, iter_below w digs 0⟩
  case round =>
    obtain ⟨k, hm, hit, hne, hb⟩ := hrel
    have HB := Lib.hid hb
    have HN := Lib.hid hne
    have hsz : digs.size = 16 := rfl
    by_cases hk : k < 16
    · have hk' : k < digs.size := hk
      have hc := digs_at k hk'
      have ha : (digs[k]'hk').toNat < 128 := by rw [hc, hexDig_toNat hk]; split <;> omega
      have hnx : ∀ ty, (Instr.next (.pointer (some ⟨w.heap.size, 0, none⟩)) true ty).run Tryd.prog wr = .ok (.tuple #[.bool true, .int .i64 (k : Int), .int .i32 ((hexDig k).toNat : Int)]) (wr.iterAt w.heap.size digs (k + 1)) := fun ty => by
        rw [Lib.run_next_ascii_at wr w.heap.size digs k ty hit hk' ha, hc]
      have hit2 := Lib.iterAt_heap wr w.heap.size digs k (k + 1) hit
      have HI2 := Lib.hid hit2
      have hb2 := Lib.below_iterAt hb (Nat.le_refl _) digs (k + 1)
      have HB2 := Lib.hid hb2
      by_cases hr : ((hexDig k).toNat : Int) = r
      · have t1 : (((hexDig k).toNat : Int) == r) = true := by simpa using hr
        have HV := Lib.hid (nib_hit hk hr)
        clear hit hne hb hc ha hit2 hb2 hr hd hsz
        go_wp2_with fail
        go_ret
        exact ⟨by rw [HV.out]; rfl, HB2.out⟩
      · have t1 : (((hexDig k).toNat : Int) == r) = false := by simpa using hr
        have HR := Lib.hid hr
        clear hit hne hb hc ha hit2 hb2 hr hd hsz
        go_wp2_with fail
        go_roundg (gk - 1)
        case measure => omega
        case rel => exact ⟨k + 1, by omega, HI2.out, fun j hj => by
          by_cases e : j = k
          · subst e; exact HR.out
          · exact HN.out j (by omega), HB2.out⟩
    · have hnx : ∀ ty, (Instr.next (.pointer (some ⟨w.heap.size, 0, none⟩)) true ty).run Tryd.prog wr = .ok (.tuple #[.bool false]) wr := fun ty => Lib.run_next_end_at wr w.heap.size digs k ty hit (by rw [hsz]; exact hk)
      have HV := Lib.hid (nib_miss (fun j hj => HN.out j (by omega)))
      clear hit hne hb hd hsz
      go_wp2_with fail
      go_ret
      exact ⟨by rw [HV.out]; rfl, HB.out⟩
end Go.Proofs.YtkfkkihdlkhbnaaDoor.Str
