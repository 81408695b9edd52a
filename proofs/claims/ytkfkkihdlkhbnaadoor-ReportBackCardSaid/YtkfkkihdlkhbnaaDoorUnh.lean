/- The reference's value and Unhex. -/
import Derived.Test.YtkfkkihdlkhbnaaDoorNum
import Derived.Deep.RegionLaw
import Derived.Deep.RegionHeld3
namespace Go.Proofs.YtkfkkihdlkhbnaaDoor.Str
open Go.RowKit

def hval (n : Nat) : Nat := if 97 ≤ n ∧ n ≤ 102 then n - 87 else n % 16
theorem hval_le (n : Nat) : hval n ≤ 15 := by unfold hval; split <;> omega
def valI (z : Int) : Int := if 97 ≤ z ∧ z ≤ 102 then z - 87 else z % 16
theorem valI_nat (n : Nat) : valI (n : Int) = (hval n : Int) := by unfold valI hval; split <;> split <;> omega
set_option maxHeartbeats 1000000 in
theorem value_any (z : Int) (h0 : 0 ≤ z) (h1 : z ≤ 255) (w : World) : Calls Tryd.prog 30 #[.int .u8 z] w fun e w' => e = .returned (.int .u8 (valI z)) ∧ w = w' := by
  by_cases ha : 97 ≤ z
  · by_cases hb : z ≤ 102
    · have hv : valI z = z - 97 + 10 := by unfold valI; rw [if_pos ⟨ha, hb⟩]; omega
      rw [hv]
      clear hv
      go_enter Tryd.func30, Tryd.ntmps30
      go_wp2_with fail
      go_ret
      exact ⟨rfl, rfl⟩
    · have hv : valI z = z % 16 := by unfold valI; rw [if_neg (by omega)]
      have hb' : 102 < z := by omega
      rw [hv]
      clear hv hb
      go_enter Tryd.func30, Tryd.ntmps30
      go_wp2_with fail
      go_ret
      exact ⟨rfl, rfl⟩
  · have hv : valI z = z % 16 := by unfold valI; rw [if_neg (by omega)]
    have ha' : z < 97 := by omega
    rw [hv]
    clear hv ha
    go_enter Tryd.func30, Tryd.ntmps30
    go_wp2_with fail
    go_ret
    exact ⟨rfl, rfl⟩

/-- The bytes that pairs of digits may mean. -/
def pair (a b : UInt8) : UInt8 := UInt8.ofNat (16 * hval a.toNat + hval b.toNat)
def rp : List UInt8 → List UInt8
  | a :: b :: r => pair a b :: rp r
  | _ => []
theorem rp_len : ∀ (l : List UInt8), 2 * (rp l).length ≤ l.length
  | [] => by simp [rp]
  | [_] => by simp [rp]
  | a :: b :: r => by
    have := rp_len r
    simp only [rp, List.length_cons]
    omega
theorem rp_take : ∀ (j : Nat) (l : List UInt8) (a b : UInt8), l[2 * j]? = some a → l[2 * j + 1]? = some b → rp (l.take (2 * (j + 1))) = rp (l.take (2 * j)) ++ [pair a b]
  | 0, l, a, b, h1, h2 => by
    match l, h1, h2 with
    | x :: y :: r, h1, h2 =>
      simp at h1 h2
      subst h1 h2
      simp [rp]
  | j + 1, l, a, b, h1, h2 => by
    match l, h1, h2 with
    | x :: y :: r, h1, h2 =>
      have e1 : r[2 * j]? = some a := by simpa [Nat.mul_add] using h1
      have e2 : r[2 * j + 1]? = some b := by simpa [Nat.mul_add] using h2
      have ih := rp_take j r a b e1 e2
      rw [show 2 * (j + 1 + 1) = 2 * (j + 1) + 1 + 1 by omega, show 2 * (j + 1) = 2 * j + 1 + 1 by omega] at *
      simp only [List.take_succ_cons, rp, List.cons_append]
      rw [ih]
theorem rp_odd : ∀ (j : Nat) (l : List UInt8), l.length ≤ 2 * j + 1 → rp (l.take (2 * j)) = rp l
  | 0, l, h => by
    match l, h with
    | [], _ => rfl
    | [_], _ => rfl
  | j + 1, l, h => by
    match l, h with
    | [], _ => simp [rp]
    | [_], _ => rw [show 2 * (j + 1) = 2 * j + 1 + 1 by omega]; simp [rp]
    | x :: y :: r, h =>
      rw [show 2 * (j + 1) = 2 * j + 1 + 1 by omega]
      simp only [List.take_succ_cons, rp]
      rw [rp_odd j r (by simp at h; omega)]

def eByte (b : UInt8) : List Value := [.int .u8 (b.toNat : Int)]
theorem eByte_len (b : UInt8) : (eByte b).length = 1 := rfl
theorem eByte_one (b : UInt8) : ∀ u ∈ eByte b, u.oneCell' = true := by simp [eByte, Value.oneCell']
theorem info5 : (Tryd.prog.info? 5).map (fun i => (i.zero, i.size, i.bytes)) = some (some (.int .u8 0), 1, 1) := by kernel_rfl
theorem sl_byte (w : World) (b : UInt8) (z : Int) (g : Nat) (hg : w.heap.size = g) (hz : (b.toNat : Int) = z) : Sl (w.alloc (.cells #[.int .u8 z] 5)) 5 1 eByte (.slice (some ⟨g, 0, none⟩) 1 1) [b] := by
  subst hg hz
  refine ⟨_, 1, rfl, Nat.le_refl _, by decide, fun _ => ⟨w.heap.size, 0, _, (0, 0), rfl, heap_alloc_new w _, fun k x hx j u hu => ?_⟩⟩
  match k, hx with
  | 0, hx =>
    injection hx with hx
    subst hx
    match j, hu with
    | 0, hu => rw [(Blk.new w 5 _).cell]; exact hu
theorem pair_nat (a b : UInt8) : ((pair a b).toNat : Int) = 16 * valI a.toNat + valI b.toNat := by
  have h1 := hval_le a.toNat
  have h2 := hval_le b.toNat
  rw [valI_nat, valI_nat]
  unfold pair
  rw [UInt8.toNat_ofNat']
  omega
theorem valI_bd {z : Int} (h0 : 0 ≤ z) : 0 ≤ valI z ∧ valI z ≤ 15 := by
  obtain ⟨n, rfl⟩ := Int.eq_ofNat_of_zero_le h0
  rw [valI_nat]
  have := hval_le n
  omega

theorem rhex_list (l : List UInt8) (h : l.length ≤ 4096) (w : World) : Calls Tryd.prog 12 #[.string ⟨l.toArray⟩] w fun e w' => e = .returned (.string ⟨(hex l).toArray⟩) ∧ Below w.heap.size w w' := by
  have := rhex_any ⟨l.toArray⟩ (by show l.toArray.size ≤ 4096; rw [List.size_toArray]; exact h) w
  rwa [show (⟨l.toArray⟩ : ByteArray).data.toList = l from rfl] at this
def unhx (l : List UInt8) : Option (List UInt8) := if hex (rp l) = l then some (rp l) else none
def unhV (o : Option (List UInt8)) : Value := .tuple #[.string ⟨(o.getD []).toArray⟩, .bool o.isSome]
set_option maxRecDepth 100000 in
theorem conv_own {w : World} {base : Nat} {v : Value} {l : List UInt8} (h : Own w base 5 1 eByte v l) : (convert 42 9 v).run Tryd.prog w = .ok (.string ⟨l.toArray⟩) w := by
  have hsl := h.sl eByte_len
  obtain ⟨A, c, rfl, _, _, h3⟩ := hsl
  by_cases hl : l = []
  · subst hl
    rcases h.2 with ⟨hv, _⟩ | ⟨g, cap, cur, hv, _⟩
    · injection hv with e1 e2 e3
      subst e1
      exact run_convert_bytes_nil w 42 5 Tryd.underlying42 Tryd.underlying5 _ _ 9 Tryd.underlying9
    · injection hv with e1 e2 e3
      subst e1
      exact run_convert_bytes_back (P := Tryd.prog) w 42 9 5 _ _ [] Tryd.underlying42 Tryd.underlying5 Tryd.underlying9 (fun j hj => by simp at hj)
  · obtain ⟨b, off, cs, fr, rfl, hb, hc⟩ := h3 hl
    refine run_convert_bytes_back (P := Tryd.prog) w 42 9 5 _ _ l Tryd.underlying42 Tryd.underlying5 Tryd.underlying9 (fun j hj => ?_)
    have := hc j l[j] (List.getElem?_eq_getElem hj) 0 _ rfl
    rw [← this]
    congr 1
    by_cases h0 : j = 0 <;> simp [Addr.add, h0]
set_option maxRecDepth 100000 in
set_option maxHeartbeats 2000000 in
theorem runhex_any (s : ByteArray) (hs : s.size ≤ 4096) (w : World) : Calls Tryd.prog 16 #[.string s] w fun e w' => e = .returned (unhV (unhx s.data.toList)) ∧ Below w.heap.size w w' := by
  obtain ⟨i0, hi0, hz0, hz1, hz2⟩ := info_parts' info5
  have hlen : s.data.toList.length = s.size := by simp
  have HL := Lib.hid hlen
  clear hlen
  go_enter Tryd.func16, Tryd.ntmps16
  go_wp2_with fail
  go_loopg [4, 5] s.size (fun m b i wr => ∃ j : Nat, m + 2 * j = s.size ∧ i = .int .i64 (2 * j) ∧ Own wr w.heap.size 5 1 eByte b (rp (s.data.toList.take (2 * j))) ∧ Below w.heap.size w wr)
  case atStart => exact ⟨0, by omega, rfl, Own.nil _ _, Below.refl _ _⟩
  case round =>
    obtain ⟨j, hm, rfl, ho, hb⟩ := hrel
    obtain ⟨B, N, c, rfl⟩ := ho.form'
    have HO := Lib.hid ho
    have HB := Lib.hid hb
    clear ho hb
    by_cases hlt : 2 * j + 1 < s.size
    · have k0 : (0 : Int) ≤ 2 * (j : Int) := by omega
      have k1 : 2 * (j : Int) + 1 < (s.size : Int) := by omega
      have k2 : 2 * (j : Int) < (s.size : Int) := by omega
      have e1 : s.data.toList[2 * j]? = some (s[2 * j]'(by omega)) := by rw [List.getElem?_eq_getElem (by rw [HL.out]; omega)]; rfl
      have e2 : s.data.toList[2 * j + 1]? = some (s[2 * j + 1]'hlt) := by rw [List.getElem?_eq_getElem (by rw [HL.out]; omega)]; rfl
      have HP := Lib.hid (rp_take j _ _ _ e1 e2)
      clear e1 e2
      have hl2 : (rp (s.data.toList.take (2 * j))).length ≤ 4096 := by have := rp_len (s.data.toList.take (2 * j)); rw [List.length_take] at this; omega
      have HL2 := Lib.hid hl2
      have HPN := Lib.hid (pair_nat (s[2 * j]'(by omega)) (s[2 * j + 1]'hlt))
      have a0 : (0 : Int) ≤ ((s[2 * j]'(by omega)).toNat : Int) := by omega
      have a1 : ((s[2 * j]'(by omega)).toNat : Int) ≤ 255 := by have := (s[2 * j]'(by omega)).toNat_lt; omega
      have b0 : (0 : Int) ≤ ((s[2 * j + 1]'hlt).toNat : Int) := by omega
      have b1 : ((s[2 * j + 1]'hlt).toNat : Int) ≤ 255 := by have := (s[2 * j + 1]'hlt).toNat_lt; omega
      obtain ⟨v0, v1⟩ := valI_bd a0
      obtain ⟨v2, v3⟩ := valI_bd b0
      go_wp2_with fail
      have w0 : IntKind.i64.wrap (2 * (j : Int) + 1) = 2 * (j : Int) + 1 := IntWalk.i64_in _ (by omega)
      have w1 : IntKind.u8.wrap (16 * valI ((s[2 * j]'(by omega)).toNat : Int)) = 16 * valI ((s[2 * j]'(by omega)).toNat : Int) := IntWalk.u8_in _ (by omega)
      have w2 : IntKind.u8.wrap (16 * valI ((s[2 * j]'(by omega)).toNat : Int) + valI ((s[2 * j + 1]'hlt).toNat : Int)) = 16 * valI ((s[2 * j]'(by omega)).toNat : Int) + valI ((s[2 * j + 1]'hlt).toNat : Int) := IntWalk.u8_in _ (by omega)
      have k3 : 0 ≤ 2 * (j : Int) + 1 := by omega
      have k4 : (2 * (j : Int) + 1).toNat = 2 * j + 1 := by omega
      have k5 : (2 * (j : Int)).toNat = 2 * j := by omega
      have hsz := HB.out.size
      go_region_held3 (fun _ => True) (trivial) ((first
        | (go_at_call 30; refine (value_any _ (by assumption) (by assumption) _).mono ?_; rintro e w1 ⟨rfl, rfl⟩)
        | (show (if Region.wanted ⟨some 27, _, _, _, _, _⟩ _ = true then _ else _); refine step_append_sl _ (by rfl) (.tmp 14) (.tmp 26) 42 (by rfl) w.heap.size 5 i0 (.int .u8 0) 1 1 Tryd.underlying42 hi0 hz0 hz1 hz2 rfl (by decide) eByte_len eByte_one (.slice B N c) _ (by rfl) (HO.out.alloc _).drew _ [pair (s[2 * j]'(by omega)) (s[2 * j + 1]'hlt)] (by rfl) (sl_byte wr _ _ _ rfl HPN.out).drew (by have := HL2.out; unfold maxLen; simp; omega) (by have := HL2.out; simp; omega) (by simp; omega) ?_; intro v' w3 hown' hgrow hat)))
      all_goals
        have hb3 : Below w.heap.size w w3 := ((HB.out.alloc hsz _).drew).grown hgrow (by simp; omega) (fun q hq => (HO.out.lt q hq).1)
        have HB3 := Lib.hid hb3
        have HO3 := Lib.hid hown'
        obtain ⟨B', N', c', rfl⟩ := hown'.form'
        clear hb3 hown' hgrow hat
        go_wp2_with fail
        go_roundg (gk - 2)
        case measure => omega
        case rel => exact ⟨j + 1, by omega, by go_num, by rw [HP.out]; exact HO3.out, HB3.out⟩
    · have hrp := rp_odd j s.data.toList (by rw [HL.out]; omega)
      have ho := HO.out
      rw [hrp] at ho
      have kc := conv_own ho
      have hr := rp_len s.data.toList
      have HC := Lib.hid (fun W => rhex_list (rp s.data.toList) (by rw [HL.out] at hr; omega) W)
      have t0 : decide (2 * (j : Int) + 1 < (s.size : Int)) = false := by simp; omega
      have t0' : ¬ 2 * (j : Int) + 1 < (s.size : Int) := by omega
      have j0 : 0 ≤ (j : Int) := by omega
      by_cases he : hex (rp s.data.toList) = s.data.toList
      case' pos =>
        have tE := eq_list he
        have hV : unhx s.data.toList = some (rp s.data.toList) := by unfold unhx; rw [if_pos he]
      case' neg =>
        have tE := ne_list he
        have hV : unhx s.data.toList = none := by unfold unhx; rw [if_neg he]
      all_goals
        have HV := Lib.hid hV
        clear he hV hr hrp ho HO
        generalize rp s.data.toList = t at *
        go_wp2_with fail
        refine (HC.out _).mono ?_
        rintro e w1 ⟨rfl, hb⟩
        have HB1 := Lib.hid (HB.out.trans (hb.mono HB.out.size))
        clear hb HC
        go_wp2_with fail
        go_ret2
        exact ⟨by rw [HV.out]; rfl, HB1.out⟩
end Go.Proofs.YtkfkkihdlkhbnaaDoor.Str
