/- The reference's pool: what it is as a value, contracts of Bytes and Fits. -/
import Derived.Test.YthdjagmeggckcaaPoolE
import Derived.Test.YthdjagmeggckcaaRefC
namespace Go.Proofs.Ythdjagmeggckcaa.Pref
open Go.RowKit Pool

structure RP where
  rs : Ref.RS
  kept : List Pk
  room : Int

/-- The reference's pool as a value. -/
def Is (w : World) (v : Value) (x : RP) : Prop :=
  ∃ f t kk kp, v = .agg #[f, t, kk, kp, .int .i64 x.room] ∧ Ref.Is w (.agg #[f, t, kk]) x.rs ∧ Sl w 70 10 Pk.enc kp x.kept
theorem Is.kept_ {w w' : World} {v : Value} {x : RP} {F : Nat → Prop} (h : Is w v x) (hk : Kept F w w') (h3 : Off w 3 F) (h4 : Off w 4 F) (h70 : Off w 70 F) : Is w' v x := by
  obtain ⟨f, t, kk, kp, e, hr, hs⟩ := h
  exact ⟨f, t, kk, kp, e, hr.kept hk h3 h4, hs.kept hk h70⟩
theorem Is.ext {w w' : World} {v : Value} {x : RP} (h : Is w v x) (hk : Kept none_ w w') : Is w' v x := h.kept_ hk Off.none_ Off.none_ Off.none_

/-- The sizes of what is kept in the first k slots. -/
def sum (tk : List Bool) (kp : List Pk) : Nat → Int
  | 0 => 0
  | k + 1 => sum tk kp k + (if tk[k]? = some true then (match kp[k]? with | some x => x.size | none => 0) else 0)
def rbytes (x : RP) : Int := sum x.rs.taken x.kept x.kept.length

/-- What is kept is of a packet's size. -/
def Sized (x : RP) : Prop := ∀ (i : Nat) (y : Pk), x.rs.taken[i]? = some true → x.kept[i]? = some y → 1 ≤ y.size ∧ y.size ≤ 2048

theorem sum_bound {x : RP} (h : Sized x) : ∀ k, 0 ≤ sum x.rs.taken x.kept k ∧ sum x.rs.taken x.kept k ≤ 2048 * k
  | 0 => ⟨Int.le_refl _, by simp [sum]⟩
  | k + 1 => by
    obtain ⟨h1, h2⟩ := sum_bound h k
    unfold sum
    split
    · rename_i ht
      cases hk : x.kept[k]? with
      | none => simp; omega
      | some y =>
        obtain ⟨a, b⟩ := h k y ht hk
        simp; omega
    · omega

set_option maxRecDepth 100000 in
set_option maxHeartbeats 2000000 in
theorem bytes_any (v : Value) (x : RP) (w : World) (h : Is w v x) (hlen : x.kept.length = x.rs.taken.length) (hl : x.kept.length ≤ 4096) (hsz : Sized x) :
    Calls Try.prog 40 #[v] w fun e w' => e = .returned (.int .i64 (rbytes x)) ∧ Below w.heap.size w w' := by
  obtain ⟨f, t, kk, kp, rfl, ⟨f', t', kk', e, hf, ht, hk⟩, hs⟩ := h
  injection e with e
  simp at e
  obtain ⟨rfl, rfl, rfl⟩ := e
  obtain ⟨A2, c2, rfl, _⟩ := hk.form
  obtain ⟨A3, c3, rfl, _⟩ := hs.form
  have HB := Lib.hid (sum_bound hsz)
  have HZ := Lib.hid hsz
  have HLEN := Lib.hid hlen
  clear hsz hf ht hlen
  have hbk := Blk.new w 62 #[f, t, .slice A2 x.rs.taken.length c2, .slice A3 x.kept.length c3, .int .i64 x.room]
  go_enter Try.func40, Try.ntmps40
  go_wp2
  go_loopw [3, 4] (fun n i wr => ∃ k : Nat, k ≤ x.kept.length ∧ i = .int .i64 k ∧ n = .int .i64 (sum x.rs.taken x.kept k) ∧ wr = w.alloc (.cells #[f, t, .slice A2 x.rs.taken.length c2, .slice A3 x.kept.length c3, .int .i64 x.room] 62)) (fun _ i _ => x.kept.length - (intOf i).toNat)
  case atStart => exact ⟨0, by omega, rfl, rfl, rfl⟩
  case round =>
    obtain ⟨k, hkl, rfl, rfl, rfl⟩ := hrel
    by_cases hlt : k < x.kept.length
    · obtain ⟨y, hy⟩ : ∃ y, x.kept[k]? = some y := ⟨x.kept[k]'hlt, by simp⟩
      obtain ⟨b, hb⟩ : ∃ b, x.rs.taken[k]? = some b := ⟨x.rs.taken[k]'(by rw [← HLEN.out]; omega), by simp⟩
      obtain ⟨b2, off2, rfl, hb2, hcell2⟩ := hk.at1 hb rfl
      obtain ⟨b3, off3, rfl, hb3, _, hcell3⟩ := hs.atN hy
      have q1 := hcell3 1 _ rfl
      have hk0 : (0 : Int) ≤ (k : Int) := by omega
      have hk1 : (k : Int) < (x.kept.length : Int) := by omega
      have hk2 : (k : Int) < (x.rs.taken.length : Int) := by rw [← HLEN.out]; omega
      obtain ⟨s1, s2⟩ := HB.out k
      cases b with
      | false =>
        have hsm : sum x.rs.taken x.kept (k + 1) = sum x.rs.taken x.kept k := by rw [sum, hb]; simp
        have HS := Lib.hid hsm
        clear hsm hb hy
        go_wp2
        go_roundw
        case rel => exact ⟨k + 1, by omega, by go_num, by rw [HS.out], trivial⟩
        case measure => simp [intOf]; omega
      | true =>
        have hsm : sum x.rs.taken x.kept (k + 1) = sum x.rs.taken x.kept k + y.size := by rw [sum, hb, hy]; simp
        obtain ⟨y1, y2⟩ := HZ.out k y hb hy
        have HS := Lib.hid hsm
        clear hsm hb hy
        go_wp2
        go_roundw
        case rel => exact ⟨k + 1, by omega, by go_num, by rw [HS.out], trivial⟩
        case measure => simp [intOf]; omega
    · obtain rfl : k = x.kept.length := by omega
      go_wp2
      go_ret
      exact ⟨rfl, (Below.refl _ _).alloc (Nat.le_refl _) _⟩

def rfits (x : RP) (n : Int) : Int := if n < 1 ∨ 2048 < n then 1 else if x.rs.free = [] then 4 else if x.room < rbytes x + n then 5 else 0

set_option maxRecDepth 100000 in
set_option maxHeartbeats 2000000 in
theorem fits_any (v : Value) (x : RP) (n : Int) (w : World) (h : Is w v x) (hlen : x.kept.length = x.rs.taken.length) (hl : x.kept.length ≤ 4096) (hsz : Sized x) :
    Calls Try.prog 31 #[v, .int .i64 n] w fun e w' => e = .returned (.int .i64 (rfits x n)) ∧ Below w.heap.size w w' := by
  have H := Lib.hid h
  obtain ⟨f, t, kk, kp, rfl, ⟨f', t', kk', e, hf, ht, hk⟩, hs⟩ := h
  injection e with e
  simp at e
  obtain ⟨rfl, rfl, rfl⟩ := e
  obtain ⟨A0, c0, rfl, _⟩ := hf.form
  have HB := sum_bound hsz x.kept.length
  have C := Lib.hid (fun W (hk : Kept none_ w W) => bytes_any _ x W (H.out.ext hk) hlen hl hsz)
  have hbk := Blk.new w 62 #[.slice A0 x.rs.free.length c0, t, kk, kp, .int .i64 x.room]
  clear hf ht hk hs hlen hsz
  by_cases t1 : n < 1
  · have e : rfits x n = 1 := by unfold rfits; rw [if_pos (.inl t1)]
    have t1' : decide (n < 1) = true := by simpa using t1
    rw [e]
    clear e H C HB
    go_enter Try.func31, Try.ntmps31
    go_wp2
    go_ret
    exact ⟨rfl, (Below.refl _ _).alloc (Nat.le_refl _) _⟩
  have t1' : decide (n < 1) = false := by simpa using t1
  by_cases t2 : 2048 < n
  · have e : rfits x n = 1 := by unfold rfits; rw [if_pos (.inr t2)]
    have t2' : decide (2048 < n) = true := by simpa using t2
    rw [e]
    clear e H C HB
    go_enter Try.func31, Try.ntmps31
    go_wp2
    go_ret
    exact ⟨rfl, (Below.refl _ _).alloc (Nat.le_refl _) _⟩
  have t2' : decide (2048 < n) = false := by simpa using t2
  by_cases t3 : x.rs.free = []
  · have e : rfits x n = 4 := by unfold rfits; rw [if_neg (by omega), if_pos t3]
    have t3' : ((x.rs.free.length : Int) == 0) = true := by rw [t3]; rfl
    rw [e]
    clear e H C HB t3
    go_enter Try.func31, Try.ntmps31
    go_wp2
    go_ret
    exact ⟨rfl, (Below.refl _ _).alloc (Nat.le_refl _) _⟩
  have t3' : ((x.rs.free.length : Int) == 0) = false := by
    have : x.rs.free.length ≠ 0 := fun h => t3 (List.eq_nil_of_length_eq_zero h)
    simp; exact t3
  obtain ⟨q1, q2⟩ := HB
  have hs1 : rbytes x = sum x.rs.taken x.kept x.kept.length := rfl
  have hr : rfits x n = if x.room < rbytes x + n then 5 else 0 := by unfold rfits; rw [if_neg (by omega), if_neg t3]
  have s1 : 0 ≤ rbytes x := by rw [hs1]; exact q1
  have s2 : rbytes x ≤ 8388608 := by rw [hs1]; omega
  rw [hr]
  clear H t3 q1 q2 hs1 hr
  generalize rbytes x = B at *
  have hw : wrap64 (B + n) = B + n := by unfold wrap64; omega
  clear t1 t2
  by_cases t4 : x.room < B + n
  · have t4' : decide (x.room < B + n) = true := by simpa using t4
    rw [if_pos t4]
    clear t4
    go_enter Try.func31, Try.ntmps31
    go_wp2_with fail
    have K : ∀ z : Ext (w.alloc (.cells #[.slice A0 x.rs.free.length c0, t, kk, kp, .int .i64 x.room] 62)), Calls Try.prog 40 #[.agg #[.slice A0 x.rs.free.length c0, t, kk, kp, .int .i64 x.room]] z.w fun e w' => e = .returned (.int .i64 B) ∧ Below z.w.heap.size z.w w' := fun z => C.out z.w z.kept_al
    have HK := Lib.hid K
    have u0 := fun z : Ext (w.alloc (.cells #[.slice A0 x.rs.free.length c0, t, kk, kp, .int .i64 x.room] 62)) => (Ext.blk_al z).cell 0
    have u1 := fun z : Ext (w.alloc (.cells #[.slice A0 x.rs.free.length c0, t, kk, kp, .int .i64 x.room] 62)) => (Ext.blk_al z).cell 1
    have u2 := fun z : Ext (w.alloc (.cells #[.slice A0 x.rs.free.length c0, t, kk, kp, .int .i64 x.room] 62)) => (Ext.blk_al z).cell 2
    have u3 := fun z : Ext (w.alloc (.cells #[.slice A0 x.rs.free.length c0, t, kk, kp, .int .i64 x.room] 62)) => (Ext.blk_al z).cell 3
    have u4 := fun z : Ext (w.alloc (.cells #[.slice A0 x.rs.free.length c0, t, kk, kp, .int .i64 x.room] 62)) => (Ext.blk_al z).cell 4
    simp only [List.getElem?_toArray, List.getElem?_cons_zero, List.getElem?_cons_succ] at u0 u1 u2 u3 u4
    clear K C hbk
    refine wp_region_ext (by kernel_rfl) (by kernel_rfl) ?_
    repeat (go_big_quiet_step ((first | (go_at_call 40; exact ext_call (HK.out _)))))
    refine wpQuiet_nil ?_
    intro _ hw'
    obtain ⟨z, rfl⟩ := hw'
    clear u0 u1 u2 u3 u4 HK
    go_wp2_with fail
    go_ret
    exact ⟨rfl, z.kept_al.toBelow'⟩
  · have t4' : decide (x.room < B + n) = false := by simpa using t4
    rw [if_neg t4]
    clear t4
    go_enter Try.func31, Try.ntmps31
    go_wp2_with fail
    have K : ∀ z : Ext (w.alloc (.cells #[.slice A0 x.rs.free.length c0, t, kk, kp, .int .i64 x.room] 62)), Calls Try.prog 40 #[.agg #[.slice A0 x.rs.free.length c0, t, kk, kp, .int .i64 x.room]] z.w fun e w' => e = .returned (.int .i64 B) ∧ Below z.w.heap.size z.w w' := fun z => C.out z.w z.kept_al
    have HK := Lib.hid K
    have u0 := fun z : Ext (w.alloc (.cells #[.slice A0 x.rs.free.length c0, t, kk, kp, .int .i64 x.room] 62)) => (Ext.blk_al z).cell 0
    have u1 := fun z : Ext (w.alloc (.cells #[.slice A0 x.rs.free.length c0, t, kk, kp, .int .i64 x.room] 62)) => (Ext.blk_al z).cell 1
    have u2 := fun z : Ext (w.alloc (.cells #[.slice A0 x.rs.free.length c0, t, kk, kp, .int .i64 x.room] 62)) => (Ext.blk_al z).cell 2
    have u3 := fun z : Ext (w.alloc (.cells #[.slice A0 x.rs.free.length c0, t, kk, kp, .int .i64 x.room] 62)) => (Ext.blk_al z).cell 3
    have u4 := fun z : Ext (w.alloc (.cells #[.slice A0 x.rs.free.length c0, t, kk, kp, .int .i64 x.room] 62)) => (Ext.blk_al z).cell 4
    simp only [List.getElem?_toArray, List.getElem?_cons_zero, List.getElem?_cons_succ] at u0 u1 u2 u3 u4
    clear K C hbk
    refine wp_region_ext (by kernel_rfl) (by kernel_rfl) ?_
    repeat (go_big_quiet_step ((first | (go_at_call 40; exact ext_call (HK.out _)))))
    refine wpQuiet_nil ?_
    intro _ hw'
    obtain ⟨z, rfl⟩ := hw'
    clear u0 u1 u2 u3 u4 HK
    go_wp2_with fail
    go_ret
    exact ⟨rfl, z.kept_al.toBelow'⟩
end Go.Proofs.Ythdjagmeggckcaa.Pref
