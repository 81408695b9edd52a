/- The pool: what its memory is, and contracts of Fits, Put, Get. -/
import Derived.Test.YthdjagmeggckcaaSlabC
import Derived.Test.YthdjagmeggckcaaMapp
import Derived.Test.YthdjagmeggckcaaExt
namespace Go.Proofs.Ythdjagmeggckcaa.Pool
open Go.RowKit

structure Pk where
  seq : Int
  size : Int
  ver : Int
  shi : Int
  slo : Int
  dhi : Int
  dlo : Int
  proto : Int
  sport : Int
  dport : Int
deriving DecidableEq
def Pk.enc (x : Pk) : List Value := [.int .i64 x.seq, .int .i64 x.size, .int .i64 x.ver, .int .u64 x.shi, .int .u64 x.slo, .int .u64 x.dhi, .int .u64 x.dlo, .int .i64 x.proto, .int .i64 x.sport, .int .i64 x.dport]
@[reducible] def Pk.cs (x : Pk) : Array Value := #[.int .i64 x.seq, .int .i64 x.size, .int .i64 x.ver, .int .u64 x.shi, .int .u64 x.slo, .int .u64 x.dhi, .int .u64 x.dlo, .int .i64 x.proto, .int .i64 x.sport, .int .i64 x.dport]
@[reducible] def Pk.v (x : Pk) : Value := .agg x.cs
def Pk.zero : Pk := ⟨0, 0, 0, 0, 0, 0, 0, 0, 0, 0⟩

/-- What a pool holds: its slab, its packets by slot, how many they are, its room, its bytes. -/
structure Pl where
  s : Slab.Sl
  f : Int → Option Pk
  n : Nat
  room : Int
  bytes : Int

/-- The pool: its struct in block a, its slab in blocks p and g, its map in block r. -/
def Is (w : World) (a p g r : Nat) (x : Pl) : Prop :=
  Blk w a 98 #[.pointer (some ⟨p, 0, none⟩), .map (some r), .int .i64 x.room, .int .i64 x.bytes] ∧ Slab.Is w p g x.s ∧ MapIs (Value.int .i64) w r (fun k => (x.f k).map Pk.v) x.n
/-- The blocks of a pool. -/
def Of4 (a p g r : Nat) : Nat → Prop := fun i => i = a ∨ i = p ∨ i = g ∨ i = r

section
variable {w w' : World} {a p g r : Nat} {x : Pl}
theorem Is.lt (h : Is w a p g r x) : a < w.heap.size ∧ p < w.heap.size ∧ g < w.heap.size ∧ r < w.heap.size := ⟨h.1.lt, h.2.1.lt.1, h.2.1.lt.2, h.2.2.lt⟩
theorem Is.kept {F : Nat → Prop} (h : Is w a p g r x) (hk : Kept F w w') (ha : ¬ F a) (hp : ¬ F p) (hg : ¬ F g) (hr : ¬ F r) : Is w' a p g r x :=
  ⟨h.1.kept hk ha, h.2.1.kept hk hp hg, h.2.2.kept hk hr⟩
theorem Is.ext (h : Is w a p g r x) (hk : Kept none_ w w') : Is w' a p g r x := h.kept hk (fun h => h) (fun h => h) (fun h => h) (fun h => h)
theorem Is.ne (h : Is w a p g r x) : a ≠ p ∧ a ≠ g ∧ p ≠ g ∧ r ≠ a ∧ r ≠ p ∧ r ≠ g := by
  obtain ⟨h1, h2, h3⟩ := h
  have hpg := h2.ne
  obtain ⟨⟨c, hc, hb⟩, arr, hr, _⟩ := h2
  exact ⟨h1.ne_ hb (by decide), h1.ne_ hr (by decide), hpg, h3.ne_cells h1, h3.ne_cells hb, h3.ne_cells hr⟩
theorem Is.off (h : Is w a p g r x) {t : TypeId} (h0 : t ≠ 98) (h1 : t ≠ 91) (h2 : t ≠ 93) : Off w t (Of4 a p g r) := by
  rintro b cs fr hb (e | e | e | e)
  · subst e
    exact Off.one h.1 (Ne.symm h0) _ _ _ hb rfl
  · subst e
    exact h.2.1.off h1 h2 _ _ _ hb (.inl rfl)
  · subst e
    exact h.2.1.off h1 h2 _ _ _ hb (.inr rfl)
  · subst e
    obtain ⟨es, clock, hm, _⟩ := h.2.2
    rw [hm] at hb
    cases hb
end

theorem zero70 : (Try.prog.info? 70).map (fun i => (i.zero, i.size, i.bytes)) = some (some Pk.zero.v, 10, 80) := by kernel_rfl
theorem run_zero {P : Program} {t : TypeId} {z : Value} {n b : Nat} (h : (P.info? t).map (fun i => (i.zero, i.size, i.bytes)) = some (some z, n, b)) : ∀ w, (zeroValue t).run P w = .ok z w := by
  obtain ⟨i0, hi, hz0, -, -⟩ := info_parts h
  intro w
  simp [zeroValue, typeInfo, hi, hz0]
theorem keyI : KeyOk Try.prog 3 (Value.int .i64) := KeyOk.int Try.underlying3

/-- The reason that Fits gives. -/
def fitsR (x : Pl) (size : Int) : Int := if size < 1 ∨ 2048 < size then 1 else if x.s.left = 0 then 4 else if x.room - x.bytes < size then 5 else 0

set_option maxHeartbeats 1000000 in
theorem fits_nil (n : Int) (w : World) : Calls Try.prog 30 #[.pointer none, .int .i64 n] w fun e w' => e = .returned (.int .i64 4) ∧ Below w.heap.size w w' := by
  go_enter Try.func30, Try.ntmps30
  go_wp2
  go_ret
  exact ⟨rfl, Below.refl _ _⟩

set_option maxHeartbeats 1000000 in
theorem fits_any (a p g r : Nat) (x : Pl) (n : Int) (w : World) (h : Is w a p g r x) (hb : 0 ≤ x.bytes ∧ x.bytes ≤ 4194304) (hr : 0 ≤ x.room ∧ x.room ≤ 4194304) :
    Calls Try.prog 30 #[.pointer (some ⟨a, 0, none⟩), .int .i64 n] w fun e w' => e = .returned (.int .i64 (fitsR x n)) ∧ Below w.heap.size w w' := by
  obtain ⟨h1, h2, h3⟩ := h
  have c0 := h1.cell 0
  have c2 := h1.cell 2
  have c3 := h1.cell 3
  have ha := h1.lt
  simp at c0 c2 c3
  obtain ⟨b1, b2⟩ := hb
  obtain ⟨r1, r2⟩ := hr
  by_cases t1 : n < 1
  · have e : fitsR x n = 1 := by unfold fitsR; rw [if_pos (.inl t1)]
    have t1' : decide (n < 1) = true := by simpa using t1
    rw [e]
    clear e h1 h2 h3
    go_enter Try.func30, Try.ntmps30
    go_wp2
    go_ret
    exact ⟨rfl, Below.refl _ _⟩
  have t1' : decide (n < 1) = false := by simpa using t1
  by_cases t2 : 2048 < n
  · have e : fitsR x n = 1 := by unfold fitsR; rw [if_pos (.inr t2)]
    have t2' : decide (2048 < n) = true := by simpa using t2
    rw [e]
    clear e h1 h2 h3
    go_enter Try.func30, Try.ntmps30
    go_wp2
    go_ret
    exact ⟨rfl, Below.refl _ _⟩
  have t2' : decide (2048 < n) = false := by simpa using t2
  have C := Lib.hid (Slab.left_any p g x.s w h2)
  by_cases t3 : x.s.left = 0
  · have e : fitsR x n = 4 := by unfold fitsR; rw [if_neg (by omega), if_pos t3]
    have t3' : (x.s.left == 0) = true := by simpa using t3
    rw [e]
    clear e h1 h2 h3 t3 t1 t2
    go_enter Try.func30, Try.ntmps30
    go_wp2_with fail
    refine C.out.mono ?_
    rintro e w1 ⟨rfl, rfl⟩
    go_wp2_with fail
    go_ret
    exact ⟨rfl, Below.refl _ _⟩
  have t3' : (x.s.left == 0) = false := by simpa using t3
  have bl : Below w.heap.size w w.drew := (Below.refl _ w).drew
  by_cases t4 : x.room - x.bytes < n
  · have e : fitsR x n = 5 := by unfold fitsR; rw [if_neg (by omega), if_neg t3, if_pos t4]
    have t4' : decide (x.room - x.bytes < n) = true := by simpa using t4
    rw [e]
    clear e h1 h2 h3 t3 t1 t2
    go_enter Try.func30, Try.ntmps30
    go_wp2_with fail
    refine C.out.mono ?_
    rintro e w1 ⟨rfl, rfl⟩
    go_wp2_with fail
    go_region
    all_goals go_wp2_with fail
    go_ret
    exact ⟨rfl, bl⟩
  · have e : fitsR x n = 0 := by unfold fitsR; rw [if_neg (by omega), if_neg t3, if_neg t4]
    have t4' : decide (x.room - x.bytes < n) = false := by simpa using t4
    rw [e]
    clear e h1 h2 h3 t3 t1 t2
    go_enter Try.func30, Try.ntmps30
    go_wp2_with fail
    refine C.out.mono ?_
    rintro e w1 ⟨rfl, rfl⟩
    go_wp2_with fail
    go_region
    all_goals go_wp2_with fail
    go_ret
    exact ⟨rfl, bl⟩

set_option maxHeartbeats 1000000 in
theorem put_nil (x : Pk) (w : World) : Calls Try.prog 32 #[.pointer none, x.v] w fun e w' => e = .returned (.tuple #[.agg #[.int .i64 0, .int .i64 0], .int .i64 4]) ∧ Below w.heap.size w w' := by
  go_enter Try.func32, Try.ntmps32
  go_wp2_with fail
  refine (fits_nil _ _).mono ?_
  rintro e w1 ⟨rfl, hb⟩
  obtain ⟨h1, h2, hl, hbb⟩ := two_new hb
  have c0 := h2.cell 0
  have c1 := h2.cell 1
  simp at c0 c1
  have fr := h2.frozen
  clear hb
  go_wp2_with fail
  exact bodyPost_ret (v := .tuple #[.agg #[.int .i64 0, .int .i64 0], .int .i64 4]) (by simp [results, Try.results32, go_sem, c0, c1, h2.lt, hl]) rfl ⟨rfl, (hbb.setCell (by simp) _).setCell (by simp) _⟩

end Go.Proofs.Ythdjagmeggckcaa.Pool
