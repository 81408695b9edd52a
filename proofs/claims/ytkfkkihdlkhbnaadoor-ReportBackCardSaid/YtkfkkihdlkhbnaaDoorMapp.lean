/- Words for a map in memory, as a function of its keys: looked up in, written, deleted from, counted, copied. -/
import Derived.Test.YtkfkkihdlkhbnaaDoorMem
import Derived.MapKept
import Derived.Carry
import Derived.StillTailTactics
namespace Go.Proofs.YtkfkkihdlkhbnaaDoor
open Go.RowKit Go.MapKept

section
variable {κ : Type}

/-- What is kept of keys: kt's values are the kv's. -/
structure KeyOk (P : Program) (kt : TypeId) (kv : κ → Value) : Prop where
  key : ∃ d, P.underlying kt = some d ∧ ∀ k, IsKey d (kv k)
  inj : ∀ a b, kv a = kv b → a = b

theorem KeyOk.int {P : Program} {kt : TypeId} (h : P.underlying kt = some (.int .i64)) : KeyOk P kt (Value.int .i64) :=
  ⟨⟨_, h, fun _ => rfl⟩, fun _ _ h => by injection h⟩

/-- Block r is a map: f tells what lies at a key, n how many entries there are. -/
def MapIs (kv : κ → Value) (w : World) (r : Nat) (f : κ → Option Value) (n : Nat) : Prop :=
  ∃ es clock, w.heap[r]? = some (.map es clock) ∧ (∀ (i : Nat) (x : MapEntry), es[i]? = some x → ∃ k, x.key = kv k) ∧ (∀ (i j : Nat) (x y : MapEntry), es[i]? = some x → es[j]? = some y → x.key = y.key → i = j) ∧ es.size = n ∧
    ∀ k v, f k = some v ↔ ∃ (i : Nat) (x : MapEntry), es[i]? = some x ∧ x.key = kv k ∧ x.val = v

def upd [DecidableEq κ] (f : κ → Option Value) (k : κ) (v : Option Value) : κ → Option Value := fun j => if j = k then v else f j

variable {kv : κ → Value} {w w' : World} {r n : Nat} {f : κ → Option Value} {P : Program} {kt et mt : TypeId} {F : Nat → Prop}

theorem MapIs.lt (h : MapIs kv w r f n) : r < w.heap.size := by
  obtain ⟨es, clock, hb, _⟩ := h
  exact (Array.getElem?_eq_some_iff.1 hb).1
theorem MapIs.kept (h : MapIs kv w r f n) (hk : Kept F w w') (hf : ¬ F r) : MapIs kv w' r f n := by
  have hlt := h.lt
  obtain ⟨es, clock, hb, rest⟩ := h
  exact ⟨es, clock, (hk.block r hlt hf).trans hb, rest⟩
theorem MapIs.alloc (h : MapIs kv w r f n) (o : Obj) : MapIs kv (w.alloc o) r f n := h.kept (F := none_) ((Kept.refl _ _).alloc o) (fun h => h)
theorem MapIs.drew (h : MapIs kv w r f n) : MapIs kv w.drew r f n := h
theorem MapIs.far (h : MapIs kv w r f n) {p : Addr} (hp : r ≠ p.block) (u : Value) : MapIs kv (w.setCell p u) r f n :=
  h.kept (F := fun i => i = p.block) (Kept.setCell (Kept.refl (fun i => i = p.block) w) (.inl rfl) u) hp
theorem MapIs.ne_cells (h : MapIs kv w r f n) {g : Nat} {t : TypeId} {cs : Array Value} (hb : Blk w g t cs) : r ≠ g := by
  rintro rfl
  obtain ⟨es, clock, hm, _⟩ := h
  unfold Blk at hb
  rw [hm] at hb
  cases hb
theorem MapIs.made (kv : κ → Value) (w : World) : MapIs kv (w.alloc (.map #[] 0)) w.heap.size (fun _ => none) 0 :=
  ⟨#[], 0, (heap_alloc w _).1, by simp, by simp, rfl, by simp⟩

theorem MapIs.zero_of (h : MapIs kv w r f n) (hf : ∀ k, f k = none) : n = 0 := by
  obtain ⟨es, clock, hm, hk, hi, hn, hf'⟩ := h
  rw [← hn]
  rcases Nat.eq_zero_or_pos es.size with h0 | h0
  · exact h0
  · obtain ⟨k, hk⟩ := hk 0 es[0] (by simp)
    have := (hf' k es[0].val).2 ⟨0, es[0], by simp, hk, rfl⟩
    rw [hf k] at this
    cases this

theorem find_ (K : KeyOk P kt kv) {es : Array MapEntry} (hk : ∀ (i : Nat) (x : MapEntry), es[i]? = some x → ∃ k, x.key = kv k) (k : κ) (w : World) :
    (∀ e m, (Instr.checkKey e (m + 1) kt (kv k)).run P w = .ok () w) ∧
    (((Instr.findKey kt (kv k) es.toList).run P w = .ok none w ∧ ∀ (i : Nat) (x : MapEntry), es[i]? = some x → x.key ≠ kv k) ∨
      ∃ (j : Nat) (e : MapEntry), (Instr.findKey kt (kv k) es.toList).run P w = .ok (some (j, e.val)) w ∧ es[j]? = some e ∧ e.key = kv k) := by
  obtain ⟨⟨d, hd, hkey⟩, _⟩ := K
  refine ⟨fun e m => run_checkKey hd (hkey k) e m, ?_⟩
  have hks : ∀ x ∈ es.toList, IsKey d x.key := fun x hx => by
    obtain ⟨i, hi⟩ := List.getElem?_of_mem hx
    obtain ⟨k', hk'⟩ := hk i x (by simpa using hi)
    rw [hk']; exact hkey k'
  rcases findNow_spec (hkey k) es.toList 0 hks with ⟨h1, h2⟩ | ⟨j, e, h1, h2, h3⟩
  · exact .inl ⟨run_findKey hd h1, fun i x hx => h2 x (by rw [← Array.getElem?_toList] at hx; exact List.mem_of_getElem? hx)⟩
  · refine .inr ⟨j, e, ?_, by simpa using h2, h3⟩
    rw [Nat.zero_add] at h1
    exact run_findKey hd h1

theorem MapIs.run_lookup (h : MapIs kv w r f n) (K : KeyOk P kt kv) (hm : P.underlying mt = some (.map kt et)) {z : Value} (hz : (zeroValue et).run P w = .ok z w) (k : κ) (c : Bool) :
    (Instr.lookup mt (.map (some r)) (kv k) c).run P w = .ok (if c then .tuple #[(f k).getD z, .bool (f k).isSome] else (f k).getD z) w := by
  obtain ⟨es, clock, hb, hk, hi, hn, hf⟩ := h
  obtain ⟨hc, hfind⟩ := find_ K hk k w
  rcases hfind with ⟨h1, h2⟩ | ⟨j, e, h1, h2, h3⟩
  · have hfk : f k = none := by
      cases hfk : f k with
      | none => rfl
      | some v => obtain ⟨i, x, hx, hk', _⟩ := (hf k v).1 hfk; exact absurd hk' (h2 i x hx)
    simp [Instr.lookup, run_underlying hm, MapKept.run_getObj_map hb, hc, h1, hz, Result.andThen, hfk]
  · have hfk : f k = some e.val := (hf k e.val).2 ⟨j, e, h2, h3, rfl⟩
    simp [Instr.lookup, run_underlying hm, MapKept.run_getObj_map hb, hc, h1, Result.andThen, hfk]

theorem MapIs.run_len (h : MapIs kv w r f n) (hm : P.underlying mt = some (.map kt et)) (ty : TypeId) : (Builtin.len_ #[mt] ty #[.map (some r)]).run P w = .ok (.int .i64 n) w := by
  obtain ⟨es, clock, hb, hk, hi, hn, hf⟩ := h
  simp [Builtin.len_, run_underlying hm, MapKept.run_getObj_map hb, goInt, Result.andThen, hn]

theorem Kept.setMap {es : Array MapEntry} {clock : Nat} (hb : w.heap[r]? = some (.map es clock)) (o : Obj) : Kept (· = r) w { w with heap := w.heap.setIfInBounds r o } :=
  ⟨rfl, rfl, rfl, by simp, fun i _ hi => (heap_set hb).2 i hi⟩

theorem MapIs.run_put [DecidableEq κ] (h : MapIs kv w r f n) (K : KeyOk P kt kv) (hm : P.underlying mt = some (.map kt et)) (k : κ) (v : Value) :
    ∃ w', (Instr.mapUpdate mt (.map (some r)) (kv k) v).run P w = .ok () w' ∧ MapIs kv w' r (upd f k (some v)) (if (f k).isSome then n else n + 1) ∧ Kept (· = r) w w' := by
  obtain ⟨es, clock, hb, hk, hi, hn, hf⟩ := h
  obtain ⟨hc, hfind⟩ := find_ K hk k w
  rcases hfind with ⟨h1, h2⟩ | ⟨j, e, h1, h2, h3⟩
  · have hfk : f k = none := by
      cases hfk : f k with
      | none => rfl
      | some v => obtain ⟨i, x, hx, hk', _⟩ := (hf k v).1 hfk; exact absurd hk' (h2 i x hx)
    refine ⟨{ w with heap := w.heap.setIfInBounds r (.map (es.push { key := kv k, val := v, born := clock }) (clock + 1)) }, ?_, ⟨_, _, (heap_set hb).1, ?_, ?_, ?_, ?_⟩, Kept.setMap hb _⟩
    · simp [Instr.mapUpdate, run_underlying hm, MapKept.run_getObj_map hb, hc, h1, MapKept.run_setObj_map _ hb, Result.andThen]
    · intro i x hx
      rw [Array.getElem?_push] at hx
      split at hx
      · injection hx with hx; exact ⟨k, by rw [← hx]⟩
      · exact hk i x hx
    · intro i j x y hx hy hxy
      rw [Array.getElem?_push] at hx hy
      split at hx <;> split at hy
      · omega
      · injection hx with hx; exact absurd (by rw [← hxy, ← hx]) (h2 j y hy)
      · injection hy with hy; exact absurd (by rw [hxy, ← hy]) (h2 i x hx)
      · exact hi i j x y hx hy hxy
    · simp [hfk, hn]
    · intro k' u
      unfold upd
      split
      · rename_i hkk
        subst hkk
        constructor
        · intro hu
          injection hu with hu
          exact ⟨es.size, { key := kv k', val := v, born := clock }, by simp, rfl, hu⟩
        · rintro ⟨i, x, hx, hx1, hx2⟩
          rw [Array.getElem?_push] at hx
          split at hx
          · injection hx with hx; rw [← hx2, ← hx]
          · exact absurd hx1 (h2 i x hx)
      · rename_i hkk
        rw [hf k' u]
        constructor
        · rintro ⟨i, x, hx, hx1, hx2⟩
          refine ⟨i, x, ?_, hx1, hx2⟩
          rw [Array.getElem?_push, if_neg (by have := (Array.getElem?_eq_some_iff.1 hx).1; omega)]
          exact hx
        · rintro ⟨i, x, hx, hx1, hx2⟩
          rw [Array.getElem?_push] at hx
          split at hx
          · injection hx with hx; rw [← hx] at hx1; exact absurd (K.inj _ _ hx1).symm hkk
          · exact ⟨i, x, hx, hx1, hx2⟩
  · have hfk : f k = some e.val := (hf k e.val).2 ⟨j, e, h2, h3, rfl⟩
    obtain ⟨d, hd, hkey⟩ := K.key
    refine ⟨{ w with heap := w.heap.setIfInBounds r (.map (es.modify j fun e => { e with key := kv k, val := v }) clock) }, ?_, ⟨_, _, (heap_set hb).1, ?_, ?_, ?_, ?_⟩, Kept.setMap hb _⟩
    · simp [Instr.mapUpdate, run_underlying hm, MapKept.run_getObj_map hb, hc, h1, h2, h3, run_keyThatStays (hkey k), MapKept.run_setObj_map _ hb, Result.andThen]
    · intro i x hx
      rw [Array.getElem?_modify] at hx
      split at hx
      · cases hej : es[i]? with
        | none => rw [hej] at hx; cases hx
        | some y => rw [hej] at hx; injection hx with hx; exact ⟨k, by rw [← hx]⟩
      · exact hk i x hx
    · have hkeys : ∀ (i : Nat) (x : MapEntry), (es.modify j fun e => { e with key := kv k, val := v })[i]? = some x → ∃ y, es[i]? = some y ∧ y.key = x.key := by
        intro i x hx
        rw [Array.getElem?_modify] at hx
        split at hx
        · rename_i hij
          subst hij
          rw [h2] at hx
          injection hx with hx
          exact ⟨e, h2, by rw [h3, ← hx]⟩
        · exact ⟨x, hx, rfl⟩
      intro i i' x y hx hy hxy
      obtain ⟨x', hx', ex⟩ := hkeys i x hx
      obtain ⟨y', hy', ey⟩ := hkeys i' y hy
      exact hi i i' x' y' hx' hy' (by rw [ex, ey, hxy])
    · simp [hfk, hn]
    · intro k' u
      unfold upd
      split
      · rename_i hkk
        subst hkk
        constructor
        · intro hu
          injection hu with hu
          exact ⟨j, { e with key := kv k', val := v }, by rw [Array.getElem?_modify, if_pos rfl, h2]; rfl, rfl, hu⟩
        · rintro ⟨i, x, hx, hx1, hx2⟩
          rw [Array.getElem?_modify] at hx
          split at hx
          · rename_i hij
            subst hij
            rw [h2] at hx
            injection hx with hx; rw [← hx2, ← hx]
          · rename_i hij
            exact absurd (hi i j x e hx h2 (by rw [hx1, h3])).symm hij
      · rename_i hkk
        rw [hf k' u]
        constructor
        · rintro ⟨i, x, hx, hx1, hx2⟩
          refine ⟨i, x, ?_, hx1, hx2⟩
          rw [Array.getElem?_modify, if_neg ?_]
          · exact hx
          · rintro rfl
            rw [h2] at hx
            injection hx with hx
            exact hkk (K.inj _ _ (by rw [← hx1, ← hx, h3]))
        · rintro ⟨i, x, hx, hx1, hx2⟩
          rw [Array.getElem?_modify] at hx
          split at hx
          · rename_i hij
            subst hij
            rw [h2] at hx
            injection hx with hx
            rw [← hx] at hx1
            exact absurd (K.inj _ _ hx1).symm hkk
          · exact ⟨i, x, hx, hx1, hx2⟩

theorem MapIs.run_del [DecidableEq κ] (h : MapIs kv w r f n) (K : KeyOk P kt kv) (hm : P.underlying mt = some (.map kt et)) (k : κ) (ty : TypeId) :
    ∃ w', (Builtin.delete_ #[mt, kt] ty #[.map (some r), kv k]).run P w = .ok (.tuple #[]) w' ∧ MapIs kv w' r (upd f k none) (if (f k).isSome then n - 1 else n) ∧ Kept (· = r) w w' := by
  obtain ⟨es, clock, hb, hk, hi, hn, hf⟩ := h
  obtain ⟨hc, hfind⟩ := find_ K hk k w
  rcases hfind with ⟨h1, h2⟩ | ⟨j, e, h1, h2, h3⟩
  · have hfk : f k = none := by
      cases hfk : f k with
      | none => rfl
      | some v => obtain ⟨i, x, hx, hk', _⟩ := (hf k v).1 hfk; exact absurd hk' (h2 i x hx)
    refine ⟨{ w with heap := w.heap.setIfInBounds r (.map es clock) }, ?_, ⟨es, clock, (heap_set hb).1, hk, hi, by simp [hfk, hn], ?_⟩, Kept.setMap hb _⟩
    · simp [Builtin.delete_, run_underlying hm, MapKept.run_getObj_map hb, hc, h1, MapKept.run_setObj_map _ hb, Result.andThen]
    · intro k' u
      unfold upd
      split
      · rename_i hkk
        subst hkk
        rw [← hfk]; exact hf k' u
      · exact hf k' u
  · have hfk : f k = some e.val := (hf k e.val).2 ⟨j, e, h2, h3, rfl⟩
    have hj : j < es.size := (Array.getElem?_eq_some_iff.1 h2).1
    have hget : ∀ i : Nat, (es.eraseIdxIfInBounds j)[i]? = if i < j then es[i]? else es[i + 1]? := by
      intro i
      unfold Array.eraseIdxIfInBounds
      rw [dif_pos hj, Array.getElem?_eraseIdx]
    refine ⟨{ w with heap := w.heap.setIfInBounds r (.map (es.eraseIdxIfInBounds j) clock) }, ?_, ⟨_, _, (heap_set hb).1, ?_, ?_, ?_, ?_⟩, Kept.setMap hb _⟩
    · simp [Builtin.delete_, run_underlying hm, MapKept.run_getObj_map hb, hc, h1, MapKept.run_setObj_map _ hb, Result.andThen]
    · intro i x hx
      rw [hget] at hx
      split at hx
      · exact hk i x hx
      · exact hk (i + 1) x hx
    · intro i i' x y hx hy hxy
      rw [hget] at hx hy
      split at hx <;> split at hy
      · exact hi i i' x y hx hy hxy
      · have := hi i (i' + 1) x y hx hy hxy; omega
      · have := hi (i + 1) i' x y hx hy hxy; omega
      · have := hi (i + 1) (i' + 1) x y hx hy hxy; omega
    · unfold Array.eraseIdxIfInBounds
      rw [dif_pos hj, Array.size_eraseIdx, hfk, hn]; rfl
    · intro k' u
      unfold upd
      split
      · rename_i hkk
        subst hkk
        constructor
        · intro hu; cases hu
        · rintro ⟨i, x, hx, hx1, hx2⟩
          rw [hget] at hx
          split at hx
          · have := hi i j x e hx h2 (by rw [hx1, h3]); omega
          · have := hi (i + 1) j x e hx h2 (by rw [hx1, h3]); omega
      · rename_i hkk
        rw [hf k' u]
        constructor
        · rintro ⟨i, x, hx, hx1, hx2⟩
          have hij : i ≠ j := by
            rintro rfl
            rw [h2] at hx
            injection hx with hx
            exact hkk (K.inj _ _ (by rw [← hx1, ← hx, h3]))
          by_cases hlt : i < j
          · exact ⟨i, x, by rw [hget, if_pos hlt]; exact hx, hx1, hx2⟩
          · exact ⟨i - 1, x, by rw [hget, if_neg (by omega), show i - 1 + 1 = i by omega]; exact hx, hx1, hx2⟩
        · rintro ⟨i, x, hx, hx1, hx2⟩
          rw [hget] at hx
          split at hx
          · exact ⟨i, x, hx, hx1, hx2⟩
          · exact ⟨i + 1, x, hx, hx1, hx2⟩

theorem MapIs.run_clone (h : MapIs kv w r f n) (t : TypeId) :
    ∃ w', (Extern.MapsClone.clone #[.iface t (.map (some r))]).run P w = .ok (.iface t (.map (some w.heap.size))) w' ∧ MapIs kv w' w.heap.size f n ∧ Kept none_ w w' ∧ w'.heap.size = w.heap.size + 1 := by
  obtain ⟨es, clock, hb, rest⟩ := h
  refine ⟨w.alloc (.map es clock), ?_, ⟨es, clock, (heap_alloc w _).1, rest⟩, (Kept.refl _ _).alloc _, by simp⟩
  have e : Extern.MapsClone.clone #[.iface t (.map (some r))] = (getObj r >>= fun o => match o with
      | .map entries clock => (newObj (.map entries clock) >>= fun n => pure (.iface t (.map (some n))))
      | _ => stuck "maps.clone: a map expected") := rfl
  rw [e]
  simp [MapKept.run_getObj_map hb, Result.andThen]

/-- A region that draws its order: n operations that only read, then a tail in the text's order; W is the world behind the draw. -/
theorem wp_region_tail {id : Nat} {Q : Exit → Act → World → Prop} {a : Act} {l : List Oper} (n : Nat) (hm : P.follows .mixedOrders = true) (hB : Region.lexTailB .any l.toArray n = true)
    (h : ∀ W, W = w.drew → wpStill P l.toArray W (fun a' => wpList P l.toArray Q (l.drop n) a' W) (l.take n) a) : (Code.region id l.toArray true).wp P Q a w :=
  wp_region_still_tail n hm hB (h _ rfl)

/-! ### At the operation, for the walk -/
variable {ops : Array Oper} {rest : List Oper} {o : Oper} {a : Act} {Q : Exit → Act → World → Prop}

theorem wpList_put [DecidableEq κ] (hg : o.guard = none) (m x v : Operand) (hop : o.op = Op.mapUpdate mt m x v) (K : KeyOk P kt kv) (hm : P.underlying mt = some (.map kt et)) (h : MapIs kv w r f n) (k : κ) (u : Value)
    (e1 : a.eval m = .map (some r)) (e2 : a.eval x = kv k) (e3 : a.eval v = u)
    (hK : ∀ w', MapIs kv w' r (upd f k (some u)) (if (f k).isSome then n else n + 1) → Kept (· = r) w w' → wpList P ops Q rest (a.put o.dst undef) w') :
    wpList P ops Q (o :: rest) a w := by
  refine wpList_plain hg fun K' hK' => ?_
  obtain ⟨w', hrun, r1, r2⟩ := h.run_put K hm k u
  unfold Oper.wp
  simp [execOp, hop, e1, e2, e3, hrun, Result.andThen]
  exact hK' _ _ (hK w' r1 r2)

theorem wpList_del [DecidableEq κ] (hg : o.guard = none) (m x : Operand) (hop : o.op = Op.call { callee := Callee.builtin Builtin.delete, args := #[m, x], argTypes := #[mt, kt] }) (K : KeyOk P kt kv) (hm : P.underlying mt = some (.map kt et))
    (h : MapIs kv w r f n) (k : κ) (e1 : a.eval m = .map (some r)) (e2 : a.eval x = kv k)
    (hK : ∀ w', MapIs kv w' r (upd f k none) (if (f k).isSome then n - 1 else n) → Kept (· = r) w w' → wpList P ops Q rest (a.put o.dst (.tuple #[])) w') :
    wpList P ops Q (o :: rest) a w := by
  refine wpList_plain hg fun K' hK' => ?_
  obtain ⟨w', hrun, r1, r2⟩ := h.run_del K hm k o.type
  unfold Oper.wp
  simp [execOp, hop, resolve, invoke, builtin, e1, e2, hrun, Result.andThen]
  exact hK' _ _ (hK w' r1 r2)

theorem wpList_look (hg : o.guard = none) (m x : Operand) (c : Bool) (hop : o.op = Op.lookup mt m x c) (K : KeyOk P kt kv) (hm : P.underlying mt = some (.map kt et)) {z : Value} (hz : (zeroValue et).run P w = .ok z w)
    (h : MapIs kv w r f n) (k : κ) (e1 : a.eval m = .map (some r)) (e2 : a.eval x = kv k)
    (hK : wpList P ops Q rest (a.put o.dst (if c then .tuple #[(f k).getD z, .bool (f k).isSome] else (f k).getD z)) w) :
    wpList P ops Q (o :: rest) a w := by
  refine wpList_plain hg fun K' hK' => ?_
  have hrun := h.run_lookup K hm hz k c
  unfold Oper.wp
  simp [execOp, hop, e1, e2, hrun, Result.andThen]
  exact hK' _ _ hK
end
end Go.Proofs.YtkfkkihdlkhbnaaDoor
