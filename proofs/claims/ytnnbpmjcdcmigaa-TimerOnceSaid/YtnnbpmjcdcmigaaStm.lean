/- A map whose entries bear stamps: the two halves of an assignment to an entry (mapEntry, entryStore), at a key that lies in it. -/
import Derived.Test.YtnnbpmjcdcmigaaMapp
import Derived.Test.YtnnbpmjcdcmigaaSln
namespace Go.Proofs.Ytnnbpmjcdcmigaa
open Go.RowKit Go.MapKept

section
variable {κ : Type} {kv : κ → Value} {w w' : World} {r n : Nat} {f : κ → Option Value} {P : Program} {kt et mt : TypeId} {F : Nat → Prop}

def Stm (w : World) (r : Nat) : Prop := ∃ (es : Array MapEntry) (clock : Nat), w.heap[r]? = some (.map es clock) ∧ Stamped es clock
theorem Stm.kept (h : Stm w r) (hk : Kept F w w') (hf : ¬ F r) : Stm w' r := by
  obtain ⟨es, clock, hb, hs⟩ := h
  exact ⟨es, clock, (hk.block r (Array.getElem?_eq_some_iff.1 hb).1 hf).trans hb, hs⟩
theorem Stm.made (w : World) : Stm (w.alloc (.map #[] 0)) w.heap.size := ⟨#[], 0, (heap_alloc w _).1, stamped_empty 0⟩

/-- The entry at k bears the stamp b. -/
def StampAt (kv : κ → Value) (w : World) (r : Nat) (k : κ) (b : Nat) : Prop := ∃ (es : Array MapEntry) (clock i : Nat) (x : MapEntry), w.heap[r]? = some (.map es clock) ∧ es[i]? = some x ∧ x.key = kv k ∧ x.born = b
theorem StampAt.kept {k : κ} {b : Nat} (h : StampAt kv w r k b) (hk : Kept F w w') (hf : ¬ F r) : StampAt kv w' r k b := by
  obtain ⟨es, clock, i, x, hb, hs⟩ := h
  exact ⟨es, clock, i, x, (hk.block r (Array.getElem?_eq_some_iff.1 hb).1 hf).trans hb, hs⟩

theorem modify_same {es : Array MapEntry} {i : Nat} {x : MapEntry} (g : MapEntry → MapEntry) (hx : es[i]? = some x) (hg : g x = x) : es.modify i g = es := by
  refine Array.ext_getElem? fun j => ?_
  rw [Array.getElem?_modify]
  split
  · rename_i h; subst h; rw [hx]; simp [hg]
  · rfl
theorem modify_like {es : Array MapEntry} {i : Nat} {x : MapEntry} (g g' : MapEntry → MapEntry) (hx : es[i]? = some x) (hg : g x = g' x) : es.modify i g = es.modify i g' := by
  refine Array.ext_getElem? fun j => ?_
  rw [Array.getElem?_modify, Array.getElem?_modify]
  split
  · rename_i h; subst h; rw [hx]; simp [hg]
  · rfl
theorem set_same {w : World} {o : Obj} (hb : w.heap[r]? = some o) : { w with heap := w.heap.setIfInBounds r o } = w := by
  have : w.heap.setIfInBounds r o = w.heap := by
    refine Array.ext_getElem? fun j => ?_
    rw [Array.getElem?_setIfInBounds]
    split
    · rename_i h; subst h; rw [if_pos (Array.getElem?_eq_some_iff.1 hb).1, hb]
    · rfl
  rw [this]

theorem MapIs.run_entry (h : MapIs kv w r f n) (K : KeyOk P kt kv) (hm : P.underlying mt = some (.map kt et)) {k : κ} {v : Value} (hf : f k = some v) :
    ∃ b : Nat, (Instr.mapEntry mt (.map (some r)) (kv k)).run P w = .ok (.tuple #[v, .int .i64 b]) w ∧ StampAt kv w r k b := by
  obtain ⟨es, clock, hb, hk, hi, hn, hff⟩ := h
  obtain ⟨hc, hfind⟩ := find_ K hk k w
  obtain ⟨i0, x0, hx0, hk0, hv0⟩ := (hff k v).1 hf
  rcases hfind with ⟨_, h2⟩ | ⟨j, e, h1, h2, h3⟩
  · exact absurd hk0 (h2 i0 x0 hx0)
  · have hij : i0 = j := hi i0 j x0 e hx0 h2 (by rw [hk0, h3])
    subst hij
    have hxe : x0 = e := by rw [hx0] at h2; injection h2
    subst hxe
    obtain ⟨d, hd, hkey⟩ := K.key
    have hmod : es.modify i0 (fun e => { e with key := kv k }) = es := modify_same _ hx0 (by rw [← hk0])
    refine ⟨x0.born, ?_, es, clock, i0, x0, hb, hx0, hk0, rfl⟩
    simp [Instr.mapEntry, run_underlying hm, MapKept.run_getObj_map hb, hc, h1, h2, h3, run_keyThatStays (hkey k), MapKept.run_setObj_map _ hb, Result.andThen, hmod, set_same hb, hv0, goInt]

theorem find_born : ∀ (l : List MapEntry) (i : Nat) (x : MapEntry) (b : Nat), (l.map (·.born)).Nodup → l[i]? = some x → x.born = b → l.findIdx? (fun e => ((e.born : Nat) : Int) == (b : Int)) = some i
  | [], _, _, _, _, h, _ => by simp at h
  | y :: l, 0, x, b, _, h, hb => by
    simp at h
    subst h
    simp [List.findIdx?_cons, hb]
  | y :: l, i + 1, x, b, hn, h, hb => by
    simp only [List.map_cons, List.nodup_cons] at hn
    have hx : l[i]? = some x := by simpa using h
    have hne : y.born ≠ b := fun e => hn.1 (by rw [e, ← hb]; exact List.mem_map_of_mem (List.mem_of_getElem? hx))
    have : (((y.born : Nat) : Int) == (b : Int)) = false := by simp; omega
    rw [List.findIdx?_cons, this]
    simp [find_born l i x b hn.2 hx hb]

theorem MapIs.run_estore [DecidableEq κ] (h : MapIs kv w r f n) (hst : Stm w r) (K : KeyOk P kt kv) (hm : P.underlying mt = some (.map kt et)) {k : κ} {b : Nat} (hsa : StampAt kv w r k b) (u : Value) :
    ∃ w', (Instr.entryStore mt (.map (some r)) (.int .i64 b) u).run P w = .ok () w' ∧ MapIs kv w' r (upd f k (some u)) n ∧ Stm w' r ∧ Kept (· = r) w w' ∧ ∀ k' b', StampAt kv w r k' b' → StampAt kv w' r k' b' := by
  obtain ⟨w1, hrun, hM, hK⟩ := h.run_put K hm k u
  obtain ⟨es, clock, hb, hk, hi, hn, hff⟩ := h
  obtain ⟨es', clock', i, x, hb', hx, hxk, hxb⟩ := hsa
  rw [hb] at hb'
  injection hb' with hb'
  injection hb' with e1 e2
  subst e1 e2
  obtain ⟨es'', clock'', hb', hs⟩ := hst
  rw [hb] at hb'
  injection hb' with hb'
  injection hb' with e1 e2
  subst e1 e2
  obtain ⟨hc, hfind⟩ := find_ K hk k w
  rcases hfind with ⟨_, h2⟩ | ⟨j, e, h1, h2, h3⟩
  · exact absurd hxk (h2 i x hx)
  have hij : i = j := hi i j x e hx h2 (by rw [hxk, h3])
  subst hij
  have hxe : x = e := by rw [hx] at h2; injection h2
  subst hxe
  obtain ⟨d, hd, hkey⟩ := K.key
  have hfk : f k = some x.val := (hff k x.val).2 ⟨i, x, hx, hxk, rfl⟩
  simp [Instr.mapUpdate, run_underlying hm, MapKept.run_getObj_map hb, hc, h1, h2, h3, run_keyThatStays (hkey k), MapKept.run_setObj_map _ hb, Result.andThen] at hrun
  have hmod : es.modify i (fun e => { e with val := u }) = es.modify i (fun e => { e with key := kv k, val := u }) := modify_like _ _ hx (by rw [← hxk])
  have hfi : es.findIdx? (fun e => ((e.born : Nat) : Int) == (b : Int)) = some i := by
    rw [show es.findIdx? (fun e => ((e.born : Nat) : Int) == (b : Int)) = es.toList.findIdx? (fun e => ((e.born : Nat) : Int) == (b : Int)) from by cases es; simp]
    exact find_born es.toList i x b hs.2.1 (by simpa using hx) hxb
  refine ⟨w1, ?_, by simpa [hfk] using hM, ⟨es.modify i (fun e => { e with val := u }), clock, ?_, ?_⟩, hK, ?_⟩
  · simp [Instr.entryStore, asInt, asIntOf, MapKept.run_getObj_map hb, hfi, MapKept.run_setObj_map _ hb, Result.andThen, hmod, hrun]
  · rw [hmod, ← hrun]; exact (heap_set hb).1
  · exact stamped_modify hs i _ (fun _ _ => rfl) (fun _ _ _ => rfl)
  · rintro k' b' ⟨es', clock', i', x', hb', hx', hxk', hxb'⟩
    rw [hb] at hb'
    injection hb' with hb'
    injection hb' with e1 e2
    subst e1 e2
    refine ⟨es.modify i (fun e => { e with val := u }), clock, i', if i = i' then { x' with val := u } else x', by rw [hmod, ← hrun]; exact (heap_set hb).1, ?_, ?_, ?_⟩
    · rw [Array.getElem?_modify]
      split
      · rw [hx']; rfl
      · exact hx'
    · split <;> exact hxk'
    · split <;> exact hxb'
end
end Go.Proofs.Ytnnbpmjcdcmigaa
