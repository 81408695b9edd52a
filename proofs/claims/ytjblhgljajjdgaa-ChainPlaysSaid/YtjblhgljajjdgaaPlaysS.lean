/- The law ChainPlays: the state of its loop and what each call does to it. -/
import Derived.Test.YtjblhgljajjdgaaRefsC
namespace Go.Proofs.Ytjblhgljajjdgaa.WChainPlays
open Go.RowKit ChainLaw ChainP Refs
open Chain (Rd_ AllP same_yes Of3)

section
variable {w w' W : World} {c g1 g2 g3 n : Nat} {v v' : Value} {L L' : List (List Nat)}
theorem cs_len (h : Cs w c g1 g2 g3 n L) {i : Nat} {l : List Nat} (hl : L[i]? = some l) : l.length ≤ n := by obtain ⟨x, _, hC⟩ := h; exact hC.len hl
theorem cs_apart (h : Cs w c g1 g2 g3 n L) {i j : Nat} {l m : List Nat} (hl : L[i]? = some l) (hm : L[j]? = some m) {k : Nat} (h1 : k ∈ l) (h2 : k ∈ m) : i = j := by obtain ⟨x, _, hC⟩ := h; exact hC.apart hl hm h1 h2

/-- Memory at a round's head: the lists, and the document's answer, hold the same. -/
structure St (w wr : World) (c g1 g2 g3 n : Nat) (v : Value) (L : List (List Nat)) : Prop where
  ch : Cs wr c g1 g2 g3 n L
  ll : LL wr (Of3 g1 g2 g3) v L
  below : Below w.heap.size w wr
  h1 : w.heap.size ≤ g1
  h2 : w.heap.size ≤ g2
  h3 : w.heap.size ≤ g3
  n1 : 1 ≤ n
  n2 : n ≤ 30
  l1 : 1 ≤ L.length
  l2 : L.length ≤ 8
theorem St.ext {wr : World} (h : St w wr c g1 g2 g3 n v L) (hk : Kept none_ wr w') : St w w' c g1 g2 g3 n v L :=
  { h with ch := h.ch.ext hk, ll := h.ll.ext hk, below := h.below.trans (hk.toBelow'.mono h.below.size) }
theorem St.al {wr : World} (h : St w wr c g1 g2 g3 n v L) (o : Obj) : St w (wr.alloc o) c g1 g2 g3 n v L := h.ext ((Kept.refl _ _).alloc o)
theorem St.far {wr : World} (h : St w wr c g1 g2 g3 n v L) : ∀ j, Of3 g1 g2 g3 j → j < wr.heap.size := fun j hj => by
  obtain ⟨_, a, b, d⟩ := h.ch.lt
  rcases hj with rfl | rfl | rfl <;> assumption
/-- The document's answer first, then the lists. -/
theorem St.did {wr w1 : World} (h : St w wr c g1 g2 g3 n v L) (b : Below wr.heap.size wr w1) (hv : LL w1 (Of3 g1 g2 g3) v' L') (hc : Cs w' c g1 g2 g3 n L') (hk : Kept (Of3 g1 g2 g3) w1 w') (hl : L'.length = L.length) : St w w' c g1 g2 g3 n v' L' :=
  { ch := hc, ll := hv.kept hk (fun _ h => h), below := (h.below.trans (b.mono h.below.size)).trans (hk.toBelow (fun i hi => by rcases hi with rfl | rfl | rfl; exact h.h1; exact h.h2; exact h.h3) (Nat.le_trans h.below.size b.size)),
    h1 := h.h1, h2 := h.h2, h3 := h.h3, n1 := h.n1, n2 := h.n2, l1 := by rw [hl]; exact h.l1, l2 := by rw [hl]; exact h.l2 }

structure Ax where
  do_ : Int
  list : Int
  node : Int
def Ax.enc (y : Ax) : List Value := [.int .i64 y.do_, .int .i64 y.list, .int .i64 y.node]
@[reducible] def Ax.cs (y : Ax) : Array Value := #[.int .i64 y.do_, .int .i64 y.list, .int .i64 y.node]
def Ev (w : World) (ap : Nat) (y : Ax) : Prop := Blk w ap 28 y.cs
theorem Ev.ext {ap : Nat} {y : Ax} (h : Ev w ap y) (hk : Kept none_ w w') : Ev w' ap y := Blk.kept h hk (fun h => h)
theorem Ev.did {ap : Nat} {y : Ax} (h : Ev w ap y) (hk : Kept (Of3 g1 g2 g3) w w') (hn : ¬ Of3 g1 g2 g3 ap) : Ev w' ap y := Blk.kept h hk hn
theorem Ev.at_ {ap : Nat} {y : Ax} (h : Ev w ap y) : w.cell? ⟨ap, 0, none⟩ = some (.int .i64 y.do_) ∧ w.cell? ⟨ap, 1, none⟩ = some (.int .i64 y.list) ∧ w.cell? ⟨ap, 2, none⟩ = some (.int .i64 y.node) := ⟨Blk.cell h 0, Blk.cell h 1, Blk.cell h 2⟩
theorem Ev.lt {ap : Nat} {y : Ax} (h : Ev w ap y) : ap < w.heap.size := Blk.lt h

def After (w : World) (n ap : Nat) (y : Ax) (sp v : Value) (wx : World) : Prop := ∃ c g1 g2 g3 L, sp = .pointer (some ⟨c, 0, none⟩) ∧ Ev wx ap y ∧ St w wx c g1 g2 g3 n v L
theorem After.mk_ {ap : Nat} {y : Ax} (h : St w w' c g1 g2 g3 n v L) (he : Ev w' ap y) : After w n ap y (.pointer (some ⟨c, 0, none⟩)) v w' := ⟨c, g1, g2, g3, L, rfl, he, h⟩

/-- Both pushes. -/
theorem push_no (h : St w W c g1 g2 g3 n v L) (i k : Int) (hb : BadPush L n i k) :
    (Calls Try.prog 7 #[v, .int .i64 (n : Int), .int .i64 i, .int .i64 k] W fun e W' => e = .returned (.tuple #[v, .bool false]) ∧ Kept none_ W W') ∧
    (∀ W1, Kept none_ W W1 → Calls Try.prog 8 #[.pointer (some ⟨c, 0, none⟩), .int .i64 i, .int .i64 k] W1 fun e W' => e = .returned (.bool false) ∧ W1 = W') := by
  refine ⟨(push_any h.ll h.l2 h.far n i k (fun j m hm => Nat.le_trans (cs_len h.ch hm) h.n2)).mono ?_, fun W1 hk => ChainP.push_no (h.ch.ext hk) hb⟩
  rintro e W' ⟨b, ⟨_, rfl⟩ | ⟨a, q, l, v', rfl, rfl, hn, hl, hout, rfl, _⟩⟩
  · exact ⟨rfl, Kept.below b rfl⟩
  · exfalso
    have := (List.getElem?_eq_some_iff.1 hl).1
    rcases hb with hb | hb | hb | hb | ⟨k', j, m, hk, hj, hm⟩
    · omega
    · omega
    · omega
    · omega
    · have : k' = q := by omega
      subst this
      exact hout j m hj hm
def PushedR (w W : World) (c g1 g2 g3 n : Nat) (v : Value) (L : List (List Nat)) (i k : Int) (e : Ending) (W' : World) : Prop :=
  ∃ v', e = .returned (.tuple #[v', .bool true]) ∧ Kept none_ W W' ∧ Calls Try.prog 8 #[.pointer (some ⟨c, 0, none⟩), .int .i64 i, .int .i64 k] W' fun e W2 => e = .returned (.bool true) ∧ Kept (Of3 g1 g2 g3) W' W2 ∧ ∃ L', St w W2 c g1 g2 g3 n v' L'
theorem push_yes (h : St w W c g1 g2 g3 n v L) (i k : Int) (hb : ¬ BadPush L n i k) :
    Calls Try.prog 7 #[v, .int .i64 (n : Int), .int .i64 i, .int .i64 k] W (PushedR w W c g1 g2 g3 n v L i k) := by
  refine (push_any h.ll h.l2 h.far n i k (fun j m hm => Nat.le_trans (cs_len h.ch hm) h.n2)).mono ?_
  rintro e W' ⟨b, ⟨hb', rfl⟩ | ⟨a, q, l, v', rfl, rfl, hn, hl, hout, rfl, hv⟩⟩
  · exact absurd hb' hb
  · refine ⟨v', rfl, Kept.below b rfl, (ChainP.push_yes (h.ch.ext (Kept.below b rfl)) (Nat.le_trans h.n2 (by omega)) hl (by omega) hout).mono ?_⟩
    rintro e W2 ⟨rfl, hc, hk⟩
    exact ⟨rfl, hk, _, h.did b hv hc hk (by simp)⟩

/-- First, and both pops. -/
theorem first_pop_no (h : St w W c g1 g2 g3 n v L) (i : Int) (hb : BadPop L i) :
    (Calls Try.prog 9 #[.pointer (some ⟨c, 0, none⟩), .int .i64 i] W fun e W' => e = .returned (.tuple #[.int .i64 0, .bool false]) ∧ W = W') ∧
    (Calls Try.prog 10 #[.pointer (some ⟨c, 0, none⟩), .int .i64 i] W fun e W' => e = .returned (.tuple #[.int .i64 0, .bool false]) ∧ W = W') ∧
    (Calls Try.prog 11 #[v, .int .i64 i] W fun e W' => e = .returned (.tuple #[v, .int .i64 0, .bool false]) ∧ Kept none_ W W') := by
  refine ⟨ChainP.first_no h.ch hb, ChainP.pop_no h.ch hb, (pop_bad h.ll i hb).mono ?_⟩
  rintro e W' ⟨b, ⟨_, rfl⟩ | ⟨a, k, r, v', rfl, hl, rfl, _⟩⟩
  · exact ⟨rfl, Kept.below b rfl⟩
  · exfalso
    have := (List.getElem?_eq_some_iff.1 hl).1
    rcases hb with hb | hb | ⟨k', hk, hj⟩
    · omega
    · omega
    · have : a = k' := by omega
      subst this
      rw [hl] at hj
      cases hj
theorem not_bad_pop {i : Int} (hb : ¬ BadPop L i) : ∃ (a k : Nat) (r : List Nat), i = a ∧ L[a]? = some (k :: r) := by
  have h0 : 0 ≤ i := Int.not_lt.1 fun h => hb (.inl h)
  obtain ⟨a, rfl⟩ := Int.eq_ofNat_of_zero_le h0
  have h1 : a < L.length := by
    have : ¬ (L.length : Int) ≤ (a : Int) := fun h => hb (.inr (.inl h))
    omega
  have hg := List.getElem?_eq_getElem h1
  cases hl : L[a] with
  | nil => exact absurd (.inr (.inr ⟨a, rfl, by rw [hg, hl]⟩)) hb
  | cons k r => exact ⟨a, k, r, rfl, by rw [hg, hl]⟩
def PoppedR (w W : World) (c g1 g2 g3 n : Nat) (v : Value) (k : Nat) (i : Int) (e : Ending) (W' : World) : Prop :=
  e = .returned (.tuple #[.int .i64 (k : Int), .bool true]) ∧ Kept (Of3 g1 g2 g3) W W' ∧
    Calls Try.prog 11 #[v, .int .i64 i] W' fun e W2 => ∃ v', e = .returned (.tuple #[v', .int .i64 (k : Int), .bool true]) ∧ Kept none_ W' W2 ∧ ∃ L', St w W2 c g1 g2 g3 n v' L'
theorem first_pop_yes (h : St w W c g1 g2 g3 n v L) (a k : Nat) (r : List Nat) (hl : L[a]? = some (k :: r)) :
    (Calls Try.prog 9 #[.pointer (some ⟨c, 0, none⟩), .int .i64 (a : Int)] W fun e W' => e = .returned (.tuple #[.int .i64 (k : Int), .bool true]) ∧ W = W') ∧
    (Calls Try.prog 10 #[.pointer (some ⟨c, 0, none⟩), .int .i64 (a : Int)] W (PoppedR w W c g1 g2 g3 n v k a)) := by
  refine ⟨ChainP.first_yes h.ch hl, (ChainP.pop_yes h.ch (Nat.le_trans h.n2 (by omega)) hl).mono ?_⟩
  rintro e W' ⟨rfl, hc, hk⟩
  have hll : LL W' (Of3 g1 g2 g3) v L := h.ll.kept hk (fun _ h => h)
  refine ⟨rfl, hk, (pop_good hll h.l2 (fun j hj => Nat.lt_of_lt_of_le (h.far j hj) hk.size) a k r hl).mono ?_⟩
  rintro e W2 ⟨b, ⟨hb, rfl⟩ | ⟨a', k', r', v', ha, hl', rfl, hv⟩⟩
  · exfalso
    have := (List.getElem?_eq_some_iff.1 hl).1
    rcases hb with hb | hb | ⟨k', hk, hj⟩
    · omega
    · omega
    · have : a = k' := by omega
      subst this
      rw [hl] at hj
      cases hj
  · have : a = a' := by omega
    subst this
    rw [hl] at hl'
    injection hl' with hl'
    injection hl' with e1 e2
    subst e1 e2
    have hsz := h.below.size
    exact ⟨v', rfl, Kept.below b rfl, _, { ch := hc.ext (Kept.below b rfl), ll := hv, below := (h.below.trans (hk.toBelow (fun i hi => by rcases hi with rfl | rfl | rfl; exact h.h1; exact h.h2; exact h.h3) hsz)).trans (b.mono (Nat.le_trans hsz hk.size)), h1 := h.h1, h2 := h.h2, h3 := h.h3, n1 := h.n1, n2 := h.n2, l1 := by simpa using h.l1, l2 := by simpa using h.l2 }⟩

/-- Both joins. -/
theorem join_no (h : St w W c g1 g2 g3 n v L) (i j : Int) (hb : BadJoin L i j) :
    (Calls Try.prog 12 #[v, .int .i64 i, .int .i64 j] W fun e W' => e = .returned (.tuple #[v, .bool false]) ∧ Kept none_ W W') ∧
    (∀ W1, Kept none_ W W1 → Calls Try.prog 13 #[.pointer (some ⟨c, 0, none⟩), .int .i64 i, .int .i64 j] W1 fun e W' => e = .returned (.bool false) ∧ Kept none_ W1 W') := by
  refine ⟨(join_bad h.ll i j hb).mono ?_, fun W1 hk => (ChainP.join_no (h.ch.ext hk) hb).mono fun e W' ⟨he, b⟩ => ⟨he, Kept.below b rfl⟩⟩
  rintro e W' ⟨b, ⟨_, rfl⟩ | ⟨a, q, l, m, v', rfl, rfl, hne, hl, hm, rfl, _⟩⟩
  · exact ⟨rfl, Kept.below b rfl⟩
  · exfalso
    have := (List.getElem?_eq_some_iff.1 hl).1
    have := (List.getElem?_eq_some_iff.1 hm).1
    rcases hb with hb | hb | hb | hb | hb <;> omega
theorem not_bad_join {i j : Int} (hb : ¬ BadJoin L i j) : ∃ (a b : Nat) (l m : List Nat), i = a ∧ j = b ∧ a ≠ b ∧ L[a]? = some l ∧ L[b]? = some m := by
  have h0 : 0 ≤ i := Int.not_lt.1 fun h => hb (.inl h)
  have h1 : 0 ≤ j := Int.not_lt.1 fun h => hb (.inr (.inr (.inl h)))
  obtain ⟨a, rfl⟩ := Int.eq_ofNat_of_zero_le h0
  obtain ⟨b, rfl⟩ := Int.eq_ofNat_of_zero_le h1
  have h2 : a < L.length := by
    have : ¬ (L.length : Int) ≤ (a : Int) := fun h => hb (.inr (.inl h))
    omega
  have h3 : b < L.length := by
    have : ¬ (L.length : Int) ≤ (b : Int) := fun h => hb (.inr (.inr (.inr (.inl h))))
    omega
  exact ⟨a, b, _, _, rfl, rfl, fun e => hb (.inr (.inr (.inr (.inr (by rw [e]))))), List.getElem?_eq_getElem h2, List.getElem?_eq_getElem h3⟩
def JoinedR (w W : World) (c g1 g2 g3 n : Nat) (i j : Int) (e : Ending) (W' : World) : Prop :=
  ∃ v', e = .returned (.tuple #[v', .bool true]) ∧ Kept none_ W W' ∧ Calls Try.prog 13 #[.pointer (some ⟨c, 0, none⟩), .int .i64 i, .int .i64 j] W' fun e W2 => e = .returned (.bool true) ∧ Kept (Of3 g1 g2 g3) W' W2 ∧ ∃ L', St w W2 c g1 g2 g3 n v' L'
theorem join_yes (h : St w W c g1 g2 g3 n v L) (a b : Nat) (l m : List Nat) (hne : a ≠ b) (hl : L[a]? = some l) (hm : L[b]? = some m) :
    Calls Try.prog 12 #[v, .int .i64 (a : Int), .int .i64 (b : Int)] W (JoinedR w W c g1 g2 g3 n a b) := by
  refine (join_good h.ll h.l2 h.far a b l m hne hl hm (Nat.le_trans (cs_len h.ch hl) h.n2) (Nat.le_trans (cs_len h.ch hm) h.n2)).mono ?_
  rintro e W' ⟨bl, ⟨hb, rfl⟩ | ⟨a', b', l', m', v', ha, hb, _, hl', hm', rfl, hv⟩⟩
  · exfalso
    have := (List.getElem?_eq_some_iff.1 hl).1
    have := (List.getElem?_eq_some_iff.1 hm).1
    rcases hb with hb | hb | hb | hb | hb <;> omega
  · have e1 : a = a' := by omega
    have e2 : b = b' := by omega
    subst e1 e2
    rw [hl] at hl'
    rw [hm] at hm'
    injection hl' with hl'
    injection hm' with hm'
    subst hl' hm'
    refine ⟨v', rfl, Kept.below bl rfl, (ChainP.join_yes (h.ch.ext (Kept.below bl rfl)) (Nat.le_trans h.n2 (by omega)) hne hl hm).mono ?_⟩
    rintro e W2 ⟨rfl, hc, hk⟩
    exact ⟨rfl, hk, _, h.did bl hv hc hk (by simp)⟩

/-- The copy is played with, then taken. -/
theorem pop_some (h : Cs W c g1 g2 g3 n L) (hn : n ≤ 4096) (hl : 1 ≤ L.length) : Calls Try.prog 10 #[.pointer (some ⟨c, 0, none⟩), .int .i64 0] W fun e W' => ∃ r L', e = .returned r ∧ 1 ≤ L'.length ∧ Cs W' c g1 g2 g3 n L' ∧ Kept (Of3 g1 g2 g3) W W' := by
  obtain ⟨l, hl0⟩ : ∃ l, L[0]? = some l := ⟨L[0], by simp⟩
  cases l with
  | nil => exact (ChainP.pop_no h (i := 0) (.inr (.inr ⟨0, rfl, hl0⟩))).mono fun e W' ⟨he, hw⟩ => ⟨_, L, he, hl, hw ▸ h, hw ▸ Kept.refl _ _⟩
  | cons k r => exact (ChainP.pop_yes h hn (i := 0) hl0).mono fun e W' ⟨he, hc, hk⟩ => ⟨_, _, he, by simpa using hl, hc, hk⟩
theorem push_some (h : Cs W c g1 g2 g3 n L) (hn1 : 1 ≤ n) (hn : n ≤ 4096) (hl : 1 ≤ L.length) : Calls Try.prog 8 #[.pointer (some ⟨c, 0, none⟩), .int .i64 0, .int .i64 0] W fun e W' => ∃ r, e = .returned r ∧ Kept (Of3 g1 g2 g3) W W' := by
  obtain ⟨l, hl0⟩ : ∃ l, L[0]? = some l := ⟨L[0], by simp⟩
  by_cases hin : ∃ (j : Nat) (m : List Nat), L[j]? = some m ∧ 0 ∈ m
  · obtain ⟨j, m, hj, hm⟩ := hin
    exact (ChainP.push_no h (i := 0) (v := 0) (.inr (.inr (.inr (.inr ⟨0, j, m, rfl, hj, hm⟩))))).mono fun e W' ⟨he, hw⟩ => ⟨_, he, hw ▸ Kept.refl _ _⟩
  · exact (ChainP.push_yes h hn (i := 0) (v := 0) hl0 (by omega) (fun j m hj hm => hin ⟨j, m, hj, hm⟩)).mono fun e W' ⟨he, hc, hk⟩ => ⟨_, he, hk⟩

/-- What a round's last tests read: list and header, one for all. -/
theorem reads (h : St w W c g1 g2 g3 n v L) (i : Int) : ∃ (l : List Nat) (A : Option Addr) (cap : Nat), SlX W (Of3 g1 g2 g3) 3 1 eInt (.slice A l.length cap) (ns l) ∧
    (∀ W1, Kept none_ W W1 → Calls Try.prog 17 #[.pointer (some ⟨c, 0, none⟩), .int .i64 i] W1 fun e W' => e = .returned (.int .i64 (l.length : Int)) ∧ W1 = W') ∧
    (∀ W1, Kept none_ W W1 → Calls Try.prog 18 #[v, .int .i64 i] W1 fun e W' => e = .returned (.slice A l.length cap) ∧ W1 = W') ∧
    (∀ W1, Kept none_ W W1 → Calls Try.prog 20 #[.pointer (some ⟨c, 0, none⟩), .int .i64 i] W1 (AllP W1 (ns l))) := by
  by_cases hi : i < 0 ∨ (L.length : Int) ≤ i
  · exact ⟨[], none, 0, SlX.nil _ _ (Nat.zero_le _), fun W1 hk => ChainP.len_no (h.ch.ext hk) hi, fun W1 hk => of_no (h.ll.ext hk) hi, fun W1 hk => ChainP.all_no (h.ch.ext hk) hi⟩
  · obtain ⟨a, rfl⟩ := Int.eq_ofNat_of_zero_le (by omega : 0 ≤ i)
    have ha : a < L.length := by omega
    have hl := List.getElem?_eq_getElem ha
    obtain ⟨A0, c0, rfl, _⟩ := h.ll.form
    obtain ⟨b, off, hd, rfl, hbl, q0, hs⟩ := h.ll.at_ hl
    obtain ⟨A1, c1, rfl, _⟩ := hs.1.form
    rw [ns_length] at hs q0
    exact ⟨L[a], A1, c1, hs, fun W1 hk => ChainP.len_yes (h.ch.ext hk) hl, fun W1 hk => of_at (h.ll.ext hk) ha ((hk.cell (p := ⟨b, off + a, none⟩) hbl (fun h => h)).trans q0), fun W1 hk => ChainP.all_yes (h.ch.ext hk) (Nat.le_trans h.n2 (by omega)) hl⟩

/-- Where a node is, by both. -/
theorem where_in (h : St w W c g1 g2 g3 n v L) (k : Int) : ∃ (a : Int) (b : Bool),
    (Calls Try.prog 15 #[.pointer (some ⟨c, 0, none⟩), .int .i64 k] W fun e W' => e = .returned (.tuple #[.int .i64 a, .bool b]) ∧ W = W') ∧
    (Calls Try.prog 16 #[v, .int .i64 k] W fun e W' => e = .returned (.tuple #[.int .i64 a, .bool b]) ∧ Kept none_ W W') := by
  by_cases hin : ∃ (i q : Nat) (l : List Nat), k = q ∧ L[i]? = some l ∧ q ∈ l
  · obtain ⟨i, q, l, rfl, hl, hq⟩ := hin
    refine ⟨i, true, ChainP.where_yes h.ch hl hq, (in_any h.ll q).mono ?_⟩
    rintro e W' ⟨b, ⟨i', q', l', hq', hl', hm', rfl⟩ | ⟨hno, rfl⟩⟩
    · have : q = q' := by omega
      subst this
      have := cs_apart h.ch hl hl' hq hm'
      subst this
      exact ⟨rfl, Kept.below b rfl⟩
    · exact absurd rfl (hno i l hl q hq)
  · refine ⟨0, false, ChainP.where_no h.ch (fun q j m hq hj hm => hin ⟨j, q, m, hq, hj, hm⟩), (in_any h.ll k).mono ?_⟩
    rintro e W' ⟨b, ⟨i', q', l', hq', hl', hm', rfl⟩ | ⟨hno, rfl⟩⟩
    · exact absurd ⟨i', q', l', hq', hl', hm'⟩ hin
    · exact ⟨rfl, Kept.below b rfl⟩

theorem St.copied {w6 : World} {c2 q1 q2 q3 : Nat} (h : St w W c g1 g2 g3 n v L) (hc : Cs w6 c2 q1 q2 q3 n L) (b : Below W.heap.size W w6) (e1 : W.heap.size ≤ q1) (e2 : W.heap.size ≤ q2) (e3 : W.heap.size ≤ q3) : St w w6 c2 q1 q2 q3 n v L :=
  have hz := h.below.size
  { ch := hc, ll := (h.ll.to (Y := Of3 q1 q2 q3) (fun j hj => by rcases hj with rfl | rfl | rfl <;> assumption)).ext (Kept.below b rfl), below := h.below.trans (b.mono hz),
    h1 := Nat.le_trans hz e1, h2 := Nat.le_trans hz e2, h3 := Nat.le_trans hz e3, n1 := h.n1, n2 := h.n2, l1 := h.l1, l2 := h.l2 }

theorem ll_made (w1 : World) (m : Nat) (hm : m ≤ 8) (X : Nat → Prop) (hX : ∀ j, X j → j < w1.heap.size) : LL (w1.alloc (.cells (madeCells #[.slice none 0 0] m) 40)) X (.slice (some ⟨w1.heap.size, 0, none⟩) m m) (List.replicate m []) := by
  have hR : RowsIn (w1.alloc (.cells (madeCells #[.slice none 0 0] m) 40)) w1.heap.size 40 1 eHdr (List.replicate m (.slice none 0 0)) := by
    have := RowsIn.made (t := 40) (size := 1) (enc := eHdr) w1 #[.slice none 0 0] (.slice none 0 0) m rfl rfl (by decide)
    rwa [Nat.mul_one] at this
  refine ⟨List.replicate m (.slice none 0 0), ⟨⟨some ⟨w1.heap.size, 0, none⟩, m, by simp, by simp, by unfold maxLen; omega, fun _ => ?_⟩, fun b o n c _ hv hb => ?_⟩, by simp, fun i h l hh hl => ?_⟩
  · have hR' := hR
    obtain ⟨arr, hb, _, _⟩ := hR'
    exact ⟨w1.heap.size, 0, arr, (0, 0), rfl, hb, fun k x hk j u hu => by simpa using hR.cell hk j hu⟩
  · injection hv with hv
    injection hv with hv
    injection hv with hv
    have := hX b hb
    omega
  · have h1 : h = .slice none 0 0 := by rw [List.getElem?_replicate] at hh; split at hh <;> simp at hh; exact hh.symm
    have h2 : l = [] := by rw [List.getElem?_replicate] at hl; split at hl <;> simp at hl; exact hl
    subst h1 h2
    exact SlX.nil _ _ (Nat.zero_le _)
end
end Go.Proofs.Ytjblhgljajjdgaa.WChainPlays
