/- The plain law of reading: what either side makes of a line. No program in sight. -/
import Derived.Test.YtkfkkihdlkhbnaaDoorTold
namespace Go.Proofs.YtkfkkihdlkhbnaaDoor.Str
open Go.RowKit

def Ou.zero : Ou := ⟨0, 0, 0, 0, 0, 0, 0, ⟨#[]⟩⟩
def baOf (l : List UInt8) : ByteArray := ⟨l.toArray⟩
def unhG (b : List UInt8) : ByteArray := baOf ((unhx b).getD [])
/-- The pairs of words, one behind the other. -/
def foldP : List (List UInt8) → Ou → Option Ou
  | a :: b :: r, o => if a = sReply then foldP r { o with reply := unhG b } else (match num b with | none => none | some n => if (fieldOf a).isSome then foldP r (toldO o a n) else none)
  | _, o => some o
def firstW (ws : List (List UInt8)) : List UInt8 := ws.headD []
def checkO (o : Ou) (l : List UInt8) : Option Ou := if outL o = l then some o else none
def startO (ws : List (List UInt8)) : Ou := { Ou.zero with kind := kindOf (firstW ws) }
def readP (l : List UInt8) : Option Ou :=
  if (wordsL l).length % 2 = 0 then (match foldP (wordsL l) (startO (wordsL l)) with | none => none | some o => checkO o l) else none
def refO (ws : List (List UInt8)) : Ou :=
  if firstW ws = sPacket then ⟨1, atW ws 1, atW ws 3, 0, atW ws 5, atW ws 7, 0, ⟨#[]⟩⟩
  else if firstW ws = sSent then ⟨2, atW ws 1, atW ws 3, atW ws 5, 0, atW ws 9, atW ws 7, ⟨#[]⟩⟩
  else if firstW ws = sTime then ⟨3, 0, 0, 0, 0, atW ws 1, 0, ⟨#[]⟩⟩
  else if firstW ws = sReply then (if 1 < ws.length then ⟨4, 0, 0, 0, 0, atW ws 3, 0, unhG (ws.getD 1 [])⟩ else Ou.zero)
  else if firstW ws = sNone then ⟨atW ws 1, 0, 0, 0, 0, 0, 0, ⟨#[]⟩⟩ else Ou.zero
def readR (l : List UInt8) : Option Ou := checkO (refO (wordsL l)) l

def norm (o : Ou) : Ou :=
  if o.kind = 1 then ⟨1, o.seq, o.leaf, 0, o.reason, o.now, 0, ⟨#[]⟩⟩
  else if o.kind = 2 then ⟨2, o.seq, o.leaf, o.lender, 0, o.now, o.wake, ⟨#[]⟩⟩
  else if o.kind = 3 then ⟨3, 0, 0, 0, 0, o.now, 0, ⟨#[]⟩⟩
  else if o.kind = 4 then ⟨4, 0, 0, 0, 0, o.now, 0, o.reply⟩
  else ⟨o.kind, 0, 0, 0, 0, 0, 0, ⟨#[]⟩⟩
theorem out_norm (o : Ou) : outL (norm o) = outL o := by
  unfold norm
  split
  · rename_i h; simp [outL, h, psPacket]
  split
  · rename_i h; simp [outL, h, psSent]
  split
  · rename_i h; simp [outL, h]
  split
  · rename_i h; simp [outL, h]
  · rename_i h1 h2 h3 h4; simp [outL, h1, h2, h3, h4]

theorem itoa_nb (n : Int) : ∀ c ∈ Lib.itoa n, c ≠ 32 := by
  intro c hc e
  subst e
  by_cases h : n < 0
  · rw [itoa_neg' h] at hc
    rcases List.mem_cons.1 hc with e | hc
    · cases e
    · have := digits_all _ _ hc
      simp at this
  · rw [itoa_pos' (by omega)] at hc
    have := digits_all _ _ hc
    simp at this
theorem hex_nb (t : List UInt8) : ∀ c ∈ hex t, c ≠ 32 := by
  intro c hc e
  subst e
  unfold hex at hc
  split at hc
  · simp at hc
  · have := hexL_all t _ hc
    rw [isHex_iff] at this
    simp at this
theorem out1 (o : Ou) (hk : o.kind = 1) : wordsL (outL o) = [sPacket, Lib.itoa o.seq, sLeaf, Lib.itoa o.leaf, sLost, Lib.itoa o.reason, sAt, Lib.itoa o.now] := by
  have hL : outL o = sPacket ++ 32 :: (Lib.itoa o.seq ++ 32 :: (sLeaf ++ 32 :: (Lib.itoa o.leaf ++ 32 :: (sLost ++ 32 :: (Lib.itoa o.reason ++ 32 :: (sAt ++ 32 :: Lib.itoa o.now)))))) := by
    unfold outL psPacket
    rw [if_pos hk, line_cons, line_cons, line_cons, line_one]
    simp
  rw [hL, words_app _ _ (by decide), words_app _ _ (itoa_nb _), words_app _ _ (by decide), words_app _ _ (itoa_nb _), words_app _ _ (by decide), words_app _ _ (itoa_nb _), words_app _ _ (by decide), words_none _ (itoa_nb _)]
theorem out2 (o : Ou) (hk : o.kind = 2) : wordsL (outL o) = [sSent, Lib.itoa o.seq, sLeaf, Lib.itoa o.leaf, sBy, Lib.itoa o.lender, sWake, Lib.itoa o.wake, sAt, Lib.itoa o.now] := by
  have hL : outL o = sSent ++ 32 :: (Lib.itoa o.seq ++ 32 :: (sLeaf ++ 32 :: (Lib.itoa o.leaf ++ 32 :: (sBy ++ 32 :: (Lib.itoa o.lender ++ 32 :: (sWake ++ 32 :: (Lib.itoa o.wake ++ 32 :: (sAt ++ 32 :: Lib.itoa o.now)))))))) := by
    unfold outL
    rw [if_neg (by omega), if_pos hk, psSent, line_cons, line_cons, line_cons, line_cons, line_one]
    simp
  rw [hL, words_app _ _ (by decide), words_app _ _ (itoa_nb _), words_app _ _ (by decide), words_app _ _ (itoa_nb _), words_app _ _ (by decide), words_app _ _ (itoa_nb _), words_app _ _ (by decide), words_app _ _ (itoa_nb _), words_app _ _ (by decide), words_none _ (itoa_nb _)]
theorem out3 (o : Ou) (hk : o.kind = 3) : wordsL (outL o) = [sTime, Lib.itoa o.now] := by
  have hL : outL o = sTime ++ 32 :: Lib.itoa o.now := by
    unfold outL
    rw [if_neg (by omega), if_neg (by omega), if_pos hk, line_one]
    simp
  rw [hL, words_app _ _ (by decide), words_none _ (itoa_nb _)]
theorem out4 (o : Ou) (hk : o.kind = 4) : wordsL (outL o) = [sReply, hex o.reply.data.toList, sAt, Lib.itoa o.now] := by
  have hL : outL o = sReply ++ 32 :: (hex o.reply.data.toList ++ 32 :: (sAt ++ 32 :: Lib.itoa o.now)) := by
    unfold outL
    rw [if_neg (by omega), if_neg (by omega), if_neg (by omega), if_pos hk, line_one]
    simp
  rw [hL, words_app _ _ (by decide), words_app _ _ (hex_nb _), words_app _ _ (by decide), words_none _ (itoa_nb _)]
theorem out0 (o : Ou) (h1 : o.kind ≠ 1) (h2 : o.kind ≠ 2) (h3 : o.kind ≠ 3) (h4 : o.kind ≠ 4) : wordsL (outL o) = [sNone, Lib.itoa o.kind] := by
  have hL : outL o = sNone ++ 32 :: Lib.itoa o.kind := by
    unfold outL
    rw [if_neg h1, if_neg h2, if_neg h3, if_neg h4, line_one]
    simp
  rw [hL, words_app _ _ (by decide), words_none _ (itoa_nb _)]
theorem unhG_hex (s : ByteArray) : unhG (hex s.data.toList) = s := by
  unfold unhG baOf
  rw [unhx_hex]
  exact str_eq (by simp)

theorem fold_num {a : List UInt8} {n : Int} {r : List (List UInt8)} {o : Ou} (h1 : a ≠ sReply) (hn : I64 n) (hf : (fieldOf a).isSome = true) : foldP (a :: Lib.itoa n :: r) o = foldP r (toldO o a n) := by
  rw [foldP, if_neg h1, num_itoa hn]
  simp [hf]
theorem fold_end (o : Ou) : foldP [] o = some o := rfl
theorem at_itoa {ws : List (List UInt8)} {i : Nat} {n : Int} (h : ws[i]? = some (Lib.itoa n)) (hn : I64 n) : atW ws i = n := by
  unfold atW
  rw [h]
  simp [num_itoa hn]
theorem first_cons (a : List UInt8) (r : List (List UInt8)) : firstW (a :: r) = a := rfl
theorem told_f {x : List UInt8} {k : Nat} (h : fieldOf x = some k) (o : Ou) (n : Int) : toldO o x n = setF o k n := by unfold toldO; rw [h]
theorem start_k {a : List UInt8} {k : Int} (h : kindOf a = k) (r : List (List UInt8)) : startO (a :: r) = ⟨k, 0, 0, 0, 0, 0, 0, ⟨#[]⟩⟩ := by unfold startO; rw [first_cons, h]; rfl
theorem f_packet : fieldOf sPacket = some 1 := by decide
theorem f_sent : fieldOf sSent = some 1 := by decide
theorem f_leaf : fieldOf sLeaf = some 2 := by decide
theorem f_lost : fieldOf sLost = some 4 := by decide
theorem f_by : fieldOf sBy = some 3 := by decide
theorem f_wake : fieldOf sWake = some 6 := by decide
theorem f_at : fieldOf sAt = some 5 := by decide
theorem f_time : fieldOf sTime = some 5 := by decide
theorem f_none : fieldOf sNone = some 0 := by decide
theorem k_packet : kindOf sPacket = 1 := by decide
theorem k_sent : kindOf sSent = 2 := by decide
theorem k_time : kindOf sTime = 3 := by decide
theorem k_reply : kindOf sReply = 4 := by decide
theorem k_none : kindOf sNone = 0 := by decide
theorem readP_by {l : List UInt8} {ws : List (List UInt8)} {o : Ou} (hw : wordsL l = ws) (h2 : ws.length % 2 = 0) (hf : foldP ws (startO ws) = some o) : readP l = checkO o l := by
  unfold readP
  rw [hw, if_pos h2, hf]
theorem read_out (o : Ou) (ho : o.Ok) : readP (outL o) = some (norm o) ∧ readR (outL o) = some (norm o) := by
  have hc : checkO (norm o) (outL o) = some (norm o) := by unfold checkO; rw [if_pos (out_norm o)]
  obtain ⟨i0, i1, i2, i3, i4, i5, i6⟩ := ho
  by_cases k1 : o.kind = 1
  · have hn : norm o = ⟨1, o.seq, o.leaf, 0, o.reason, o.now, 0, ⟨#[]⟩⟩ := by unfold norm; rw [if_pos k1]
    have hw := out1 o k1
    constructor
    · rw [readP_by hw (by simp) (o := norm o) ?_, hc]
      rw [hn, start_k k_packet, fold_num (by decide) i1 (by decide), fold_num (by decide) i2 (by decide), fold_num (by decide) i4 (by decide), fold_num (by decide) i5 (by decide), fold_end, told_f f_packet, told_f f_leaf, told_f f_lost, told_f f_at]
      rfl
    · unfold readR
      have e : refO (wordsL (outL o)) = norm o := by
        rw [hw, hn, refO, first_cons, if_pos rfl, at_itoa (n := o.seq) rfl i1, at_itoa (n := o.leaf) rfl i2, at_itoa (n := o.reason) rfl i4, at_itoa (n := o.now) rfl i5]
      rw [e, hc]
  by_cases k2 : o.kind = 2
  · have hn : norm o = ⟨2, o.seq, o.leaf, o.lender, 0, o.now, o.wake, ⟨#[]⟩⟩ := by unfold norm; rw [if_neg k1, if_pos k2]
    have hw := out2 o k2
    constructor
    · rw [readP_by hw (by simp) (o := norm o) ?_, hc]
      rw [hn, start_k k_sent, fold_num (by decide) i1 (by decide), fold_num (by decide) i2 (by decide), fold_num (by decide) i3 (by decide), fold_num (by decide) i6 (by decide), fold_num (by decide) i5 (by decide), fold_end, told_f f_sent, told_f f_leaf, told_f f_by, told_f f_wake, told_f f_at]
      rfl
    · unfold readR
      have e : refO (wordsL (outL o)) = norm o := by
        rw [hw, hn, refO, first_cons, if_neg (by decide), if_pos rfl, at_itoa (n := o.seq) rfl i1, at_itoa (n := o.leaf) rfl i2, at_itoa (n := o.lender) rfl i3, at_itoa (n := o.now) rfl i5, at_itoa (n := o.wake) rfl i6]
      rw [e, hc]
  by_cases k3 : o.kind = 3
  · have hn : norm o = ⟨3, 0, 0, 0, 0, o.now, 0, ⟨#[]⟩⟩ := by unfold norm; rw [if_neg k1, if_neg k2, if_pos k3]
    have hw := out3 o k3
    constructor
    · rw [readP_by hw (by simp) (o := norm o) ?_, hc]
      rw [hn, start_k k_time, fold_num (by decide) i5 (by decide), fold_end, told_f f_time]
      rfl
    · unfold readR
      have e : refO (wordsL (outL o)) = norm o := by
        rw [hw, hn, refO, first_cons, if_neg (by decide), if_neg (by decide), if_pos rfl, at_itoa (n := o.now) rfl i5]
      rw [e, hc]
  by_cases k4 : o.kind = 4
  · have hn : norm o = ⟨4, 0, 0, 0, 0, o.now, 0, o.reply⟩ := by unfold norm; rw [if_neg k1, if_neg k2, if_neg k3, if_pos k4]
    have hw := out4 o k4
    constructor
    · rw [readP_by hw (by simp) (o := norm o) ?_, hc]
      rw [hn, start_k k_reply, foldP, if_pos rfl, unhG_hex, fold_num (by decide) i5 (by decide), fold_end, told_f f_at]
      rfl
    · unfold readR
      have e : refO (wordsL (outL o)) = norm o := by
        rw [hw, hn, refO, first_cons, if_neg (by decide), if_neg (by decide), if_neg (by decide), if_pos rfl, if_pos (by simp), at_itoa (n := o.now) rfl i5]
        show (⟨4, 0, 0, 0, 0, o.now, 0, unhG (hex o.reply.data.toList)⟩ : Ou) = _
        rw [unhG_hex]
      rw [e, hc]
  · have hn : norm o = ⟨o.kind, 0, 0, 0, 0, 0, 0, ⟨#[]⟩⟩ := by unfold norm; rw [if_neg k1, if_neg k2, if_neg k3, if_neg k4]
    have hw := out0 o k1 k2 k3 k4
    constructor
    · rw [readP_by hw (by simp) (o := norm o) ?_, hc]
      rw [hn, start_k k_none, fold_num (by decide) i0 (by decide), fold_end, told_f f_none]
      rfl
    · unfold readR
      have e : refO (wordsL (outL o)) = norm o := by
        rw [hw, hn, refO, first_cons, if_neg (by decide), if_neg (by decide), if_neg (by decide), if_neg (by decide), if_pos rfl, at_itoa (n := o.kind) rfl i0]
      rw [e, hc]

theorem i64_0 : I64 0 := ⟨by omega, by omega⟩
theorem zero_ok : Ou.zero.Ok := ⟨i64_0, i64_0, i64_0, i64_0, i64_0, i64_0, i64_0⟩
theorem kind_i64 (x : List UInt8) : I64 (kindOf x) := by
  unfold kindOf
  repeat' split
  all_goals exact ⟨by omega, by omega⟩
theorem start_ok (ws : List (List UInt8)) : (startO ws).Ok := ⟨kind_i64 _, i64_0, i64_0, i64_0, i64_0, i64_0, i64_0⟩
theorem setF_ok {o : Ou} (h : o.Ok) {n : Int} (hn : I64 n) (k : Nat) : (setF o k n).Ok := by
  obtain ⟨i0, i1, i2, i3, i4, i5, i6⟩ := h
  unfold setF
  split <;> constructor <;> assumption
theorem told_ok {o : Ou} (h : o.Ok) {n : Int} (hn : I64 n) (x : List UInt8) : (toldO o x n).Ok := by
  unfold toldO
  split
  · exact setF_ok h hn _
  · exact h
theorem fold_cons (a b : List UInt8) (r : List (List UInt8)) (o : Ou) : foldP (a :: b :: r) o = if a = sReply then foldP r { o with reply := unhG b } else (match num b with | none => none | some n => if (fieldOf a).isSome then foldP r (toldO o a n) else none) := by rw [foldP]
theorem fold_one (a : List UInt8) (o : Ou) : foldP [a] o = some o := rfl
theorem fold_ok (m : Nat) : ∀ (ws : List (List UInt8)) (o x : Ou), ws.length ≤ m → o.Ok → foldP ws o = some x → x.Ok := by
  induction m with
  | zero =>
    intro ws o x hl h e
    have : ws = [] := List.eq_nil_of_length_eq_zero (by omega)
    subst this
    rw [fold_end] at e
    injection e with e
    exact e ▸ h
  | succ m ih =>
    intro ws o x hl h e
    match ws, hl, e with
    | [], _, e =>
      rw [fold_end] at e
      injection e with e
      exact e ▸ h
    | [a], _, e =>
      rw [fold_one] at e
      injection e with e
      exact e ▸ h
    | a :: b :: r, hl, e =>
      have hr : r.length ≤ m := by simp at hl; omega
      rw [fold_cons] at e
      by_cases ha : a = sReply
      · rw [if_pos ha] at e
        exact ih r { o with reply := unhG b } x hr ⟨h.k, h.s, h.l, h.d, h.r, h.n, h.w⟩ e
      · rw [if_neg ha] at e
        cases hn : num b with
        | none => rw [hn] at e; cases e
        | some n =>
          rw [hn] at e
          simp only at e
          split at e
          · exact ih r _ x hr (told_ok h (num_some hn).2 a) e
          · cases e
theorem check_some {o x : Ou} {l : List UInt8} (h : checkO o l = some x) : o = x ∧ outL x = l := by
  unfold checkO at h
  split at h
  · rename_i e; injection h with h; exact ⟨h, h ▸ e⟩
  · cases h
theorem at_i64 (ws : List (List UInt8)) (i : Nat) : I64 (atW ws i) := by
  unfold atW
  split
  · rename_i x _
    cases h : num x with
    | none => exact i64_0
    | some n => exact (num_some h).2
  · exact i64_0
theorem ref_ok (ws : List (List UInt8)) : (refO ws).Ok := by
  have i1 : I64 1 := ⟨by omega, by omega⟩
  have i2 : I64 2 := ⟨by omega, by omega⟩
  have i3 : I64 3 := ⟨by omega, by omega⟩
  have i4 : I64 4 := ⟨by omega, by omega⟩
  have z := i64_0
  have a := fun i => at_i64 ws i
  unfold refO
  repeat' split
  all_goals first | exact zero_ok | (constructor <;> first | assumption | exact a _)
theorem readP_some {l : List UInt8} {o : Ou} (h : readP l = some o) : outL o = l ∧ o.Ok := by
  unfold readP at h
  split at h
  · split at h
    · cases h
    · rename_i x hx
      obtain ⟨rfl, h2⟩ := check_some h
      exact ⟨h2, fold_ok _ _ _ _ (Nat.le_refl _) (start_ok _) hx⟩
  · cases h
theorem readR_some {l : List UInt8} {o : Ou} (h : readR l = some o) : outL o = l ∧ o.Ok := by
  obtain ⟨h1, h2⟩ := check_some h
  exact ⟨h2, h1 ▸ ref_ok _⟩
/-- Both sides read alike. -/
theorem read_eq (l : List UInt8) : readP l = readR l := by
  cases hp : readP l with
  | some o =>
    obtain ⟨rfl, ho⟩ := readP_some hp
    rw [(read_out o ho).1] at hp
    rw [(read_out o ho).2, hp]
  | none =>
    cases hr : readR l with
    | none => rfl
    | some o =>
      obtain ⟨rfl, ho⟩ := readR_some hr
      rw [(read_out o ho).1] at hp
      cases hp
end Go.Proofs.YtkfkkihdlkhbnaaDoor.Str
