/-
  What package store does, in plain Lean: messages in a chain. No condition.
-/
import Derived.Test.YtfiojlmccflplaaSpSpec
import Derived.Test.YtfiojlmccflplaaSqSpec
import Derived.Test.YtfiojlmccflplaaTaSpec
import Derived.Test.YtfiojlmccflplaaDM
namespace Go.Proofs.Ytfiojlmccflplaa
open Go Go.RowKit D
set_option linter.unusedVariables false
set_option linter.unusedSimpArgs false
/-! numbers -/
theorem ior_nat {x y : Nat} (hx : x < 9223372036854775808) (hy : y < 9223372036854775808) (hz : x ||| y < 9223372036854775808) : ior .i64 (x : Int) (y : Int) = ((x ||| y : Nat) : Int) := by
  unfold ior
  rw [BitVec.toNat_or, show IntKind.i64.bits = 64 from rfl, bv_nat 64 x (by omega), bv_nat 64 y (by omega)]
  exact wrap_i64_in (by omega) (by omega)
theorem num_or {a b c d : Nat} (ha : a < 256) (hb : b < 256) (hc : c < 256) (hd : d < 256) :
    ior .i64 (ior .i64 (ior .i64 (IntKind.i64.wrap ((a : Int) * 2 ^ 24)) (IntKind.i64.wrap ((b : Int) * 2 ^ 16))) (IntKind.i64.wrap ((c : Int) * 2 ^ 8))) (d : Int) = 256 * (256 * (256 * (a : Int) + b) + c) + d := by
  have e1 : IntKind.i64.wrap ((a : Int) * 2 ^ 24) = ((a * 2 ^ 24 : Nat) : Int) := by rw [wrap_i64_in (by omega) (by omega)]; omega
  have e2 : IntKind.i64.wrap ((b : Int) * 2 ^ 16) = ((b * 2 ^ 16 : Nat) : Int) := by rw [wrap_i64_in (by omega) (by omega)]; omega
  have e3 : IntKind.i64.wrap ((c : Int) * 2 ^ 8) = ((c * 2 ^ 8 : Nat) : Int) := by rw [wrap_i64_in (by omega) (by omega)]; omega
  have o1 : a * 2 ^ 24 ||| b * 2 ^ 16 = b * 2 ^ 16 + a * 2 ^ 24 := by rw [Nat.or_comm]; exact or_add (by omega)
  have o2 : (b * 2 ^ 16 + a * 2 ^ 24) ||| c * 2 ^ 8 = c * 2 ^ 8 + (b * 2 ^ 16 + a * 2 ^ 24) := by
    have : b * 2 ^ 16 + a * 2 ^ 24 = (b + a * 2 ^ 8) * 2 ^ 16 := by omega
    rw [Nat.or_comm, this]; exact or_add (by omega)
  have o3 : (c * 2 ^ 8 + (b * 2 ^ 16 + a * 2 ^ 24)) ||| d = d + (c * 2 ^ 8 + (b * 2 ^ 16 + a * 2 ^ 24)) := by
    have : c * 2 ^ 8 + (b * 2 ^ 16 + a * 2 ^ 24) = (c + (b * 2 ^ 8 + a * 2 ^ 16)) * 2 ^ 8 := by omega
    rw [Nat.or_comm, this]; exact or_add (by omega)
  rw [e1, e2, e3, ior_nat (by omega) (by omega) (by rw [o1]; omega), o1, ior_nat (by omega) (by omega) (by rw [o2]; omega), o2, ior_nat (by omega) (by omega) (by rw [o3]; omega), o3]
  omega
theorem num_eq (s : List UInt8) : ior .i64 (ior .i64 (ior .i64 (IntKind.i64.wrap (bt s 0 * 2 ^ 24)) (IntKind.i64.wrap (bt s 1 * 2 ^ 16))) (IntKind.i64.wrap (bt s 2 * 2 ^ 8))) (bt s 3) = numB s := by
  have h : ∀ i, (s.getD i 0).toNat < 256 := fun i => (s.getD i 0).toNat_lt
  rw [numB_def, numK_succ, numK_succ, numK_succ, numK_succ, numK_zero]
  have := num_or (h 0) (h 1) (h 2) (h 3)
  unfold bt
  rw [this]; omega
theorem bt_toBS {xs : List Int} {r : List UInt8} {i : Nat} (hi : i < xs.length) (h : 0 ≤ xs.getD i 0 ∧ xs.getD i 0 ≤ 255) : bt (toB xs ++ r) i = xs.getD i 0 := by
  have h1 : i < (toB xs).length := by rw [toB_length]; exact hi
  have h2 : (toB xs ++ r).getD i 0 = UInt8.ofNat (xs.getD i 0).toNat := by
    rw [List.getD_eq_getElem?_getD, List.getElem?_append_left h1]
    simp [toB, hi]
  rw [bt, h2, UInt8.toNat_ofNat']
  omega
theorem numB_fourS {n : Int} (h0 : 0 ≤ n) (h1 : n < 4294967296) (r : List UInt8) : numB (fourB n ++ r) = n := by
  have hw : ∀ x : Int, 0 ≤ IntKind.u8.wrap x ∧ IntKind.u8.wrap x ≤ 255 := fun x => by rw [wrap_u8]; omega
  have e0 : bt (fourB n ++ r) 0 = n / 2 ^ 24 % 256 := by rw [fourB_def, bt_toBS (xs := [IntKind.u8.wrap (n / 2 ^ 24), IntKind.u8.wrap (n / 2 ^ 16), IntKind.u8.wrap (n / 2 ^ 8), IntKind.u8.wrap n]) (i := 0) (by simp) (hw _)]; exact wrap_u8 _
  have e1 : bt (fourB n ++ r) 1 = n / 2 ^ 16 % 256 := by rw [fourB_def, bt_toBS (xs := [IntKind.u8.wrap (n / 2 ^ 24), IntKind.u8.wrap (n / 2 ^ 16), IntKind.u8.wrap (n / 2 ^ 8), IntKind.u8.wrap n]) (i := 1) (by simp) (hw _)]; exact wrap_u8 _
  have e2 : bt (fourB n ++ r) 2 = n / 2 ^ 8 % 256 := by rw [fourB_def, bt_toBS (xs := [IntKind.u8.wrap (n / 2 ^ 24), IntKind.u8.wrap (n / 2 ^ 16), IntKind.u8.wrap (n / 2 ^ 8), IntKind.u8.wrap n]) (i := 2) (by simp) (hw _)]; exact wrap_u8 _
  have e3 : bt (fourB n ++ r) 3 = n % 256 := by rw [fourB_def, bt_toBS (xs := [IntKind.u8.wrap (n / 2 ^ 24), IntKind.u8.wrap (n / 2 ^ 16), IntKind.u8.wrap (n / 2 ^ 8), IntKind.u8.wrap n]) (i := 3) (by simp) (hw _)]; exact wrap_u8 _
  rw [numB_def, numK_succ, numK_succ, numK_succ, numK_succ, numK_zero, e0, e1, e2, e3]
  omega
/-! frames in a chain -/
def z32 : List UInt8 := List.replicate 32 0
theorem z32_len : z32.length = 32 := rfl
/-- A frame: its body, its bytes, the next head. -/
structure FrS where
  body : List UInt8
  size : Int
  next : List UInt8
def frN (s : List UInt8) : Nat := (numB s).toNat
def frOk (s : List UInt8) : Prop := ¬ (s.length : Int) < 4 ∧ ¬ (numB s < 37 ∨ 8228 < numB s ∨ (s.length : Int) < 4 + numB s + 32)
instance (s : List UInt8) : Decidable (frOk s) := by unfold frOk; infer_instance
def frBody (s : List UInt8) : List UInt8 := (s.take (4 + numB s).toNat).drop (Int.toNat 4)
def frNext (s : List UInt8) : List UInt8 := (s.take (4 + numB s + 32).toNat).drop (4 + numB s).toNat
/-- The first frame behind a head, and whether it is one. -/
def firstS (s head : List UInt8) : FrS × Bool := if frOk s then (⟨frBody s, 4 + numB s + 32, frNext s⟩, decide (frNext s = sha256 (head ++ frBody s))) else (⟨[], 0, []⟩, false)
theorem firstS_no {s head : List UInt8} (h : ¬ frOk s) : firstS s head = (⟨[], 0, []⟩, false) := if_neg h
theorem firstS_yes {s head : List UInt8} (h : frOk s) : firstS s head = (⟨frBody s, 4 + numB s + 32, frNext s⟩, decide (frNext s = sha256 (head ++ frBody s))) := if_pos h
theorem frOk_len {s : List UInt8} (h : frOk s) : (frBody s).length = frN s ∧ (frNext s).length = 32 ∧ 37 ≤ frN s ∧ frN s ≤ 8228 ∧ 4 + frN s + 32 ≤ s.length ∧ (numB s) = (frN s : Int) := by
  obtain ⟨h1, h2⟩ := h
  have hn := numB_range s
  have hN : numB s = (frN s : Int) := by unfold frN; omega
  refine ⟨?_, ?_, by omega, by omega, by omega, hN⟩
  · unfold frBody
    rw [List.length_drop, List.length_take, show (Int.toNat 4) = 4 from rfl]; omega
  · unfold frNext
    rw [List.length_drop, List.length_take]; omega
theorem firstS_ok {s head : List UInt8} (h : (firstS s head).2 = true) : frOk s ∧ firstS s head = (⟨frBody s, 4 + numB s + 32, frNext s⟩, true) ∧ frNext s = sha256 (head ++ frBody s) := by
  by_cases ho : frOk s
  · rw [firstS_yes ho] at h ⊢
    have := of_decide_eq_true h
    exact ⟨ho, by rw [decide_eq_true this], this⟩
  · rw [firstS_no ho] at h; cases h
/-! tapes stay good -/
section
variable {t : TapeS}
theorem tk_act (h : TapeOk t) : TapeOk (actP t).2 := by
  obtain ⟨h1, h2, h3, h4⟩ := h
  unfold actP
  split
  · exact ⟨h1, h2, h3, h4⟩
  · exact ⟨h1, h2, by show 0 ≤ max 0 (t.ar - 1); omega, by show max 0 (t.ar - 1) ≤ _; omega⟩
theorem tk_append (h : TapeOk t) (d : List UInt8) : TapeOk (appendP t d).2 := by
  unfold appendP
  split
  · exact h
  · split
    · exact h
    · refine tk_act ⟨h.1, ?_, h.2.2.1, h.2.2.2⟩
      show ((t.f.length + (t.l ++ d).length : Nat) : Int) ≤ t.lim
      rw [List.length_append]; omega
theorem tk_sync (h : TapeOk t) : TapeOk (syncP t).2 := by
  obtain ⟨h1, h2, h3, h4⟩ := id h
  unfold syncP
  split
  · exact h
  · split
    · exact ⟨h1, h2, h3, h4⟩
    · refine ⟨h1, ?_, by show 0 ≤ max 0 (t.ar - 1); omega, by show max 0 (t.ar - 1) ≤ _; omega⟩
      show (((t.f ++ t.l).length + 0 : Nat) : Int) ≤ t.lim
      rw [List.length_append]; omega
theorem tk_cut (h : TapeOk t) (n : Int) : TapeOk (cutP t n).2 := by
  obtain ⟨h1, h2, h3, h4⟩ := id h
  unfold cutP
  split
  · exact h
  · split
    · exact h
    · split
      · exact ⟨h1, h2, h3, h4⟩
      · refine ⟨h1, ?_, by show 0 ≤ max 0 (t.ar - 1); omega, by show max 0 (t.ar - 1) ≤ _; omega⟩
        show ((((t.f ++ t.l).take n.toNat).length + 0 : Nat) : Int) ≤ t.lim
        rw [List.length_take, List.length_append]; omega
theorem tk_arm (h : TapeOk t) {n : Int} (hn : n ≤ 9223372036854775807) : TapeOk (armP t n) := ⟨h.1, h.2.1, by show 0 ≤ max n 0; omega, by show max n 0 ≤ _; omega⟩
theorem spoil_len (l : List UInt8) : (spoilP l).length = l.length := by
  unfold spoilP
  split
  · rfl
  · rw [List.length_append, List.length_take]; simp [toB]; omega
theorem tk_crash (h : TapeOk t) (k : Int) (sp : Bool) : TapeOk (crashP t k sp) := by
  obtain ⟨h1, h2, h3, h4⟩ := h
  refine ⟨h1, ?_, by show (0 : Int) ≤ 0; omega, by show (0 : Int) ≤ _; omega⟩
  show (((t.f ++ (if sp = true then spoilP (t.l.take (max 0 (min k (t.l.length : Int))).toNat) else t.l.take (max 0 (min k (t.l.length : Int))).toNat)).length + 0 : Nat) : Int) ≤ t.lim
  rw [List.length_append]
  split
  · rw [spoil_len, List.length_take]; omega
  · rw [List.length_take]; omega
theorem tk_len (h : TapeOk t) : (t.f ++ t.l).length ≤ 16777216 := by
  have := h.1; have := h.2.1
  rw [List.length_append]; omega
end
/-! messages of senders -/
structure OneS where
  who : List UInt8
  seq : Int
  dat : List UInt8
abbrev OneL := List OneS
def oneR (o : OneS) : RecS := ⟨o.seq, o.dat⟩
def oneC (o : OneS) : List Value := [S o.who, .int .i64 o.seq, S o.dat]
theorem oneC_len (o : OneS) : (oneC o).length = 3 := rfl
theorem oneC_one (o : OneS) : ∀ u ∈ oneC o, u.oneCell' = true := by
  intro u hu
  simp only [oneC, List.mem_cons, List.mem_nil_iff, or_false] at hu
  rcases hu with rfl | rfl | rfl <;> rfl
def ofP (L : OneL) (who : List UInt8) : RecL := (L.filter fun o => decide (o.who = who)).map oneR
theorem ofP_nil (who : List UInt8) : ofP [] who = [] := rfl
theorem ofP_snoc (L : OneL) (o : OneS) (who : List UInt8) : ofP (L ++ [o]) who = if o.who = who then ofP L who ++ [oneR o] else ofP L who := by
  unfold ofP
  rw [List.filter_append, List.map_append]
  by_cases h : o.who = who
  · simp [h]
  · simp [h]
theorem ofP_len (L : OneL) (who : List UInt8) : (ofP L who).length ≤ L.length := by
  unfold ofP
  rw [List.length_map]
  exact List.length_filter_le _ _
def mkP (L : OneL) (who : List UInt8) : Int := ((ofP L who).length : Int)
/-- Each sender's messages are numbered from 1 on. -/
def StOk (L : OneL) : Prop := ∀ who (i : Nat) r, (ofP L who)[i]? = some r → r.seq = i + 1
theorem stok0 : StOk [] := fun who i r h => by rw [ofP_nil] at h; simp at h
theorem stok_snoc {L : OneL} (h : StOk L) {o : OneS} (ho : o.seq = mkP L o.who + 1) : StOk (L ++ [o]) := by
  intro who i r hr
  rw [ofP_snoc] at hr
  by_cases hw : o.who = who
  · rw [if_pos hw, List.getElem?_append] at hr
    split at hr
    · exact h who i r hr
    · rename_i hi
      have hz : i - (ofP L who).length = 0 := by
        have := (List.getElem?_eq_some_iff.1 hr).1
        simp at this; omega
      rw [hz] at hr
      simp at hr
      subst hr
      show o.seq = _
      rw [ho]
      unfold mkP
      rw [hw]
      have := Nat.not_lt.1 hi
      omega
  · rw [if_neg hw] at hr
    exact h who i r hr
structure StS where
  L : OneL
  h : List UInt8
def st0 : StS := ⟨[], z32⟩
def tWho (body : List UInt8) : List UInt8 := body.take (Int.toNat 32)
def tSeq (body : List UInt8) : Int := numB (body.drop (Int.toNat 32))
def tDat (body : List UInt8) : List UInt8 := body.drop (Int.toNat 36)
def takeS (s : StS) (body next : List UInt8) : Bool × StS :=
  if tSeq body = mkP s.L (tWho body) + 1 then (true, ⟨s.L ++ [⟨tWho body, tSeq body, tDat body⟩], next⟩) else (false, s)
theorem takeS_yes {s : StS} {body next : List UInt8} (h : tSeq body = mkP s.L (tWho body) + 1) : takeS s body next = (true, ⟨s.L ++ [⟨tWho body, tSeq body, tDat body⟩], next⟩) := if_pos h
theorem takeS_no {s : StS} {body next : List UInt8} (h : ¬ tSeq body = mkP s.L (tWho body) + 1) : takeS s body next = (false, s) := if_neg h
theorem takeS_ok {s : StS} (h : StOk s.L) (body next : List UInt8) : StOk (takeS s body next).2.L := by
  by_cases hc : tSeq body = mkP s.L (tWho body) + 1
  · rw [takeS_yes hc]; exact stok_snoc h hc
  · rw [takeS_no hc]; exact h
theorem takeS_len (s : StS) (body next : List UInt8) : (takeS s body next).2.L.length ≤ s.L.length + 1 := by
  by_cases hc : tSeq body = mkP s.L (tWho body) + 1
  · rw [takeS_yes hc]; simp
  · rw [takeS_no hc]; simp
def goesS (s : StS) (all : List UInt8) : Prop := (firstS all s.h).2 = true ∧ (takeS s (firstS all s.h).1.body (firstS all s.h).1.next).1 = true
instance (s : StS) (all : List UInt8) : Decidable (goesS s all) := by unfold goesS; infer_instance
def nextS (s : StS) (all : List UInt8) : StS := (takeS s (firstS all s.h).1.body (firstS all s.h).1.next).2
def stepS (s : StS) (all : List UInt8) : Nat := (firstS all s.h).1.size.toNat
theorem goes_len {s : StS} {all : List UInt8} (h : goesS s all) : 0 < stepS s all ∧ stepS s all ≤ all.length ∧ (firstS all s.h).1.size = (stepS s all : Int) ∧ 73 ≤ stepS s all := by
  obtain ⟨h1, h2, h3⟩ := firstS_ok h.1
  obtain ⟨g1, g2, g3, g4, g5, g6⟩ := frOk_len h1
  unfold stepS
  rw [h2]
  dsimp only
  omega
theorem nextS_head {s : StS} {all : List UInt8} (h : goesS s all) : (nextS s all).h.length = 32 := by
  obtain ⟨h1, h2, h3⟩ := firstS_ok h.1
  obtain ⟨g1, g2, g3, g4, g5, g6⟩ := frOk_len h1
  have ht := h.2
  unfold nextS
  by_cases hc : tSeq (firstS all s.h).1.body = mkP s.L (tWho (firstS all s.h).1.body) + 1
  · rw [takeS_yes hc]
    show (firstS all s.h).1.next.length = 32
    rw [h2]; exact g2
  · rw [takeS_no hc] at ht; cases ht
theorem takeS_false {s : StS} {body next : List UInt8} (h : (takeS s body next).1 = false) : (takeS s body next).2 = s := by
  by_cases hc : tSeq body = mkP s.L (tWho body) + 1
  · rw [takeS_yes hc] at h; cases h
  · rw [takeS_no hc]
theorem TREAD_dead {t : TapeS} (h : t.dd = true) : readP t = ([], 41) := if_pos h
theorem TREAD_ok {t : TapeS} (h : t.dd = false) : readP t = (t.f ++ t.l, 0) := if_neg (by simp [h])
def scanG : Nat → StS → List UInt8 → Nat × StS
  | 0, s, _ => (0, s)
  | k + 1, s, all => if goesS s all then (stepS s all + (scanG k (nextS s all) (all.drop (stepS s all))).1, (scanG k (nextS s all) (all.drop (stepS s all))).2) else (0, s)
theorem scanG_go {k : Nat} {s : StS} {all : List UInt8} (h : goesS s all) : scanG (k + 1) s all = (stepS s all + (scanG k (nextS s all) (all.drop (stepS s all))).1, (scanG k (nextS s all) (all.drop (stepS s all))).2) := by rw [scanG, if_pos h]
theorem scanG_end {k : Nat} {s : StS} {all : List UInt8} (h : ¬ goesS s all) : scanG k s all = (0, s) := by
  cases k with
  | zero => rfl
  | succ k => rw [scanG, if_neg h]
theorem scanG_more : ∀ (k j : Nat) (s : StS) (all : List UInt8), all.length < k → all.length < j → scanG k s all = scanG j s all := by
  intro k
  induction k with
  | zero => intro j s all h; omega
  | succ k ih =>
    intro j s all h1 h2
    obtain ⟨j, rfl⟩ : ∃ i, j = i + 1 := ⟨j - 1, by omega⟩
    by_cases hg : goesS s all
    · have hl := goes_len hg
      rw [scanG_go hg, scanG_go hg, ih j _ _ (by rw [List.length_drop]; omega) (by rw [List.length_drop]; omega)]
    · rw [scanG_end hg, scanG_end hg]
/-- How far bytes are taken up, and what there is then. -/
def scanS (s : StS) (all : List UInt8) : Nat × StS := scanG (all.length + 1) s all
theorem scanS_end {s : StS} {all : List UInt8} (h : ¬ goesS s all) : scanS s all = (0, s) := scanG_end h
theorem scanS_go {s : StS} {all : List UInt8} (h : goesS s all) : scanS s all = (stepS s all + (scanS (nextS s all) (all.drop (stepS s all))).1, (scanS (nextS s all) (all.drop (stepS s all))).2) := by
  have hl := goes_len h
  unfold scanS
  rw [scanG_go h, scanG_more all.length ((all.drop (stepS s all)).length + 1) _ _ (by rw [List.length_drop]; omega) (by omega)]
/-! what is done -/
structure StF where
  st : StS
  dd : Bool
def bodyS (who : List UInt8) (seq : Int) (dat : List UInt8) : List UInt8 := who ++ fourB seq ++ dat
def nxS (h body : List UInt8) : List UInt8 := sha256 (h ++ body)
def frS (h body : List UInt8) : List UInt8 := fourB (body.length : Int) ++ body ++ nxS h body
theorem nxS_len (h body : List UInt8) : (nxS h body).length = 32 := sha256_length _
theorem frS_len (h body : List UInt8) : (frS h body).length = 36 + body.length := by simp [frS, fourB_length, nxS_len]; omega
theorem bodyS_len {who : List UInt8} {seq : Int} {dat : List UInt8} : (bodyS who seq dat).length = who.length + 4 + dat.length := by simp [bodyS, fourB_length]; omega
def openSC (t : TapeS) : Int × TapeS := if (scanS st0 (t.f ++ t.l)).1 < (t.f ++ t.l).length then cutP t (scanS st0 (t.f ++ t.l)).1 else syncP t
theorem openSC_cut {t : TapeS} (h : (scanS st0 (t.f ++ t.l)).1 < (t.f ++ t.l).length) : openSC t = cutP t (scanS st0 (t.f ++ t.l)).1 := if_pos h
theorem openSC_sync {t : TapeS} (h : ¬ (scanS st0 (t.f ++ t.l)).1 < (t.f ++ t.l).length) : openSC t = syncP t := if_neg h
/-- What Open answers, and the tape behind it. -/
def openS (t : TapeS) : Int × TapeS := if t.dd = true then (41, t) else openSC t
theorem openS_dead {t : TapeS} (h : t.dd = true) : openS t = (41, t) := if_pos h
theorem openS_go {t : TapeS} (h : t.dd = false) : openS t = openSC t := if_neg (by simp [h])
def layS (t : TapeS) (x : StF) (who : List UInt8) (seq : Int) (dat : List UInt8) : Int × StF × TapeS :=
  if (appendP t (frS x.st.h (bodyS who seq dat))).1 = 40 then (40, x, (appendP t (frS x.st.h (bodyS who seq dat))).2)
  else if (appendP t (frS x.st.h (bodyS who seq dat))).1 ≠ 0 then ((appendP t (frS x.st.h (bodyS who seq dat))).1, { x with dd := true }, (appendP t (frS x.st.h (bodyS who seq dat))).2)
  else if (syncP (appendP t (frS x.st.h (bodyS who seq dat))).2).1 ≠ 0 then ((syncP (appendP t (frS x.st.h (bodyS who seq dat))).2).1, { x with dd := true }, (syncP (appendP t (frS x.st.h (bodyS who seq dat))).2).2)
  else (0, { x with st := ⟨x.st.L ++ [⟨who, seq, dat⟩], nxS x.st.h (bodyS who seq dat)⟩ }, (syncP (appendP t (frS x.st.h (bodyS who seq dat))).2).2)
section
variable {t : TapeS} {x : StF} {who : List UInt8} {seq : Int} {dat : List UInt8}
theorem layS_full (h : (appendP t (frS x.st.h (bodyS who seq dat))).1 = 40) : layS t x who seq dat = (40, x, (appendP t (frS x.st.h (bodyS who seq dat))).2) := if_pos h
theorem layS_app (h : ¬ (appendP t (frS x.st.h (bodyS who seq dat))).1 = 40) (h1 : (appendP t (frS x.st.h (bodyS who seq dat))).1 ≠ 0) : layS t x who seq dat = ((appendP t (frS x.st.h (bodyS who seq dat))).1, { x with dd := true }, (appendP t (frS x.st.h (bodyS who seq dat))).2) := by rw [layS, if_neg h, if_pos h1]
theorem layS_syn (h : (appendP t (frS x.st.h (bodyS who seq dat))).1 = 0) (h1 : (syncP (appendP t (frS x.st.h (bodyS who seq dat))).2).1 ≠ 0) : layS t x who seq dat = ((syncP (appendP t (frS x.st.h (bodyS who seq dat))).2).1, { x with dd := true }, (syncP (appendP t (frS x.st.h (bodyS who seq dat))).2).2) := by rw [layS, if_neg (by rw [h]; decide), if_neg (by simp [h]), if_pos h1]
theorem layS_ok (h : (appendP t (frS x.st.h (bodyS who seq dat))).1 = 0) (h1 : (syncP (appendP t (frS x.st.h (bodyS who seq dat))).2).1 = 0) : layS t x who seq dat = (0, { x with st := ⟨x.st.L ++ [⟨who, seq, dat⟩], nxS x.st.h (bodyS who seq dat)⟩ }, (syncP (appendP t (frS x.st.h (bodyS who seq dat))).2).2) := by rw [layS, if_neg (by rw [h]; decide), if_neg (by simp [h]), if_neg (by simp [h1])]
def addBad (who : List UInt8) (seq : Int) (dat : List UInt8) : Prop := who.length ≠ 32 ∨ seq < 1 ∨ dat = [] ∨ 8192 < dat.length
instance : Decidable (addBad who seq dat) := by unfold addBad; infer_instance
def addS (t : TapeS) (x : StF) (who : List UInt8) (seq : Int) (dat : List UInt8) : Int × StF × TapeS :=
  if x.dd = true then (41, x, t) else if addBad who seq dat then (1, x, t) else if seq ≤ mkP x.st.L who then (0, x, t) else if mkP x.st.L who + 1 < seq then (44, x, t) else layS t x who seq dat
theorem addS_dead (h : x.dd = true) : addS t x who seq dat = (41, x, t) := if_pos h
theorem addS_arg (h : x.dd = false) (h1 : addBad who seq dat) : addS t x who seq dat = (1, x, t) := by rw [addS, if_neg (by simp [h]), if_pos h1]
theorem addS_old (h : x.dd = false) (h1 : ¬ addBad who seq dat) (h2 : seq ≤ mkP x.st.L who) : addS t x who seq dat = (0, x, t) := by rw [addS, if_neg (by simp [h]), if_neg h1, if_pos h2]
theorem addS_seq (h : x.dd = false) (h1 : ¬ addBad who seq dat) (h2 : mkP x.st.L who + 1 < seq) : addS t x who seq dat = (44, x, t) := by rw [addS, if_neg (by simp [h]), if_neg h1, if_neg (by omega), if_pos h2]
theorem addS_go (h : x.dd = false) (h1 : ¬ addBad who seq dat) (h2 : seq = mkP x.st.L who + 1) : addS t x who seq dat = layS t x who seq dat := by rw [addS, if_neg (by simp [h]), if_neg h1, if_neg (by omega), if_neg (by omega)]
end
/-! whether bytes have a chain that comes to a head -/
def verG : Nat → List UInt8 → List UInt8 → List UInt8 → Int × Int
  | 0, _, _, _ => (0, 0)
  | k + 1, data, h, head => if h = head then (0, 0) else if data = [] then (0, 42) else if (firstS data h).2 = false then (0, 43)
    else ((firstS data h).1.size + (verG k (data.drop (firstS data h).1.size.toNat) (firstS data h).1.next head).1, (verG k (data.drop (firstS data h).1.size.toNat) (firstS data h).1.next head).2)
theorem verG_more : ∀ (k j : Nat) (data h head : List UInt8), data.length < k → data.length < j → verG k data h head = verG j data h head := by
  intro k
  induction k with
  | zero => intro j data h head h1; omega
  | succ k ih =>
    intro j data h head h1 h2
    obtain ⟨j, rfl⟩ : ∃ i, j = i + 1 := ⟨j - 1, by omega⟩
    rw [verG, verG]
    by_cases c1 : h = head
    · rw [if_pos c1, if_pos c1]
    · rw [if_neg c1, if_neg c1]
      by_cases c2 : data = []
      · rw [if_pos c2, if_pos c2]
      · rw [if_neg c2, if_neg c2]
        by_cases c3 : (firstS data h).2 = false
        · rw [if_pos c3, if_pos c3]
        · rw [if_neg c3, if_neg c3]
          obtain ⟨g1, g2, g3⟩ := firstS_ok (by simpa using c3 : (firstS data h).2 = true)
          obtain ⟨f1, f2, f3, f4, f5, f6⟩ := frOk_len g1
          have hs : 0 < (firstS data h).1.size.toNat ∧ (firstS data h).1.size.toNat ≤ data.length := by rw [g2]; dsimp only; omega
          rw [ih j _ _ _ (by rw [List.length_drop]; omega) (by rw [List.length_drop]; omega)]
/-- Where a chain comes to a head, or is broken; and the answer. -/
def verS (data h head : List UInt8) : Int × Int := verG (data.length + 1) data h head
section
variable {data h head : List UInt8}
theorem verS_here (e : h = head) : verS data h head = (0, 0) := if_pos e
theorem verS_none (e : ¬ h = head) (e1 : data = []) : verS data h head = (0, 42) := by rw [verS, verG, if_neg e, if_pos e1]
theorem verS_chain (e : ¬ h = head) (e1 : ¬ data = []) (e2 : (firstS data h).2 = false) : verS data h head = (0, 43) := by rw [verS, verG, if_neg e, if_neg e1, if_pos e2]
theorem ver_size (e2 : (firstS data h).2 = true) : 0 < (firstS data h).1.size.toNat ∧ (firstS data h).1.size.toNat ≤ data.length ∧ (firstS data h).1.size = ((firstS data h).1.size.toNat : Int) ∧ (firstS data h).1.next.length = 32 := by
  obtain ⟨g1, g2, g3⟩ := firstS_ok e2
  obtain ⟨f1, f2, f3, f4, f5, f6⟩ := frOk_len g1
  rw [g2]
  dsimp only
  omega
theorem verS_go (e : ¬ h = head) (e1 : ¬ data = []) (e2 : (firstS data h).2 = true) : verS data h head = ((firstS data h).1.size + (verS (data.drop (firstS data h).1.size.toNat) (firstS data h).1.next head).1, (verS (data.drop (firstS data h).1.size.toNat) (firstS data h).1.next head).2) := by
  have hs := ver_size e2
  have hl : 0 < data.length := List.length_pos_iff.2 e1
  conv => lhs; rw [verS, verG, if_neg e, if_neg e1, if_neg (by simp [e2])]
  rw [verG_more data.length ((data.drop (firstS data h).1.size.toNat).length + 1) _ _ _ (by rw [List.length_drop]; omega) (by omega)]
  rfl
end
attribute [irreducible] firstS takeS scanS openS layS addS verS ofP bodyS nxS frS
theorem bodyS_def (who : List UInt8) (seq : Int) (dat : List UInt8) : bodyS who seq dat = who ++ fourB seq ++ dat := by unfold bodyS; rfl
theorem nxS_def (h body : List UInt8) : nxS h body = sha256 (h ++ body) := by unfold nxS; rfl
theorem frS_def (h body : List UInt8) : frS h body = fourB (body.length : Int) ++ body ++ nxS h body := by unfold frS; rfl
end Go.Proofs.Ytfiojlmccflplaa
