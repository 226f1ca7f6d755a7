/-
  What package spool does, in plain Lean. No condition.
-/
import Derived.Test.YtpaombkodoofgaaSkSpec
import Derived.Test.YtpaombkodoofgaaTaSpec
namespace Go.Proofs.Ytpaombkodoofgaa
open Go Go.RowKit D
set_option linter.unusedVariables false
set_option linter.unusedSimpArgs false
/-! tapes stay good -/
section
variable {t : TapeS}
theorem tk_act (h : TapeOk t) : TapeOk (actP t).2 := by
  obtain ⟨h1, h2, h3, h4⟩ := h
  unfold actP
  split
  · exact ⟨h1, h2, h3, h4⟩
  · exact ⟨h1, h2, by show 0 ≤ max 0 (t.ar - 1); omega, by show max 0 (t.ar - 1) ≤ _; omega⟩
theorem tk_append (h : TapeOk t) (d : List UInt8) : TapeOk (appendP t d).2 := by
  unfold appendP
  split
  · exact h
  · split
    · exact h
    · refine tk_act ⟨h.1, ?_, h.2.2.1, h.2.2.2⟩
      show ((t.f.length + (t.l ++ d).length : Nat) : Int) ≤ t.lim
      rw [List.length_append]; omega
theorem tk_sync (h : TapeOk t) : TapeOk (syncP t).2 := by
  obtain ⟨h1, h2, h3, h4⟩ := id h
  unfold syncP
  split
  · exact h
  · split
    · exact ⟨h1, h2, h3, h4⟩
    · refine ⟨h1, ?_, by show 0 ≤ max 0 (t.ar - 1); omega, by show max 0 (t.ar - 1) ≤ _; omega⟩
      show (((t.f ++ t.l).length + 0 : Nat) : Int) ≤ t.lim
      rw [List.length_append]; omega
theorem tk_cut (h : TapeOk t) (n : Int) : TapeOk (cutP t n).2 := by
  obtain ⟨h1, h2, h3, h4⟩ := id h
  unfold cutP
  split
  · exact h
  · split
    · exact h
    · split
      · exact ⟨h1, h2, h3, h4⟩
      · refine ⟨h1, ?_, by show 0 ≤ max 0 (t.ar - 1); omega, by show max 0 (t.ar - 1) ≤ _; omega⟩
        show ((((t.f ++ t.l).take n.toNat).length + 0 : Nat) : Int) ≤ t.lim
        rw [List.length_take, List.length_append]; omega
theorem tk_arm (h : TapeOk t) {n : Int} (hn : n ≤ 9223372036854775807) : TapeOk (armP t n) := ⟨h.1, h.2.1, by show 0 ≤ max n 0; omega, by show max n 0 ≤ _; omega⟩
theorem spoil_len (l : List UInt8) : (spoilP l).length = l.length := by
  unfold spoilP
  split
  · rfl
  · rw [List.length_append, List.length_take]; simp [toB]; omega
theorem tk_crash (h : TapeOk t) (k : Int) (sp : Bool) : TapeOk (crashP t k sp) := by
  obtain ⟨h1, h2, h3, h4⟩ := h
  refine ⟨h1, ?_, by show (0 : Int) ≤ 0; omega, by show (0 : Int) ≤ _; omega⟩
  show (((t.f ++ (if sp = true then spoilP (t.l.take (max 0 (min k (t.l.length : Int))).toNat) else t.l.take (max 0 (min k (t.l.length : Int))).toNat)).length + 0 : Nat) : Int) ≤ t.lim
  rw [List.length_append]
  split
  · rw [spoil_len, List.length_take]; omega
  · rw [List.length_take]; omega
theorem tk_len (h : TapeOk t) : (t.f ++ t.l).length ≤ 16777216 := by
  have := h.1; have := h.2.1
  rw [List.length_append]; omega
end
/-! what is taken up -/
theorem firstP_len {s : List UInt8} (h : (firstP s).2 = true) : 12 + (firstP s).1.length ≤ s.length ∧ (firstP s).1 = bodyB s ∧ ((firstP s).1.length : Int) = numB s ∧ sumB (bodyB s) = tailB s := by
  have hn := numB_range s
  by_cases hb : (s.length : Int) < 12 ∨ (s.length : Int) - 12 < numB s
  · rw [firstP_no hb] at h; cases h
  · rw [firstP_yes hb] at h ⊢
    have hl : (bodyB s).length = (numB s).toNat := by
      unfold bodyB
      rw [List.length_drop, List.length_take, show (Int.toNat 4) = 4 from rfl]; omega
    refine ⟨by show 12 + (bodyB s).length ≤ _; omega, rfl, by show ((bodyB s).length : Int) = _; omega, of_decide_eq_true h⟩
def goesOn (s : SpS) (all : List UInt8) : Prop := (firstP all).2 = true ∧ (takeP s (firstP all).1).1 = true
open Classical in
noncomputable def scanF : Nat → SpS → List UInt8 → Nat × SpS
  | 0, s, _ => (0, s)
  | k + 1, s, all => if goesOn s all then
      (12 + (firstP all).1.length + (scanF k (takeP s (firstP all).1).2 (all.drop (12 + (firstP all).1.length))).1, (scanF k (takeP s (firstP all).1).2 (all.drop (12 + (firstP all).1.length))).2)
    else (0, s)
theorem scanF_go {k : Nat} {s : SpS} {all : List UInt8} (h : goesOn s all) : scanF (k + 1) s all = (12 + (firstP all).1.length + (scanF k (takeP s (firstP all).1).2 (all.drop (12 + (firstP all).1.length))).1, (scanF k (takeP s (firstP all).1).2 (all.drop (12 + (firstP all).1.length))).2) := by rw [scanF, if_pos h]
theorem scanF_end {k : Nat} {s : SpS} {all : List UInt8} (h : ¬ goesOn s all) : scanF k s all = (0, s) := by
  cases k with
  | zero => rfl
  | succ k => rw [scanF, if_neg h]
theorem scanF_more : ∀ (k j : Nat) (s : SpS) (all : List UInt8), all.length < k → all.length < j → scanF k s all = scanF j s all := by
  intro k
  induction k with
  | zero => intro j s all h; omega
  | succ k ih =>
    intro j s all h1 h2
    obtain ⟨j, rfl⟩ : ∃ i, j = i + 1 := ⟨j - 1, by omega⟩
    by_cases hg : goesOn s all
    · have hl := (firstP_len hg.1).1
      rw [scanF_go hg, scanF_go hg, ih j _ _ (by rw [List.length_drop]; omega) (by rw [List.length_drop]; omega)]
    · rw [scanF_end hg, scanF_end hg]
/-- How far bytes are taken up, and what there is then. -/
noncomputable def scanP (s : SpS) (all : List UInt8) : Nat × SpS := scanF (all.length + 1) s all
theorem scan_end {s : SpS} {all : List UInt8} (h : ¬ goesOn s all) : scanP s all = (0, s) := scanF_end h
theorem scan_go {s : SpS} {all : List UInt8} (h : goesOn s all) : scanP s all = (12 + (firstP all).1.length + (scanP (takeP s (firstP all).1).2 (all.drop (12 + (firstP all).1.length))).1, (scanP (takeP s (firstP all).1).2 (all.drop (12 + (firstP all).1.length))).2) := by
  have hl := (firstP_len h.1).1
  unfold scanP
  rw [scanF_go h, scanF_more all.length (((all.drop (12 + (firstP all).1.length))).length + 1) _ _ (by rw [List.length_drop]; omega) (by omega)]
/-- No message, none acknowledged. -/
def sp0 : SpS := ⟨[], 0, 0⟩
theorem spok0 : SpOk sp0 := ⟨rfl, by decide, by decide, fun i r h => by simp [sp0] at h⟩
theorem kp_from {n : Int} {ak : Int} : ∀ {l : RecL} {d : Nat}, (∀ (i : Nat) r, l[i]? = some r → r.seq = ak + 1 + d + i) → ak + d ≤ n → n ≤ ak + d + l.length →
    ((kp n l).length : Int) = ak + d + l.length - n ∧ ∀ (i : Nat) r, (kp n l)[i]? = some r → r.seq = n + 1 + i := by
  intro l
  induction l with
  | nil => intro d h h1 h2; simp at h2; refine ⟨by simp [kp]; omega, fun i r hr => by simp [kp] at hr⟩
  | cons a l ih =>
    intro d h h1 h2
    have ha := h 0 a rfl
    have hl : ∀ (i : Nat) r, l[i]? = some r → r.seq = ak + 1 + (d + 1 : Nat) + i := fun i r hr => by
      have := h (i + 1) r (by simpa using hr); push_cast at this ⊢; omega
    simp only [List.length_cons] at h2 ⊢
    by_cases hn : n < a.seq
    · have hnd : n = ak + d := by omega
      have hall : kp n (a :: l) = a :: l := by
        unfold kp
        rw [List.filter_eq_self]
        intro r hr
        obtain ⟨i, hi⟩ := List.getElem?_of_mem hr
        have := h i r hi
        simp; omega
      rw [hall]
      refine ⟨by rw [List.length_cons]; omega, fun i r hr => by have := h i r hr; omega⟩
    · have hc : kp n (a :: l) = kp n l := by simp [kp, hn]
      rw [hc]
      obtain ⟨g1, g2⟩ := ih (d := d + 1) hl (by push_cast; omega) (by push_cast; omega)
      exact ⟨by push_cast at g1 ⊢; omega, g2⟩
/-- What is good stays good, and there is at most one message more. -/
theorem take_good {s : SpS} {body : List UInt8} (h : SpOk s) (hm : s.la + 1 ≤ 1000000000 ∨ ¬ tkMsg s body) : SpOk (takeP s body).2 ∧ (takeP s body).2.la ≤ s.la + 1 ∧ s.la ≤ (takeP s body).2.la ∧ s.ak ≤ (takeP s body).2.ak := by
  obtain ⟨h1, h2, h3, h4⟩ := id h
  by_cases hs : body.length ≤ 4
  · rw [take_short hs]; exact ⟨h, by show s.la ≤ _; omega, Int.le_refl _, Int.le_refl _⟩
  · by_cases hmsg : tkMsg s body
    · rw [take_msg hs hmsg]
      have hn := hmsg.2.1
      refine ⟨⟨?_, h2, ?_, ?_⟩, ?_, ?_, Int.le_refl _⟩
      · show ((s.l ++ [_]).length : Int) = tkN body - s.ak
        rw [List.length_append]; simp; omega
      · show tkN body ≤ _
        rcases hm with hm | hm
        · omega
        · exact absurd hmsg hm
      · intro i r hr
        show r.seq = s.ak + 1 + i
        have hr' : (s.l ++ [(⟨tkN body, tkR body⟩ : RecS)])[i]? = some r := hr
        rw [List.getElem?_append] at hr'
        split at hr'
        · exact h4 i r hr'
        · rename_i hi
          have : i - s.l.length = 0 := by
            have := (List.getElem?_eq_some_iff.1 hr').1
            simp at this; omega
          rw [this] at hr'
          simp at hr'
          subst hr'
          show tkN body = _
          omega
      · show tkN body ≤ _; omega
      · show s.la ≤ tkN body; omega
    · by_cases hmk : tkMark s body
      · rw [take_mark hs hmsg hmk]
        obtain ⟨m1, m2, m3, m4⟩ := hmk
        obtain ⟨g1, g2⟩ := kp_from (n := tkN body) (ak := s.ak) (d := 0) (l := s.l) (fun i r hr => by have := h4 i r hr; push_cast; omega) (by push_cast; omega) (by push_cast; omega)
        refine ⟨⟨?_, ?_, h3, fun i r hr => g2 i r hr⟩, by show s.la ≤ _; omega, Int.le_refl _, by show s.ak ≤ tkN body; omega⟩
        · show ((kp (tkN body) s.l).length : Int) = s.la - tkN body
          push_cast at g1; omega
        · show 0 ≤ tkN body; omega
      · rw [take_none hs hmsg hmk]; exact ⟨h, by show s.la ≤ _; omega, Int.le_refl _, Int.le_refl _⟩
theorem take_false {s : SpS} {body : List UInt8} (h : (takeP s body).1 = false) : (takeP s body).2 = s := by
  by_cases hs : body.length ≤ 4
  · rw [take_short hs]
  · by_cases hmsg : tkMsg s body
    · rw [take_msg hs hmsg] at h; cases h
    · by_cases hmk : tkMark s body
      · rw [take_mark hs hmsg hmk] at h; cases h
      · rw [take_none hs hmsg hmk]
/-! what is done -/
structure SpF where
  st : SpS
  rm : Int
  dd : Bool
def frB (body : List UInt8) : List UInt8 := fourB (body.length : Int) ++ body ++ sumB body
theorem frB_len (body : List UInt8) : (frB body).length = 12 + body.length := by simp [frB, fourB_length, sumB_length]; omega
noncomputable def openC (t : TapeS) : Int × TapeS := if (scanP sp0 (t.f ++ t.l)).1 < (t.f ++ t.l).length then cutP t (scanP sp0 (t.f ++ t.l)).1 else syncP t
theorem openC_cut {t : TapeS} (h : (scanP sp0 (t.f ++ t.l)).1 < (t.f ++ t.l).length) : openC t = cutP t (scanP sp0 (t.f ++ t.l)).1 := if_pos h
theorem openC_sync {t : TapeS} (h : ¬ (scanP sp0 (t.f ++ t.l)).1 < (t.f ++ t.l).length) : openC t = syncP t := if_neg h
/-- What Open answers, and the tape behind it. -/
noncomputable def openP (t : TapeS) (rm : Int) : Int × TapeS := if rm < 1 ∨ 1000 < rm then (1, t) else if t.dd = true then (41, t) else openC t
theorem openP_arg {t : TapeS} {rm : Int} (h : rm < 1 ∨ 1000 < rm) : openP t rm = (1, t) := if_pos h
theorem openP_dead {t : TapeS} {rm : Int} (h : ¬ (rm < 1 ∨ 1000 < rm)) (h1 : t.dd = true) : openP t rm = (41, t) := by rw [openP, if_neg h, if_pos h1]
theorem openP_go {t : TapeS} {rm : Int} (h : ¬ (rm < 1 ∨ 1000 < rm)) (h1 : t.dd = false) : openP t rm = openC t := by rw [openP, if_neg h, if_neg (by simp [h1])]
noncomputable def layP (t : TapeS) (x : SpF) (body : List UInt8) : Int × SpF × TapeS :=
  if (appendP t (frB body)).1 ≠ 0 then ((appendP t (frB body)).1, { x with dd := true }, (appendP t (frB body)).2)
  else if (syncP (appendP t (frB body)).2).1 ≠ 0 then ((syncP (appendP t (frB body)).2).1, { x with dd := true }, (syncP (appendP t (frB body)).2).2)
  else (0, { x with st := (takeP x.st body).2 }, (syncP (appendP t (frB body)).2).2)
theorem lay_app {t : TapeS} {x : SpF} {body : List UInt8} (h : (appendP t (frB body)).1 ≠ 0) : layP t x body = ((appendP t (frB body)).1, { x with dd := true }, (appendP t (frB body)).2) := if_pos h
theorem lay_syn {t : TapeS} {x : SpF} {body : List UInt8} (h : (appendP t (frB body)).1 = 0) (h1 : (syncP (appendP t (frB body)).2).1 ≠ 0) : layP t x body = ((syncP (appendP t (frB body)).2).1, { x with dd := true }, (syncP (appendP t (frB body)).2).2) := by rw [layP, if_neg (by simp [h]), if_pos h1]
theorem lay_ok {t : TapeS} {x : SpF} {body : List UInt8} (h : (appendP t (frB body)).1 = 0) (h1 : (syncP (appendP t (frB body)).2).1 = 0) : layP t x body = (0, { x with st := (takeP x.st body).2 }, (syncP (appendP t (frB body)).2).2) := by rw [layP, if_neg (by simp [h]), if_neg (by simp [h1])]
def msgB (n : Int) (data : List UInt8) : List UInt8 := [109] ++ fourB n ++ data
def markB (n : Int) : List UInt8 := [97] ++ fourB n
noncomputable def putP (t : TapeS) (x : SpF) (data : List UInt8) : Int × Int × SpF × TapeS :=
  if x.dd = true then (0, 41, x, t) else if data = [] ∨ 8192 < data.length then (0, 1, x, t) else if x.rm ≤ x.st.l.length ∨ 1000000000 ≤ x.st.la then (0, 40, x, t)
  else if (layP t x (msgB (x.st.la + 1) data)).1 ≠ 0 then (0, (layP t x (msgB (x.st.la + 1) data))) else ((layP t x (msgB (x.st.la + 1) data)).2.1.st.la, (layP t x (msgB (x.st.la + 1) data)))
section
variable {t : TapeS} {x : SpF} {data : List UInt8} {n : Int}
theorem put_dead (h : x.dd = true) : putP t x data = (0, 41, x, t) := if_pos h
theorem put_arg (h : x.dd = false) (h1 : data = [] ∨ 8192 < data.length) : putP t x data = (0, 1, x, t) := by rw [putP, if_neg (by simp [h]), if_pos h1]
theorem put_full (h : x.dd = false) (h1 : ¬ (data = [] ∨ 8192 < data.length)) (h2 : x.rm ≤ x.st.l.length ∨ 1000000000 ≤ x.st.la) : putP t x data = (0, 40, x, t) := by rw [putP, if_neg (by simp [h]), if_neg h1, if_pos h2]
theorem put_bad (h : x.dd = false) (h1 : ¬ (data = [] ∨ 8192 < data.length)) (h2 : ¬ (x.rm ≤ x.st.l.length ∨ 1000000000 ≤ x.st.la)) (h3 : (layP t x (msgB (x.st.la + 1) data)).1 ≠ 0) : putP t x data = (0, (layP t x (msgB (x.st.la + 1) data))) := by rw [putP, if_neg (by simp [h]), if_neg h1, if_neg h2, if_pos h3]
theorem put_ok (h : x.dd = false) (h1 : ¬ (data = [] ∨ 8192 < data.length)) (h2 : ¬ (x.rm ≤ x.st.l.length ∨ 1000000000 ≤ x.st.la)) (h3 : (layP t x (msgB (x.st.la + 1) data)).1 = 0) : putP t x data = ((layP t x (msgB (x.st.la + 1) data)).2.1.st.la, (layP t x (msgB (x.st.la + 1) data))) := by rw [putP, if_neg (by simp [h]), if_neg h1, if_neg h2, if_neg (by simp [h3])]
noncomputable def ackP (t : TapeS) (x : SpF) (n : Int) : Int × SpF × TapeS :=
  if x.dd = true then (41, x, t) else if x.st.la < n then (44, x, t) else if n ≤ x.st.ak then (0, x, t) else layP t x (markB n)
theorem ack_dead (h : x.dd = true) : ackP t x n = (41, x, t) := if_pos h
theorem ack_seq (h : x.dd = false) (h1 : x.st.la < n) : ackP t x n = (44, x, t) := by rw [ackP, if_neg (by simp [h]), if_pos h1]
theorem ack_old (h : x.dd = false) (h1 : n ≤ x.st.la) (h2 : n ≤ x.st.ak) : ackP t x n = (0, x, t) := by rw [ackP, if_neg (by simp [h]), if_neg (by omega), if_pos h2]
theorem ack_go (h : x.dd = false) (h1 : n ≤ x.st.la) (h2 : x.st.ak < n) : ackP t x n = layP t x (markB n) := by rw [ackP, if_neg (by simp [h]), if_neg (by omega), if_neg (by omega)]
end
/-- Those from a number on, so many at most. -/
def fromP (l : RecL) (n most : Int) : RecL := (l.filter fun r => decide (n ≤ r.seq)).take most.toNat
theorem from_nil (n most : Int) : fromP [] n most = [] := by simp [fromP]
theorem from_yes {l : RecL} {r : RecS} {n most : Int} (h1 : n ≤ r.seq) (h2 : ((fromP l n most).length : Int) < most) : fromP (l ++ [r]) n most = fromP l n most ++ [r] := by
  unfold fromP at *
  rw [List.length_take] at h2
  rw [List.filter_append, List.take_of_length_le (by simp [h1]; omega), List.take_of_length_le (by omega)]
  simp [h1]
theorem from_no {l : RecL} {r : RecS} {n most : Int} (h : ¬ (n ≤ r.seq ∧ ((fromP l n most).length : Int) < most)) : fromP (l ++ [r]) n most = fromP l n most := by
  unfold fromP at *
  rw [List.filter_append]
  by_cases h1 : n ≤ r.seq
  · have h2 : ¬ (((l.filter fun r => decide (n ≤ r.seq)).take most.toNat).length : Int) < most := fun g => h ⟨h1, g⟩
    rw [List.length_take] at h2
    rw [List.take_append_of_le_length (by omega)]
  · simp [h1]
theorem from_len (l : RecL) (n most : Int) : (fromP l n most).length ≤ l.length := by
  unfold fromP
  rw [List.length_take]
  have := List.length_filter_le (fun r : RecS => decide (n ≤ r.seq)) l
  omega
def wrP (x : SpF) : Int := if x.dd = true then 41 else 0
theorem wr_dead {x : SpF} (h : x.dd = true) : wrP x = 41 := if_pos h
theorem wr_ok {x : SpF} (h : x.dd = false) : wrP x = 0 := if_neg (by simp [h])
theorem read_dead {t : TapeS} (h : t.dd = true) : readP t = ([], 41) := if_pos h
theorem read_ok {t : TapeS} (h : t.dd = false) : readP t = (t.f ++ t.l, 0) := if_neg (by simp [h])
attribute [irreducible] scanP openP layP putP ackP msgB markB frB fromP
theorem msgB_def (n : Int) (data : List UInt8) : msgB n data = [109] ++ fourB n ++ data := by unfold msgB; rfl
theorem markB_def (n : Int) : markB n = [97] ++ fourB n := by unfold markB; rfl
theorem frB_def (body : List UInt8) : frB body = fourB (body.length : Int) ++ body ++ sumB body := by unfold frB; rfl
theorem fromP_def (l : RecL) (n most : Int) : fromP l n most = (l.filter fun r => decide (n ≤ r.seq)).take most.toNat := by unfold fromP; rfl
end Go.Proofs.Ytpaombkodoofgaa
