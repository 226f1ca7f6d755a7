/-
  The document's store as pieces of what is owned. No condition.
-/
import Derived.Test.YtfiojlmccflplaaSs
import Derived.Test.YtfiojlmccflplaaTr
namespace Go.Proofs.Ytfiojlmccflplaa
open Go Go.RowKit D
set_option linter.unusedVariables false
set_option linter.unusedSimpArgs false
abbrev rfCells (tb : Nat) (x : StF) (lv : Value) : List Value := [PT tb, lv, S x.st.h, .bool x.dd]
abbrev rfBlk (tb : Nat) (x : StF) (lv : Value) : Blk := ⟨rfCells tb x lv, 4, 69⟩
abbrev oneV (v : Value) (L : OneL) : Chunk := .vec v 78 3 L.length (rowsV oneC L)
def rfA (b tb : Nat) (x : StF) (r : RefS) : Hp → Prop := fun h => ∃ lv, Sep emp [.blk b (rfBlk tb x lv), oneV lv x.st.L, .blk tb (rblk r)] h
abbrev rfC (b tb : Nat) (x : StF) (r : RefS) : Chunk := .pred (rfA b tb x r)
section
variable {H0 H : Hp} {K : List Chunk} {F : Chunk → List Chunk} {b tb : Nat} {x : StF} {r : RefS}
theorem rf_open (h : Sep H0 (rfC b tb x r :: K) H) : ∃ lv, Sep H0 (.blk b (rfBlk tb x lv) :: oneV lv x.st.L :: .blk tb (rblk r) :: K) H := by
  obtain ⟨h1, ⟨g, hg, lv, hK⟩, hall⟩ := Sep.opened h
  exact ⟨lv, hall _ (hK.mono hg)⟩
theorem rf_close {lv : Value} (h : Sep H0 (.blk b (rfBlk tb x lv) :: oneV lv x.st.L :: .blk tb (rblk r) :: K) H) : Sep H0 (rfC b tb x r :: K) H :=
  Sep.close _ (K := [.blk b (rfBlk tb x lv), oneV lv x.st.L, .blk tb (rblk r)]) h fun h1 hK => ⟨h1, Hp.le_refl _, lv, hK⟩
theorem rf_tape (h : Sep H0 (rfC b tb x r :: K) H) : Sep H0 (.blk tb (rblk r) :: K) H := by
  obtain ⟨lv, h1⟩ := rf_open h
  exact h1.tail.tail
theorem rf_look (h : Sep H0 K H) (hA : At K (rfC b tb x r) F) : ∃ lv, H b = some (rfBlk tb x lv) ∧ Vec H 78 3 lv x.st.L.length (rowsV oneC x.st.L) := by
  obtain ⟨g, hg, lv, hK⟩ := h.get hA
  exact ⟨lv, hg _ _ (hK.blk at0), (hK.vec at1).le hg⟩
end
/-! the document's Mark is the same -/
def mxP : OneL → List UInt8 → Nat → Int
  | L, who, 0 => 0
  | L, who, i + 1 => match L[i]? with
    | some o => if o.who = who then max (mxP L who i) o.seq else mxP L who i
    | none => mxP L who i
theorem mxP_zero (L : OneL) (who : List UInt8) : mxP L who 0 = 0 := rfl
theorem mxP_yes {L : OneL} {who : List UInt8} {i : Nat} {o : OneS} (h : L[i]? = some o) (hw : o.who = who) : mxP L who (i + 1) = max (mxP L who i) o.seq := by rw [mxP, h]; simp [hw]
theorem mxP_no {L : OneL} {who : List UInt8} {i : Nat} {o : OneS} (h : L[i]? = some o) (hw : ¬ o.who = who) : mxP L who (i + 1) = mxP L who i := by rw [mxP, h]; simp [hw]
theorem take_oneS {L : OneL} {i : Nat} {o : OneS} (h : L[i]? = some o) : L.take (i + 1) = L.take i ++ [o] := by
  obtain ⟨h1, h2⟩ := List.getElem?_eq_some_iff.1 h
  rw [← List.take_append_getElem h1, h2]
theorem ofP_yes {L : OneL} {who : List UInt8} {i : Nat} {o : OneS} (h : L[i]? = some o) (hw : o.who = who) : ofP (L.take (i + 1)) who = ofP (L.take i) who ++ [oneR o] := by rw [take_oneS h, ofP_snoc, if_pos hw]
theorem ofP_no {L : OneL} {who : List UInt8} {i : Nat} {o : OneS} (h : L[i]? = some o) (hw : ¬ o.who = who) : ofP (L.take (i + 1)) who = ofP (L.take i) who := by rw [take_oneS h, ofP_snoc, if_neg hw]
theorem ofP_pre (L : OneL) (who : List UInt8) (i : Nat) : ∃ z, ofP L who = ofP (L.take i) who ++ z := by
  refine ⟨ofP (L.drop i) who, ?_⟩
  conv => lhs; rw [← List.take_append_drop i L]
  unfold ofP
  rw [List.filter_append, List.map_append]
theorem mxP_eq {L : OneL} (h : StOk L) (who : List UInt8) : ∀ i, i ≤ L.length → mxP L who i = ((ofP (L.take i) who).length : Int) := by
  intro i
  induction i with
  | zero => intro _; rw [mxP_zero, List.take_zero, ofP_nil]; rfl
  | succ i ih =>
    intro hi
    obtain ⟨o, ho⟩ : ∃ o, L[i]? = some o := ⟨L[i], List.getElem?_eq_getElem (by omega)⟩
    by_cases hw : o.who = who
    · have hy := ofP_yes ho hw
      rw [mxP_yes ho hw, ih (by omega), hy, List.length_append]
      obtain ⟨z, hz⟩ := ofP_pre L who (i + 1)
      have : (ofP L who)[(ofP (L.take i) who).length]? = some (oneR o) := by rw [hz, hy]; simp
      have hs := h who _ _ this
      have : o.seq = ((ofP (L.take i) who).length : Int) + 1 := hs
      simp
      omega
    · rw [mxP_no ho hw, ofP_no ho hw, ih (by omega)]
theorem mxP_all {L : OneL} (h : StOk L) (who : List UInt8) : mxP L who L.length = mkP L who := by rw [mxP_eq h who _ (Nat.le_refl _), List.take_length]; rfl
/-! what the document's store does -/
def openRC (r : RefS) : Int × RefS := if (scanS st0 r.t).1 < r.t.length then cutR r (scanS st0 r.t).1 else syncR r
theorem openRC_cut {r : RefS} (h : (scanS st0 r.t).1 < r.t.length) : openRC r = cutR r (scanS st0 r.t).1 := if_pos h
theorem openRC_sync {r : RefS} (h : ¬ (scanS st0 r.t).1 < r.t.length) : openRC r = syncR r := if_neg h
def openR (r : RefS) : Int × RefS := if r.dd = true then (41, r) else openRC r
theorem openR_dead {r : RefS} (h : r.dd = true) : openR r = (41, r) := if_pos h
theorem openR_go {r : RefS} (h : r.dd = false) : openR r = openRC r := if_neg (by simp [h])
theorem readR_dead {r : RefS} (h : r.dd = true) : readR r = ([], 41) := if_pos h
theorem readR_ok {r : RefS} (h : r.dd = false) : readR r = (r.t, 0) := if_neg (by simp [h])
def layR (r : RefS) (x : StF) (who : List UInt8) (seq : Int) (dat : List UInt8) : Int × StF × RefS :=
  if (appendR r (frS x.st.h (bodyS who seq dat))).1 = 40 then (40, x, (appendR r (frS x.st.h (bodyS who seq dat))).2)
  else if (appendR r (frS x.st.h (bodyS who seq dat))).1 ≠ 0 then ((appendR r (frS x.st.h (bodyS who seq dat))).1, { x with dd := true }, (appendR r (frS x.st.h (bodyS who seq dat))).2)
  else if (syncR (appendR r (frS x.st.h (bodyS who seq dat))).2).1 ≠ 0 then ((syncR (appendR r (frS x.st.h (bodyS who seq dat))).2).1, { x with dd := true }, (syncR (appendR r (frS x.st.h (bodyS who seq dat))).2).2)
  else (0, { x with st := ⟨x.st.L ++ [⟨who, seq, dat⟩], nxS x.st.h (bodyS who seq dat)⟩ }, (syncR (appendR r (frS x.st.h (bodyS who seq dat))).2).2)
section
variable {r : RefS} {x : StF} {who : List UInt8} {seq : Int} {dat : List UInt8}
theorem layR_full (h : (appendR r (frS x.st.h (bodyS who seq dat))).1 = 40) : layR r x who seq dat = (40, x, (appendR r (frS x.st.h (bodyS who seq dat))).2) := if_pos h
theorem layR_app (h : ¬ (appendR r (frS x.st.h (bodyS who seq dat))).1 = 40) (h1 : (appendR r (frS x.st.h (bodyS who seq dat))).1 ≠ 0) : layR r x who seq dat = ((appendR r (frS x.st.h (bodyS who seq dat))).1, { x with dd := true }, (appendR r (frS x.st.h (bodyS who seq dat))).2) := by rw [layR, if_neg h, if_pos h1]
theorem layR_syn (h : (appendR r (frS x.st.h (bodyS who seq dat))).1 = 0) (h1 : (syncR (appendR r (frS x.st.h (bodyS who seq dat))).2).1 ≠ 0) : layR r x who seq dat = ((syncR (appendR r (frS x.st.h (bodyS who seq dat))).2).1, { x with dd := true }, (syncR (appendR r (frS x.st.h (bodyS who seq dat))).2).2) := by rw [layR, if_neg (by rw [h]; decide), if_neg (by simp [h]), if_pos h1]
theorem layR_ok (h : (appendR r (frS x.st.h (bodyS who seq dat))).1 = 0) (h1 : (syncR (appendR r (frS x.st.h (bodyS who seq dat))).2).1 = 0) : layR r x who seq dat = (0, { x with st := ⟨x.st.L ++ [⟨who, seq, dat⟩], nxS x.st.h (bodyS who seq dat)⟩ }, (syncR (appendR r (frS x.st.h (bodyS who seq dat))).2).2) := by rw [layR, if_neg (by rw [h]; decide), if_neg (by simp [h]), if_neg (by simp [h1])]
def addR (r : RefS) (x : StF) (who : List UInt8) (seq : Int) (dat : List UInt8) : Int × StF × RefS :=
  if x.dd = true then (41, x, r) else if addBad who seq dat then (1, x, r) else if seq ≤ mkP x.st.L who then (0, x, r) else if mkP x.st.L who + 1 < seq then (44, x, r) else layR r x who seq dat
theorem addR_dead (h : x.dd = true) : addR r x who seq dat = (41, x, r) := if_pos h
theorem addR_arg (h : x.dd = false) (h1 : addBad who seq dat) : addR r x who seq dat = (1, x, r) := by rw [addR, if_neg (by simp [h]), if_pos h1]
theorem addR_old (h : x.dd = false) (h1 : ¬ addBad who seq dat) (h2 : seq ≤ mkP x.st.L who) : addR r x who seq dat = (0, x, r) := by rw [addR, if_neg (by simp [h]), if_neg h1, if_pos h2]
theorem addR_seq (h : x.dd = false) (h1 : ¬ addBad who seq dat) (h2 : mkP x.st.L who + 1 < seq) : addR r x who seq dat = (44, x, r) := by rw [addR, if_neg (by simp [h]), if_neg h1, if_neg (by omega), if_pos h2]
theorem addR_go (h : x.dd = false) (h1 : ¬ addBad who seq dat) (h2 : seq = mkP x.st.L who + 1) : addR r x who seq dat = layR r x who seq dat := by rw [addR, if_neg (by simp [h]), if_neg h1, if_neg (by omega), if_neg (by omega)]
end
theorem tSeq_nil : tSeq [] = 0 := by unfold tSeq; rw [numB_def]; decide
attribute [irreducible] mxP openR layR addR
end Go.Proofs.Ytfiojlmccflplaa
