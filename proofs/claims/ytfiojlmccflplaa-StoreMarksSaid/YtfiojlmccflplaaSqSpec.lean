/-
  Messages with numbers, and those that are not acknowledged. No condition.
-/
import Derived.Test.YtfiojlmccflplaaSpSpec
import Derived.Test.YtfiojlmccflplaaDU
namespace Go.Proofs.Ytfiojlmccflplaa
open Go Go.RowKit D
set_option linter.unusedVariables false
set_option linter.unusedSimpArgs false
structure RecS where
  seq : Int
  dat : List UInt8
instance : DecidableEq RecS := fun a b => decidable_of_iff (a.seq = b.seq ∧ a.dat = b.dat) (by cases a; cases b; simp)
def recC (r : RecS) : List Value := [.int .i64 r.seq, S r.dat]
abbrev RecL := List RecS
theorem recC_len (r : RecS) : (recC r).length = 2 := rfl
theorem recC_one (r : RecS) : ∀ u ∈ recC r, u.oneCell' = true := by
  intro u hu
  simp only [recC, List.mem_cons, List.mem_nil_iff, or_false] at hu
  rcases hu with rfl | rfl <;> rfl
/-- Those behind a number. -/
def kp (n : Int) (l : RecL) : RecL := l.filter fun r => decide (n < r.seq)
theorem kp_append (n : Int) (a b : RecL) : kp n (a ++ b) = kp n a ++ kp n b := by simp [kp]
structure DelI (n : Int) (l l2 : RecL) (i j : Nat) : Prop where
  len : l2.length = l.length
  kept : l2.take i = kp n (l.take j)
  rest : l2.drop j = l.drop j
  lt : i < j
  le : j ≤ l.length
variable {n : Int} {l l2 : RecL} {i j : Nat} {r : RecS}
theorem take_more (h : l[j]? = some r) : l.take (j + 1) = l.take j ++ [r] := by
  obtain ⟨h1, h2⟩ := List.getElem?_eq_some_iff.1 h
  rw [← List.take_append_getElem h1, h2]
theorem del_init (h : l[0]? = some r) (hr : r.seq ≤ n) : DelI n l l 0 1 := by
  have h1 := (List.getElem?_eq_some_iff.1 h).1
  refine ⟨rfl, ?_, rfl, by omega, by omega⟩
  rw [take_more h]
  simp [kp]; omega
theorem del_get (h : DelI n l l2 i j) : l2[j]? = l[j]? := by
  have := congrArg (fun x => x[0]?) h.rest
  simpa using this
theorem del_skip (h : DelI n l l2 i j) (hr : l[j]? = some r) (hn : r.seq ≤ n) : DelI n l l2 i (j + 1) := by
  have h1 := (List.getElem?_eq_some_iff.1 hr).1
  refine ⟨h.len, ?_, ?_, by have := h.lt; omega, by omega⟩
  · rw [take_more hr, kp_append, ← h.kept]
    simp [kp]; omega
  · rw [← List.drop_drop, ← List.drop_drop, h.rest]
theorem del_keep (h : DelI n l l2 i j) (hr : l[j]? = some r) (hn : n < r.seq) : DelI n l (l2.set i r) (i + 1) (j + 1) := by
  have h1 := (List.getElem?_eq_some_iff.1 hr).1
  have hlt := h.lt
  have hi : i < l2.length := by rw [h.len]; omega
  refine ⟨by rw [List.length_set, h.len], ?_, ?_, by omega, by omega⟩
  · rw [take_more (r := r) (by rw [List.getElem?_set_self hi]), List.take_set, List.set_eq_of_length_le (by rw [List.length_take]; omega), h.kept, take_more hr, kp_append]
    simp [kp, hn]
  · rw [List.drop_set, if_pos (by omega), ← List.drop_drop, ← List.drop_drop, h.rest]
theorem del_end (h : DelI n l l2 i l.length) : l2.take i = kp n l := by rw [h.kept, List.take_length]
theorem kp_len (h : DelI n l l2 i l.length) : (kp n l).length = i := by rw [← del_end h, List.length_take, h.len, Nat.min_eq_left (Nat.le_of_lt h.lt)]
end Go.Proofs.Ytfiojlmccflplaa
