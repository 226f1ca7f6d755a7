/-
  What the document's tape does, in plain Lean, and that it does as package tape's.
-/
import Derived.Test.YtfiojlmccflplaaTaSpec
namespace Go.Proofs.Ytfiojlmccflplaa
open Go Go.RowKit D
set_option linter.unusedVariables false
set_option linter.unusedSimpArgs false
structure RefS where
  t : List UInt8
  firm : Int
  lim : Int
  ar : Int
  dd : Bool
def rcells (r : RefS) : List Value := [S r.t, .int .i64 r.firm, .int .i64 r.lim, .int .i64 r.ar, .bool r.dd]
abbrev rblk (r : RefS) : Blk := ⟨rcells r, 5, 90⟩
@[simp] theorem rcells_length (r : RefS) : (rcells r).length = 5 := rfl
def actR (r : RefS) : RefS := if 0 < r.ar then { r with ar := r.ar - 1, dd := decide (r.ar - 1 = 0) } else r
theorem actR_pos {r : RefS} (h : 0 < r.ar) : actR r = { r with ar := r.ar - 1, dd := decide (r.ar - 1 = 0) } := if_pos h
theorem actR_zero {r : RefS} (h : r.ar ≤ 0) : actR r = r := if_neg (by omega)
theorem actR_same (r : RefS) : (actR r).t = r.t ∧ (actR r).firm = r.firm ∧ (actR r).lim = r.lim := by unfold actR; split <;> exact ⟨rfl, rfl, rfl⟩
def appendR (r : RefS) (d : List UInt8) : Int × RefS :=
  if r.dd = true then (41, r) else if r.lim < (r.t.length : Int) + (d.length : Int) then (40, r) else (if (actR { r with t := r.t ++ d }).dd = true then 41 else 0, actR { r with t := r.t ++ d })
def syncR (r : RefS) : Int × RefS := if r.dd = true then (41, r) else if (actR r).dd = true then (41, actR r) else (0, { actR r with firm := (r.t.length : Int) })
def cutR (r : RefS) (n : Int) : Int × RefS :=
  if r.dd = true then (41, r) else if n < 0 ∨ (r.t.length : Int) < n then (1, r) else if (actR r).dd = true then (41, actR r) else (0, { actR r with t := r.t.take n.toNat, firm := n })
theorem syncR_dead {r : RefS} (h : r.dd = true) : syncR r = (41, r) := if_pos h
theorem syncR_die {r : RefS} (h : r.dd = false) (h1 : (actR r).dd = true) : syncR r = (41, actR r) := by unfold syncR; rw [if_neg (by simp [h]), if_pos h1]
theorem syncR_ok {r : RefS} (h : r.dd = false) (h1 : (actR r).dd = false) : syncR r = (0, { actR r with firm := ((actR r).t.length : Int) }) := by unfold syncR; rw [if_neg (by simp [h]), if_neg (by simp [h1]), (actR_same r).1]
theorem cutR_dead {r : RefS} {n : Int} (h : r.dd = true) : cutR r n = (41, r) := if_pos h
theorem cutR_bad {r : RefS} {n : Int} (h : r.dd = false) (h1 : n < 0 ∨ (r.t.length : Int) < n) : cutR r n = (1, r) := by unfold cutR; rw [if_neg (by simp [h]), if_pos h1]
theorem cutR_die {r : RefS} {n : Int} (h : r.dd = false) (h1 : 0 ≤ n ∧ n ≤ (r.t.length : Int)) (h2 : (actR r).dd = true) : cutR r n = (41, actR r) := by unfold cutR; rw [if_neg (by simp [h]), if_neg (by omega), if_pos h2]
theorem cutR_ok {r : RefS} {n : Int} (h : r.dd = false) (h1 : 0 ≤ n ∧ n ≤ (r.t.length : Int)) (h2 : (actR r).dd = false) : cutR r n = (0, { actR r with t := (actR r).t.take n.toNat, firm := n }) := by unfold cutR; rw [if_neg (by simp [h]), if_neg (by omega), if_neg (by simp [h2]), (actR_same r).1]
def readR (r : RefS) : List UInt8 × Int := if r.dd = true then ([], 41) else (r.t, 0)
def armR (r : RefS) (n : Int) : RefS := { r with ar := max n 0 }
def crashT (r : RefS) (keep : Int) (spoil : Bool) : List UInt8 :=
  if spoil = true ∧ 0 < max 0 (min keep ((r.t.length : Int) - r.firm)) then spoilP (r.t.take (r.firm + max 0 (min keep ((r.t.length : Int) - r.firm))).toNat) else r.t.take (r.firm + max 0 (min keep ((r.t.length : Int) - r.firm))).toNat
def crashR (r : RefS) (keep : Int) (spoil : Bool) : RefS := { r with t := crashT r keep spoil, firm := ((crashT r keep spoil).length : Int), dd := false, ar := 0 }
def RefOk (r : RefS) : Prop := 0 ≤ r.firm ∧ r.firm ≤ (r.t.length : Int) ∧ (r.t.length : Int) ≤ 16777216 ∧ r.ar ≤ 9223372036854775807
/-- The two say the same. -/
structure Sim (s : TapeS) (r : RefS) : Prop where
  t : r.t = s.f ++ s.l
  firm : r.firm = (s.f.length : Int)
  lim : r.lim = s.lim
  dd : r.dd = s.dd
  ar : s.dd = false → r.ar = s.ar
theorem Sim.ok {s : TapeS} {r : RefS} (h : Sim s r) (hs : TapeOk s) (hr : r.ar ≤ 9223372036854775807) : RefOk r := by
  obtain ⟨h1, h2, h3, h4⟩ := hs
  have := congrArg List.length h.t
  rw [List.length_append] at this
  refine ⟨?_, ?_, ?_, hr⟩
  · rw [h.firm]; omega
  · rw [h.firm]; omega
  · omega
end Go.Proofs.Ytfiojlmccflplaa
