/-
  Names of numbers, in plain Lean: which may be written.
-/
import Derived.Test.YtbjdmomfcdfanaaDeSp3
namespace Go.Proofs.Ytbjdmomfcdfanaa
open Go Go.RowKit D
set_option linter.unusedVariables false
set_option linter.unusedSimpArgs false
set_option maxRecDepth 100000
set_option maxHeartbeats 1000000
def oidBad (xs : List Int) : Bool := (((decide ((xs.length : Int) < 2) || decide (minK xs (xs.length - 1) < 0)) || decide (2 < xs.getD 0 0)) || (decide (xs.getD 0 0 < 2) && decide (39 < xs.getD 1 0))) || decide (1000000 < xs.getD 1 0)
def oidBig (xs : List Int) : Bool := decide (20 < (xs.length : Int)) || (decide (2 < (xs.length : Int)) && decide (268435455 < maxK (xs.drop 2) ((xs.drop 2).length - 1)))
theorem oidBad_eq (xs : List Int) : ((((decide ((xs.length : Int) < 2) || decide (minK xs (xs.length - 1) < 0)) || decide (2 < xs.getD 0 0)) || (decide (xs.getD 0 0 < 2) && decide (39 < xs.getD 1 0))) || decide (1000000 < xs.getD 1 0)) = oidBad xs := rfl
theorem oidBig_eq (xs : List Int) : (decide (20 < (xs.length : Int)) || (decide (2 < (xs.length : Int)) && decide (268435455 < maxK (xs.drop 2) ((xs.drop 2).length - 1)))) = oidBig xs := rfl
theorem drop_getD (xs : List Int) (k j : Nat) : (xs.drop k).getD j 0 = xs.getD (k + j) 0 := by simp [List.getElem?_drop]
theorem oidBad_no {xs : List Int} (h : oidBad xs = false) : 2 ≤ xs.length ∧ (∀ j, j < xs.length → 0 ≤ xs.getD j 0) ∧ xs.getD 0 0 ≤ 2 ∧ xs.getD 1 0 ≤ 1000000 := by
  unfold oidBad at h
  simp only [Bool.or_eq_false_iff, decide_eq_false_iff_not] at h
  obtain ⟨⟨⟨⟨h1, h2⟩, h3⟩, h4⟩, h5⟩ := h
  refine ⟨by omega, fun j hj => ?_, by omega, by omega⟩
  rcases Int.lt_or_le (xs.getD j 0) 0 with h6 | h6
  · exact absurd ((minK_lt xs 0 _).2 ⟨j, by omega, h6⟩) h2
  · exact h6
theorem oidBad_short {xs : List Int} (h : xs.length < 2) : oidBad xs = true := by
  unfold oidBad; rw [decide_eq_true (show (xs.length : Int) < 2 by omega)]; simp
theorem oidBad_neg {xs : List Int} {j : Nat} (hj : j < xs.length) (h : xs.getD j 0 < 0) : oidBad xs = true := by
  unfold oidBad; rw [decide_eq_true ((minK_lt xs 0 _).2 ⟨j, by omega, h⟩)]; simp
theorem oidBad_rest {xs : List Int} (h : 2 ≤ xs.length) (hn : ∀ j, j < xs.length → 0 ≤ xs.getD j 0) :
    ((decide (2 < xs.getD 0 0) || (decide (xs.getD 0 0 < 2) && decide (39 < xs.getD 1 0))) || decide (1000000 < xs.getD 1 0)) = oidBad xs := by
  unfold oidBad
  rw [decide_eq_false (show ¬ (xs.length : Int) < 2 by omega), decide_eq_false (p := minK xs (xs.length - 1) < 0) (fun g => by
    obtain ⟨j, h1, h2⟩ := (minK_lt xs 0 _).1 g
    have := hn j (by omega)
    omega)]
  simp
theorem oidBig_no {xs : List Int} (h : oidBig xs = false) : xs.length ≤ 20 ∧ ∀ j, 2 ≤ j → j < xs.length → xs.getD j 0 ≤ 268435455 := by
  unfold oidBig at h
  simp only [Bool.or_eq_false_iff, decide_eq_false_iff_not, Bool.and_eq_false_imp, decide_eq_true_eq] at h
  refine ⟨by omega, fun j h1 h2 => ?_⟩
  rcases Int.lt_or_le 268435455 (xs.getD j 0) with h6 | h6
  · have := (maxK_gt (xs.drop 2) 268435455 ((xs.drop 2).length - 1)).2 ⟨j - 2, by rw [List.length_drop]; omega, by rw [drop_getD, show 2 + (j - 2) = j from by omega]; exact h6⟩
    exact absurd this (h.2 (by omega))
  · exact h6
theorem oidBig_long {xs : List Int} (h : 20 < xs.length) : oidBig xs = true := by unfold oidBig; rw [decide_eq_true (show (20 : Int) < (xs.length : Int) by omega)]; rfl
theorem oidBig_at {xs : List Int} {j : Nat} (h1 : 2 ≤ j) (h2 : j < xs.length) (h : 268435455 < xs.getD j 0) : oidBig xs = true := by
  unfold oidBig
  rw [decide_eq_true (show (2 : Int) < (xs.length : Int) by omega), decide_eq_true ((maxK_gt (xs.drop 2) 268435455 ((xs.drop 2).length - 1)).2 ⟨j - 2, by rw [List.length_drop]; omega, by rw [drop_getD, show 2 + (j - 2) = j from by omega]; exact h⟩)]
  simp
theorem oidBig_none {xs : List Int} (h : xs.length ≤ 20) (hn : ∀ j, 2 ≤ j → j < xs.length → xs.getD j 0 ≤ 268435455) : oidBig xs = false := by
  unfold oidBig
  rw [decide_eq_false (show ¬ (20 : Int) < (xs.length : Int) by omega)]
  by_cases h2 : (2 : Int) < (xs.length : Int)
  · rw [decide_eq_false (p := 268435455 < maxK (xs.drop 2) ((xs.drop 2).length - 1)) (fun g => by
      obtain ⟨j, h3, h4⟩ := (maxK_gt (xs.drop 2) 268435455 ((xs.drop 2).length - 1)).1 g
      rw [drop_getD] at h4
      rw [List.length_drop] at h3
      have := hn (2 + j) (by omega) (by omega)
      omega)]; simp
  · rw [decide_eq_false h2]; rfl
/-- The groups of the first two numbers, and of i more. -/
def oidK (xs : List Int) : Nat → List UInt8
  | 0 => grpL (40 * xs.getD 0 0 + xs.getD 1 0)
  | i + 1 => oidK xs i ++ grpL (xs.getD (2 + i) 0)
theorem oidK_zero (xs : List Int) : oidK xs 0 = grpL (40 * xs.getD 0 0 + xs.getD 1 0) := rfl
theorem oidK_succ (xs : List Int) (i : Nat) : oidK xs (i + 1) = oidK xs i ++ grpL (xs.getD (2 + i) 0) := rfl
theorem oidK_length (xs : List Int) : ∀ i, (oidK xs i).length ≤ 5 * (i + 1) := by
  intro i
  induction i with
  | zero => exact grpL_length _
  | succ i ih => rw [oidK_succ, List.length_append]; have := grpL_length (xs.getD (2 + i) 0); omega
def oidP (xs : List Int) : List UInt8 × Int := if oidBad xs = true then ([], 1) else if oidBig xs = true then ([], 13) else writeP 6 (oidK xs (xs.length - 2))
theorem oidP_bad {xs : List Int} (h : oidBad xs = true) : oidP xs = ([], 1) := if_pos h
theorem oidP_big {xs : List Int} (h : oidBad xs = false) (h1 : oidBig xs = true) : oidP xs = ([], 13) := by rw [oidP, if_neg (by rw [h]; decide), if_pos h1]
theorem oidP_ok {xs : List Int} (h : oidBad xs = false) (h1 : oidBig xs = false) : oidP xs = writeP 6 (oidK xs (xs.length - 2)) := by rw [oidP, if_neg (by rw [h]; decide), if_neg (by rw [h1]; decide)]
theorem lgr_rev (n : Int) (i : Nat) : [b8 (128 + n / 128 ^ (i + 1) % 128)] ++ (lgr n (i + 1)).reverse = (lgr n (i + 1 + 1)).reverse := by
  rw [lgr_succ n (i + 1), List.reverse_append, if_neg (by omega)]; rfl
theorem lgr_first (n : Int) : [b8 (n % 128)] = (lgr n 1).reverse := by
  rw [lgr_succ, lgr_zero', if_pos rfl, Int.pow_zero, Int.ediv_one, Int.zero_add]; rfl
theorem quo128 (n : Int) (i : Nat) : n / 128 ^ i / 128 = n / 128 ^ (i + 1) := by
  rw [Int.pow_succ, Int.ediv_ediv_of_nonneg (Int.pow_nonneg (by decide))]
attribute [irreducible] oidBad oidBig oidK
end Go.Proofs.Ytbjdmomfcdfanaa
