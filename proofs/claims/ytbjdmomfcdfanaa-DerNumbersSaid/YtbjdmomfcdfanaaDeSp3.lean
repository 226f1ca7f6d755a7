/-
  Names of numbers, in plain Lean: writing.
-/
import Derived.Test.YtbjdmomfcdfanaaDeSp2
import Derived.Test.YtbjdmomfcdfanaaDW
namespace Go.Proofs.Ytbjdmomfcdfanaa
open Go Go.RowKit D
set_option linter.unusedVariables false
set_option linter.unusedSimpArgs false
set_option maxRecDepth 100000
set_option maxHeartbeats 1000000
/-! the least and the greatest -/
def minK (xs : List Int) : Nat → Int
  | 0 => xs.getD 0 0
  | i + 1 => min (minK xs i) (xs.getD (i + 1) 0)
theorem minK_zero (xs : List Int) : minK xs 0 = xs.getD 0 0 := rfl
theorem minK_succ (xs : List Int) (i : Nat) : minK xs (i + 1) = min (minK xs i) (xs.getD (i + 1) 0) := rfl
def maxK (xs : List Int) : Nat → Int
  | 0 => xs.getD 0 0
  | i + 1 => max (maxK xs i) (xs.getD (i + 1) 0)
theorem maxK_zero (xs : List Int) : maxK xs 0 = xs.getD 0 0 := rfl
theorem maxK_succ (xs : List Int) (i : Nat) : maxK xs (i + 1) = max (maxK xs i) (xs.getD (i + 1) 0) := rfl
theorem minK_lt (xs : List Int) (c : Int) : ∀ i, minK xs i < c ↔ ∃ j, j ≤ i ∧ xs.getD j 0 < c := by
  intro i
  induction i with
  | zero => exact ⟨fun h => ⟨0, Nat.le_refl _, h⟩, fun ⟨j, hj, h⟩ => by rw [show j = 0 from by omega] at h; exact h⟩
  | succ i ih =>
    rw [minK_succ]
    constructor
    · intro h
      by_cases h1 : minK xs i < c
      · obtain ⟨j, h2, h3⟩ := ih.1 h1; exact ⟨j, by omega, h3⟩
      · exact ⟨i + 1, Nat.le_refl _, by omega⟩
    · rintro ⟨j, h1, h2⟩
      by_cases h3 : j ≤ i
      · have := ih.2 ⟨j, h3, h2⟩; omega
      · obtain rfl : j = i + 1 := by omega
        omega
theorem maxK_gt (xs : List Int) (c : Int) : ∀ i, c < maxK xs i ↔ ∃ j, j ≤ i ∧ c < xs.getD j 0 := by
  intro i
  induction i with
  | zero => exact ⟨fun h => ⟨0, Nat.le_refl _, h⟩, fun ⟨j, hj, h⟩ => by rw [show j = 0 from by omega] at h; exact h⟩
  | succ i ih =>
    rw [maxK_succ]
    constructor
    · intro h
      by_cases h1 : c < maxK xs i
      · obtain ⟨j, h2, h3⟩ := ih.1 h1; exact ⟨j, by omega, h3⟩
      · exact ⟨i + 1, Nat.le_refl _, by omega⟩
    · rintro ⟨j, h1, h2⟩
      by_cases h3 : j ≤ i
      · have := ih.2 ⟨j, h3, h2⟩; omega
      · obtain rfl : j = i + 1 := by omega
        omega
/-! turned around, two at a time -/
def revK (l : List UInt8) (i : Nat) : List UInt8 := (List.range l.length).map fun j => if j < i ∨ l.length - i ≤ j then l.getD (l.length - 1 - j) 0 else l.getD j 0
theorem revK_length (l : List UInt8) (i : Nat) : (revK l i).length = l.length := by simp [revK]
theorem revK_get (l : List UInt8) {i j : Nat} (h : j < l.length) : (revK l i).getD j 0 = if j < i ∨ l.length - i ≤ j then l.getD (l.length - 1 - j) 0 else l.getD j 0 := by simp [revK, h]
theorem getD_ext {a b : List UInt8} (hl : a.length = b.length) (h : ∀ i, i < a.length → a.getD i 0 = b.getD i 0) : a = b := by
  apply List.ext_getElem hl
  intro i h1 h2
  have := h i h1
  rwa [List.getD_eq_getElem?_getD, List.getD_eq_getElem?_getD, List.getElem?_eq_getElem h1, List.getElem?_eq_getElem h2] at this
theorem revK_zero (l : List UInt8) : revK l 0 = l := by
  apply getD_ext (revK_length _ _)
  intro j hj
  rw [revK_length] at hj
  rw [revK_get _ hj, if_neg (by omega)]
theorem revK_done (l : List UInt8) {i : Nat} (h : l.length ≤ 2 * i + 1) : revK l i = l.reverse := by
  apply getD_ext (by rw [revK_length, List.length_reverse])
  intro j hj
  rw [revK_length] at hj
  rw [revK_get _ hj, List.getD_eq_getElem?_getD (l := l.reverse), List.getElem?_reverse hj, ← List.getD_eq_getElem?_getD]
  by_cases h1 : j < i ∨ l.length - i ≤ j
  · rw [if_pos h1]
  · rw [if_neg h1]; congr 1; omega
theorem set_getD (l : List UInt8) {i j : Nat} {c : UInt8} (hj : j < l.length) : (l.set i c).getD j 0 = if i = j then c else l.getD j 0 := by
  rw [List.getD_eq_getElem?_getD, List.getElem?_set]
  by_cases h : i = j
  · subst h; simp [hj]
  · simp [h]
theorem revK_step (l : List UInt8) {i : Nat} (h : 2 * i + 1 < l.length) :
    ((revK l i).set i ((revK l i).getD (l.length - 1 - i) 0)).set (l.length - 1 - i) ((revK l i).getD i 0) = revK l (i + 1) := by
  apply getD_ext (by simp [revK_length])
  intro j hj
  have hj' : j < l.length := by simpa [revK_length] using hj
  rw [set_getD _ (by simpa [revK_length] using hj'), set_getD _ (by rw [revK_length]; exact hj'), revK_get _ hj', revK_get _ hj', revK_get _ (by omega), revK_get _ (by omega)]
  by_cases h1 : l.length - 1 - i = j
  · rw [if_pos h1, if_neg (by omega), if_pos (by omega)]; congr 1; omega
  · rw [if_neg h1]
    by_cases h2 : i = j
    · rw [if_pos h2, if_neg (by omega), if_pos (by omega)]; congr 1; omega
    · rw [if_neg h2]
      by_cases h3 : j < i ∨ l.length - i ≤ j
      · rw [if_pos h3, if_pos (by omega)]
      · rw [if_neg h3, if_neg (by omega)]
/-! groups of seven bits -/
def lgr (n : Int) (i : Nat) : List UInt8 := (List.range i).map fun j => b8 ((if j = 0 then 0 else 128) + n / 128 ^ j % 128)
theorem lgr_zero (n : Int) : lgr n 0 = [] := rfl
theorem lgr_succ (n : Int) (i : Nat) : lgr n (i + 1) = lgr n i ++ [b8 ((if i = 0 then 0 else 128) + n / 128 ^ i % 128)] := by simp [lgr, List.range_succ]
theorem lgr_length (n : Int) (i : Nat) : (lgr n i).length = i := by simp [lgr]
def cnt (n : Int) : Nat := if n < 128 then 1 else if n < 16384 then 2 else if n < 2097152 then 3 else if n < 268435456 then 4 else 5
theorem cnt_le (n : Int) : 1 ≤ cnt n ∧ cnt n ≤ 5 := by
  unfold cnt
  repeat' split
  all_goals omega
theorem cnt_more {n : Int} (h0 : 0 ≤ n) (h1 : n < 34359738368) {i : Nat} (h : 0 < n / 128 ^ i) : i < cnt n := by
  have h5 : i < 5 := by
    rcases Nat.lt_or_ge i 5 with h2 | h2
    · exact h2
    · have e : (128 : Int) ^ 5 ≤ 128 ^ i := by
        have : (128 : Nat) ^ 5 ≤ 128 ^ i := Nat.pow_le_pow_right (by decide) h2
        have e : ((128 ^ 5 : Nat) : Int) ≤ ((128 ^ i : Nat) : Int) := Int.ofNat_le.2 this
        simpa using e
      have e5 : (128 : Int) ^ 5 = 34359738368 := by decide
      rw [Int.ediv_eq_zero_of_lt h0 (by omega)] at h
      omega
  unfold cnt
  obtain rfl | rfl | rfl | rfl | rfl : i = 0 ∨ i = 1 ∨ i = 2 ∨ i = 3 ∨ i = 4 := by omega
  all_goals (repeat' split) <;> first | omega | (simp at h; omega)
theorem cnt_stop {n : Int} {i : Nat} (hi : 1 ≤ i) (h : n / 128 ^ i ≤ 0) (hc : i ≤ cnt n) : i = cnt n := by
  have := cnt_le n
  unfold cnt at *
  obtain rfl | rfl | rfl | rfl | rfl : i = 1 ∨ i = 2 ∨ i = 3 ∨ i = 4 ∨ i = 5 := by omega
  all_goals (repeat' split at hc) <;> (repeat' split) <;> first | omega | (simp at h; omega)
def grpL (n : Int) : List UInt8 := (lgr n (cnt n)).reverse
theorem grpL_length (n : Int) : (grpL n).length ≤ 5 := by rw [grpL, List.length_reverse, lgr_length]; exact (cnt_le n).2
theorem seven_step (n : Int) (i : Nat) : n / 128 ^ i / 2 ^ 7 = n / 128 ^ (i + 1) := by
  rw [Int.pow_succ, Int.ediv_ediv_of_nonneg (Int.pow_nonneg (by decide))]; rfl
theorem low7 {m : Int} (h0 : 0 ≤ m) (h1 : m < 34359738368) : iand .i64 m 127 = m % 128 := by
  have := mask_i64 7 (by decide) (x := m) h0 (by omega) 127 (by decide)
  simpa using this
theorem or_top {m : Int} (h0 : 0 ≤ m) (h1 : m < 128) : (128 : UInt8) ||| b8 m = b8 (128 + m) := by
  obtain ⟨q, rfl⟩ := Int.eq_ofNat_of_zero_le h0
  have : ∀ q : Nat, q < 128 → (128 : UInt8) ||| b8 (q : Int) = b8 (128 + (q : Int)) := by decide +kernel
  exact this q (by omega)
theorem or_none (m : Int) : (0 : UInt8) ||| b8 m = b8 (0 + m) := by rw [UInt8.zero_or, Int.zero_add]
theorem quo_range {n : Int} (h0 : 0 ≤ n) (h1 : n < 34359738368) (i : Nat) : 0 ≤ n / 128 ^ i ∧ n / 128 ^ i < 34359738368 := by
  have hp : (0 : Int) < 128 ^ i := Int.pow_pos (by decide)
  exact ⟨Int.ediv_nonneg h0 (by omega), Int.lt_of_le_of_lt (Int.ediv_le_self _ h0) h1⟩
theorem lgr_zero' (n : Int) : lgr n 0 = [] := rfl
theorem minK_zero' (xs : List Int) : minK xs 0 = xs.getD 0 0 := rfl
theorem maxK_zero' (xs : List Int) : maxK xs 0 = xs.getD 0 0 := rfl
theorem minK_succ' (xs : List Int) (i : Nat) : minK xs (i + 1) = min (minK xs i) (xs.getD (i + 1) 0) := rfl
theorem maxK_succ' (xs : List Int) (i : Nat) : maxK xs (i + 1) = max (maxK xs i) (xs.getD (i + 1) 0) := rfl
theorem grpL_eq (n : Int) : grpL n = (lgr n (cnt n)).reverse := rfl
attribute [irreducible] minK maxK revK lgr cnt grpL
end Go.Proofs.Ytbjdmomfcdfanaa
