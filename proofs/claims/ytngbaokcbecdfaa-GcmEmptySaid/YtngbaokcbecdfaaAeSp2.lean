/-
  Rounds and keys of chapter 05, in plain Lean.
-/
import Derived.Test.YtngbaokcbecdfaaAeSpec
namespace Go.Proofs.Ytngbaokcbecdfaa
open Go Go.RowKit D
set_option linter.unusedVariables false
set_option linter.unusedSimpArgs false
set_option maxRecDepth 100000
set_option maxHeartbeats 1000000
/-! the keys of the rounds -/
def lastW (l : List UInt8) (j : Nat) (x : UInt8) : List UInt8 :=
  if j % 4 = 0 then [sb (l.getD (l.length - 3) 0) ^^^ x, sb (l.getD (l.length - 2) 0), sb (l.getD (l.length - 1) 0), sb (l.getD (l.length - 4) 0)]
  else [l.getD (l.length - 4) 0, l.getD (l.length - 3) 0, l.getD (l.length - 2) 0, l.getD (l.length - 1) 0]
theorem lastW_yes {l : List UInt8} {j : Nat} {x : UInt8} (h : j % 4 = 0) : lastW l j x = [sb (l.getD (l.length - 3) 0) ^^^ x, sb (l.getD (l.length - 2) 0), sb (l.getD (l.length - 1) 0), sb (l.getD (l.length - 4) 0)] := if_pos h
theorem lastW_no {l : List UInt8} {j : Nat} {x : UInt8} (h : ¬ j % 4 = 0) : lastW l j x = [l.getD (l.length - 4) 0, l.getD (l.length - 3) 0, l.getD (l.length - 2) 0, l.getD (l.length - 1) 0] := if_neg h
theorem lastW_length (l : List UInt8) (j : Nat) (x : UInt8) : (lastW l j x).length = 4 := by unfold lastW; split <;> rfl
def extK (l w : List UInt8) : Nat → List UInt8
  | 0 => l
  | k + 1 => extK l w k ++ [l.getD (l.length - 16 + k) 0 ^^^ w.getD k 0]
theorem extK_zero (l w : List UInt8) : extK l w 0 = l := rfl
theorem extK_succ (l w : List UInt8) (k : Nat) : extK l w (k + 1) = extK l w k ++ [l.getD (l.length - 16 + k) 0 ^^^ w.getD k 0] := rfl
theorem extK_length (l w : List UInt8) (k : Nat) : (extK l w k).length = l.length + k := by
  induction k with
  | zero => rfl
  | succ k ih => rw [extK_succ, List.length_append, ih]; rfl
theorem extK_get (l w : List UInt8) (k j : Nat) (h : j < l.length) : (extK l w k).getD j 0 = l.getD j 0 := by
  induction k with
  | zero => rfl
  | succ k ih =>
    rw [extK_succ, List.getD_eq_getElem?_getD, List.getElem?_append_left (by rw [extK_length]; omega), ← List.getD_eq_getElem?_getD, ih]
def expS (key : List UInt8) : Nat → List UInt8 × UInt8
  | 0 => (key, 1)
  | j + 1 => (extK (expS key j).1 (lastW (expS key j).1 j (expS key j).2) 4, if j % 4 = 0 then tw (expS key j).2 else (expS key j).2)
theorem expS_zero (key : List UInt8) : expS key 0 = (key, 1) := rfl
theorem expS_succ (key : List UInt8) (j : Nat) : expS key (j + 1) = (extK (expS key j).1 (lastW (expS key j).1 j (expS key j).2) 4, if j % 4 = 0 then tw (expS key j).2 else (expS key j).2) := rfl
theorem expS_length (key : List UInt8) (j : Nat) : (expS key j).1.length = key.length + 4 * j := by
  induction j with
  | zero => rfl
  | succ j ih => rw [expS_succ]; show (extK _ _ 4).length = _; rw [extK_length, ih]; omega
attribute [irreducible] lastW extK expS
def keysL (key : List UInt8) : List UInt8 := (expS key 40).1
theorem keysL_length {key : List UInt8} (h : key.length = 16) : (keysL key).length = 176 := by rw [keysL, expS_length, h]
/-- The key of a round. -/
def rkey (ks : List UInt8) (i : Nat) : List UInt8 := (ks.drop (16 * i)).take 16
theorem rkey_length {ks : List UInt8} (h : ks.length = 176) {i : Nat} (hi : i < 11) : (rkey ks i).length = 16 := by rw [rkey, List.length_take, List.length_drop]; omega
theorem rkey_get {ks : List UInt8} {i k : Nat} (hk : k < 16) : (rkey ks i).getD k 0 = ks.getD (16 * i + k) 0 := by
  simp only [rkey, List.getD_eq_getElem?_getD, List.getElem?_take, hk, if_true, List.getElem?_drop]
def keysS (ks : List UInt8) (n : Nat) : List (List UInt8) := (List.range n).map (rkey ks)
theorem keysS_length (ks : List UInt8) (n : Nat) : (keysS ks n).length = n := by simp [keysS]
theorem keysS_zero (ks : List UInt8) : keysS ks 0 = [] := rfl
theorem keysS_succ (ks : List UInt8) (n : Nat) : keysS ks (n + 1) = keysS ks n ++ [rkey ks n] := by simp [keysS, List.range_succ]
theorem keysS_get {ks : List UInt8} {n i : Nat} (h : i < n) : (keysS ks n).getD i [] = rkey ks i := by simp [keysS, h]
/-! a round -/
def withK (s k : List UInt8) : Nat → List UInt8
  | 0 => s
  | i + 1 => (withK s k i).set i ((withK s k i).getD i 0 ^^^ k.getD i 0)
theorem withK_zero (s k : List UInt8) : withK s k 0 = s := rfl
theorem withK_succ (s k : List UInt8) (i : Nat) : withK s k (i + 1) = (withK s k i).set i ((withK s k i).getD i 0 ^^^ k.getD i 0) := rfl
theorem withK_length (s k : List UInt8) (i : Nat) : (withK s k i).length = s.length := by
  induction i with
  | zero => rfl
  | succ i ih => rw [withK_succ]; simp [ih]
/-- The same, laid one behind the other. -/
def xorA (s k : List UInt8) (n : Nat) : List UInt8 := (List.range n).map fun i => s.getD i 0 ^^^ k.getD i 0
theorem xorA_length (s k : List UInt8) (n : Nat) : (xorA s k n).length = n := by simp [xorA]
theorem xorA_zero (s k : List UInt8) : xorA s k 0 = [] := rfl
theorem xorA_succ (s k : List UInt8) (n : Nat) : xorA s k (n + 1) = xorA s k n ++ [s.getD n 0 ^^^ k.getD n 0] := by simp [xorA, List.range_succ]
theorem withK_get (s k : List UInt8) (i j : Nat) (hj : j < s.length) : (withK s k i).getD j 0 = if j < i then s.getD j 0 ^^^ k.getD j 0 else s.getD j 0 := by
  induction i with
  | zero => rfl
  | succ i ih =>
    rw [withK_succ]
    by_cases h : i = j
    · subst h
      rw [List.getD_eq_getElem?_getD, List.getElem?_set_self (by rw [withK_length]; exact hj), Option.getD_some, ih, if_neg (by omega), if_pos (by omega)]
    · rw [List.getD_eq_getElem?_getD, List.getElem?_set_ne h, ← List.getD_eq_getElem?_getD, ih]
      by_cases h2 : j < i
      · rw [if_pos h2, if_pos (by omega)]
      · rw [if_neg h2, if_neg (by omega)]
theorem getD_ext {a b : List UInt8} (hl : a.length = b.length) (h : ∀ i, i < a.length → a.getD i 0 = b.getD i 0) : a = b := by
  apply List.ext_getElem hl
  intro i h1 h2
  have := h i h1
  rwa [List.getD_eq_getElem?_getD, List.getD_eq_getElem?_getD, List.getElem?_eq_getElem h1, List.getElem?_eq_getElem h2] at this
theorem xorA_get {s k : List UInt8} {n j : Nat} (h : j < n) : (xorA s k n).getD j 0 = s.getD j 0 ^^^ k.getD j 0 := by simp [xorA, h]
theorem withK_eq {s k : List UInt8} (hs : s.length = 16) : withK s k 16 = xorA s k 16 := by
  apply getD_ext (by rw [withK_length, xorA_length, hs])
  intro i hi
  rw [withK_length, hs] at hi
  rw [withK_get _ _ _ _ (by omega), if_pos hi, xorA_get hi]
/-- Bytes swapped, and rows shifted. -/
def subA (s : List UInt8) (n : Nat) : List UInt8 := (List.range n).map fun i => sb (s.getD (5 * i % 16) 0)
theorem subA_length (s : List UInt8) (n : Nat) : (subA s n).length = n := by simp [subA]
theorem subA_zero (s : List UInt8) : subA s 0 = [] := rfl
theorem subA_succ (s : List UInt8) (n : Nat) : subA s (n + 1) = subA s n ++ [sb (s.getD (5 * n % 16) 0)] := by simp [subA, List.range_succ]
theorem sub_set {s : List UInt8} {i : Nat} (hi : i < 16) : (subA s i ++ List.replicate (16 - i) 0).set i (sb (s.getD (5 * i % 16) 0)) = subA s (i + 1) ++ List.replicate (16 - (i + 1)) 0 := by
  rw [List.set_append_right _ _ (by rw [subA_length]; exact Nat.le_refl _), subA_length, Nat.sub_self, subA_succ, show 16 - i = (16 - (i + 1)) + 1 from by omega, List.replicate_succ]
  simp
/-- A column, mixed. -/
def mixC (a b c d : UInt8) : List UInt8 := [a ^^^ (a ^^^ b ^^^ c ^^^ d ^^^ tw (a ^^^ b)), b ^^^ (a ^^^ b ^^^ c ^^^ d ^^^ tw (b ^^^ c)), c ^^^ (a ^^^ b ^^^ c ^^^ d ^^^ tw (c ^^^ d)), d ^^^ (a ^^^ b ^^^ c ^^^ d ^^^ tw (d ^^^ a))]
def colA (t : List UInt8) (c : Nat) : List UInt8 := mixC (t.getD (4 * c) 0) (t.getD (4 * c + 1) 0) (t.getD (4 * c + 2) 0) (t.getD (4 * c + 3) 0)
theorem colA_length (t : List UInt8) (c : Nat) : (colA t c).length = 4 := rfl
/-- The first n columns mixed, the others as they were. -/
def mixK (t : List UInt8) : Nat → List UInt8
  | 0 => []
  | n + 1 => mixK t n ++ colA t n
theorem mixK_zero (t : List UInt8) : mixK t 0 = [] := rfl
theorem mixK_succ (t : List UInt8) (n : Nat) : mixK t (n + 1) = mixK t n ++ colA t n := rfl
theorem mixK_length (t : List UInt8) (n : Nat) : (mixK t n).length = 4 * n := by
  induction n with
  | zero => rfl
  | succ n ih => rw [mixK_succ, List.length_append, ih, colA_length]; omega
def roundA (t : List UInt8) (n : Nat) : List UInt8 := if n < 10 then mixK t 4 else t
/-- The state behind n rounds. -/
def stA (ks s : List UInt8) : Nat → List UInt8
  | 0 => xorA s (rkey ks 0) 16
  | n + 1 => xorA (roundA (subA (stA ks s n) 16) (n + 1)) (rkey ks (n + 1)) 16
theorem stA_zero (ks s : List UInt8) : stA ks s 0 = xorA s (rkey ks 0) 16 := rfl
theorem stA_succ (ks s : List UInt8) (n : Nat) : stA ks s (n + 1) = xorA (roundA (subA (stA ks s n) 16) (n + 1)) (rkey ks (n + 1)) 16 := rfl
theorem stA_length (ks s : List UInt8) (n : Nat) : (stA ks s n).length = 16 := by cases n <;> exact xorA_length _ _ _
theorem roundA_length {t : List UInt8} (h : t.length = 16) (n : Nat) : (roundA t n).length = 16 := by
  unfold roundA; split
  · exact mixK_length t 4
  · exact h
/-- A block under a key. -/
def blkA (key s : List UInt8) : List UInt8 := stA (keysL key) s 10
theorem blkA_length (key s : List UInt8) : (blkA key s).length = 16 := stA_length _ _ _
attribute [irreducible] keysL blkA stA
theorem blkA_eq (key s : List UInt8) : stA (keysL key) s 10 = blkA key s := by unfold blkA; rfl
end Go.Proofs.Ytngbaokcbecdfaa
