/-
  What the frames of package spool are, in plain Lean. No condition.
-/
import Derived.Test.YtfiojlmccflplaaShSpec
import Derived.Test.YtfiojlmccflplaaDZ
import Derived.Test.YtfiojlmccflplaaDI
namespace Go.Proofs.Ytfiojlmccflplaa
open Go Go.RowKit D
set_option linter.unusedVariables false
set_option linter.unusedSimpArgs false
theorem shl_or8 {n b : Int} (h0 : 0 ≤ b) (h1 : b < 256) (h2 : -36028797018963968 ≤ n) (h3 : n < 36028797018963968) : ior .i64 (IntKind.i64.wrap (n * 2 ^ 8)) b = 256 * n + b := by
  rw [wrap_i64_in (by omega) (by omega)]
  unfold ior
  obtain ⟨m, rfl⟩ := Int.eq_ofNat_of_zero_le h0
  rw [BitVec.toNat_or, show IntKind.i64.bits = 64 from rfl, bv_nat 64 m (by omega)]
  have e : (BitVec.ofInt 64 (n * 2 ^ 8)).toNat = (n % 72057594037927936).toNat * 2 ^ 8 := by
    rw [BitVec.toNat_ofInt]
    have : (n * 2 ^ 8) % ((2 ^ 64 : Nat) : Int) = (n % 72057594037927936) * 2 ^ 8 := by omega
    rw [this]; omega
  rw [e, Nat.or_comm, or_add (by omega)]
  have w : ∀ x : Int, IntKind.i64.wrap x = (x + 9223372036854775808) % 18446744073709551616 - 9223372036854775808 := by
    intro x; simp [IntKind.wrap, IntKind.bits, IntKind.signed]; omega
  rw [w]; omega

/-- The number of the first bytes. -/
def numK (l : List UInt8) : Nat → Int
  | 0 => 0
  | j + 1 => 256 * numK l j + bt l j
theorem numK_zero (l : List UInt8) : numK l 0 = 0 := rfl
theorem numK_succ (l : List UInt8) (j : Nat) : numK l (j + 1) = 256 * numK l j + bt l j := rfl
theorem numK_range (l : List UInt8) : ∀ j, j ≤ 4 → 0 ≤ numK l j ∧ numK l j < 256 ^ j := by
  intro j
  induction j with
  | zero => intro _; rw [numK_zero]; decide
  | succ j ih =>
    intro h
    have := ih (by omega)
    have hb := bt_range l j
    rw [numK_succ, Int.pow_succ]; omega
theorem numK_small (l : List UInt8) {j : Nat} (h : j ≤ 4) : 0 ≤ numK l j ∧ numK l j < 4294967296 := by
  have h0 := numK_range l j h
  have h1 : j = 0 ∨ j = 1 ∨ j = 2 ∨ j = 3 ∨ j = 4 := by omega
  rcases h1 with rfl | rfl | rfl | rfl | rfl <;> omega
theorem numK_take (l : List UInt8) {n : Nat} : ∀ j, j ≤ n → numK (l.take n) j = numK l j := by
  intro j
  induction j with
  | zero => intro _; rfl
  | succ j ih => intro h; rw [numK_succ, numK_succ, ih (by omega), bt_take l (by omega)]
def numB (l : List UInt8) : Int := numK l 4
theorem numB_range (l : List UInt8) : 0 ≤ numB l ∧ numB l < 4294967296 := by
  have := numK_range l 4 (by omega)
  unfold numB; omega
def fourB (n : Int) : List UInt8 := toB [IntKind.u8.wrap (n / 2 ^ 24), IntKind.u8.wrap (n / 2 ^ 16), IntKind.u8.wrap (n / 2 ^ 8), IntKind.u8.wrap n]
theorem fourB_length (n : Int) : (fourB n).length = 4 := rfl
def sumB (body : List UInt8) : List UInt8 := (sha256 body).take 8
theorem sumB_length (body : List UInt8) : (sumB body).length = 8 := by unfold sumB; rw [List.length_take, sha256_length]; rfl
def bodyB (s : List UInt8) : List UInt8 := (s.take (4 + numB s).toNat).drop (Int.toNat 4)
def tailB (s : List UInt8) : List UInt8 := (s.take (4 + numB s + 12 - 4).toNat).drop (4 + numB s).toNat
theorem bodyB_le (s : List UInt8) : (bodyB s).length ≤ s.length := by unfold bodyB; rw [List.length_drop, List.length_take]; omega
def firstP (s : List UInt8) : List UInt8 × Bool :=
  if (s.length : Int) < 12 ∨ (s.length : Int) - 12 < numB s then ([], false) else (bodyB s, decide (sumB (bodyB s) = tailB s))
theorem firstP_no {s : List UInt8} (h : (s.length : Int) < 12 ∨ (s.length : Int) - 12 < numB s) : firstP s = ([], false) := if_pos h
theorem firstP_yes {s : List UInt8} (h : ¬ ((s.length : Int) < 12 ∨ (s.length : Int) - 12 < numB s)) : firstP s = (bodyB s, decide (sumB (bodyB s) = tailB s)) := if_neg h
attribute [irreducible] numB fourB sumB
theorem numB_def (l : List UInt8) : numB l = numK l 4 := by unfold numB; rfl
theorem fourB_def (n : Int) : fourB n = toB [IntKind.u8.wrap (n / 2 ^ 24), IntKind.u8.wrap (n / 2 ^ 16), IntKind.u8.wrap (n / 2 ^ 8), IntKind.u8.wrap n] := by unfold fourB; rfl
theorem sumB_def (l : List UInt8) : sumB l = (sha256 l).take 8 := by unfold sumB; rfl
end Go.Proofs.Ytfiojlmccflplaa
