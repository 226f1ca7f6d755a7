/-
  What the document's package of chapter 3 computes, in plain Lean.
-/
import Derived.Test.YthdckldmlbeofaaChSpec
import Derived.Test.YthdckldmlbeofaaD9
namespace Go.Proofs.Ythdckldmlbeofaa
open Go Go.RowKit D
set_option linter.unusedVariables false
set_option linter.unusedSimpArgs false
def rolledR (x n : Int) : Int := ior .u32 (IntKind.u32.wrap (x * 2 ^ min n.toNat 32)) (x / 2 ^ min (32 - n).toNat 32)
theorem rolledR_eq {x n : Int} (h : n = 16 ∨ n = 12 ∨ n = 8 ∨ n = 7) : rolledR x n = rotl x n := by
  rcases h with rfl | rfl | rfl | rfl <;> (unfold rotl rolledR; rfl)
def words (s : List UInt8) (k : Nat) : List Int := (List.range k).map fun i => word (s.drop (4 * i))
theorem words_zero (s : List UInt8) : words s 0 = [] := rfl
theorem words_succ (s : List UInt8) (k : Nat) : words s (k + 1) = words s k ++ [word (s.drop (4 * k))] := by simp [words, List.range_succ]
theorem words_length (s : List UInt8) (k : Nat) : (words s k).length = k := by simp [words]
theorem word_at (s : List UInt8) (m : Nat) : word (s.drop m) =
    ior .u32 (ior .u32 (ior .u32 (IntKind.u32.wrap (bt s m)) (IntKind.u32.wrap (IntKind.u32.wrap (bt s (m + 1)) * 2 ^ 8))) (IntKind.u32.wrap (IntKind.u32.wrap (bt s (m + 2)) * 2 ^ 16))) (IntKind.u32.wrap (IntKind.u32.wrap (bt s (m + 3)) * 2 ^ 24)) := by
  unfold word; simp only [bt_drop, Nat.add_zero]
theorem started_eq (key nonce : List UInt8) (n : Int) : started key nonce n = [1634760805, 857760878, 2036477234, 1797285236] ++ words key 8 ++ [IntKind.u32.wrap n] ++ words nonce 3 := by
  unfold started started2 started1 first4
  simp [fillK_succ, fillK_zero, words, List.range_succ]
theorem roundR (xs : List Int) : quarter (quarter (quarter (quarter (quarter (quarter (quarter (quarter xs 0 4 8 12) 1 5 9 13) 2 6 10 14) 3 7 11 15) 0 5 10 15) 1 6 11 12) 2 7 8 13) 3 4 9 14 = diagK (colK xs 4) 4 := by
  simp only [diagK_succ, colK_succ, diagK_zero, colK_zero]
def outR (xs : List Int) (k : Nat) : List Int := (List.range k).map (outB xs)
theorem outR_zero (xs : List Int) : outR xs 0 = [] := rfl
theorem outR_length (xs : List Int) (k : Nat) : (outR xs k).length = k := by simp [outR]
theorem outB_at (xs : List Int) (i j : Nat) (h : j < 4) : outB xs (4 * i + j) = IntKind.u8.wrap (IntKind.u32.wrap ((roundK xs 10).getD i 0 + xs.getD i 0) / 2 ^ min (8 * j) 32) := by
  unfold outB; rw [show (4 * i + j) / 4 = i from by omega, show (4 * i + j) % 4 = j from by omega]
theorem wrap_wrap8 (x : Int) : IntKind.u8.wrap x = x % 256 := by simp [IntKind.wrap, IntKind.bits, IntKind.signed]
theorem outR_succ4 (xs : List Int) (i : Nat) : outR xs (4 * (i + 1)) = outR xs (4 * i) ++ [IntKind.u8.wrap (IntKind.u32.wrap ((roundK xs 10).getD i 0 + xs.getD i 0)),
    IntKind.u8.wrap (IntKind.u32.wrap ((roundK xs 10).getD i 0 + xs.getD i 0) / 2 ^ 8), IntKind.u8.wrap (IntKind.u32.wrap ((roundK xs 10).getD i 0 + xs.getD i 0) / 2 ^ 16), IntKind.u8.wrap (IntKind.u32.wrap ((roundK xs 10).getD i 0 + xs.getD i 0) / 2 ^ 24)] := by
  rw [show 4 * (i + 1) = 4 * i + 1 + 1 + 1 + 1 from by omega]
  unfold outR
  simp only [List.range_succ, List.map_append, List.map_cons, List.map_nil, List.append_assoc, List.cons_append, List.nil_append, show 4 * i + 1 + 1 = 4 * i + 2 from rfl, show 4 * i + 2 + 1 = 4 * i + 3 from rfl]
  have h0 := outB_at xs i 0 (by omega)
  rw [Nat.add_zero] at h0
  rw [h0, outB_at xs i 1 (by omega), outB_at xs i 2 (by omega), outB_at xs i 3 (by omega)]
  simp
theorem fillK_range (f : Nat → Int) (m : Nat) : ∀ i, i ≤ m → fillK 0 f (List.replicate m 0) i = (List.range i).map f ++ List.replicate (m - i) 0 := by
  intro i
  induction i with
  | zero => intro _; simp [fillK_zero]
  | succ i ih =>
    intro h
    rw [fillK_succ, ih (by omega), List.range_succ, List.map_append]
    have : m - i = (m - (i + 1)) + 1 := by omega
    rw [this, List.replicate_succ]
    simp
theorem stirred_range (xs : List Int) : stirred xs = (List.range 64).map (outB xs) := by
  unfold stirred outK
  rw [fillK_range _ _ _ (Nat.le_refl _)]; simp
theorem stirred_outR (xs : List Int) : stirred xs = outR xs 64 := stirred_range xs
theorem wrong_key {key nonce : List UInt8} {n : Int} (h : key.length ≠ 32 ∨ nonce.length ≠ 12) : wrong key nonce n = 21 := by unfold wrong; rw [if_pos h]
theorem wrong_arg {key nonce : List UInt8} {n : Int} (h1 : key.length = 32) (h2 : nonce.length = 12) (h : n < 0 ∨ n > 4294967295) : wrong key nonce n = 1 := by unfold wrong; rw [if_neg (by omega), if_pos h]
theorem wrong_none {key nonce : List UInt8} {n : Int} (h1 : key.length = 32) (h2 : nonce.length = 12) (h : 0 ≤ n ∧ n ≤ 4294967295) : wrong key nonce n = 0 := by unfold wrong; rw [if_neg (by omega), if_neg (by omega)]
theorem blockP_len {key nonce : List UInt8} {n : Int} (h : wrong key nonce n = 0) : (blockP key nonce n).1.length = 64 := by
  rw [blockP_ok h]; simp [toB_length, stirred_length]
theorem wrong_shift {key nonce : List UInt8} {n : Int} (h : wrong key nonce n = 0) {k : Nat} (hk : n + (k : Int) ≤ 4294967295) : wrong key nonce (n + (k : Int)) = 0 := by
  obtain ⟨h1, h2, h3, h4⟩ := wrong_zero h
  exact wrong_none h1 h2 (by omega)
def xorR (key nonce : List UInt8) (n : Int) (data : List UInt8) (i : Nat) : List Int := (List.range i).map fun j => ixor .u8 (bt data j) (bt (blockP key nonce (n + ((j / 64 : Nat) : Int))).1 (j % 64))
theorem xorR_zero (key nonce : List UInt8) (n : Int) (data : List UInt8) : xorR key nonce n data 0 = [] := rfl
theorem xorR_succ (key nonce : List UInt8) (n : Int) (data : List UInt8) (i : Nat) : xorR key nonce n data (i + 1) = xorR key nonce n data i ++ [ixor .u8 (bt data i) (bt (blockP key nonce (n + ((i / 64 : Nat) : Int))).1 (i % 64))] := by simp [xorR, List.range_succ]
theorem xorR_length (key nonce : List UInt8) (n : Int) (data : List UInt8) (i : Nat) : (xorR key nonce n data i).length = i := by simp [xorR]
def xorRP (key nonce : List UInt8) (n : Int) (data : List UInt8) : List UInt8 × Int :=
  if wrong key nonce n = 0 then (if n + ((data.length : Int) + 63) / 64 > 4294967296 then ([], 13) else (toB (xorR key nonce n data data.length), 0)) else ([], wrong key nonce n)
theorem blockP_snd (key nonce : List UInt8) (n : Int) : (blockP key nonce n).2 = wrong key nonce n := by
  by_cases h : wrong key nonce n = 0
  · rw [blockP_ok h, h]
  · rw [blockP_bad h]
theorem xorRP_bad {key nonce data : List UInt8} {n : Int} (h : ¬ wrong key nonce n = 0) : xorRP key nonce n data = ([], wrong key nonce n) := if_neg h
theorem xorRP_big {key nonce data : List UInt8} {n : Int} (h : wrong key nonce n = 0) (h1 : 4294967296 < n + ((data.length : Int) + 63) / 64) : xorRP key nonce n data = ([], 13) := by rw [xorRP, if_pos h, if_pos h1]
theorem xorRP_ok {key nonce data : List UInt8} {n : Int} (h : wrong key nonce n = 0) (h1 : n + ((data.length : Int) + 63) / 64 ≤ 4294967296) : xorRP key nonce n data = (toB (xorR key nonce n data data.length), 0) := by rw [xorRP, if_pos h, if_neg (by omega)]
attribute [irreducible] words outR xorR
end Go.Proofs.Ythdckldmlbeofaa
