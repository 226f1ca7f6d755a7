/-
  What package chacha computes, in plain Lean.
-/
import Derived.Test.YthdckldmlbeofaaD7
namespace Go.Proofs.Ythdckldmlbeofaa
open Go Go.RowKit D
theorem iand_nonneg (a b : Int) : 0 ≤ iand .u64 a b := by
  unfold iand
  have : IntKind.u64.wrap ((BitVec.ofInt IntKind.u64.bits a &&& BitVec.ofInt IntKind.u64.bits b).toNat : Int) = ((BitVec.ofInt IntKind.u64.bits a &&& BitVec.ofInt IntKind.u64.bits b).toNat : Int) % 18446744073709551616 := by simp [IntKind.wrap, IntKind.bits, IntKind.signed]
  rw [this]; omega
theorem wrap_u64_nonneg (a : Int) : 0 ≤ IntKind.u64.wrap a := by
  have : IntKind.u64.wrap a = a % 18446744073709551616 := by simp [IntKind.wrap, IntKind.bits, IntKind.signed]
  rw [this]; omega
def rotl (x k : Int) : Int :=
  let s := iand .u64 (IntKind.u64.wrap k) 31
  ior .u32 (IntKind.u32.wrap (x * 2 ^ min s.toNat 32)) (x / 2 ^ min (IntKind.u64.wrap (32 - s)).toNat 32)
def word (s : List UInt8) : Int :=
  ior .u32 (ior .u32 (ior .u32 (IntKind.u32.wrap (bt s 0)) (IntKind.u32.wrap (IntKind.u32.wrap (bt s 1) * 2 ^ 8))) (IntKind.u32.wrap (IntKind.u32.wrap (bt s 2) * 2 ^ 16))) (IntKind.u32.wrap (IntKind.u32.wrap (bt s 3) * 2 ^ 24))
def addAt (xs : List Int) (a b : Nat) : List Int := xs.set a (IntKind.u32.wrap (xs.getD a 0 + xs.getD b 0))
def turnAt (xs : List Int) (d a : Nat) (k : Int) : List Int := xs.set d (rotl (ixor .u32 (xs.getD d 0) (xs.getD a 0)) k)
def quarter (xs : List Int) (a b c d : Nat) : List Int :=
  turnAt (addAt (turnAt (addAt (turnAt (addAt (turnAt (addAt xs a b) d a 16) c d) b c 12) a b) d a 8) c d) b c 7
def wrong (key nonce : List UInt8) (n : Int) : Int :=
  if key.length ≠ 32 ∨ nonce.length ≠ 12 then 21 else if n < 0 ∨ n > 4294967295 then 1 else 0
def first4 : List Int := [1634760805, 857760878, 2036477234, 1797285236, 0, 0, 0, 0, 0, 0, 0, 0, 0, 0, 0, 0]
/-- xs with f 0, f 1, .. from place a on, i of them. -/
def fillK (a : Nat) (f : Nat → Int) (xs : List Int) : Nat → List Int
  | 0 => xs
  | i + 1 => (fillK a f xs i).set (a + i) (f i)
theorem fillK_succ (a : Nat) (f : Nat → Int) (xs : List Int) (i : Nat) : fillK a f xs (i + 1) = (fillK a f xs i).set (a + i) (f i) := rfl
theorem fillK_zero (a : Nat) (f : Nat → Int) (xs : List Int) : fillK a f xs 0 = xs := rfl
theorem fillK_length (a : Nat) (f : Nat → Int) (xs : List Int) (i : Nat) : (fillK a f xs i).length = xs.length := by
  induction i with
  | zero => rfl
  | succ i ih => simp [fillK, ih]
def started1 (key : List UInt8) (i : Nat) : List Int := fillK 4 (fun i => word (key.drop (4 * i))) first4 i
def started2 (key nonce : List UInt8) (n : Int) (i : Nat) : List Int := fillK 13 (fun i => word (nonce.drop (4 * i))) ((started1 key 8).set 12 (IntKind.u32.wrap n)) i
def started (key nonce : List UInt8) (n : Int) : List Int := started2 key nonce n 3
theorem started1_length (key : List UInt8) (i : Nat) : (started1 key i).length = 16 := by rw [started1, fillK_length]; rfl
theorem started2_length (key nonce : List UInt8) (n : Int) (i : Nat) : (started2 key nonce n i).length = 16 := by rw [started2, fillK_length]; simp [started1_length]
theorem quarter_length (xs : List Int) (a b c d : Nat) : (quarter xs a b c d).length = xs.length := by simp [quarter, turnAt, addAt]
attribute [irreducible] quarter fillK
def colK (xs : List Int) : Nat → List Int
  | 0 => xs
  | j + 1 => quarter (colK xs j) j (4 + j) (8 + j) (12 + j)
def diagK (xs : List Int) : Nat → List Int
  | 0 => xs
  | j + 1 => quarter (diagK xs j) j (4 + (j + 1) % 4) (8 + (j + 2) % 4) (12 + (j + 3) % 4)
def roundK (xs : List Int) : Nat → List Int
  | 0 => xs
  | i + 1 => diagK (colK (roundK xs i) 4) 4
theorem colK_length (xs : List Int) (h : xs.length = 16) (j : Nat) : (colK xs j).length = 16 := by
  induction j with
  | zero => exact h
  | succ j ih => rw [colK, quarter_length, ih]
theorem diagK_length (xs : List Int) (h : xs.length = 16) (j : Nat) : (diagK xs j).length = 16 := by
  induction j with
  | zero => exact h
  | succ j ih => rw [diagK, quarter_length, ih]
theorem roundK_length (xs : List Int) (h : xs.length = 16) (i : Nat) : (roundK xs i).length = 16 := by
  induction i with
  | zero => exact h
  | succ i ih => rw [roundK]; exact diagK_length _ (colK_length _ ih 4) 4
theorem colK_succ (xs : List Int) (j : Nat) : colK xs (j + 1) = quarter (colK xs j) j (4 + j) (8 + j) (12 + j) := rfl
theorem diagK_succ (xs : List Int) (j : Nat) : diagK xs (j + 1) = quarter (diagK xs j) j (4 + (j + 1) % 4) (8 + (j + 2) % 4) (12 + (j + 3) % 4) := rfl
theorem roundK_succ (xs : List Int) (i : Nat) : roundK xs (i + 1) = diagK (colK (roundK xs i) 4) 4 := rfl
theorem colK_zero (xs : List Int) : colK xs 0 = xs := rfl
theorem diagK_zero (xs : List Int) : diagK xs 0 = xs := rfl
theorem roundK_zero (xs : List Int) : roundK xs 0 = xs := rfl
attribute [irreducible] colK diagK roundK
def outB (xs : List Int) (j : Nat) : Int := IntKind.u8.wrap (IntKind.u32.wrap ((roundK xs 10).getD (j / 4) 0 + xs.getD (j / 4) 0) / 2 ^ min (8 * (j % 4)) 32)
def outK (xs : List Int) (j : Nat) : List Int := fillK 0 (outB xs) (List.replicate 64 0) j
theorem outK_length (xs : List Int) (j : Nat) : (outK xs j).length = 64 := by rw [outK, fillK_length]; simp
def stirred (xs : List Int) : List Int := outK xs 64
attribute [irreducible] rotl word
theorem started_length (key nonce : List UInt8) (n : Int) : (started key nonce n).length = 16 := started2_length key nonce n 3
theorem stirred_length (xs : List Int) : (stirred xs).length = 64 := outK_length xs 64
theorem wrong_zero {key nonce : List UInt8} {n : Int} (h : wrong key nonce n = 0) : key.length = 32 ∧ nonce.length = 12 ∧ 0 ≤ n ∧ n ≤ 4294967295 := by
  unfold wrong at h; split at h
  · cases h
  · split at h
    · cases h
    · omega
def blockP (key nonce : List UInt8) (n : Int) : List UInt8 × Int :=
  if wrong key nonce n = 0 then (toB ((stirred (started key nonce n)).take 64), 0) else ([], wrong key nonce n)
theorem blockP_bad {key nonce : List UInt8} {n : Int} (h : ¬ wrong key nonce n = 0) : blockP key nonce n = ([], wrong key nonce n) := if_neg h
theorem blockP_ok {key nonce : List UInt8} {n : Int} (h : wrong key nonce n = 0) : blockP key nonce n = (toB ((stirred (started key nonce n)).take 64), 0) := if_pos h
def stK (key nonce : List UInt8) (n : Int) : Nat → List Int
  | 0 => started key nonce n
  | i + 1 => (stK key nonce n i).set 12 (IntKind.u32.wrap ((stK key nonce n i).getD 12 0 + 1))
theorem stK_zero (key nonce : List UInt8) (n : Int) : stK key nonce n 0 = started key nonce n := rfl
theorem stK_succ (key nonce : List UInt8) (n : Int) (i : Nat) : stK key nonce n (i + 1) = (stK key nonce n i).set 12 (IntKind.u32.wrap ((stK key nonce n i).getD 12 0 + 1)) := rfl
theorem stK_length (key nonce : List UInt8) (n : Int) (i : Nat) : (stK key nonce n i).length = 16 := by
  induction i with
  | zero => exact started_length key nonce n
  | succ i ih => simp [stK, ih]
def xorI (base : Nat) (ks xs : List Int) : Nat → List Int
  | 0 => xs
  | j + 1 => if base + j < xs.length then (xorI base ks xs j).set (base + j) (ixor .u8 ((xorI base ks xs j).getD (base + j) 0) (ks.getD j 0)) else xorI base ks xs j
theorem xorI_zero (base : Nat) (ks xs : List Int) : xorI base ks xs 0 = xs := rfl
theorem xorI_pos {base j : Nat} {ks xs : List Int} (h : base + j < xs.length) : xorI base ks xs (j + 1) = (xorI base ks xs j).set (base + j) (ixor .u8 ((xorI base ks xs j).getD (base + j) 0) (ks.getD j 0)) := if_pos h
theorem xorI_neg {base j : Nat} {ks xs : List Int} (h : ¬ base + j < xs.length) : xorI base ks xs (j + 1) = xorI base ks xs j := if_neg h
theorem xorI_length (base : Nat) (ks xs : List Int) (j : Nat) : (xorI base ks xs j).length = xs.length := by
  induction j with
  | zero => rfl
  | succ j ih => rw [xorI]; split <;> simp [ih]
def xorO (key nonce : List UInt8) (n : Int) (data : List UInt8) : Nat → List Int
  | 0 => ofB data
  | i + 1 => xorI (64 * i) (stirred (stK key nonce n i)) (xorO key nonce n data i) 64
theorem xorO_zero (key nonce : List UInt8) (n : Int) (data : List UInt8) : xorO key nonce n data 0 = ofB data := rfl
theorem xorO_succ (key nonce : List UInt8) (n : Int) (data : List UInt8) (i : Nat) : xorO key nonce n data (i + 1) = xorI (64 * i) (stirred (stK key nonce n i)) (xorO key nonce n data i) 64 := rfl
theorem xorO_length (key nonce : List UInt8) (n : Int) (data : List UInt8) (i : Nat) : (xorO key nonce n data i).length = data.length := by
  induction i with
  | zero => rw [xorO_zero, ofB_length]
  | succ i ih => rw [xorO_succ, xorI_length, ih]
attribute [irreducible] stK xorI xorO wrong started stirred
def xorP (key nonce : List UInt8) (n : Int) (data : List UInt8) : List UInt8 × Int :=
  if wrong key nonce n = 0 then (if 4294967296 - n < ((data.length : Int) + 64 - 1) / 64 then ([], 13) else (toB ((xorO key nonce n data ((data.length + 63) / 64)).take data.length), 0)) else ([], wrong key nonce n)
theorem xorP_bad {key nonce data : List UInt8} {n : Int} (h : ¬ wrong key nonce n = 0) : xorP key nonce n data = ([], wrong key nonce n) := if_neg h
theorem xorP_big {key nonce data : List UInt8} {n : Int} (h : wrong key nonce n = 0) (h1 : 4294967296 - n < ((data.length : Int) + 64 - 1) / 64) : xorP key nonce n data = ([], 13) := by rw [xorP, if_pos h, if_pos h1]
theorem xorP_ok {key nonce data : List UInt8} {n : Int} (h : wrong key nonce n = 0) (h1 : ((data.length : Int) + 64 - 1) / 64 ≤ 4294967296 - n) : xorP key nonce n data = (toB ((xorO key nonce n data ((data.length + 63) / 64)).take data.length), 0) := by rw [xorP, if_pos h, if_neg (by omega)]
end Go.Proofs.Ythdckldmlbeofaa
