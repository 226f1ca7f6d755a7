/-
  What package aes and the document's answer compute, in plain Lean.
-/
import Derived.Test.YtngbaokcbecdfaaDB
namespace Go.Proofs.Ytngbaokcbecdfaa
open Go Go.RowKit D
set_option linter.unusedVariables false
set_option linter.unusedSimpArgs false
set_option maxRecDepth 100000
set_option maxHeartbeats 1000000
/-! bytes as polynomials -/
def twN (a : Nat) : Nat := bif Nat.blt a 128 then 2 * a else Nat.xor (2 * a) 283
def twI (a : Nat) : Nat → Nat
  | 0 => a
  | j + 1 => twN (twI a j)
theorem twI_succ (a j : Nat) : twI a (j + 1) = twN (twI a j) := rfl
theorem twN_lt {a : Nat} (h : a < 256) : twN a < 256 := by
  have : ∀ a : Nat, a < 256 → twN a < 256 := by decide +kernel
  exact this a h
theorem twI_lt {a : Nat} (h : a < 256) (j : Nat) : twI a j < 256 := by
  induction j with
  | zero => exact h
  | succ j ih => exact twN_lt ih
def tmK (a b : Nat) : Nat → Nat
  | 0 => 0
  | j + 1 => Nat.xor (tmK a b j) (b / 2 ^ j % 2 * twI a j)
theorem tmK_succ (a b j : Nat) : tmK a b (j + 1) = Nat.xor (tmK a b j) (b / 2 ^ j % 2 * twI a j) := rfl
theorem tmK_zero (a b : Nat) : tmK a b 0 = 0 := rfl
theorem bit_mul_lt {a b : Nat} (h : a < 256) (j : Nat) : b / 2 ^ j % 2 * twI a j < 256 := by
  have h1 := twI_lt h j
  have h2 : b / 2 ^ j % 2 < 2 := Nat.mod_lt _ (by decide)
  have h3 : b / 2 ^ j % 2 * twI a j ≤ 1 * twI a j := Nat.mul_le_mul_right _ (by omega)
  omega
theorem tmK_lt {a b : Nat} (h : a < 256) (j : Nat) : tmK a b j < 256 := by
  induction j with
  | zero => show (0 : Nat) < 256; decide
  | succ j ih => exact Nat.xor_lt_two_pow (n := 8) ih (bit_mul_lt h j)
theorem tmK_stop (a b : Nat) {j : Nat} (h : b / 2 ^ j = 0) : ∀ d, tmK a b (j + d) = tmK a b j := by
  intro d
  induction d with
  | zero => rfl
  | succ d ih =>
    rw [← Nat.add_assoc, tmK_succ, ih]
    have : b / 2 ^ (j + d) = 0 := by rw [Nat.pow_add, ← Nat.div_div_eq_div_mul, h, Nat.zero_div]
    rw [this, Nat.zero_mod, Nat.zero_mul]
    exact Nat.xor_zero _
/-- The product of two bytes. -/
def tmN (a b : Nat) : Nat :=
  let a1 := twN a; let a2 := twN a1; let a3 := twN a2; let a4 := twN a3; let a5 := twN a4; let a6 := twN a5; let a7 := twN a6
  Nat.xor (Nat.xor (Nat.xor (Nat.xor (Nat.xor (Nat.xor (Nat.xor (b % 2 * a) (b / 2 % 2 * a1)) (b / 4 % 2 * a2)) (b / 8 % 2 * a3)) (b / 16 % 2 * a4)) (b / 32 % 2 * a5)) (b / 64 % 2 * a6)) (b / 128 % 2 * a7)
theorem tmN_eq (a b : Nat) : tmN a b = tmK a b 8 := by
  simp only [tmK, twI, tmN, Nat.pow_zero, Nat.div_one]
  rw [show Nat.xor 0 (b % 2 * a) = b % 2 * a from Nat.zero_xor _]
theorem tmN_lt {a b : Nat} (h : a < 256) : tmN a b < 256 := by rw [tmN_eq]; exact tmK_lt h 8
theorem tmK_done {a b j : Nat} (hb : b < 256) (h : b / 2 ^ j = 0) (hj : j ≤ 8) : tmK a b j = tmN a b := by
  rw [tmN_eq, show (8 : Nat) = j + (8 - j) from by omega, tmK_stop a b h]
def tw (c : UInt8) : UInt8 := UInt8.ofNat (twN c.toNat)
def tm (a b : UInt8) : UInt8 := UInt8.ofNat (tmN a.toNat b.toNat)
theorem tw_toNat (c : UInt8) : (tw c).toNat = twN c.toNat := by rw [tw, UInt8.toNat_ofNat', Nat.mod_eq_of_lt (twN_lt c.toNat_lt)]
theorem tm_toNat (a b : UInt8) : (tm a b).toNat = tmN a.toNat b.toNat := by rw [tm, UInt8.toNat_ofNat', Nat.mod_eq_of_lt (tmN_lt a.toNat_lt)]
theorem twice_eq (c : UInt8) : ixor .u8 (IntKind.u8.wrap ((c.toNat : Int) * 2 ^ 1)) (IntKind.u8.wrap ((c.toNat : Int) / 2 ^ 7 * 27)) = (((tw c).toNat : Nat) : Int) := by
  rw [tw_toNat]
  have : ∀ n : Nat, n < 256 → ixor .u8 (IntKind.u8.wrap ((n : Int) * 2 ^ 1)) (IntKind.u8.wrap ((n : Int) / 2 ^ 7 * 27)) = ((twN n : Nat) : Int) := by decide +kernel
  exact this c.toNat c.toNat_lt
/-- One round of Times in int. -/
theorem double_lo {n : Nat} (h : n < 256) (h1 : ¬ (255 : Int) < (n : Int) * 2) : ((n : Int) * 2) = ((twN n : Nat) : Int) := by
  have : twN n = 2 * n := by unfold twN; rw [show Nat.blt n 128 = true from by simp [Nat.blt]; omega]; rfl
  rw [this]; omega
theorem double_hi {n : Nat} (h : n < 256) (h1 : (255 : Int) < (n : Int) * 2) : ixor .i64 ((n : Int) * 2) 283 = ((twN n : Nat) : Int) := by
  have : twN n = Nat.xor (2 * n) 283 := by unfold twN; rw [show Nat.blt n 128 = false from by cases hb : Nat.blt n 128 with | false => rfl | true => have := Nat.le_of_ble_eq_true hb; omega]; rfl
  rw [this, show ((n : Int) * 2) = ((2 * n : Nat) : Int) from by omega, show (283 : Int) = ((283 : Nat) : Int) from rfl, ixor_i64 (by omega) (by omega)]; rfl
def rotN (c k : Nat) : Nat := (c * 2 ^ k + c / 2 ^ (8 - k)) % 256
def rotB (c : UInt8) (k : Nat) : UInt8 := UInt8.ofNat (rotN c.toNat k)
theorem rotB_toNat (c : UInt8) (k : Nat) : (rotB c k).toNat = rotN c.toNat k := by rw [rotB, UInt8.toNat_ofNat']; exact Nat.mod_eq_of_lt (Nat.mod_lt _ (by decide))
theorem rot_eq (c : UInt8) {k : Nat} (hk : k < 5) : ior .u8 (IntKind.u8.wrap ((c.toNat : Int) * 2 ^ min (iand .u64 (IntKind.u64.wrap (k : Int)) 7).toNat IntKind.u8.bits)) ((c.toNat : Int) / 2 ^ min (IntKind.u64.wrap (8 - iand .u64 (IntKind.u64.wrap (k : Int)) 7)).toNat IntKind.u8.bits) = (((rotB c k).toNat : Nat) : Int) := by
  rw [rotB_toNat]
  have : ∀ k : Nat, k < 5 → ∀ n : Nat, n < 256 → ior .u8 (IntKind.u8.wrap ((n : Int) * 2 ^ min (iand .u64 (IntKind.u64.wrap (k : Int)) 7).toNat IntKind.u8.bits)) ((n : Int) / 2 ^ min (IntKind.u64.wrap (8 - iand .u64 (IntKind.u64.wrap (k : Int)) 7)).toNat IntKind.u8.bits) = ((rotN n k : Nat) : Int) := by decide +kernel
  exact this k hk c.toNat c.toNat_lt
/-- An inverse, rolled, and 63. -/
def stK (c : UInt8) : Nat → UInt8
  | 0 => 99
  | i + 1 => stK c i ^^^ rotB c i
theorem stK_succ (c : UInt8) (i : Nat) : stK c (i + 1) = stK c i ^^^ rotB c i := rfl
theorem st_step (c o : UInt8) {i : Nat} (hi : i < 5) : ixor .i64 ((o.toNat : Nat) : Int) (iand .i64 (ior .i64 (IntKind.i64.wrap (((c.toNat : Nat) : Int) * 2 ^ min (i : Int).toNat IntKind.i64.bits)) (((c.toNat : Nat) : Int) / 2 ^ min (8 - (i : Int)).toNat IntKind.i64.bits)) 255) = (((o ^^^ rotB c i).toNat : Nat) : Int) := by
  have h1 : ∀ k : Nat, k < 5 → ∀ n : Nat, n < 256 → iand .i64 (ior .i64 (IntKind.i64.wrap ((n : Int) * 2 ^ min (k : Int).toNat IntKind.i64.bits)) ((n : Int) / 2 ^ min (8 - (k : Int)).toNat IntKind.i64.bits)) 255 = ((rotN n k : Nat) : Int) := by decide +kernel
  rw [h1 i hi c.toNat c.toNat_lt, UInt8.toNat_xor, rotB_toNat, ixor_i64 (by have := o.toNat_lt; omega) (by have : rotN c.toNat i < 256 := Nat.mod_lt _ (by decide); omega)]
/-- A byte's in the table, by its 254th power. -/
def pwB (b : UInt8) : Nat → UInt8
  | 0 => 1
  | k + 1 => tm (pwB b k) b
theorem pwB_succ (b : UInt8) (k : Nat) : pwB b (k + 1) = tm (pwB b k) b := rfl
def swB (b : UInt8) : UInt8 := stK (pwB b 254) 5
/-- By the last inverse that there is. -/
def invR (b : UInt8) : Nat → Nat
  | 0 => 0
  | i + 1 => if tmN (i + 1) b.toNat = 1 then i + 1 else invR b i
theorem invR_le (b : UInt8) (i : Nat) : invR b i ≤ i := by
  induction i with
  | zero => exact Nat.le_refl _
  | succ i ih => unfold invR; split <;> omega
attribute [irreducible] tw tm rotB stK pwB
theorem stK_zero (c : UInt8) : stK c 0 = 99 := by unfold stK; rfl
theorem stK_succ' (c : UInt8) (i : Nat) : stK c (i + 1) = stK c i ^^^ rotB c i := by conv => lhs; unfold stK
theorem pwB_zero (b : UInt8) : pwB b 0 = 1 := by unfold pwB; rfl
theorem pwB_succ' (b : UInt8) (k : Nat) : pwB b (k + 1) = tm (pwB b k) b := by conv => lhs; unfold pwB
/-! numbers, to be counted out -/
def pwN (b : Nat) : Nat → Nat
  | 0 => 1
  | k + 1 => tmN (pwN b k) b
theorem pwB_toNat (b : UInt8) (k : Nat) : (pwB b k).toNat = pwN b.toNat k := by
  induction k with
  | zero => rw [pwB_zero]; rfl
  | succ k ih => rw [pwB_succ', tm_toNat, ih]; rfl
def stN (c : Nat) : Nat := Nat.xor (Nat.xor (Nat.xor (Nat.xor (Nat.xor 99 (rotN c 0)) (rotN c 1)) (rotN c 2)) (rotN c 3)) (rotN c 4)
theorem stK_toNat (c : UInt8) : (stK c 5).toNat = stN c.toNat := by
  simp only [stK_succ', stK_zero, UInt8.toNat_xor, rotB_toNat]; rfl
def invT : List Nat := [0, 1, 141, 246, 203, 82, 123, 209, 232, 79, 41, 192, 176, 225, 229, 199, 116, 180, 170, 75, 153, 43, 96, 95, 88, 63, 253, 204, 255, 64, 238, 178, 58, 110, 90, 241, 85, 77, 168, 201, 193, 10, 152, 21, 48, 68, 162, 194, 44, 69, 146, 108, 243, 57, 102, 66, 242, 53, 32, 111, 119, 187, 89, 25, 29, 254, 55, 103, 45, 49, 245, 105, 167, 100, 171, 19, 84, 37, 233, 9, 237, 92, 5, 202, 76, 36, 135, 191, 24, 62, 34, 240, 81, 236, 97, 23, 22, 94, 175, 211, 73, 166, 54, 67, 244, 71, 145, 223, 51, 147, 33, 59, 121, 183, 151, 133, 16, 181, 186, 60, 182, 112, 208, 6, 161, 250, 129, 130, 131, 126, 127, 128, 150, 115, 190, 86, 155, 158, 149, 217, 247, 2, 185, 164, 222, 106, 50, 109, 216, 138, 132, 114, 42, 20, 159, 136, 249, 220, 137, 154, 251, 124, 46, 195, 143, 184, 101, 72, 38, 200, 18, 74, 206, 231, 210, 98, 12, 224, 31, 239, 17, 117, 120, 113, 165, 142, 118, 61, 189, 188, 134, 87, 11, 40, 47, 163, 218, 212, 228, 15, 169, 39, 83, 4, 27, 252, 172, 230, 122, 7, 174, 99, 197, 219, 226, 234, 148, 139, 196, 213, 157, 248, 144, 107, 177, 13, 214, 235, 198, 14, 207, 173, 8, 78, 215, 227, 93, 80, 30, 179, 91, 35, 56, 52, 104, 70, 3, 140, 221, 156, 125, 160, 205, 26, 65, 28]
def sboxN : List Nat := [99, 124, 119, 123, 242, 107, 111, 197, 48, 1, 103, 43, 254, 215, 171, 118, 202, 130, 201, 125, 250, 89, 71, 240, 173, 212, 162, 175, 156, 164, 114, 192, 183, 253, 147, 38, 54, 63, 247, 204, 52, 165, 229, 241, 113, 216, 49, 21, 4, 199, 35, 195, 24, 150, 5, 154, 7, 18, 128, 226, 235, 39, 178, 117, 9, 131, 44, 26, 27, 110, 90, 160, 82, 59, 214, 179, 41, 227, 47, 132, 83, 209, 0, 237, 32, 252, 177, 91, 106, 203, 190, 57, 74, 76, 88, 207, 208, 239, 170, 251, 67, 77, 51, 133, 69, 249, 2, 127, 80, 60, 159, 168, 81, 163, 64, 143, 146, 157, 56, 245, 188, 182, 218, 33, 16, 255, 243, 210, 205, 12, 19, 236, 95, 151, 68, 23, 196, 167, 126, 61, 100, 93, 25, 115, 96, 129, 79, 220, 34, 42, 144, 136, 70, 238, 184, 20, 222, 94, 11, 219, 224, 50, 58, 10, 73, 6, 36, 92, 194, 211, 172, 98, 145, 149, 228, 121, 231, 200, 55, 109, 141, 213, 78, 169, 108, 86, 244, 234, 101, 122, 174, 8, 186, 120, 37, 46, 28, 166, 180, 198, 232, 221, 116, 31, 75, 189, 139, 138, 112, 62, 181, 102, 72, 3, 246, 14, 97, 53, 87, 185, 134, 193, 29, 158, 225, 248, 152, 17, 105, 217, 142, 148, 155, 30, 135, 233, 206, 85, 40, 223, 140, 161, 137, 13, 191, 230, 66, 104, 65, 153, 45, 15, 176, 84, 187, 22]
def sbox : List UInt8 := sboxN.map UInt8.ofNat
/-- The table. -/
def sb (c : UInt8) : UInt8 := sbox.getD c.toNat 0
theorem sbox_length : sbox.length = 256 := by decide +kernel
theorem inv_all : (List.range 256).map (fun b => pwN b 254) = invT := by decide +kernel
theorem st_all : invT.map stN = sboxN := by decide +kernel
theorem sboxN_get (n : Nat) (h : n < 256) : sboxN.getD n 0 = stN (pwN n 254) := by
  rw [← st_all, ← inv_all]
  simp [h]
theorem sbN_lt : ∀ n : Nat, n < 256 → sboxN.getD n 0 < 256 := by decide +kernel
theorem sb_toNat (c : UInt8) : (sb c).toNat = sboxN.getD c.toNat 0 := by
  have h := c.toNat_lt
  have hl := sbN_lt c.toNat h
  unfold sb sbox
  have hs : sboxN.length = 256 := by decide +kernel
  simp only [List.getD_eq_getElem?_getD, List.getElem?_map, List.getElem?_eq_getElem (by rw [hs]; exact h), Option.map_some, Option.getD_some, UInt8.toNat_ofNat'] at hl ⊢
  exact Nat.mod_eq_of_lt hl
theorem swB_eq (b : UInt8) : swB b = sb b := by
  apply UInt8.toNat_inj.1
  unfold swB
  rw [stK_toNat, pwB_toNat, sb_toNat, sboxN_get _ b.toNat_lt]
def lastInv (b : Nat) : Nat → Nat
  | 0 => 0
  | i + 1 => bif Nat.beq (tmN (i + 1) b) 1 then i + 1 else lastInv b i
theorem invR_eq (b : UInt8) (i : Nat) : invR b i = lastInv b.toNat i := by
  induction i with
  | zero => rfl
  | succ i ih =>
    simp only [invR, lastInv]
    rw [ih]
    by_cases h : tmN (i + 1) b.toNat = 1
    · rw [if_pos h, show Nat.beq (tmN (i + 1) b.toNat) 1 = true from by rw [h]; rfl]; rfl
    · rw [if_neg h, show Nat.beq (tmN (i + 1) b.toNat) 1 = false from by cases hb : Nat.beq (tmN (i + 1) b.toNat) 1 with | false => rfl | true => exact absurd (Nat.eq_of_beq_eq_true hb) h]; rfl
theorem last_all : (List.range 256).map (fun b => lastInv b 255) = invT := by decide +kernel
theorem invR_pw (b : UInt8) : UInt8.ofNat (invR b 255) = pwB b 254 := by
  apply UInt8.toNat_inj.1
  rw [pwB_toNat, UInt8.toNat_ofNat', invR_eq]
  have h1 := congrArg (fun l => l.getD b.toNat 0) last_all
  have h2 := congrArg (fun l => l.getD b.toNat 0) inv_all
  have hb := b.toNat_lt
  simp only [List.getD_eq_getElem?_getD, List.getElem?_map, List.getElem?_range hb, Option.map_some, Option.getD_some] at h1 h2
  rw [h1, h2, Nat.mod_eq_of_lt]
  have h3 : ∀ n : Nat, n < 256 → invT.getD n 0 < 256 := by decide +kernel
  have := h3 b.toNat hb
  rwa [List.getD_eq_getElem?_getD] at this
theorem swR_eq (b : UInt8) : stK (UInt8.ofNat (invR b 255)) 5 = sb b := by rw [invR_pw, ← swB_eq]; rfl
/-! the table of package aes: powers of 3, and of its inverse -/
def tabK : Nat → (UInt8 × UInt8) × List UInt8
  | 0 => ((1, 1), List.replicate 256 0)
  | i + 1 => ((tm (tabK i).1.1 3, tm (tabK i).1.2 246), (tabK i).2.set (tm (tabK i).1.1 3).toNat (stK (tm (tabK i).1.2 246) 5))
theorem tabK_succ (i : Nat) : tabK (i + 1) = ((tm (tabK i).1.1 3, tm (tabK i).1.2 246), (tabK i).2.set (tm (tabK i).1.1 3).toNat (stK (tm (tabK i).1.2 246) 5)) := rfl
theorem tabK_zero : tabK 0 = ((1, 1), List.replicate 256 0) := rfl
theorem tabK_length (i : Nat) : (tabK i).2.length = 256 := by
  induction i with
  | zero => simp [tabK_zero]
  | succ i ih => rw [tabK_succ]; simp [ih]
def tabN : Nat → (Nat × Nat) × List Nat
  | 0 => ((1, 1), List.replicate 256 0)
  | i + 1 => ((tmN (tabN i).1.1 3, tmN (tabN i).1.2 246), (tabN i).2.set (tmN (tabN i).1.1 3) (stN (tmN (tabN i).1.2 246)))
theorem tabN_eq (i : Nat) : (tabK i).1.1.toNat = (tabN i).1.1 ∧ (tabK i).1.2.toNat = (tabN i).1.2 ∧ (tabK i).2.map UInt8.toNat = (tabN i).2 := by
  induction i with
  | zero => exact ⟨rfl, rfl, by simp [tabK, tabN]⟩
  | succ i ih =>
    obtain ⟨h1, h2, h3⟩ := ih
    rw [tabK_succ]
    refine ⟨by show (tm _ _).toNat = _; rw [tm_toNat, h1]; rfl, by show (tm _ _).toNat = _; rw [tm_toNat, h2]; rfl, ?_⟩
    show List.map UInt8.toNat (List.set _ _ _) = _
    rw [List.map_set, h3, stK_toNat, tm_toNat, tm_toNat, h1, h2]; rfl
theorem map_inj {a b : List UInt8} (h : a.map UInt8.toNat = b.map UInt8.toNat) : a = b := by
  have := congrArg (List.map UInt8.ofNat) h
  rwa [List.map_map, List.map_map, show (UInt8.ofNat ∘ UInt8.toNat) = id from funext fun c => UInt8.ofNat_toNat, List.map_id, List.map_id] at this
/-- A walk through the steps, one by one. -/
def goN : Nat → Nat × Nat → List Nat → List Nat
  | 0, _, l => l
  | n + 1, (p, q), l => goN n (tmN p 3, tmN q 246) (l.set (tmN p 3) (stN (tmN q 246)))
theorem goN_eq : ∀ n i, goN n (tabN i).1 (tabN i).2 = (tabN (i + n)).2 := by
  intro n
  induction n with
  | zero => intro i; rfl
  | succ n ih =>
    intro i
    rw [show i + (n + 1) = (i + 1) + n from by omega, ← ih (i + 1)]; rfl
theorem sbox_toNat : sbox.map UInt8.toNat = sboxN := by decide +kernel
theorem tab_fin : (tabK 255).2.set 0 99 = sbox := by
  apply map_inj
  rw [List.map_set, (tabN_eq 255).2.2, sbox_toNat, ← Nat.zero_add 255, ← goN_eq 255 0]
  decide +kernel
attribute [irreducible] tabK
theorem tabK_succ' (i : Nat) : tabK (i + 1) = ((tm (tabK i).1.1 3, tm (tabK i).1.2 246), (tabK i).2.set (tm (tabK i).1.1 3).toNat (stK (tm (tabK i).1.2 246) 5)) := by conv => lhs; unfold tabK
theorem tabK_zero' : tabK 0 = ((1, 1), List.replicate 256 0) := by unfold tabK; rfl
/-! the document's table -/
def p3 : Nat → UInt8
  | 0 => 1
  | i + 1 => tm (p3 i) 3
theorem p3_succ (i : Nat) : p3 (i + 1) = tm (p3 i) 3 := rfl
def p3L (i : Nat) : List Int := (List.range i).map fun k => (((p3 k).toNat : Nat) : Int)
theorem p3L_length (i : Nat) : (p3L i).length = i := by simp [p3L]
theorem p3L_zero : p3L 0 = [] := rfl
theorem p3L_succ (i : Nat) : p3L (i + 1) = p3L i ++ [(((p3 i).toNat : Nat) : Int)] := by simp [p3L, List.range_succ]
theorem p3L_get {n i : Nat} (h : i < n) : (p3L n).getD i 0 = (((p3 i).toNat : Nat) : Int) := by simp [p3L, h]
def tabR : Nat → List UInt8
  | 0 => (List.replicate 256 0).set 0 99
  | i + 1 => (tabR i).set (p3 i).toNat (stK (p3 ((255 - i) % 255)) 5)
theorem tabR_zero : tabR 0 = (List.replicate 256 0).set 0 99 := rfl
theorem tabR_succ (i : Nat) : tabR (i + 1) = (tabR i).set (p3 i).toNat (stK (p3 ((255 - i) % 255)) 5) := rfl
theorem tabR_length (i : Nat) : (tabR i).length = 256 := by
  induction i with
  | zero => simp [tabR_zero]
  | succ i ih => rw [tabR_succ]; simp [ih]
def p3N : Nat → Nat → List Nat
  | 0, _ => []
  | n + 1, p => p :: p3N n (tmN p 3)
theorem p3N_get : ∀ n i k, k < n → (p3N n (p3 i).toNat).getD k 0 = (p3 (i + k)).toNat := by
  intro n
  induction n with
  | zero => intro i k h; omega
  | succ n ih =>
    intro i k h
    cases k with
    | zero => rfl
    | succ k =>
      have := ih (i + 1) k (by omega)
      rw [p3_succ, tm_toNat] at this
      simp only [p3N, List.getD_cons_succ]
      rw [show i + (k + 1) = i + 1 + k from by omega, ← this]; rfl
def goR (ps : List Nat) : Nat → Nat → List Nat → List Nat
  | 0, _, l => l
  | n + 1, i, l => goR ps n (i + 1) (l.set (ps.getD i 0) (stN (ps.getD ((255 - i) % 255) 0)))
theorem goR_eq : ∀ n i, i + n ≤ 255 → goR (p3N 255 1) n i ((tabR i).map UInt8.toNat) = (tabR (i + n)).map UInt8.toNat := by
  intro n
  induction n with
  | zero => intro i _; rfl
  | succ n ih =>
    intro i h
    rw [show i + (n + 1) = (i + 1) + n from by omega, ← ih (i + 1) (by omega)]
    simp only [goR]
    rw [tabR_succ, List.map_set, stK_toNat]
    have e1 := p3N_get 255 0 i (by omega)
    have e2 := p3N_get 255 0 ((255 - i) % 255) (Nat.mod_lt _ (by decide))
    rw [show (p3 0).toNat = 1 from rfl, Nat.zero_add] at e1 e2
    rw [e1, e2]
theorem tabR_fin : tabR 255 = sbox := by
  apply map_inj
  rw [sbox_toNat, ← Nat.zero_add 255, ← goR_eq 255 0 (by decide)]
  decide +kernel
attribute [irreducible] tabR p3 p3L sb
theorem p3_zero : p3 0 = 1 := by unfold p3; rfl
theorem p3_succ' (i : Nat) : p3 (i + 1) = tm (p3 i) 3 := by conv => lhs; unfold p3
theorem sb_get (c : UInt8) : sbox.getD c.toNat 0 = sb c := by unfold sb; rfl
/-! what the loop of times steps through -/
theorem and_one {n : Nat} (h : n < 256) : iand .u8 ((n : Nat) : Int) 1 = ((n % 2 : Nat) : Int) := by
  rw [mask_u8 1 (by decide) (by omega) (by omega) 1 (by decide)]; simp
theorem times_step {a b j : Nat} (ha : a < 256) : ixor .u8 ((tmK a b j : Nat) : Int) (IntKind.u8.wrap (((b / 2 ^ j % 2 : Nat) : Int) * ((twI a j : Nat) : Int))) = ((tmK a b (j + 1) : Nat) : Int) := by
  have h1 := bit_mul_lt (b := b) ha j
  have e : (((b / 2 ^ j % 2 : Nat) : Int) * ((twI a j : Nat) : Int)) = ((b / 2 ^ j % 2 * twI a j : Nat) : Int) := by simp
  rw [e]
  rw [tmK_succ]
  generalize b / 2 ^ j % 2 * twI a j = z at *
  rw [wrap_u8_in (by omega) (by omega), ixor_u8 (tmK_lt ha j) (by omega)]; rfl
theorem half_step (b j : Nat) : ((b / 2 ^ j : Nat) : Int) / 2 ^ 1 = ((b / 2 ^ (j + 1) : Nat) : Int) := by
  rw [Nat.pow_succ, ← Nat.div_div_eq_div_mul]; simp
theorem lt8 {b j : Nat} (hb : b < 256) (h : 0 < b / 2 ^ j) (hj : j ≤ 8) : j < 8 := by
  rcases Nat.lt_or_ge j 8 with h1 | h1
  · exact h1
  · rw [show j = 8 from by omega, Nat.div_eq_of_lt (by omega)] at h; omega
theorem div_lt {b j : Nat} (hb : b < 256) : b / 2 ^ j < 256 := Nat.lt_of_le_of_lt (Nat.div_le_self _ _) hb
theorem iand64_nonneg (a b : Int) : 0 ≤ iand .u64 a b := by
  unfold iand
  have : IntKind.u64.wrap ((BitVec.ofInt IntKind.u64.bits a &&& BitVec.ofInt IntKind.u64.bits b).toNat : Int) = ((BitVec.ofInt IntKind.u64.bits a &&& BitVec.ofInt IntKind.u64.bits b).toNat : Int) % 18446744073709551616 := by rw [wrap_u64]
  rw [this]; omega
theorem wrap64_nonneg (a : Int) : 0 ≤ IntKind.u64.wrap a := by rw [wrap_u64]; omega
/-! what the document's Times steps through -/
theorem bit_test {b j : Nat} (hb : b < 256) (hj : j < 8) : iand .i64 (((b : Nat) : Int) / 2 ^ min (j : Int).toNat IntKind.i64.bits) 1 = ((b / 2 ^ j % 2 : Nat) : Int) := by
  rw [show min (j : Int).toNat IntKind.i64.bits = j from by show min _ 64 = j; rw [Int.toNat_natCast]; omega]
  have h1 : ((b : Nat) : Int) / 2 ^ j = ((b / 2 ^ j : Nat) : Int) := by simp
  have h2 := div_lt (j := j) hb
  rw [h1]
  generalize b / 2 ^ j = q at *
  rw [mask_i64 1 (by decide) (by omega) (by omega) 1 (by decide)]; simp
theorem tmK_set {a b j : Nat} (ha : a < 256) (h : b / 2 ^ j % 2 = 1) : ixor .i64 ((tmK a b j : Nat) : Int) ((twI a j : Nat) : Int) = ((tmK a b (j + 1) : Nat) : Int) := by
  have h1 := tmK_lt (b := b) ha j
  have h2 := twI_lt ha j
  rw [tmK_succ, h, Nat.one_mul, ixor_i64 (by omega) (by omega)]; rfl
theorem tmK_skip {a b j : Nat} (h : b / 2 ^ j % 2 = 0) : tmK a b j = tmK a b (j + 1) := by
  rw [tmK_succ, h, Nat.zero_mul]; exact (Nat.xor_zero _).symm
end Go.Proofs.Ytngbaokcbecdfaa
