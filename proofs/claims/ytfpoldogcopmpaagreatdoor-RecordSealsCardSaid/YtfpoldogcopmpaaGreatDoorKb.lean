/-
 The proof's texts, joined, without what the statements do not reach: part 2 of 9. No condition.
-/
import Derived.Test.YtfpoldogcopmpaaGreatDoorCards
import Derived.Test.YtfpoldogcopmpaaGreatDoorTie
import Derived.WalkKit
import Derived.KernelRfl
import Derived.Lib.ConvBytes
import Derived.WalkSpells
import Derived.WalkLawsBesides
import Derived.ProofKit
import Derived.ChangeMaps5
import Derived.ChangeSlices
import Derived.Deep.Strs
import Derived.Handed
import Derived.LaidLaws
import Derived.LaidMore
import Derived.Lay
import Derived.SevenTiedAt
import Derived.Stop.Joined
import Derived.DataElems
import Derived.OpenShut
import Derived.Test.YtfpoldogcopmpaaGreatDoorProg
import Derived.Lib.TrimByte
import Derived.Shelf.Bits.Mul64
import Derived.Shelf.Small.Strs
import Derived.Shelf.Small.Utf8
import Derived.Shelf.Strings.AsciiSet
import Derived.Shelf.Strings.Builder1
import Derived.Shelf.Strings.Builder2
import Derived.Shelf.Strings.Builder2Cap
import Derived.Shelf.Strings.BuilderF
import Derived.Shelf.Strings.Prefix
import Derived.Shelf.Strings.Repeat
import Derived.Shelf.Strings.Runes
import Derived.Shelf.Strings.Search1
import Derived.Shelf.Strings.Trim
import Derived.Shelf.Unicode.Decode
import Derived.Shelf.Unicode.DecodeAny
import Derived.Shelf.Unicode.DecodeLast
import Derived.Shelf.Unicode.DecodeSlow
import Derived.Test.YtfpoldogcopmpaaGreatDoorKa
section
namespace Go.Proofs.YtfpoldogcopmpaaGreatDoor
open Go Go.RowKit D
set_option linter.unusedVariables false
set_option linter.unusedSimpArgs false
set_option maxRecDepth 100000
set_option maxHeartbeats 1000000
def twN (a : Nat) : Nat := bif Nat.blt a 128 then 2 * a else Nat.xor (2 * a) 283
def twI (a : Nat) : Nat → Nat
 | 0 => a
 | j + 1 => twN (twI a j)
theorem twN_lt {a : Nat} (h : a < 256) : twN a < 256 := by
 have : ∀ a : Nat, a < 256 → twN a < 256 := by decide +kernel
 exact this a h
theorem twI_lt {a : Nat} (h : a < 256) (j : Nat) : twI a j < 256 := by
 induction j with
 | zero => exact h
 | succ j ih => exact twN_lt ih
def tmK (a b : Nat) : Nat → Nat
 | 0 => 0
 | j + 1 => Nat.xor (tmK a b j) (b / 2 ^ j % 2 * twI a j)
theorem tmK_succ (a b j : Nat) : tmK a b (j + 1) = Nat.xor (tmK a b j) (b / 2 ^ j % 2 * twI a j) := rfl
theorem bit_mul_lt {a b : Nat} (h : a < 256) (j : Nat) : b / 2 ^ j % 2 * twI a j < 256 := by
 have h1 := twI_lt h j
 have h2 : b / 2 ^ j % 2 < 2 := Nat.mod_lt _ (by decide)
 have h3 : b / 2 ^ j % 2 * twI a j ≤ 1 * twI a j := Nat.mul_le_mul_right _ (by omega)
 omega
theorem tmK_lt {a b : Nat} (h : a < 256) (j : Nat) : tmK a b j < 256 := by
 induction j with
 | zero => show (0 : Nat) < 256; decide
 | succ j ih => exact Nat.xor_lt_two_pow (n := 8) ih (bit_mul_lt h j)
theorem tmK_stop (a b : Nat) {j : Nat} (h : b / 2 ^ j = 0) : ∀ d, tmK a b (j + d) = tmK a b j := by
 intro d
 induction d with
 | zero => rfl
 | succ d ih =>
  rw [← Nat.add_assoc, tmK_succ, ih]
  have : b / 2 ^ (j + d) = 0 := by rw [Nat.pow_add, ← Nat.div_div_eq_div_mul, h, Nat.zero_div]
  rw [this, Nat.zero_mod, Nat.zero_mul]
  exact Nat.xor_zero _
/-- The product of two bytes. -/
def tmN (a b : Nat) : Nat :=
 let a1 := twN a; let a2 := twN a1; let a3 := twN a2; let a4 := twN a3; let a5 := twN a4; let a6 := twN a5; let a7 := twN a6
 Nat.xor (Nat.xor (Nat.xor (Nat.xor (Nat.xor (Nat.xor (Nat.xor (b % 2 * a) (b / 2 % 2 * a1)) (b / 4 % 2 * a2)) (b / 8 % 2 * a3)) (b / 16 % 2 * a4)) (b / 32 % 2 * a5)) (b / 64 % 2 * a6)) (b / 128 % 2 * a7)
theorem tmN_eq (a b : Nat) : tmN a b = tmK a b 8 := by
 simp only [tmK, twI, tmN, Nat.pow_zero, Nat.div_one]
 rw [show Nat.xor 0 (b % 2 * a) = b % 2 * a from Nat.zero_xor _]
theorem tmN_lt {a b : Nat} (h : a < 256) : tmN a b < 256 := by rw [tmN_eq]; exact tmK_lt h 8
theorem tmK_done {a b j : Nat} (hb : b < 256) (h : b / 2 ^ j = 0) (hj : j ≤ 8) : tmK a b j = tmN a b := by
 rw [tmN_eq, show (8 : Nat) = j + (8 - j) from by omega, tmK_stop a b h]
def tw (c : UInt8) : UInt8 := UInt8.ofNat (twN c.toNat)
def tm (a b : UInt8) : UInt8 := UInt8.ofNat (tmN a.toNat b.toNat)
theorem tw_toNat (c : UInt8) : (tw c).toNat = twN c.toNat := by rw [tw, UInt8.toNat_ofNat', Nat.mod_eq_of_lt (twN_lt c.toNat_lt)]
theorem tm_toNat (a b : UInt8) : (tm a b).toNat = tmN a.toNat b.toNat := by rw [tm, UInt8.toNat_ofNat', Nat.mod_eq_of_lt (tmN_lt a.toNat_lt)]
theorem twice_eq (c : UInt8) : ixor .u8 (IntKind.u8.wrap ((c.toNat : Int) * 2 ^ 1)) (IntKind.u8.wrap ((c.toNat : Int) / 2 ^ 7 * 27)) = (((tw c).toNat : Nat) : Int) := by
 rw [tw_toNat]
 have : ∀ n : Nat, n < 256 → ixor .u8 (IntKind.u8.wrap ((n : Int) * 2 ^ 1)) (IntKind.u8.wrap ((n : Int) / 2 ^ 7 * 27)) = ((twN n : Nat) : Int) := by decide +kernel
 exact this c.toNat c.toNat_lt
/-- One round of Times in int. -/
theorem double_lo {n : Nat} (h : n < 256) (h1 : ¬ (255 : Int) < (n : Int) * 2) : ((n : Int) * 2) = ((twN n : Nat) : Int) := by
 have : twN n = 2 * n := by unfold twN; rw [show Nat.blt n 128 = true from by simp [Nat.blt]; omega]; rfl
 rw [this]; omega
theorem double_hi {n : Nat} (h : n < 256) (h1 : (255 : Int) < (n : Int) * 2) : ixor .i64 ((n : Int) * 2) 283 = ((twN n : Nat) : Int) := by
 have : twN n = Nat.xor (2 * n) 283 := by unfold twN; rw [show Nat.blt n 128 = false from by cases hb : Nat.blt n 128 with | false => rfl | true => have := Nat.le_of_ble_eq_true hb; omega]; rfl
 rw [this, show ((n : Int) * 2) = ((2 * n : Nat) : Int) from by omega, show (283 : Int) = ((283 : Nat) : Int) from rfl, ixor_i64 (by omega) (by omega)]; rfl
def rotN (c k : Nat) : Nat := (c * 2 ^ k + c / 2 ^ (8 - k)) % 256
def rotB (c : UInt8) (k : Nat) : UInt8 := UInt8.ofNat (rotN c.toNat k)
theorem rotB_toNat (c : UInt8) (k : Nat) : (rotB c k).toNat = rotN c.toNat k := by rw [rotB, UInt8.toNat_ofNat']; exact Nat.mod_eq_of_lt (Nat.mod_lt _ (by decide))
theorem rot_eq (c : UInt8) {k : Nat} (hk : k < 5) : ior .u8 (IntKind.u8.wrap ((c.toNat : Int) * 2 ^ min (iand .u64 (IntKind.u64.wrap (k : Int)) 7).toNat IntKind.u8.bits)) ((c.toNat : Int) / 2 ^ min (IntKind.u64.wrap (8 - iand .u64 (IntKind.u64.wrap (k : Int)) 7)).toNat IntKind.u8.bits) = (((rotB c k).toNat : Nat) : Int) := by
 rw [rotB_toNat]
 have : ∀ k : Nat, k < 5 → ∀ n : Nat, n < 256 → ior .u8 (IntKind.u8.wrap ((n : Int) * 2 ^ min (iand .u64 (IntKind.u64.wrap (k : Int)) 7).toNat IntKind.u8.bits)) ((n : Int) / 2 ^ min (IntKind.u64.wrap (8 - iand .u64 (IntKind.u64.wrap (k : Int)) 7)).toNat IntKind.u8.bits) = ((rotN n k : Nat) : Int) := by decide +kernel
 exact this k hk c.toNat c.toNat_lt
/-- An inverse, rolled, and 63. -/
def stK (c : UInt8) : Nat → UInt8
 | 0 => 99
 | i + 1 => stK c i ^^^ rotB c i
theorem stK_succ (c : UInt8) (i : Nat) : stK c (i + 1) = stK c i ^^^ rotB c i := rfl
theorem st_step (c o : UInt8) {i : Nat} (hi : i < 5) : ixor .i64 ((o.toNat : Nat) : Int) (iand .i64 (ior .i64 (IntKind.i64.wrap (((c.toNat : Nat) : Int) * 2 ^ min (i : Int).toNat IntKind.i64.bits)) (((c.toNat : Nat) : Int) / 2 ^ min (8 - (i : Int)).toNat IntKind.i64.bits)) 255) = (((o ^^^ rotB c i).toNat : Nat) : Int) := by
 have h1 : ∀ k : Nat, k < 5 → ∀ n : Nat, n < 256 → iand .i64 (ior .i64 (IntKind.i64.wrap ((n : Int) * 2 ^ min (k : Int).toNat IntKind.i64.bits)) ((n : Int) / 2 ^ min (8 - (k : Int)).toNat IntKind.i64.bits)) 255 = ((rotN n k : Nat) : Int) := by decide +kernel
 rw [h1 i hi c.toNat c.toNat_lt, UInt8.toNat_xor, rotB_toNat, ixor_i64 (by have := o.toNat_lt; omega) (by have : rotN c.toNat i < 256 := Nat.mod_lt _ (by decide); omega)]
theorem stK_zero (c : UInt8) : stK c 0 = 99 := by unfold stK; rfl
theorem stK_succ' (c : UInt8) (i : Nat) : stK c (i + 1) = stK c i ^^^ rotB c i := by conv => lhs; unfold stK
def stN (c : Nat) : Nat := Nat.xor (Nat.xor (Nat.xor (Nat.xor (Nat.xor 99 (rotN c 0)) (rotN c 1)) (rotN c 2)) (rotN c 3)) (rotN c 4)
theorem stK_toNat (c : UInt8) : (stK c 5).toNat = stN c.toNat := by
 simp only [stK_succ', stK_zero, UInt8.toNat_xor, rotB_toNat]; rfl
def sboxN : List Nat := [99, 124, 119, 123, 242, 107, 111, 197, 48, 1, 103, 43, 254, 215, 171, 118, 202, 130, 201, 125, 250, 89, 71, 240, 173, 212, 162, 175, 156, 164, 114, 192, 183, 253, 147, 38, 54, 63, 247, 204, 52, 165, 229, 241, 113, 216, 49, 21, 4, 199, 35, 195, 24, 150, 5, 154, 7, 18, 128, 226, 235, 39, 178, 117, 9, 131, 44, 26, 27, 110, 90, 160, 82, 59, 214, 179, 41, 227, 47, 132, 83, 209, 0, 237, 32, 252, 177, 91, 106, 203, 190, 57, 74, 76, 88, 207, 208, 239, 170, 251, 67, 77, 51, 133, 69, 249, 2, 127, 80, 60, 159, 168, 81, 163, 64, 143, 146, 157, 56, 245, 188, 182, 218, 33, 16, 255, 243, 210, 205, 12, 19, 236, 95, 151, 68, 23, 196, 167, 126, 61, 100, 93, 25, 115, 96, 129, 79, 220, 34, 42, 144, 136, 70, 238, 184, 20, 222, 94, 11, 219, 224, 50, 58, 10, 73, 6, 36, 92, 194, 211, 172, 98, 145, 149, 228, 121, 231, 200, 55, 109, 141, 213, 78, 169, 108, 86, 244, 234, 101, 122, 174, 8, 186, 120, 37, 46, 28, 166, 180, 198, 232, 221, 116, 31, 75, 189, 139, 138, 112, 62, 181, 102, 72, 3, 246, 14, 97, 53, 87, 185, 134, 193, 29, 158, 225, 248, 152, 17, 105, 217, 142, 148, 155, 30, 135, 233, 206, 85, 40, 223, 140, 161, 137, 13, 191, 230, 66, 104, 65, 153, 45, 15, 176, 84, 187, 22]
def sbox : List UInt8 := sboxN.map UInt8.ofNat
/-- The table. -/
def sb (c : UInt8) : UInt8 := sbox.getD c.toNat 0
theorem sbox_length : sbox.length = 256 := by decide +kernel
def tabK : Nat → (UInt8 × UInt8) × List UInt8
 | 0 => ((1, 1), List.replicate 256 0)
 | i + 1 => ((tm (tabK i).1.1 3, tm (tabK i).1.2 246), (tabK i).2.set (tm (tabK i).1.1 3).toNat (stK (tm (tabK i).1.2 246) 5))
theorem tabK_succ (i : Nat) : tabK (i + 1) = ((tm (tabK i).1.1 3, tm (tabK i).1.2 246), (tabK i).2.set (tm (tabK i).1.1 3).toNat (stK (tm (tabK i).1.2 246) 5)) := rfl
theorem tabK_zero : tabK 0 = ((1, 1), List.replicate 256 0) := rfl
theorem tabK_length (i : Nat) : (tabK i).2.length = 256 := by
 induction i with
 | zero => simp [tabK_zero]
 | succ i ih => rw [tabK_succ]; simp [ih]
def tabN : Nat → (Nat × Nat) × List Nat
 | 0 => ((1, 1), List.replicate 256 0)
 | i + 1 => ((tmN (tabN i).1.1 3, tmN (tabN i).1.2 246), (tabN i).2.set (tmN (tabN i).1.1 3) (stN (tmN (tabN i).1.2 246)))
theorem tabN_eq (i : Nat) : (tabK i).1.1.toNat = (tabN i).1.1 ∧ (tabK i).1.2.toNat = (tabN i).1.2 ∧ (tabK i).2.map UInt8.toNat = (tabN i).2 := by
 induction i with
 | zero => exact ⟨rfl, rfl, by simp [tabK, tabN]⟩
 | succ i ih =>
  obtain ⟨h1, h2, h3⟩ := ih
  rw [tabK_succ]
  refine ⟨by show (tm _ _).toNat = _; rw [tm_toNat, h1]; rfl, by show (tm _ _).toNat = _; rw [tm_toNat, h2]; rfl, ?_⟩
  show List.map UInt8.toNat (List.set _ _ _) = _
  rw [List.map_set, h3, stK_toNat, tm_toNat, tm_toNat, h1, h2]; rfl
theorem map_inj {a b : List UInt8} (h : a.map UInt8.toNat = b.map UInt8.toNat) : a = b := by
 have := congrArg (List.map UInt8.ofNat) h
 rwa [List.map_map, List.map_map, show (UInt8.ofNat ∘ UInt8.toNat) = id from funext fun c => UInt8.ofNat_toNat, List.map_id, List.map_id] at this
/-- A walk through the steps, one by one. -/
def goN : Nat → Nat × Nat → List Nat → List Nat
 | 0, _, l => l
 | n + 1, (p, q), l => goN n (tmN p 3, tmN q 246) (l.set (tmN p 3) (stN (tmN q 246)))
theorem goN_eq : ∀ n i, goN n (tabN i).1 (tabN i).2 = (tabN (i + n)).2 := by
 intro n
 induction n with
 | zero => intro i; rfl
 | succ n ih =>
  intro i
  rw [show i + (n + 1) = (i + 1) + n from by omega, ← ih (i + 1)]; rfl
theorem sbox_toNat : sbox.map UInt8.toNat = sboxN := by decide +kernel
theorem tab_fin : (tabK 255).2.set 0 99 = sbox := by
 apply map_inj
 rw [List.map_set, (tabN_eq 255).2.2, sbox_toNat, ← Nat.zero_add 255, ← goN_eq 255 0]
 decide +kernel
attribute [irreducible] tabK
theorem tabK_succ' (i : Nat) : tabK (i + 1) = ((tm (tabK i).1.1 3, tm (tabK i).1.2 246), (tabK i).2.set (tm (tabK i).1.1 3).toNat (stK (tm (tabK i).1.2 246) 5)) := by conv => lhs; unfold tabK
theorem tabK_zero' : tabK 0 = ((1, 1), List.replicate 256 0) := by unfold tabK; rfl
def p3 : Nat → UInt8
 | 0 => 1
 | i + 1 => tm (p3 i) 3
theorem p3_succ (i : Nat) : p3 (i + 1) = tm (p3 i) 3 := rfl
def p3L (i : Nat) : List Int := (List.range i).map fun k => (((p3 k).toNat : Nat) : Int)
theorem p3L_length (i : Nat) : (p3L i).length = i := by simp [p3L]
theorem p3L_succ (i : Nat) : p3L (i + 1) = p3L i ++ [(((p3 i).toNat : Nat) : Int)] := by simp [p3L, List.range_succ]
theorem p3L_get {n i : Nat} (h : i < n) : (p3L n).getD i 0 = (((p3 i).toNat : Nat) : Int) := by simp [p3L, h]
def tabR : Nat → List UInt8
 | 0 => (List.replicate 256 0).set 0 99
 | i + 1 => (tabR i).set (p3 i).toNat (stK (p3 ((255 - i) % 255)) 5)
theorem tabR_zero : tabR 0 = (List.replicate 256 0).set 0 99 := rfl
theorem tabR_succ (i : Nat) : tabR (i + 1) = (tabR i).set (p3 i).toNat (stK (p3 ((255 - i) % 255)) 5) := rfl
theorem tabR_length (i : Nat) : (tabR i).length = 256 := by
 induction i with
 | zero => simp [tabR_zero]
 | succ i ih => rw [tabR_succ]; simp [ih]
def p3N : Nat → Nat → List Nat
 | 0, _ => []
 | n + 1, p => p :: p3N n (tmN p 3)
theorem p3N_get : ∀ n i k, k < n → (p3N n (p3 i).toNat).getD k 0 = (p3 (i + k)).toNat := by
 intro n
 induction n with
 | zero => intro i k h; omega
 | succ n ih =>
  intro i k h
  cases k with
  | zero => rfl
  | succ k =>
   have := ih (i + 1) k (by omega)
   rw [p3_succ, tm_toNat] at this
   simp only [p3N, List.getD_cons_succ]
   rw [show i + (k + 1) = i + 1 + k from by omega, ← this]; rfl
def goR (ps : List Nat) : Nat → Nat → List Nat → List Nat
 | 0, _, l => l
 | n + 1, i, l => goR ps n (i + 1) (l.set (ps.getD i 0) (stN (ps.getD ((255 - i) % 255) 0)))
theorem goR_eq : ∀ n i, i + n ≤ 255 → goR (p3N 255 1) n i ((tabR i).map UInt8.toNat) = (tabR (i + n)).map UInt8.toNat := by
 intro n
 induction n with
 | zero => intro i _; rfl
 | succ n ih =>
  intro i h
  rw [show i + (n + 1) = (i + 1) + n from by omega, ← ih (i + 1) (by omega)]
  simp only [goR]
  rw [tabR_succ, List.map_set, stK_toNat]
  have e1 := p3N_get 255 0 i (by omega)
  have e2 := p3N_get 255 0 ((255 - i) % 255) (Nat.mod_lt _ (by decide))
  rw [show (p3 0).toNat = 1 from rfl, Nat.zero_add] at e1 e2
  rw [e1, e2]
theorem tabR_fin : tabR 255 = sbox := by
 apply map_inj
 rw [sbox_toNat, ← Nat.zero_add 255, ← goR_eq 255 0 (by decide)]
 decide +kernel
attribute [irreducible] tabR p3 p3L sb
theorem p3_zero : p3 0 = 1 := by unfold p3; rfl
theorem p3_succ' (i : Nat) : p3 (i + 1) = tm (p3 i) 3 := by conv => lhs; unfold p3
theorem sb_get (c : UInt8) : sbox.getD c.toNat 0 = sb c := by unfold sb; rfl
theorem and_one {n : Nat} (h : n < 256) : iand .u8 ((n : Nat) : Int) 1 = ((n % 2 : Nat) : Int) := by
 rw [mask_u8 1 (by decide) (by omega) (by omega) 1 (by decide)]; simp
theorem times_step {a b j : Nat} (ha : a < 256) : ixor .u8 ((tmK a b j : Nat) : Int) (IntKind.u8.wrap (((b / 2 ^ j % 2 : Nat) : Int) * ((twI a j : Nat) : Int))) = ((tmK a b (j + 1) : Nat) : Int) := by
 have h1 := bit_mul_lt (b := b) ha j
 have e : (((b / 2 ^ j % 2 : Nat) : Int) * ((twI a j : Nat) : Int)) = ((b / 2 ^ j % 2 * twI a j : Nat) : Int) := by simp
 rw [e]
 rw [tmK_succ]
 generalize b / 2 ^ j % 2 * twI a j = z at *
 rw [wrap_u8_in (by omega) (by omega), ixor_u8 (tmK_lt ha j) (by omega)]; rfl
theorem half_step (b j : Nat) : ((b / 2 ^ j : Nat) : Int) / 2 ^ 1 = ((b / 2 ^ (j + 1) : Nat) : Int) := by
 rw [Nat.pow_succ, ← Nat.div_div_eq_div_mul]; simp
theorem lt8 {b j : Nat} (hb : b < 256) (h : 0 < b / 2 ^ j) (hj : j ≤ 8) : j < 8 := by
 rcases Nat.lt_or_ge j 8 with h1 | h1
 ·exact h1
 ·rw [show j = 8 from by omega, Nat.div_eq_of_lt (by omega)] at h; omega
theorem div_lt {b j : Nat} (hb : b < 256) : b / 2 ^ j < 256 := Nat.lt_of_le_of_lt (Nat.div_le_self _ _) hb
theorem iand64_nonneg (a b : Int) : 0 ≤ iand .u64 a b := by
 unfold iand
 have : IntKind.u64.wrap ((BitVec.ofInt IntKind.u64.bits a &&& BitVec.ofInt IntKind.u64.bits b).toNat : Int) = ((BitVec.ofInt IntKind.u64.bits a &&& BitVec.ofInt IntKind.u64.bits b).toNat : Int) % 18446744073709551616 := by rw [wrap_u64]
 rw [this]; omega
theorem wrap64_nonneg (a : Int) : 0 ≤ IntKind.u64.wrap a := by rw [wrap_u64]; omega
theorem bit_test {b j : Nat} (hb : b < 256) (hj : j < 8) : iand .i64 (((b : Nat) : Int) / 2 ^ min (j : Int).toNat IntKind.i64.bits) 1 = ((b / 2 ^ j % 2 : Nat) : Int) := by
 rw [show min (j : Int).toNat IntKind.i64.bits = j from by show min _ 64 = j; rw [Int.toNat_natCast]; omega]
 have h1 : ((b : Nat) : Int) / 2 ^ j = ((b / 2 ^ j : Nat) : Int) := by simp
 have h2 := div_lt (j := j) hb
 rw [h1]
 generalize b / 2 ^ j = q at *
 rw [mask_i64 1 (by decide) (by omega) (by omega) 1 (by decide)]; simp
theorem tmK_set {a b j : Nat} (ha : a < 256) (h : b / 2 ^ j % 2 = 1) : ixor .i64 ((tmK a b j : Nat) : Int) ((twI a j : Nat) : Int) = ((tmK a b (j + 1) : Nat) : Int) := by
 have h1 := tmK_lt (b := b) ha j
 have h2 := twI_lt ha j
 rw [tmK_succ, h, Nat.one_mul, ixor_i64 (by omega) (by omega)]; rfl
theorem tmK_skip {a b j : Nat} (h : b / 2 ^ j % 2 = 0) : tmK a b j = tmK a b (j + 1) := by
 rw [tmK_succ, h, Nat.zero_mul]; exact (Nat.xor_zero _).symm
end Go.Proofs.YtfpoldogcopmpaaGreatDoor
end
section
namespace Go.Proofs.YtfpoldogcopmpaaGreatDoor
open Go Go.RowKit D
set_option linter.unusedVariables false
set_option linter.unusedSimpArgs false
set_option maxRecDepth 100000
set_option maxHeartbeats 1000000
def lastW (l : List UInt8) (j : Nat) (x : UInt8) : List UInt8 :=
 if j % 4 = 0 then [sb (l.getD (l.length - 3) 0) ^^^ x, sb (l.getD (l.length - 2) 0), sb (l.getD (l.length - 1) 0), sb (l.getD (l.length - 4) 0)]
 else [l.getD (l.length - 4) 0, l.getD (l.length - 3) 0, l.getD (l.length - 2) 0, l.getD (l.length - 1) 0]
theorem lastW_yes {l : List UInt8} {j : Nat} {x : UInt8} (h : j % 4 = 0) : lastW l j x = [sb (l.getD (l.length - 3) 0) ^^^ x, sb (l.getD (l.length - 2) 0), sb (l.getD (l.length - 1) 0), sb (l.getD (l.length - 4) 0)] := if_pos h
theorem lastW_no {l : List UInt8} {j : Nat} {x : UInt8} (h : ¬ j % 4 = 0) : lastW l j x = [l.getD (l.length - 4) 0, l.getD (l.length - 3) 0, l.getD (l.length - 2) 0, l.getD (l.length - 1) 0] := if_neg h
theorem lastW_length (l : List UInt8) (j : Nat) (x : UInt8) : (lastW l j x).length = 4 := by unfold lastW; split <;> rfl
def extK (l w : List UInt8) : Nat → List UInt8
 | 0 => l
 | k + 1 => extK l w k ++ [l.getD (l.length - 16 + k) 0 ^^^ w.getD k 0]
theorem extK_zero (l w : List UInt8) : extK l w 0 = l := rfl
theorem extK_succ (l w : List UInt8) (k : Nat) : extK l w (k + 1) = extK l w k ++ [l.getD (l.length - 16 + k) 0 ^^^ w.getD k 0] := rfl
theorem extK_length (l w : List UInt8) (k : Nat) : (extK l w k).length = l.length + k := by
 induction k with
 | zero => rfl
 | succ k ih => rw [extK_succ, List.length_append, ih]; rfl
theorem extK_get (l w : List UInt8) (k j : Nat) (h : j < l.length) : (extK l w k).getD j 0 = l.getD j 0 := by
 induction k with
 | zero => rfl
 | succ k ih =>
  rw [extK_succ, List.getD_eq_getElem?_getD, List.getElem?_append_left (by rw [extK_length]; omega), ← List.getD_eq_getElem?_getD, ih]
def expS (key : List UInt8) : Nat → List UInt8 × UInt8
 | 0 => (key, 1)
 | j + 1 => (extK (expS key j).1 (lastW (expS key j).1 j (expS key j).2) 4, if j % 4 = 0 then tw (expS key j).2 else (expS key j).2)
theorem expS_zero (key : List UInt8) : expS key 0 = (key, 1) := rfl
theorem expS_succ (key : List UInt8) (j : Nat) : expS key (j + 1) = (extK (expS key j).1 (lastW (expS key j).1 j (expS key j).2) 4, if j % 4 = 0 then tw (expS key j).2 else (expS key j).2) := rfl
theorem expS_length (key : List UInt8) (j : Nat) : (expS key j).1.length = key.length + 4 * j := by
 induction j with
 | zero => rfl
 | succ j ih => rw [expS_succ]; show (extK _ _ 4).length = _; rw [extK_length, ih]; omega
attribute [irreducible] lastW extK expS
def keysL (key : List UInt8) : List UInt8 := (expS key 40).1
theorem keysL_length {key : List UInt8} (h : key.length = 16) : (keysL key).length = 176 := by rw [keysL, expS_length, h]
/-- The key of a round. -/
def rkey (ks : List UInt8) (i : Nat) : List UInt8 := (ks.drop (16 * i)).take 16
theorem rkey_length {ks : List UInt8} (h : ks.length = 176) {i : Nat} (hi : i < 11) : (rkey ks i).length = 16 := by rw [rkey, List.length_take, List.length_drop]; omega
theorem rkey_get {ks : List UInt8} {i k : Nat} (hk : k < 16) : (rkey ks i).getD k 0 = ks.getD (16 * i + k) 0 := by
 simp only [rkey, List.getD_eq_getElem?_getD, List.getElem?_take, hk, if_true, List.getElem?_drop]
def keysS (ks : List UInt8) (n : Nat) : List (List UInt8) := (List.range n).map (rkey ks)
theorem keysS_length (ks : List UInt8) (n : Nat) : (keysS ks n).length = n := by simp [keysS]
theorem keysS_zero (ks : List UInt8) : keysS ks 0 = [] := rfl
theorem keysS_succ (ks : List UInt8) (n : Nat) : keysS ks (n + 1) = keysS ks n ++ [rkey ks n] := by simp [keysS, List.range_succ]
theorem keysS_get {ks : List UInt8} {n i : Nat} (h : i < n) : (keysS ks n).getD i [] = rkey ks i := by simp [keysS, h]
def withK (s k : List UInt8) : Nat → List UInt8
 | 0 => s
 | i + 1 => (withK s k i).set i ((withK s k i).getD i 0 ^^^ k.getD i 0)
theorem withK_zero (s k : List UInt8) : withK s k 0 = s := rfl
theorem withK_succ (s k : List UInt8) (i : Nat) : withK s k (i + 1) = (withK s k i).set i ((withK s k i).getD i 0 ^^^ k.getD i 0) := rfl
theorem withK_length (s k : List UInt8) (i : Nat) : (withK s k i).length = s.length := by
 induction i with
 | zero => rfl
 | succ i ih => rw [withK_succ]; simp [ih]
/-- The same, laid one behind the other. -/
def xorA (s k : List UInt8) (n : Nat) : List UInt8 := (List.range n).map fun i => s.getD i 0 ^^^ k.getD i 0
theorem xorA_length (s k : List UInt8) (n : Nat) : (xorA s k n).length = n := by simp [xorA]
theorem xorA_zero (s k : List UInt8) : xorA s k 0 = [] := rfl
theorem xorA_succ (s k : List UInt8) (n : Nat) : xorA s k (n + 1) = xorA s k n ++ [s.getD n 0 ^^^ k.getD n 0] := by simp [xorA, List.range_succ]
theorem withK_get (s k : List UInt8) (i j : Nat) (hj : j < s.length) : (withK s k i).getD j 0 = if j < i then s.getD j 0 ^^^ k.getD j 0 else s.getD j 0 := by
 induction i with
 | zero => rfl
 | succ i ih =>
  rw [withK_succ]
  by_cases h : i = j
  ·subst h
   rw [List.getD_eq_getElem?_getD, List.getElem?_set_self (by rw [withK_length]; exact hj), Option.getD_some, ih, if_neg (by omega), if_pos (by omega)]
  ·rw [List.getD_eq_getElem?_getD, List.getElem?_set_ne h, ← List.getD_eq_getElem?_getD, ih]
   by_cases h2 : j < i
   ·rw [if_pos h2, if_pos (by omega)]
   ·rw [if_neg h2, if_neg (by omega)]
theorem getD_ext {a b : List UInt8} (hl : a.length = b.length) (h : ∀ i, i < a.length → a.getD i 0 = b.getD i 0) : a = b := by
 apply List.ext_getElem hl
 intro i h1 h2
 have := h i h1
 rwa [List.getD_eq_getElem?_getD, List.getD_eq_getElem?_getD, List.getElem?_eq_getElem h1, List.getElem?_eq_getElem h2] at this
theorem xorA_get {s k : List UInt8} {n j : Nat} (h : j < n) : (xorA s k n).getD j 0 = s.getD j 0 ^^^ k.getD j 0 := by simp [xorA, h]
theorem withK_eq {s k : List UInt8} (hs : s.length = 16) : withK s k 16 = xorA s k 16 := by
 apply getD_ext (by rw [withK_length, xorA_length, hs])
 intro i hi
 rw [withK_length, hs] at hi
 rw [withK_get _ _ _ _ (by omega), if_pos hi, xorA_get hi]
/-- Bytes swapped, and rows shifted. -/
def subA (s : List UInt8) (n : Nat) : List UInt8 := (List.range n).map fun i => sb (s.getD (5 * i % 16) 0)
theorem subA_length (s : List UInt8) (n : Nat) : (subA s n).length = n := by simp [subA]
theorem subA_zero (s : List UInt8) : subA s 0 = [] := rfl
theorem subA_succ (s : List UInt8) (n : Nat) : subA s (n + 1) = subA s n ++ [sb (s.getD (5 * n % 16) 0)] := by simp [subA, List.range_succ]
theorem sub_set {s : List UInt8} {i : Nat} (hi : i < 16) : (subA s i ++ List.replicate (16 - i) 0).set i (sb (s.getD (5 * i % 16) 0)) = subA s (i + 1) ++ List.replicate (16 - (i + 1)) 0 := by
 rw [List.set_append_right _ _ (by rw [subA_length]; exact Nat.le_refl _), subA_length, Nat.sub_self, subA_succ, show 16 - i = (16 - (i + 1)) + 1 from by omega, List.replicate_succ]
 simp
/-- A column, mixed. -/
def mixC (a b c d : UInt8) : List UInt8 := [a ^^^ (a ^^^ b ^^^ c ^^^ d ^^^ tw (a ^^^ b)), b ^^^ (a ^^^ b ^^^ c ^^^ d ^^^ tw (b ^^^ c)), c ^^^ (a ^^^ b ^^^ c ^^^ d ^^^ tw (c ^^^ d)), d ^^^ (a ^^^ b ^^^ c ^^^ d ^^^ tw (d ^^^ a))]
def colA (t : List UInt8) (c : Nat) : List UInt8 := mixC (t.getD (4 * c) 0) (t.getD (4 * c + 1) 0) (t.getD (4 * c + 2) 0) (t.getD (4 * c + 3) 0)
theorem colA_length (t : List UInt8) (c : Nat) : (colA t c).length = 4 := rfl
/-- The first n columns mixed, the others as they were. -/
def mixK (t : List UInt8) : Nat → List UInt8
 | 0 => []
 | n + 1 => mixK t n ++ colA t n
theorem mixK_zero (t : List UInt8) : mixK t 0 = [] := rfl
theorem mixK_succ (t : List UInt8) (n : Nat) : mixK t (n + 1) = mixK t n ++ colA t n := rfl
theorem mixK_length (t : List UInt8) (n : Nat) : (mixK t n).length = 4 * n := by
 induction n with
 | zero => rfl
 | succ n ih => rw [mixK_succ, List.length_append, ih, colA_length]; omega
def roundA (t : List UInt8) (n : Nat) : List UInt8 := if n < 10 then mixK t 4 else t
/-- The state behind n rounds. -/
def stA (ks s : List UInt8) : Nat → List UInt8
 | 0 => xorA s (rkey ks 0) 16
 | n + 1 => xorA (roundA (subA (stA ks s n) 16) (n + 1)) (rkey ks (n + 1)) 16
theorem stA_zero (ks s : List UInt8) : stA ks s 0 = xorA s (rkey ks 0) 16 := rfl
theorem stA_succ (ks s : List UInt8) (n : Nat) : stA ks s (n + 1) = xorA (roundA (subA (stA ks s n) 16) (n + 1)) (rkey ks (n + 1)) 16 := rfl
theorem stA_length (ks s : List UInt8) (n : Nat) : (stA ks s n).length = 16 := by cases n <;> exact xorA_length _ _ _
/-- A block under a key. -/
def blkA (key s : List UInt8) : List UInt8 := stA (keysL key) s 10
theorem blkA_length (key s : List UInt8) : (blkA key s).length = 16 := stA_length _ _ _
attribute [irreducible] keysL blkA stA
theorem blkA_eq (key s : List UInt8) : stA (keysL key) s 10 = blkA key s := by unfold blkA; rfl
end Go.Proofs.YtfpoldogcopmpaaGreatDoor
end
section
namespace Go.Proofs.YtfpoldogcopmpaaGreatDoor
open Go Go.RowKit D
set_option linter.unusedVariables false
set_option linter.unusedSimpArgs false
set_option maxRecDepth 100000
set_option maxHeartbeats 1000000
def put4 (l : List UInt8) (o : Nat) (a b c d : UInt8) : List UInt8 := (((l.set o a).set (o + 1) b).set (o + 2) c).set (o + 3) d
theorem getD_set_off {l : List UInt8} {i j : Nat} {c : UInt8} (h : i ≠ j) : (l.set i c).getD j 0 = l.getD j 0 := by
 rw [List.getD_eq_getElem?_getD, List.getElem?_set_ne h, ← List.getD_eq_getElem?_getD]
def mixP (l : List UInt8) (o : Nat) (a b c d : UInt8) : List UInt8 := put4 l o (a ^^^ (a ^^^ b ^^^ c ^^^ d ^^^ tw (a ^^^ b))) (b ^^^ (a ^^^ b ^^^ c ^^^ d ^^^ tw (b ^^^ c))) (c ^^^ (a ^^^ b ^^^ c ^^^ d ^^^ tw (c ^^^ d))) (d ^^^ (a ^^^ b ^^^ c ^^^ d ^^^ tw (d ^^^ a)))
def mixO (l : List UInt8) (o : Nat) : List UInt8 := mixP l o (l.getD o 0) (l.getD (o + 1) 0) (l.getD (o + 2) 0) (l.getD (o + 3) 0)
theorem mixO_eq {l : List UInt8} {o : Nat} {a b c d : UInt8} (ha : l.getD o 0 = a) (hb : l.getD (o + 1) 0 = b) (hc : l.getD (o + 2) 0 = c) (hd : l.getD (o + 3) 0 = d) :
  (((l.set o (l.getD o 0 ^^^ (a ^^^ b ^^^ c ^^^ d ^^^ tw (a ^^^ b)))).set (o + 1) ((l.set o (l.getD o 0 ^^^ (a ^^^ b ^^^ c ^^^ d ^^^ tw (a ^^^ b)))).getD (o + 1) 0 ^^^ (a ^^^ b ^^^ c ^^^ d ^^^ tw (b ^^^ c)))).set (o + 2) (((l.set o (l.getD o 0 ^^^ (a ^^^ b ^^^ c ^^^ d ^^^ tw (a ^^^ b)))).set (o + 1) ((l.set o (l.getD o 0 ^^^ (a ^^^ b ^^^ c ^^^ d ^^^ tw (a ^^^ b)))).getD (o + 1) 0 ^^^ (a ^^^ b ^^^ c ^^^ d ^^^ tw (b ^^^ c)))).getD (o + 2) 0 ^^^ (a ^^^ b ^^^ c ^^^ d ^^^ tw (c ^^^ d)))).set (o + 3) ((((l.set o (l.getD o 0 ^^^ (a ^^^ b ^^^ c ^^^ d ^^^ tw (a ^^^ b)))).set (o + 1) ((l.set o (l.getD o 0 ^^^ (a ^^^ b ^^^ c ^^^ d ^^^ tw (a ^^^ b)))).getD (o + 1) 0 ^^^ (a ^^^ b ^^^ c ^^^ d ^^^ tw (b ^^^ c)))).set (o + 2) (((l.set o (l.getD o 0 ^^^ (a ^^^ b ^^^ c ^^^ d ^^^ tw (a ^^^ b)))).set (o + 1) ((l.set o (l.getD o 0 ^^^ (a ^^^ b ^^^ c ^^^ d ^^^ tw (a ^^^ b)))).getD (o + 1) 0 ^^^ (a ^^^ b ^^^ c ^^^ d ^^^ tw (b ^^^ c)))).getD (o + 2) 0 ^^^ (a ^^^ b ^^^ c ^^^ d ^^^ tw (c ^^^ d)))).getD (o + 3) 0 ^^^ (a ^^^ b ^^^ c ^^^ d ^^^ tw (d ^^^ a))) = mixO l o := by
 simp only [getD_set_off (show o ≠ o + 1 by omega), getD_set_off (show o ≠ o + 2 by omega), getD_set_off (show o ≠ o + 3 by omega), getD_set_off (show o + 1 ≠ o + 2 by omega), getD_set_off (show o + 1 ≠ o + 3 by omega), getD_set_off (show o + 2 ≠ o + 3 by omega)]
 rw [ha, hb, hc, hd]; unfold mixO mixP put4; rw [ha, hb, hc, hd]
theorem drop4 {t : List UInt8} {o : Nat} (h : o + 4 ≤ t.length) : t.drop o = t.getD o 0 :: t.getD (o + 1) 0 :: t.getD (o + 2) 0 :: t.getD (o + 3) 0 :: t.drop (o + 4) := by
 have f : ∀ j, j < t.length → t.drop j = t.getD j 0 :: t.drop (j + 1) := by
  intro j hj
  rw [List.drop_eq_getElem_cons hj, List.getD_eq_getElem?_getD, List.getElem?_eq_getElem hj]; rfl
 rw [f o (by omega), f (o + 1) (by omega), f (o + 2) (by omega), f (o + 3) (by omega)]
theorem mix_step {t : List UInt8} {c : Nat} (ht : t.length = 16) (hc : c < 4) : mixO (mixK t c ++ t.drop (4 * c)) (4 * c) = mixK t (c + 1) ++ t.drop (4 * (c + 1)) := by
 have hl := mixK_length t c
 have e := drop4 (t := t) (o := 4 * c) (by omega)
 have g : ∀ k, k < 4 → (mixK t c ++ t.drop (4 * c)).getD (4 * c + k) 0 = t.getD (4 * c + k) 0 := by
  intro k hk
  rw [List.getD_eq_getElem?_getD, List.getElem?_append_right (by omega), List.getElem?_drop, hl, show 4 * c + (4 * c + k - 4 * c) = 4 * c + k from by omega, ← List.getD_eq_getElem?_getD]
 rw [mixO, show (mixK t c ++ t.drop (4 * c)).getD (4 * c) 0 = t.getD (4 * c) 0 from g 0 (by omega), g 1 (by omega), g 2 (by omega), g 3 (by omega), mixK_succ, colA, show 4 * (c + 1) = 4 * c + 4 from by omega]
 generalize t.getD (4 * c) 0 = w0 at *
 generalize t.getD (4 * c + 1) 0 = w1 at *
 generalize t.getD (4 * c + 2) 0 = w2 at *
 generalize t.getD (4 * c + 3) 0 = w3 at *
 rw [e]
 generalize mixK t c = m at *
 generalize t.drop (4 * c + 4) = q at *
 unfold mixP put4 mixC
 rw [← hl]
 simp [List.set_append_right]
theorem mix_none {t : List UInt8} : mixK t 0 ++ t.drop (4 * 0) = t := rfl
theorem mix_all {t : List UInt8} (ht : t.length = 16) : mixK t 4 ++ t.drop (4 * 4) = mixK t 4 := by
 rw [List.drop_eq_nil_of_le (by omega), List.append_nil]
theorem with_step {ks s : List UInt8} {r i : Nat} (hi : i < 16) : (withK s (rkey ks r) i).set i ((withK s (rkey ks r) i).getD i 0 ^^^ ks.getD (16 * r + i) 0) = withK s (rkey ks r) (i + 1) := by
 rw [withK_succ, rkey_get hi]
def zs (n : Nat) : List UInt8 := List.replicate n 0
theorem zs_length (n : Nat) : (zs n).length = n := List.length_replicate ..
theorem last4 {l : List UInt8} {o m : Nat} (h : o + 4 = l.length) : ((l ++ zs m).drop o).take 4 = [l.getD o 0, l.getD (o + 1) 0, l.getD (o + 2) 0, l.getD (o + 3) 0] := by
 rw [List.drop_append_of_le_length (by omega), drop4 (by omega), List.drop_eq_nil_of_le (by omega)]; rfl
theorem ext_step {l w : List UInt8} {m k : Nat} (hl : 16 ≤ l.length) (hk : k < 16) (hm : k < m) :
  (extK l w k ++ zs (m - k)).set (l.length + k) ((extK l w k ++ zs (m - k)).getD (l.length + k - 16) 0 ^^^ w.getD k 0) = extK l w (k + 1) ++ zs (m - (k + 1)) := by
 have hn := extK_length l w k
 rw [List.getD_eq_getElem?_getD, List.getElem?_append_left (by omega), ← List.getD_eq_getElem?_getD, extK_get _ _ _ _ (by omega), List.set_append_right _ _ (by omega), extK_succ, show l.length + k - (extK l w k).length = 0 from by omega, zs, show m - k = (m - (k + 1)) + 1 from by omega, List.replicate_succ]
 simp [zs]; congr 2; omega
theorem start_eq {key : List UInt8} (h : key.length = 16) : (zs 176).take (1 - 1) ++ key.take (min key.length 176) ++ (zs 176).drop (1 - 1 + (key.take (min key.length 176)).length) = (expS key 0).1 ++ zs (160 - 4 * 0) := by
 rw [expS_zero, h, show min 16 176 = 16 from rfl, show key.take 16 = key from List.take_of_length_le (by omega), h]
 simp [zs]
theorem expS_next (key : List UInt8) (j : Nat) : (expS key (j + 1)).1 = extK (expS key j).1 (lastW (expS key j).1 j (expS key j).2) 4 := by rw [expS_succ]
theorem expS_x_yes {key : List UInt8} {j : Nat} (h : j % 4 = 0) : (expS key (j + 1)).2 = tw (expS key j).2 := by rw [expS_succ]; exact if_pos h
theorem expS_x_no {key : List UInt8} {j : Nat} (h : ¬ j % 4 = 0) : (expS key (j + 1)).2 = (expS key j).2 := by rw [expS_succ]; exact if_neg h
theorem last_no {l : List UInt8} {o m j : Nat} {x : UInt8} (h : o + 4 = l.length) (hj : ¬ j % 4 = 0) : ((l ++ zs m).drop o).take 4 = lastW l j x := by
 rw [last4 h, lastW_no hj, ← h]; rfl
theorem last_yes {l : List UInt8} {o m j : Nat} {x : UInt8} (h : o + 4 = l.length) (hj : j % 4 = 0) :
  [sbox.getD ((((l ++ zs m).drop o).take 4).getD 1 0).toNat 0 ^^^ x, sbox.getD ((((l ++ zs m).drop o).take 4).getD 2 0).toNat 0, sbox.getD ((((l ++ zs m).drop o).take 4).getD 3 0).toNat 0, sbox.getD ((((l ++ zs m).drop o).take 4).getD 0 0).toNat 0] = lastW l j x := by
 rw [last4 h, lastW_yes hj, ← h, sb_get, sb_get, sb_get, sb_get]; rfl
theorem keys_fin (key : List UInt8) : (expS key 40).1 ++ zs (160 - 4 * 40) = keysL key := by
 rw [show zs (160 - 4 * 40) = [] from rfl, List.append_nil, keysL]
attribute [irreducible] zs mixO
end Go.Proofs.YtfpoldogcopmpaaGreatDoor
end
section
namespace Go.Proofs.YtfpoldogcopmpaaGreatDoor
open Go Go.RowKit D
set_option linter.unusedVariables false
set_option linter.unusedSimpArgs false
set_option maxRecDepth 100000
set_option maxHeartbeats 1000000
theorem stA_length' (ks s : List UInt8) : (stA ks s 10).length = 16 := stA_length ks s 10
def blkL (key : List UInt8) (bs : List (List UInt8)) (i : Nat) : List (List UInt8) := (bs.take i).map (blkA key)
theorem blkL_zero (key : List UInt8) (bs : List (List UInt8)) : blkL key bs 0 = [] := rfl
theorem blkL_succ (key : List UInt8) {bs : List (List UInt8)} {i : Nat} (h : i < bs.length) : blkL key bs (i + 1) = blkL key bs i ++ [blkA key (bs.getD i [])] := by
 unfold blkL
 rw [List.take_succ_eq_append_getElem h, List.map_append, List.getD_eq_getElem?_getD, List.getElem?_eq_getElem h]; rfl
theorem blkL_all (key : List UInt8) (bs : List (List UInt8)) : blkL key bs bs.length = bs.map (blkA key) := by rw [blkL, List.take_length]
def blocksP (key : List UInt8) (bs : List (List UInt8)) : List (List UInt8) × Int :=
 if key.length = 16 then (if ∀ j, j < bs.length → (bs.getD j []).length = 16 then (bs.map (blkA key), 0) else ([], 1)) else ([], 21)
theorem blocksP_key {key : List UInt8} (bs : List (List UInt8)) (h : ¬ key.length = 16) : blocksP key bs = ([], 21) := if_neg h
theorem blocksP_bad {key : List UInt8} {bs : List (List UInt8)} {i : Nat} (h : key.length = 16) (hi : i < bs.length) (hb : ¬ (bs.getD i []).length = 16) : blocksP key bs = ([], 1) := by
 rw [blocksP, if_pos h, if_neg (fun g => hb (g i hi))]
theorem blocksP_ok {key : List UInt8} {bs : List (List UInt8)} (h : key.length = 16) (hb : ∀ j, j < bs.length → (bs.getD j []).length = 16) : blocksP key bs = (bs.map (blkA key), 0) := by
 rw [blocksP, if_pos h, if_pos hb]
def blockP (key b : List UInt8) : List UInt8 × Int := if key.length = 16 then (if b.length = 16 then (blkA key b, 0) else ([], 1)) else ([], 21)
theorem blockP_ok {key b : List UInt8} (h : key.length = 16) (hb : b.length = 16) : blockP key b = (blkA key b, 0) := by rw [blockP, if_pos h, if_pos hb]
theorem blockP_bad {key b : List UInt8} (h : key.length = 16) (hb : ¬ b.length = 16) : blockP key b = ([], 1) := by rw [blockP, if_pos h, if_neg hb]
end Go.Proofs.YtfpoldogcopmpaaGreatDoor
end
section
namespace Go.Proofs.YtfpoldogcopmpaaGreatDoor
open Go Go.RowKit D
set_option linter.unusedVariables false
set_option linter.unusedSimpArgs false
set_option maxRecDepth 100000
set_option maxHeartbeats 1000000
theorem p3L_zero' : p3L 0 = [] := by unfold p3L; rfl
theorem p3L_succ' (i : Nat) : p3L (i + 1) = p3L i ++ [(((p3 i).toNat : Nat) : Int)] := p3L_succ i
theorem p3L_length' (i : Nat) : (p3L i).length = i := p3L_length i
theorem p3L_get' {n i : Nat} (h : i < n) : (p3L n).getD i 0 = (((p3 i).toNat : Nat) : Int) := p3L_get h
theorem tabR_zero' : tabR 0 = (List.replicate 256 0).set 0 99 := tabR_zero
theorem tabR_succ' (i : Nat) : tabR (i + 1) = (tabR i).set (p3 i).toNat (stK (p3 ((255 - i) % 255)) 5) := tabR_succ i
theorem tm2 (x : UInt8) : tm x 2 = tw x := all_bytes (p := fun x => tm x 2 = tw x) (by decide +kernel) x
theorem tm3 (x : UInt8) : tm x 3 = tw x ^^^ x := all_bytes (p := fun x => tm x 3 = tw x ^^^ x) (by decide +kernel) x
theorem twN_xor : ∀ a : Nat, a < 256 → ∀ b : Nat, b < 256 → twN (Nat.xor a b) = Nat.xor (twN a) (twN b) := by decide +kernel
theorem tw_xor (a b : UInt8) : tw (a ^^^ b) = tw a ^^^ tw b := by
 apply UInt8.toNat_inj.1
 rw [tw_toNat, UInt8.toNat_xor, UInt8.toNat_xor, tw_toNat, tw_toNat]
 exact twN_xor _ a.toNat_lt _ b.toNat_lt
theorem tm2N (x : UInt8) : tmN x.toNat 2 = twN x.toNat := by
 have := congrArg UInt8.toNat (tm2 x)
 rwa [tm_toNat, tw_toNat] at this
theorem xx (a y : UInt8) : a ^^^ (a ^^^ y) = y := by rw [← UInt8.xor_assoc, UInt8.xor_self, UInt8.zero_xor]
theorem mix0 (a b c d : UInt8) : a ^^^ (a ^^^ b ^^^ c ^^^ d ^^^ tw (a ^^^ b)) = tm a 2 ^^^ tm b 3 ^^^ c ^^^ d := by
 rw [tm2, tm3, tw_xor, show a ^^^ b ^^^ c ^^^ d ^^^ (tw a ^^^ tw b) = a ^^^ (tw a ^^^ (tw b ^^^ b) ^^^ c ^^^ d) from by ac_rfl, xx]
theorem mix1 (a b c d : UInt8) : b ^^^ (a ^^^ b ^^^ c ^^^ d ^^^ tw (b ^^^ c)) = tm b 2 ^^^ tm c 3 ^^^ d ^^^ a := by
 rw [tm2, tm3, tw_xor, show a ^^^ b ^^^ c ^^^ d ^^^ (tw b ^^^ tw c) = b ^^^ (tw b ^^^ (tw c ^^^ c) ^^^ d ^^^ a) from by ac_rfl, xx]
theorem mix2 (a b c d : UInt8) : c ^^^ (a ^^^ b ^^^ c ^^^ d ^^^ tw (c ^^^ d)) = tm c 2 ^^^ tm d 3 ^^^ a ^^^ b := by
 rw [tm2, tm3, tw_xor, show a ^^^ b ^^^ c ^^^ d ^^^ (tw c ^^^ tw d) = c ^^^ (tw c ^^^ (tw d ^^^ d) ^^^ a ^^^ b) from by ac_rfl, xx]
theorem mix3 (a b c d : UInt8) : d ^^^ (a ^^^ b ^^^ c ^^^ d ^^^ tw (d ^^^ a)) = tm d 2 ^^^ tm a 3 ^^^ b ^^^ c := by
 rw [tm2, tm3, tw_xor, show a ^^^ b ^^^ c ^^^ d ^^^ (tw d ^^^ tw a) = d ^^^ (tw d ^^^ (tw a ^^^ a) ^^^ b ^^^ c) from by ac_rfl, xx]
theorem colA_get (t : List UInt8) (c : Nat) {r : Nat} (hr : r < 4) : (colA t c).getD r 0 = tm (t.getD (4 * c + r) 0) 2 ^^^ tm (t.getD (4 * c + (r + 1) % 4) 0) 3 ^^^ t.getD (4 * c + (r + 2) % 4) 0 ^^^ t.getD (4 * c + (r + 3) % 4) 0 := by
 rcases r with _ | _ | _ | _ | r
 ·exact mix0 _ _ _ _
 ·exact mix1 _ _ _ _
 ·exact mix2 _ _ _ _
 ·exact mix3 _ _ _ _
 ·omega
theorem mix_int (a b c d : UInt8) : ixor .i64 (ixor .i64 (ixor .i64 ((tmN a.toNat 2 : Nat) : Int) ((tmN b.toNat 3 : Nat) : Int)) ((c.toNat : Nat) : Int)) ((d.toNat : Nat) : Int) = (((tm a 2 ^^^ tm b 3 ^^^ c ^^^ d).toNat : Nat) : Int) := by
 have ha := (tm a 2).toNat_lt; have hb := (tm b 3).toNat_lt; have hc := c.toNat_lt; have hd := d.toNat_lt
 have e1 : tmN a.toNat 2 = (tm a 2).toNat := (tm_toNat a 2).symm
 have e2 : tmN b.toNat 3 = (tm b 3).toNat := (tm_toNat b 3).symm
 have h1 := (tm a 2 ^^^ tm b 3).toNat_lt
 have h2 := (tm a 2 ^^^ tm b 3 ^^^ c).toNat_lt
 rw [e1, e2, ixor_i64 (by omega) (by omega), ← UInt8.toNat_xor, ixor_i64 (by omega) (by omega), ← UInt8.toNat_xor, ixor_i64 (by omega) (by omega), ← UInt8.toNat_xor]
def mixU (t : List UInt8) (c r : Nat) : List UInt8 := mixK t c ++ (colA t c).take r
theorem mixU_zero (t : List UInt8) (c : Nat) : mixU t c 0 = mixK t c := by rw [mixU, List.take_zero, List.append_nil]
theorem mixU_four (t : List UInt8) (c : Nat) : mixU t c 4 = mixK t (c + 1) := rfl
theorem mixU_succ (t : List UInt8) (c : Nat) {r : Nat} (hr : r < 4) : mixU t c (r + 1) = mixU t c r ++ [(colA t c).getD r 0] := by
 unfold mixU
 rw [List.append_assoc]
 congr 1
 rcases r with _ | _ | _ | _ | r <;> first | rfl | omega
attribute [irreducible] mixU
end Go.Proofs.YtfpoldogcopmpaaGreatDoor
end
section
namespace Go.Proofs.YtfpoldogcopmpaaGreatDoor
open Go Go.RowKit D
set_option linter.unusedVariables false
set_option linter.unusedSimpArgs false
set_option maxRecDepth 100000
set_option maxHeartbeats 1000000
def beK (l : List UInt8) : Nat → Nat
 | 0 => 0
 | i + 1 => 256 * beK l i + (l.getD i 0).toNat
theorem beK_zero (l : List UInt8) : beK l 0 = 0 := rfl
theorem beK_succ (l : List UInt8) (i : Nat) : beK l (i + 1) = 256 * beK l i + (l.getD i 0).toNat := rfl
theorem pow256 (k : Nat) : (256 : Nat) ^ (k + 1) = 256 * 256 ^ k := by rw [Nat.pow_succ, Nat.mul_comm]
theorem beK_lt (l : List UInt8) (i : Nat) : beK l i < 256 ^ i := by
 induction i with
 | zero => exact Nat.one_pos
 | succ i ih => rw [beK_succ, pow256]; have := (l.getD i 0).toNat_lt; omega
theorem beK_get (l : List UInt8) : ∀ k j, j < k → beK l k / 256 ^ (k - 1 - j) % 256 = (l.getD j 0).toNat := by
 intro k
 induction k with
 | zero => intro j h; omega
 | succ k ih =>
  intro j h
  have hb := (l.getD k 0).toNat_lt
  rw [beK_succ]
  by_cases hj : j = k
  ·subst hj
   rw [show j + 1 - 1 - j = 0 from by omega, Nat.pow_zero, Nat.div_one]; omega
  ·rw [show k + 1 - 1 - j = (k - 1 - j) + 1 from by omega, pow256, ← Nat.div_div_eq_div_mul, show (256 * beK l k + (l.getD k 0).toNat) / 256 = beK l k from by omega]
   exact ih j (by omega)
theorem beK_more (l : List UInt8) (a : Nat) : ∀ b, beK l (a + b) = 256 ^ b * beK l a + beK (l.drop a) b := by
 intro b
 induction b with
 | zero => simp [beK_zero]
 | succ b ih =>
  have e : (l.drop a).getD b 0 = l.getD (a + b) 0 := by simp [List.getD_eq_getElem?_getD, List.getElem?_drop]
  rw [← Nat.add_assoc, beK_succ, ih, beK_succ, pow256, e, Nat.mul_add, Nat.mul_assoc]; omega
def byL (X k : Nat) : List UInt8 := (List.range k).map fun j => UInt8.ofNat (X / 256 ^ (k - 1 - j))
theorem byL_length (X k : Nat) : (byL X k).length = k := by simp [byL]
theorem byL_get {X k j : Nat} (h : j < k) : ((byL X k).getD j 0).toNat = X / 256 ^ (k - 1 - j) % 256 := by
 simp [byL, h]
theorem byL_beK {l : List UInt8} {k : Nat} (h : l.length = k) : byL (beK l k) k = l := by
 apply getD_ext (by rw [byL_length, h])
 intro j hj
 rw [byL_length] at hj
 apply UInt8.toNat_inj.1
 rw [byL_get hj, beK_get l k j hj]
theorem beK_byL_at {X k : Nat} (hX : X < 256 ^ k) : ∀ i, i ≤ k → beK (byL X k) i = X / 256 ^ (k - i) := by
 intro i
 induction i with
 | zero => intro _; rw [beK_zero, Nat.sub_zero, Nat.div_eq_of_lt hX]
 | succ i ih =>
  intro h
  have e : X / 256 ^ (k - i) = X / 256 ^ (k - 1 - i) / 256 := by rw [show k - i = (k - 1 - i) + 1 from by omega, Nat.pow_succ, Nat.div_div_eq_div_mul]
  rw [beK_succ, ih (by omega), byL_get (by omega), e, show k - (i + 1) = k - 1 - i from by omega]
  generalize X / 256 ^ (k - 1 - i) = q
  omega
theorem beK_byL {X k : Nat} (hX : X < 256 ^ k) : beK (byL X k) k = X := by
 rw [beK_byL_at hX k (Nat.le_refl _), Nat.sub_self, Nat.pow_zero, Nat.div_one]
theorem xor_split (k : Nat) {a b c d : Nat} (hb : b < 2 ^ k) (hd : d < 2 ^ k) : (2 ^ k * a + b) ^^^ (2 ^ k * c + d) = 2 ^ k * (a ^^^ c) + (b ^^^ d) := by
 apply Nat.eq_of_testBit_eq
 intro j
 rw [Nat.testBit_xor, Nat.testBit_two_pow_mul_add _ hb, Nat.testBit_two_pow_mul_add _ hd, Nat.testBit_two_pow_mul_add _ (Nat.xor_lt_two_pow hb hd)]
 split <;> rw [Nat.testBit_xor]
theorem beK_xor (s t : List UInt8) (n : Nat) : ∀ k, k ≤ n → beK (xorA s t n) k = beK s k ^^^ beK t k := by
 intro k
 induction k with
 | zero => intro _; simp [beK_zero]
 | succ k ih =>
  intro h
  rw [beK_succ, beK_succ, beK_succ, ih (by omega), xorA_get (by omega), UInt8.toNat_xor]
  exact (xor_split 8 (s.getD k 0).toNat_lt (t.getD k 0).toNat_lt).symm
def redR : Nat := 299076299051606071403356588563077529600
def sh (v : Nat) : Nat := (v / 2) ^^^ (v % 2 * redR)
def shI (v : Nat) : Nat → Nat
 | 0 => v
 | n + 1 => sh (shI v n)
def gmK (b c : Nat) : Nat → Nat
 | 0 => 0
 | n + 1 => gmK b c n ^^^ (c / 2 ^ (127 - n) % 2 * shI b n)
theorem gmK_succ (b c n : Nat) : gmK b c (n + 1) = gmK b c n ^^^ (c / 2 ^ (127 - n) % 2 * shI b n) := rfl
theorem gmK_yes {b c n : Nat} (h : c / 2 ^ (127 - n) % 2 = 1) : gmK b c (n + 1) = gmK b c n ^^^ shI b n := by rw [gmK_succ, h, Nat.one_mul]
theorem gmK_no {b c n : Nat} (h : c / 2 ^ (127 - n) % 2 = 0) : gmK b c (n + 1) = gmK b c n := by rw [gmK_succ, h, Nat.zero_mul, Nat.xor_zero]
def gm (b c : Nat) : Nat := gmK b c 128
theorem sh_lt {v : Nat} (h : v < 2 ^ 128) : sh v < 2 ^ 128 := by
 unfold sh
 apply Nat.xor_lt_two_pow
 ·omega
 ·unfold redR; rcases Nat.mod_two_eq_zero_or_one v with e | e <;> rw [e] <;> decide
theorem shI_lt {v : Nat} (h : v < 2 ^ 128) (n : Nat) : shI v n < 2 ^ 128 := by
 induction n with
 | zero => exact h
 | succ n ih => exact sh_lt ih
theorem bit_le {x y n : Nat} (h : x < 2 ^ n) : y % 2 * x < 2 ^ n := by
 rcases Nat.mod_two_eq_zero_or_one y with e | e <;> rw [e]
 ·rw [Nat.zero_mul]; exact Nat.two_pow_pos n
 ·rw [Nat.one_mul]; exact h
theorem gmK_lt {b : Nat} (h : b < 2 ^ 128) (c n : Nat) : gmK b c n < 2 ^ 128 := by
 induction n with
 | zero => exact Nat.two_pow_pos 128
 | succ n ih => exact Nat.xor_lt_two_pow ih (bit_le (shI_lt h n))
theorem gm_lt {b : Nat} (h : b < 2 ^ 128) (c : Nat) : gm b c < 2 ^ 128 := gmK_lt h c 128
def xs (f : Nat → Nat) : Nat → Nat
 | 0 => 0
 | n + 1 => xs f n ^^^ f n
attribute [irreducible] beK byL gm shI gmK sh redR
theorem redR_def : redR = 299076299051606071403356588563077529600 := by unfold redR; rfl
theorem sh_def (v : Nat) : sh v = (v / 2) ^^^ (v % 2 * redR) := by unfold sh; rfl
theorem shI_zero' (v : Nat) : shI v 0 = v := by unfold shI; rfl
theorem shI_succ' (v n : Nat) : shI v (n + 1) = sh (shI v n) := by conv => lhs; unfold shI
theorem gmK_zero' (b c : Nat) : gmK b c 0 = 0 := by unfold gmK; rfl
theorem gm_def (b c : Nat) : gm b c = gmK b c 128 := by unfold gm; rfl
end Go.Proofs.YtfpoldogcopmpaaGreatDoor
end
section
namespace Go.Proofs.YtfpoldogcopmpaaGreatDoor
open Go Go.RowKit D
set_option linter.unusedVariables false
set_option linter.unusedSimpArgs false
set_option maxRecDepth 100000
set_option maxHeartbeats 1000000
def pair (X : Nat) : List Int := [((X / 2 ^ 64 : Nat) : Int), ((X % 2 ^ 64 : Nat) : Int)]
theorem pair_length (X : Nat) : (pair X).length = 2 := rfl
theorem pair_zero : pair 0 = [0, 0] := rfl
theorem pair_at (X : Nat) {i : Nat} (h : i < 2) : (pair X).getD i 0 = ((X / 2 ^ (64 * (1 - i)) % 2 ^ 64 : Nat) : Int) ∨ (2 ^ 128 ≤ X) := by
 by_cases hX : X < 2 ^ 128
 ·refine .inl ?_
  obtain rfl | rfl : i = 0 ∨ i = 1 := by omega
  ·show ((X / 2 ^ 64 : Nat) : Int) = _
   rw [show 64 * (1 - 0) = 64 from rfl, Nat.mod_eq_of_lt (a := X / 2 ^ 64) (by omega)]
  ·show ((X % 2 ^ 64 : Nat) : Int) = _
   rw [show 64 * (1 - 1) = 0 from rfl, Nat.pow_zero, Nat.div_one]
 ·exact .inr (by omega)
theorem pair_get {X : Nat} (hX : X < 2 ^ 128) {i : Nat} (h : i < 2) : (pair X).getD i 0 = ((X / 2 ^ (64 * (1 - i)) % 2 ^ 64 : Nat) : Int) := (pair_at X h).resolve_right (by omega)
/-- of, after i bytes. -/
def ofK (s : List UInt8) (i : Nat) : List Int := [((beK s (min i 8) : Nat) : Int), ((beK (s.drop 8) (i - 8) : Nat) : Int)]
theorem ofK_zero (s : List UInt8) : ofK s 0 = [0, 0] := by simp [ofK, beK_zero]
theorem ofK_length (s : List UInt8) (i : Nat) : (ofK s i).length = 2 := rfl
theorem or8 (a : Nat) (c : UInt8) (ha : a < 256 ^ 7) : ior .u64 (IntKind.u64.wrap ((a : Int) * 2 ^ 8)) (IntKind.u64.wrap ((c.toNat : Nat) : Int)) = ((256 * a + c.toNat : Nat) : Int) := by
 have hc := c.toNat_lt
 have e1 : IntKind.u64.wrap ((a : Int) * 2 ^ 8) = ((a * 2 ^ 8 : Nat) : Int) := by rw [wrap_u64_in (by omega) (by omega)]; omega
 have e2 : IntKind.u64.wrap ((c.toNat : Nat) : Int) = ((c.toNat : Nat) : Int) := wrap_u64_in (by omega) (by omega)
 rw [e1, e2, ior_u64 (by omega) (by omega), Nat.or_comm, or_add (by omega)]
 omega
theorem of_step (s : List UInt8) {i : Nat} (hi : i < 16) : (ofK s i).set (i / 8) (ior .u64 (IntKind.u64.wrap ((ofK s i).getD (i / 8) 0 * 2 ^ 8)) (IntKind.u64.wrap (bt s i))) = ofK s (i + 1) := by
 rcases Nat.lt_or_ge i 8 with h | h
 ·have hd : i / 8 = 0 := by omega
  have hb := beK_lt s (min i 8)
  have hp : 256 ^ (min i 8) ≤ 256 ^ 7 := Nat.pow_le_pow_right (by decide) (by omega)
  rw [hd]
  show [ior .u64 (IntKind.u64.wrap (((beK s (min i 8) : Nat) : Int) * 2 ^ 8)) (IntKind.u64.wrap (((s.getD i 0).toNat : Nat) : Int)), ((beK (s.drop 8) (i - 8) : Nat) : Int)] = _
  rw [or8 _ _ (by omega)]
  unfold ofK
  rw [show min (i + 1) 8 = i + 1 from by omega, show min i 8 = i from by omega, show i - 8 = 0 from by omega, show i + 1 - 8 = 0 from by omega, beK_succ]
 ·have hd : i / 8 = 1 := by omega
  have hb := beK_lt (s.drop 8) (i - 8)
  have hp : 256 ^ (i - 8) ≤ 256 ^ 7 := Nat.pow_le_pow_right (by decide) (by omega)
  rw [hd]
  show [((beK s (min i 8) : Nat) : Int), ior .u64 (IntKind.u64.wrap (((beK (s.drop 8) (i - 8) : Nat) : Int) * 2 ^ 8)) (IntKind.u64.wrap (((s.getD i 0).toNat : Nat) : Int))] = _
  rw [or8 _ _ (by omega)]
  unfold ofK
  rw [show min (i + 1) 8 = 8 from by omega, show min i 8 = 8 from by omega, show i + 1 - 8 = (i - 8) + 1 from by omega, beK_succ (s.drop 8)]
  have e : (s.drop 8).getD (i - 8) 0 = s.getD i 0 := by simp [List.getD_eq_getElem?_getD, List.getElem?_drop, show 8 + (i - 8) = i from by omega]
  rw [e]
theorem ofK_fin (s : List UInt8) : ofK s 16 = pair (beK s 16) := by
 have h := beK_more s 8 8
 have hb := beK_lt (s.drop 8) 8
 rw [show (8 : Nat) + 8 = 16 from rfl] at h
 have e : (256 : Nat) ^ 8 = 2 ^ 64 := by decide
 rw [e] at h hb
 unfold ofK pair
 rw [h, show min 16 8 = 8 from rfl, show 16 - 8 = 8 from rfl, Nat.mul_add_div (Nat.two_pow_pos 64), Nat.div_eq_of_lt hb, Nat.mul_add_mod, Nat.mod_eq_of_lt hb, Nat.add_zero]
theorem beK_lt128 (s : List UInt8) : beK s 16 < 2 ^ 128 := by
 have := beK_lt s 16
 rwa [show (256 : Nat) ^ 16 = 2 ^ 128 from by decide] at this
theorem pair_xor (X Y : Nat) : [ixor .u64 ((pair X).getD 0 0) ((pair Y).getD 0 0), ixor .u64 ((pair X).getD 1 0) ((pair Y).getD 1 0)] = pair (X ^^^ Y) ∨ ¬ (X < 2 ^ 128 ∧ Y < 2 ^ 128) := by
 by_cases h : X < 2 ^ 128 ∧ Y < 2 ^ 128
 ·refine .inl ?_
  show [ixor .u64 ((X / 2 ^ 64 : Nat) : Int) ((Y / 2 ^ 64 : Nat) : Int), ixor .u64 ((X % 2 ^ 64 : Nat) : Int) ((Y % 2 ^ 64 : Nat) : Int)] = _
  rw [ixor_u64 (by omega) (by omega), ixor_u64 (Nat.mod_lt _ (by decide)) (Nat.mod_lt _ (by decide))]
  unfold pair
  have e1 := @Nat.shiftRight_xor_distrib 64 X Y
  rw [Nat.shiftRight_eq_div_pow, Nat.shiftRight_eq_div_pow, Nat.shiftRight_eq_div_pow] at e1
  rw [e1, Nat.xor_mod_two_pow]
 ·exact .inr h
theorem pair_with {X Y : Nat} (hX : X < 2 ^ 128) (hY : Y < 2 ^ 128) : [ixor .u64 ((pair X).getD 0 0) ((pair Y).getD 0 0), ixor .u64 ((pair X).getD 1 0) ((pair Y).getD 1 0)] = pair (X ^^^ Y) := (pair_xor X Y).resolve_right (fun h => h ⟨hX, hY⟩)
def strK (X i : Nat) : List UInt8 := (byL X 16).take i ++ zs (16 - i)
theorem strK_zero (X : Nat) : strK X 0 = zs 16 := by simp [strK]
theorem strK_length (X : Nat) {i : Nat} (h : i ≤ 16) : (strK X i).length = 16 := by
 rw [strK, List.length_append, List.length_take, byL_length, zs_length]; omega
theorem strK_fin (X : Nat) : strK X 16 = byL X 16 := by
 rw [strK, List.take_of_length_le (by rw [byL_length]; decide), show 16 - 16 = 0 from rfl]; simp [zs]
theorem take_set_next {l : List UInt8} {n i : Nat} (hl : l.length = n) (hi : i < n) {c : UInt8} (hc : c = l.getD i 0) : (l.take i ++ zs (n - i)).set i c = l.take (i + 1) ++ zs (n - (i + 1)) := by
 have hz : zs (n - i) = 0 :: zs (n - (i + 1)) := by unfold zs; rw [show n - i = (n - (i + 1)) + 1 from by omega, List.replicate_succ]
 have hk : (l.take i).length = i := by rw [List.length_take]; omega
 rw [hz, List.set_append, if_neg (by rw [hk]; exact Nat.lt_irrefl _), hk, Nat.sub_self, List.set_cons_zero, List.take_succ_eq_append_getElem (by omega : i < l.length), List.append_assoc, hc, List.getD_eq_getElem?_getD, List.getElem?_eq_getElem (by omega : i < l.length)]
 rfl
theorem byte_at {X : Nat} (hX : X < 2 ^ 128) {i : Nat} (hi : i < 16) : (X / 2 ^ (64 * (1 - i / 8)) % 2 ^ 64) / 2 ^ (56 - 8 * (i % 8)) % 256 = X / 256 ^ (15 - i) % 256 := by
 have e : (256 : Nat) ^ (15 - i) = 2 ^ (8 * (15 - i)) := by rw [Nat.pow_mul]
 rw [e]
 have e2 : 8 * (15 - i) = 64 * (1 - i / 8) + (56 - 8 * (i % 8)) := by omega
 rw [e2, Nat.pow_add, ← Nat.div_div_eq_div_mul]
 generalize X / 2 ^ (64 * (1 - i / 8)) = q
 have h56 : 56 - 8 * (i % 8) ≤ 56 := by omega
 generalize 56 - 8 * (i % 8) = k at *
 have e64 : (2 : Nat) ^ 64 = 2 ^ k * 2 ^ (64 - k) := by rw [← Nat.pow_add]; congr 1; omega
 have e8 : (2 : Nat) ^ (64 - k) = 256 * 2 ^ (56 - k) := by rw [show (256 : Nat) = 2 ^ 8 from rfl, ← Nat.pow_add]; congr 1; omega
 rw [e64, Nat.mod_mul_right_div_self, e8, Nat.mod_mul_right_mod]
theorem str_byte {X : Nat} (hX : X < 2 ^ 128) {i : Nat} (hi : i < 16) : IntKind.u8.wrap ((pair X).getD (i / 8) 0 / 2 ^ min (56 - 8 * ((i : Int) % 8)).toNat IntKind.u64.bits) = ((((byL X 16).getD i 0).toNat : Nat) : Int) := by
 rw [pair_get hX (by omega), byL_get hi, wrap_u8, show min ((56 - 8 * ((i : Int) % 8)).toNat) IntKind.u64.bits = 56 - 8 * (i % 8) from by rw [show IntKind.u64.bits = 64 from rfl]; omega, show 16 - 1 - i = 15 - i from by omega, ← byte_at hX hi, Int.natCast_emod, Int.natCast_ediv, Int.natCast_pow]
 rfl
theorem str_step (X : Nat) {i : Nat} (hi : i < 16) : (strK X i).set i ((byL X 16).getD i 0) = strK X (i + 1) := take_set_next (byL_length X 16) hi rfl
theorem c_bit {C : Nat} (hC : C < 2 ^ 128) {n : Nat} (hn : n < 128) : iand .u64 ((pair C).getD (n / 64) 0 / 2 ^ min (63 - (n : Int) % 64).toNat IntKind.u64.bits) 1 = ((C / 2 ^ (127 - n) % 2 : Nat) : Int) := by
 rw [pair_get hC (by omega), show min ((63 - (n : Int) % 64).toNat) IntKind.u64.bits = 63 - n % 64 from by rw [show IntKind.u64.bits = 64 from rfl]; omega]
 have e2 : 127 - n = 64 * (1 - n / 64) + (63 - n % 64) := by omega
 rw [e2, Nat.pow_add, ← Nat.div_div_eq_div_mul]
 generalize C / 2 ^ (64 * (1 - n / 64)) = q
 have h63 : 63 - n % 64 ≤ 63 := by omega
 generalize 63 - n % 64 = k at *
 have e64 : (2 : Nat) ^ 64 = 2 ^ k * 2 ^ (64 - k) := by rw [← Nat.pow_add]; congr 1; omega
 have e8 : (2 : Nat) ^ (64 - k) = 2 * 2 ^ (63 - k) := by rw [Nat.mul_comm, ← Nat.pow_succ]; congr 1; omega
 have hx : q % 2 ^ 64 / 2 ^ k < 2 ^ 64 := Nat.lt_of_le_of_lt (Nat.div_le_self _ _) (Nat.mod_lt _ (by decide))
 have e3 : (((q % 2 ^ 64 : Nat) : Int) / 2 ^ k) = ((q % 2 ^ 64 / 2 ^ k : Nat) : Int) := by rw [Int.natCast_ediv, Int.natCast_pow]; rfl
 rw [e3, mask_u64 1 (by decide) (Int.natCast_nonneg _) (Int.ofNat_lt.2 hx) 1 (by decide)]
 rw [show (((2 ^ 1 : Nat)) : Int) = 2 from by decide]
 have e4 : q % 2 ^ 64 / 2 ^ k % 2 = q / 2 ^ k % 2 := by rw [e64, Nat.mod_mul_right_div_self, e8, Nat.mod_mul_right_mod]
 rw [← e4]; omega
theorem redR_split : redR = 2 ^ 64 * 16212958658533785600 + 0 := by rw [redR_def]
theorem sh_hi {X : Nat} (hX : X < 2 ^ 128) : sh X = 2 ^ 64 * ((X / 2 ^ 64 / 2) ^^^ (X % 2 * 16212958658533785600)) + ((X % 2 ^ 64 / 2) + X / 2 ^ 64 % 2 * 2 ^ 63) := by
 rw [sh_def, redR_split, show X % 2 * (2 ^ 64 * 16212958658533785600 + 0) = 2 ^ 64 * (X % 2 * 16212958658533785600) + 0 from by rw [Nat.add_zero, Nat.add_zero, Nat.mul_left_comm]]
 rw [show X / 2 = 2 ^ 64 * (X / 2 ^ 64 / 2) + ((X % 2 ^ 64 / 2) + X / 2 ^ 64 % 2 * 2 ^ 63) from by omega, xor_split 64 (by omega) (by omega), Nat.xor_zero]
theorem sh_pair {X : Nat} (hX : X < 2 ^ 128) : [ixor .u64 ((pair X).getD 0 0 / 2 ^ 1) (IntKind.u64.wrap (iand .u64 ((pair X).getD 1 0) 1 * 16212958658533785600)), ior .u64 ((pair X).getD 1 0 / 2 ^ 1) (IntKind.u64.wrap ((pair X).getD 0 0 * 2 ^ 63))] = pair (sh X) := by
 have h1 : (pair X).getD 0 0 = ((X / 2 ^ 64 : Nat) : Int) := rfl
 have h2 : (pair X).getD 1 0 = ((X % 2 ^ 64 : Nat) : Int) := rfl
 have hm : iand .u64 ((X % 2 ^ 64 : Nat) : Int) 1 = ((X % 2 ^ 64 : Nat) : Int) % ((2 ^ 1 : Nat) : Int) := mask_u64 1 (by decide) (Int.natCast_nonneg _) (Int.ofNat_lt.2 (Nat.mod_lt _ (by decide))) 1 (by decide)
 rw [h1, h2, hm, wrap_u64, wrap_u64]
 have e0 : ((2 ^ 1 : Nat) : Int) = 2 := by decide
 have e1 : ((X % 2 ^ 64 : Nat) : Int) % ((2 ^ 1 : Nat) : Int) * 16212958658533785600 % 18446744073709551616 = ((X % 2 * 16212958658533785600 : Nat) : Int) := by
  rw [e0, ← Nat.mod_mod_of_dvd X (show 2 ∣ 2 ^ 64 by decide)]
  generalize X % 2 ^ 64 = y
  omega
 have e2 : ((X / 2 ^ 64 : Nat) : Int) * 2 ^ 63 % 18446744073709551616 = ((X / 2 ^ 64 % 2 * 2 ^ 63 : Nat) : Int) := by omega
 have e3 : ((X / 2 ^ 64 : Nat) : Int) / 2 ^ 1 = ((X / 2 ^ 64 / 2 : Nat) : Int) := by omega
 have e4 : ((X % 2 ^ 64 : Nat) : Int) / 2 ^ 1 = ((X % 2 ^ 64 / 2 : Nat) : Int) := by omega
 rw [e1, e2, e3, e4, ixor_u64 (by omega) (by omega), ior_u64 (by omega) (by omega), or_add (by omega)]
 have hlt : (X / 2 ^ 64 / 2) ^^^ (X % 2 * 16212958658533785600) < 2 ^ 64 := Nat.xor_lt_two_pow (by omega) (by omega)
 unfold pair
 rw [sh_hi hX]
 generalize (X / 2 ^ 64 / 2) ^^^ (X % 2 * 16212958658533785600) = q at *
 have f1 : (2 ^ 64 * q + (X % 2 ^ 64 / 2 + X / 2 ^ 64 % 2 * 2 ^ 63)) / 2 ^ 64 = q := by omega
 have f2 : (2 ^ 64 * q + (X % 2 ^ 64 / 2 + X / 2 ^ 64 % 2 * 2 ^ 63)) % 2 ^ 64 = X % 2 ^ 64 / 2 + X / 2 ^ 64 % 2 * 2 ^ 63 := by omega
 rw [f1, f2]
def hashK (h : Nat) (bl : List UInt8) : Nat → Nat
 | 0 => 0
 | i + 1 => gm (hashK h bl i ^^^ beK (bl.drop (16 * i)) 16) h
theorem hashK_lt (h : Nat) (bl : List UInt8) (i : Nat) : hashK h bl i < 2 ^ 128 := by
 induction i with
 | zero => exact Nat.two_pow_pos 128
 | succ i ih => exact gm_lt (Nat.xor_lt_two_pow ih (beK_lt128 _)) h
def hashB (key bl : List UInt8) : List UInt8 := byL (hashK (beK key 16) bl (bl.length / 16)) 16
theorem hashB_length (key bl : List UInt8) : (hashB key bl).length = 16 := byL_length _ _
def hashP (key bl : List UInt8) : List UInt8 × Int := if key.length = 16 then (if bl.length % 16 = 0 then (hashB key bl, 0) else ([], 1)) else ([], 21)
theorem hashP_key {key : List UInt8} (bl : List UInt8) (h : ¬ key.length = 16) : hashP key bl = ([], 21) := if_neg h
theorem hashP_arg {key bl : List UInt8} (h : key.length = 16) (h1 : ¬ bl.length % 16 = 0) : hashP key bl = ([], 1) := by rw [hashP, if_pos h, if_neg h1]
theorem hashP_ok {key bl : List UInt8} (h : key.length = 16) (h1 : bl.length % 16 = 0) : hashP key bl = (hashB key bl, 0) := by rw [hashP, if_pos h, if_pos h1]
attribute [irreducible] hashK hashB hashP pair ofK strK
theorem pair_eq (X : Nat) : pair X = [((X / 2 ^ 64 : Nat) : Int), ((X % 2 ^ 64 : Nat) : Int)] := by unfold pair; rfl
theorem hashK_zero' (h : Nat) (bl : List UInt8) : hashK h bl 0 = 0 := by unfold hashK; rfl
theorem hashK_succ' (h : Nat) (bl : List UInt8) (i : Nat) : hashK h bl (i + 1) = gm (hashK h bl i ^^^ beK (bl.drop (16 * i)) 16) h := by conv => lhs; unfold hashK
theorem hashB_def (key bl : List UInt8) : hashB key bl = byL (hashK (beK key 16) bl (bl.length / 16)) 16 := by unfold hashB; rfl
end Go.Proofs.YtfpoldogcopmpaaGreatDoor
end
section
namespace Go.Proofs.YtfpoldogcopmpaaGreatDoor
open Go Go.RowKit D
set_option linter.unusedVariables false
set_option linter.unusedSimpArgs false
set_option maxRecDepth 100000
set_option maxHeartbeats 1000000
theorem zs_eq (n : Nat) : zs n = List.replicate n 0 := by unfold zs; rfl
def ctrB (nonce : List UInt8) (n : Nat) : List UInt8 := nonce ++ byL n 4
theorem ctrB_length {nonce : List UInt8} (h : nonce.length = 12) (n : Nat) : (ctrB nonce n).length = 16 := by rw [ctrB, List.length_append, byL_length, h]
def ctrK (nonce : List UInt8) (n i : Nat) : List UInt8 := nonce ++ (zs (4 - i) ++ (byL n 4).drop (4 - i))
theorem ctrK_length {nonce : List UInt8} (h : nonce.length = 12) (n : Nat) {i : Nat} (hi : i ≤ 4) : (ctrK nonce n i).length = 16 := by
 rw [ctrK, List.length_append, List.length_append, List.length_drop, byL_length, zs_length, h]; omega
theorem ctr_start {nonce : List UInt8} (h : nonce.length = 12) (n : Nat) : (List.replicate 16 (0 : UInt8)).take 0 ++ nonce.take (min nonce.length 16) ++ (List.replicate 16 0).drop (0 + (nonce.take (min nonce.length 16)).length) = ctrK nonce n 0 := by
 have e : (byL n 4).drop (4 - 0) = [] := List.drop_eq_nil_of_le (by rw [byL_length]; exact Nat.le_refl _)
 rw [ctrK, e, h, List.take_of_length_le (by omega : nonce.length ≤ min 12 16), h]
 rw [zs_eq]
 show [] ++ nonce ++ List.replicate 4 0 = nonce ++ (List.replicate 4 0 ++ [])
 rw [List.nil_append, List.append_nil]
theorem ctr_step {nonce : List UInt8} (h : nonce.length = 12) (n : Nat) {i : Nat} (hi : i < 4) : (ctrK nonce n i).set (15 - i) ((byL n 4).getD (3 - i) 0) = ctrK nonce n (i + 1) := by
 have hb := byL_length n 4
 unfold ctrK
 rw [List.set_append, if_neg (by omega), h, List.set_append, if_pos (by rw [zs_length]; omega)]
 have e1 : zs (4 - i) = zs (3 - i) ++ [0] := by unfold zs; rw [show 4 - i = (3 - i) + 1 from by omega, List.replicate_succ']
 have e2 : (byL n 4).drop (4 - (i + 1)) = (byL n 4).getD (3 - i) 0 :: (byL n 4).drop (4 - i) := by
  rw [show 4 - (i + 1) = 3 - i from by omega, List.drop_eq_getElem_cons (by omega), List.getD_eq_getElem?_getD, List.getElem?_eq_getElem (by omega : 3 - i < _), show 3 - i + 1 = 4 - i from by omega]; rfl
 rw [e1, e2, show 15 - i - 12 = 3 - i from by omega, List.set_append, if_neg (by rw [zs_length]; omega), zs_length, Nat.sub_self, show 4 - (i + 1) = 3 - i from by omega]
 simp
theorem ctr_byte (n : Nat) {i : Nat} (hi : i < 4) : IntKind.u8.wrap ((n : Int) / 2 ^ min (8 * (i : Int)).toNat IntKind.i64.bits) = ((((byL n 4).getD (3 - i) 0).toNat : Nat) : Int) := by
 rw [byL_get (by omega), wrap_u8, show IntKind.i64.bits = 64 from rfl, show min (8 * (i : Int)).toNat 64 = 8 * i from by omega, show 4 - 1 - (3 - i) = i from by omega, show (256 : Nat) ^ i = 2 ^ (8 * i) from by rw [Nat.pow_mul], Int.natCast_emod, Int.natCast_ediv, Int.natCast_pow]
 rfl
theorem ctrK_fin (nonce : List UInt8) (n : Nat) : ctrK nonce n 4 = ctrB nonce n := by
 unfold ctrK ctrB
 rw [Nat.sub_self, List.drop_zero, zs_eq]; rfl
/-- As the document says it. -/
theorem ctrB_ref (nonce : List UInt8) (n : Nat) : ctrB nonce n = nonce ++ [(byL n 4).getD 0 0, (byL n 4).getD 1 0, (byL n 4).getD 2 0, (byL n 4).getD 3 0] := by
 unfold ctrB
 congr 1
 have hb := byL_length n 4
 apply getD_ext (by rw [hb]; rfl)
 intro j hj
 rw [hb] at hj
 obtain rfl | rfl | rfl | rfl : j = 0 ∨ j = 1 ∨ j = 2 ∨ j = 3 := by omega
 all_goals rfl
def flB (s : List UInt8) : List UInt8 := s ++ zs ((16 - s.length % 16) % 16)
theorem flB_mod (s : List UInt8) : (flB s).length % 16 = 0 := by rw [flB, List.length_append, zs_length]; omega
theorem flB_length (s : List UInt8) : (flB s).length ≤ s.length + 15 := by rw [flB, List.length_append, zs_length]; omega
theorem fl_none {s : List UInt8} (h : s.length % 16 = 0) : flB s = s := by
 rw [flB, h, show zs ((16 - 0) % 16) = [] from by rw [zs_eq]; rfl]; exact List.append_nil s
theorem fl_more {s : List UInt8} (h : ¬ s.length % 16 = 0) : flB (s ++ [0]) = flB s := by
 unfold flB
 rw [List.append_assoc]
 congr 1
 rw [List.length_append, List.length_singleton]
 unfold zs
 rw [show (16 - s.length % 16) % 16 = (16 - (s.length + 1) % 16) % 16 + 1 from by omega, List.replicate_succ]; rfl
def laidB (s o : List UInt8) : List UInt8 := xorA s o s.length
theorem laidB_length (s o : List UInt8) : (laidB s o).length = s.length := xorA_length _ _ _
theorem withK_all (s o : List UInt8) : withK s o s.length = laidB s o := by
 apply getD_ext
 ·rw [withK_length, laidB_length]
 ·intro j hj
  rw [withK_length] at hj
  rw [withK_get _ _ _ _ hj, if_pos hj, laidB, xorA_get hj]
theorem laid_back (s o : List UInt8) : laidB (laidB s o) o = s := by
 apply getD_ext
 ·rw [laidB_length, laidB_length]
 ·intro j hj
  rw [laidB_length, laidB_length] at hj
  rw [laidB, xorA_get (by rw [laidB_length]; exact hj), laidB, xorA_get hj, UInt8.xor_assoc, UInt8.xor_self, UInt8.xor_zero]
def padK (nonce : List UInt8) (i : Nat) : List (List UInt8) := zs 16 :: (List.range i).map fun j => ctrB nonce (j + 1)
theorem padK_zero (nonce : List UInt8) : padK nonce 0 = [zs 16] := rfl
theorem padK_succ (nonce : List UInt8) (i : Nat) : padK nonce (i + 1) = padK nonce i ++ [ctrB nonce (i + 1)] := by simp [padK, List.range_succ]
theorem padK_length (nonce : List UInt8) (i : Nat) : (padK nonce i).length = i + 1 := by simp [padK]
theorem padK_all {nonce : List UInt8} (h : nonce.length = 12) (i : Nat) : ∀ j, j < (padK nonce i).length → ((padK nonce i).getD j []).length = 16 := by
 intro j hj
 rw [List.getD_eq_getElem?_getD, List.getElem?_eq_getElem hj, Option.getD_some]
 have hm := List.getElem_mem hj
 generalize (padK nonce i)[j] = x at *
 simp only [padK, List.mem_cons, List.mem_map, List.mem_range] at hm
 rcases hm with rfl | ⟨q, _, rfl⟩
 ·exact zs_length 16
 ·exact ctrB_length h _
def padL (key nonce : List UInt8) (i : Nat) : List (List UInt8) := (padK nonce i).map (blkA key)
theorem padL_length (key nonce : List UInt8) (i : Nat) : (padL key nonce i).length = i + 1 := by rw [padL, List.length_map, padK_length]
theorem padL_blocks {key nonce : List UInt8} (hk : key.length = 16) (h : nonce.length = 12) (i : Nat) : blocksP key (padK nonce i) = (padL key nonce i, 0) := blocksP_ok hk (padK_all h i)
theorem padL_get (key nonce : List UInt8) {i j : Nat} (h : j < i) : (padL key nonce i).getD (j + 1) [] = blkA key (ctrB nonce (j + 1)) := by
 simp [padL, padK, h]
theorem padL_get2 (key nonce : List UInt8) {i m : Nat} (h : i < m) : ((padL key nonce (m + 1)).drop 2).getD i [] = blkA key (ctrB nonce (i + 2)) := by
 rw [List.getD_eq_getElem?_getD, List.getElem?_drop, ← List.getD_eq_getElem?_getD, show 2 + i = (i + 1) + 1 from by omega]
 exact padL_get key nonce (by omega)
def overK (key nonce : List UInt8) (i : Nat) : List UInt8 := (List.range i).flatMap fun j => blkA key (ctrB nonce (j + 2))
theorem overK_zero (key nonce : List UInt8) : overK key nonce 0 = [] := rfl
theorem overK_succ (key nonce : List UInt8) (i : Nat) : overK key nonce (i + 1) = overK key nonce i ++ blkA key (ctrB nonce (i + 2)) := by simp [overK, List.range_succ, List.flatMap_append]
theorem overK_length (key nonce : List UInt8) (i : Nat) : (overK key nonce i).length = 16 * i := by
 induction i with
 | zero => rfl
 | succ i ih => rw [overK_succ, List.length_append, ih, blkA_length]; omega
theorem overK_get (key nonce : List UInt8) : ∀ n i, i < 16 * n → (overK key nonce n).getD i 0 = (blkA key (ctrB nonce (i / 16 + 2))).getD (i % 16) 0 := by
 intro n
 induction n with
 | zero => intro i h; omega
 | succ n ih =>
  intro i h
  have hl := overK_length key nonce n
  rw [overK_succ]
  by_cases hi : i < 16 * n
  ·rw [List.getD_eq_getElem?_getD, List.getElem?_append_left (by omega), ← List.getD_eq_getElem?_getD, ih i hi]
  ·rw [List.getD_eq_getElem?_getD, List.getElem?_append_right (by omega), ← List.getD_eq_getElem?_getD, hl, show i / 16 = n from by omega, show i - 16 * n = i % 16 from by omega]
def strmB (key nonce s : List UInt8) : List UInt8 := laidB s (overK key nonce ((s.length + 15) / 16))
theorem strmB_length (key nonce s : List UInt8) : (strmB key nonce s).length = s.length := laidB_length _ _
theorem strm_back (key nonce s : List UInt8) : strmB key nonce (strmB key nonce s) = s := by
 have h := strmB_length key nonce s
 unfold strmB at *
 rw [h]; exact laid_back _ _
theorem byL_split (a : Nat) {b : Nat} (hb : b < 2 ^ 64) : byL (2 ^ 64 * a + b) 16 = byL a 8 ++ byL b 8 := by
 have l1 := byL_length a 8
 have l2 := byL_length b 8
 have e64 : (256 : Nat) ^ 8 = 2 ^ 64 := by decide
 apply getD_ext (by rw [byL_length, List.length_append, l1, l2])
 intro j hj
 rw [byL_length] at hj
 apply UInt8.toNat_inj.1
 rw [byL_get hj]
 by_cases h : j < 8
 ·rw [List.getD_eq_getElem?_getD, List.getElem?_append_left (by omega), ← List.getD_eq_getElem?_getD, byL_get h, show 16 - 1 - j = 8 + (8 - 1 - j) from by omega, Nat.pow_add, e64, ← Nat.div_div_eq_div_mul, Nat.mul_add_div (Nat.two_pow_pos 64), Nat.div_eq_of_lt hb, Nat.add_zero]
 ·rw [List.getD_eq_getElem?_getD, List.getElem?_append_right (by omega), ← List.getD_eq_getElem?_getD, l1, byL_get (by omega), show 16 - 1 - j = 8 - 1 - (j - 8) from by omega]
  have h7 : 8 - 1 - (j - 8) ≤ 7 := by omega
  generalize 8 - 1 - (j - 8) = q at *
  have e : 2 ^ 64 = 256 ^ q * (256 * 256 ^ (7 - q)) := by
   rw [show (256 : Nat) * 256 ^ (7 - q) = 256 ^ (1 + (7 - q)) from by rw [Nat.pow_add], ← Nat.pow_add, show q + (1 + (7 - q)) = 8 from by omega]
  rw [e, Nat.mul_assoc, Nat.mul_add_div (Nat.pow_pos (by decide)), Nat.mul_assoc, Nat.mul_add_mod]
theorem long_pair (b s : List UInt8) (hb : b.length ≤ 4294967296) (hs : s.length ≤ 4294967296) : [IntKind.u64.wrap (8 * (b.length : Int)), IntKind.u64.wrap (8 * (s.length : Int))] = pair (2 ^ 64 * (8 * b.length) + 8 * s.length) := by
 rw [wrap_u64_in (by omega) (by omega), wrap_u64_in (by omega) (by omega), pair_eq, Nat.mul_add_div (Nat.two_pow_pos 64), Nat.div_eq_of_lt (by omega), Nat.mul_add_mod, Nat.mod_eq_of_lt (by omega), Nat.add_zero]
 rfl
def longB (n : Nat) : List UInt8 := byL (8 * n) 8
def tagB (h first beside sealed : List UInt8) : List UInt8 := xorA (hashB h (flB beside ++ flB sealed ++ (longB beside.length ++ longB sealed.length))) first 16
theorem tagB_length (h f b s : List UInt8) : (tagB h f b s).length = 16 := xorA_length _ _ _
theorem tag_fin {h first : List UInt8} (b s : List UInt8) (hf : first.length = 16) : byL (beK (hashB h (flB b ++ flB s ++ (longB b.length ++ longB s.length))) 16 ^^^ beK first 16) 16 = tagB h first b s := by
 rw [← beK_xor _ _ 16 16 (Nat.le_refl _), byL_beK (xorA_length _ _ _)]; rfl
def gtag (key nonce beside sealed : List UInt8) : List UInt8 := tagB (blkA key (zs 16)) (blkA key (ctrB nonce 1)) beside sealed
theorem gtag_length (k n b s : List UInt8) : (gtag k n b s).length = 16 := xorA_length _ _ _
def sealP (key nonce beside plain : List UInt8) : List UInt8 × Int :=
 if ¬ (key.length = 16 ∧ nonce.length = 12) then ([], 21) else if 1048576 < beside.length ∨ 1048576 < plain.length then ([], 13) else (strmB key nonce plain ++ gtag key nonce beside (strmB key nonce plain), 0)
theorem sealP_key {key nonce beside plain : List UInt8} (h : ¬ (key.length = 16 ∧ nonce.length = 12)) : sealP key nonce beside plain = ([], 21) := if_pos h
theorem sealP_big {key nonce beside plain : List UInt8} (h : key.length = 16 ∧ nonce.length = 12) (h1 : 1048576 < beside.length ∨ 1048576 < plain.length) : sealP key nonce beside plain = ([], 13) := by rw [sealP, if_neg (fun g => g h), if_pos h1]
theorem sealP_ok {key nonce beside plain : List UInt8} (h : key.length = 16 ∧ nonce.length = 12) (h1 : ¬ (1048576 < beside.length ∨ 1048576 < plain.length)) : sealP key nonce beside plain = (strmB key nonce plain ++ gtag key nonce beside (strmB key nonce plain), 0) := by rw [sealP, if_neg (fun g => g h), if_neg h1]
def openP (key nonce beside sealed : List UInt8) : List UInt8 × Int :=
 if ¬ (key.length = 16 ∧ nonce.length = 12) then ([], 21) else if sealed.length < 16 then ([], 20) else if 1048576 < beside.length ∨ 1048592 < sealed.length then ([], 13) else
 if gtag key nonce beside (sealed.take (sealed.length - 16)) = sealed.drop (sealed.length - 16) then (strmB key nonce (sealed.take (sealed.length - 16)), 0) else ([], 20)
theorem openP_key {key nonce beside sealed : List UInt8} (h : ¬ (key.length = 16 ∧ nonce.length = 12)) : openP key nonce beside sealed = ([], 21) := if_pos h
theorem openP_short {key nonce beside sealed : List UInt8} (h : key.length = 16 ∧ nonce.length = 12) (h0 : sealed.length < 16) : openP key nonce beside sealed = ([], 20) := by rw [openP, if_neg (fun g => g h), if_pos h0]
theorem openP_big {key nonce beside sealed : List UInt8} (h : key.length = 16 ∧ nonce.length = 12) (h0 : ¬ sealed.length < 16) (h1 : 1048576 < beside.length ∨ 1048592 < sealed.length) : openP key nonce beside sealed = ([], 13) := by rw [openP, if_neg (fun g => g h), if_neg h0, if_pos h1]
theorem openP_tag {key nonce beside sealed : List UInt8} (h : key.length = 16 ∧ nonce.length = 12) (h0 : ¬ sealed.length < 16) (h1 : ¬ (1048576 < beside.length ∨ 1048592 < sealed.length)) (h2 : ¬ gtag key nonce beside (sealed.take (sealed.length - 16)) = sealed.drop (sealed.length - 16)) : openP key nonce beside sealed = ([], 20) := by
 rw [openP, if_neg (fun g => g h), if_neg h0, if_neg h1, if_neg h2]
theorem openP_ok {key nonce beside sealed : List UInt8} (h : key.length = 16 ∧ nonce.length = 12) (h0 : ¬ sealed.length < 16) (h1 : ¬ (1048576 < beside.length ∨ 1048592 < sealed.length)) (h2 : gtag key nonce beside (sealed.take (sealed.length - 16)) = sealed.drop (sealed.length - 16)) : openP key nonce beside sealed = (strmB key nonce (sealed.take (sealed.length - 16)), 0) := by
 rw [openP, if_neg (fun g => g h), if_neg h0, if_neg h1, if_pos h2]
def oddK (a b : List UInt8) : Nat → UInt8
 | 0 => 0
 | i + 1 => oddK a b i ||| (a.getD i 0 ^^^ b.getD i 0)
theorem oddK_succ (a b : List UInt8) (i : Nat) : oddK a b (i + 1) = oddK a b i ||| (a.getD i 0 ^^^ b.getD i 0) := rfl
theorem or_zero8 : ∀ x y : UInt8, (x ||| y = 0) ↔ (x = 0 ∧ y = 0) := by
 intro x y
 constructor
 ·intro h
  have hb : x.toBitVec ||| y.toBitVec = 0#8 := congrArg UInt8.toBitVec h
  have key : ∀ i, i < 8 → x.toBitVec.getLsbD i = false ∧ y.toBitVec.getLsbD i = false := by
   intro i hi
   have := congrArg (fun z : BitVec 8 => z.getLsbD i) hb
   simpa using this
  constructor
  ·apply UInt8.toBitVec_inj.1; apply BitVec.eq_of_getLsbD_eq; intro i hi; rw [(key i hi).1]; simp
  ·apply UInt8.toBitVec_inj.1; apply BitVec.eq_of_getLsbD_eq; intro i hi; rw [(key i hi).2]; simp
 ·rintro ⟨rfl, rfl⟩; rfl
theorem xor_zero8 (x y : UInt8) : (x ^^^ y = 0) ↔ (x = y) := by
 constructor
 ·intro h
  have := congrArg (· ^^^ y) h
  simpa [UInt8.xor_assoc] using this
 ·rintro rfl; exact UInt8.xor_self
theorem oddK_iff (a b : List UInt8) : ∀ i, oddK a b i = 0 ↔ ∀ j, j < i → a.getD j 0 = b.getD j 0 := by
 intro i
 induction i with
 | zero => exact ⟨fun _ j h => by omega, fun _ => rfl⟩
 | succ i ih =>
  rw [oddK_succ, or_zero8, ih, xor_zero8]
  constructor
  ·rintro ⟨h1, h2⟩ j hj
   by_cases h : j < i
   ·exact h1 j h
   ·obtain rfl : j = i := by omega
    exact h2
  ·intro h; exact ⟨fun j hj => h j (by omega), h i (by omega)⟩
theorem same_iff {a b : List UInt8} (h : a.length = b.length) : oddK a b a.length = 0 ↔ a = b := by
 rw [oddK_iff]
 exact ⟨fun g => getD_ext h g, fun g j _ => by rw [g]⟩
attribute [irreducible] ctrB ctrK flB laidB padK padL overK strmB longB tagB gtag sealP openP oddK
theorem oddK_zero' (a b : List UInt8) : oddK a b 0 = 0 := by unfold oddK; rfl
theorem oddK_succ' (a b : List UInt8) (i : Nat) : oddK a b (i + 1) = oddK a b i ||| (a.getD i 0 ^^^ b.getD i 0) := by conv => lhs; unfold oddK
theorem padL_zero' (key nonce : List UInt8) (i : Nat) : (padL key nonce i).getD 0 [] = blkA key (zs 16) := by unfold padL padK; rfl
theorem padK_zero' (nonce : List UInt8) : padK nonce 0 = [zs 16] := padK_zero nonce
theorem padK_succ' (nonce : List UInt8) (i : Nat) : padK nonce (i + 1) = padK nonce i ++ [ctrB nonce (i + 1)] := padK_succ nonce i
theorem overK_zero' (key nonce : List UInt8) : overK key nonce 0 = [] := overK_zero key nonce
theorem overK_succ' (key nonce : List UInt8) (i : Nat) : overK key nonce (i + 1) = overK key nonce i ++ blkA key (ctrB nonce (i + 2)) := overK_succ key nonce i
theorem overK_length' (key nonce : List UInt8) (i : Nat) : (overK key nonce i).length = 16 * i := overK_length key nonce i
theorem flB_mod' (s : List UInt8) : (flB s).length % 16 = 0 := flB_mod s
theorem flB_length' (s : List UInt8) : (flB s).length ≤ s.length + 15 := flB_length s
theorem strmB_length' (key nonce s : List UInt8) : (strmB key nonce s).length = s.length := strmB_length key nonce s
theorem gtag_length' (k n b s : List UInt8) : (gtag k n b s).length = 16 := gtag_length k n b s
theorem laidB_length' (s o : List UInt8) : (laidB s o).length = s.length := laidB_length s o
theorem hashB_length' (key bl : List UInt8) : (hashB key bl).length = 16 := hashB_length key bl
theorem tag_fin' {h first : List UInt8} (b s : List UInt8) (hf : first.length = 16) : byL (beK (hashB h (flB b ++ flB s ++ (longB b.length ++ longB s.length))) 16 ^^^ beK first 16) 16 = tagB h first b s := tag_fin b s hf
theorem overK_get' (key nonce : List UInt8) : ∀ n i, i < 16 * n → (overK key nonce n).getD i 0 = (blkA key (ctrB nonce (i / 16 + 2))).getD (i % 16) 0 := overK_get key nonce
theorem fl_none' {s : List UInt8} (h : s.length % 16 = 0) : flB s = s := fl_none h
theorem fl_more' {s : List UInt8} (h : ¬ s.length % 16 = 0) : flB (s ++ [0]) = flB s := fl_more h
theorem ctrB_ref' (nonce : List UInt8) (n : Nat) : ctrB nonce n = nonce ++ [(byL n 4).getD 0 0, (byL n 4).getD 1 0, (byL n 4).getD 2 0, (byL n 4).getD 3 0] := ctrB_ref nonce n
theorem strm_back' (key nonce s : List UInt8) : strmB key nonce (strmB key nonce s) = s := strm_back key nonce s
theorem ctrB_eq (nonce : List UInt8) (n : Nat) : ctrB nonce n = nonce ++ byL n 4 := by unfold ctrB; rfl
theorem strmB_eq (key nonce s : List UInt8) : strmB key nonce s = laidB s (overK key nonce ((s.length + 15) / 16)) := by unfold strmB; rfl
theorem gtag_eq (key nonce beside sealed : List UInt8) : gtag key nonce beside sealed = tagB (blkA key (zs 16)) (blkA key (ctrB nonce 1)) beside sealed := by unfold gtag; rfl
theorem tagB_eq (h first beside sealed : List UInt8) : tagB h first beside sealed = xorA (hashB h (flB beside ++ flB sealed ++ (longB beside.length ++ longB sealed.length))) first 16 := by unfold tagB; rfl
theorem laidB_eq (s o : List UInt8) : laidB s o = xorA s o s.length := by unfold laidB; rfl
theorem longB_eq (n : Nat) : longB n = byL (8 * n) 8 := by unfold longB; rfl
theorem long_two (a : Nat) {b : Nat} (hb : 8 * b < 2 ^ 64) : byL (2 ^ 64 * (8 * a) + 8 * b) 16 = longB a ++ longB b := by rw [longB_eq, longB_eq, byL_split _ hb]
theorem longB_length (n : Nat) : (longB n).length = 8 := by rw [longB_eq, byL_length]
theorem flB_eq (s : List UInt8) : flB s = s ++ zs ((16 - s.length % 16) % 16) := by unfold flB; rfl
end Go.Proofs.YtfpoldogcopmpaaGreatDoor
end
section
namespace Go.Proofs.YtfpoldogcopmpaaGreatDoor
open Go Go.RowKit D
set_option linter.unusedVariables false
set_option linter.unusedSimpArgs false
set_option maxRecDepth 100000
set_option maxHeartbeats 1000000
theorem pow128 : (256 : Nat) ^ 16 = 2 ^ 128 := by decide
theorem byL_zero16 : byL 0 16 = zs 16 := by
 rw [zs_eq]
 apply getD_ext (by rw [byL_length, List.length_replicate])
 intro j hj
 rw [byL_length] at hj
 apply UInt8.toNat_inj.1
 have e : (List.replicate 16 (0 : UInt8)).getD j 0 = 0 := by rw [List.getD_eq_getElem?_getD, List.getElem?_replicate, if_pos hj]; rfl
 rw [byL_get hj, Nat.zero_div, e]; rfl
theorem byL_xor {X Y : Nat} (hX : X < 2 ^ 128) (hY : Y < 2 ^ 128) : xorA (byL X 16) (byL Y 16) 16 = byL (X ^^^ Y) 16 := by
 have h := beK_xor (byL X 16) (byL Y 16) 16 16 (Nat.le_refl _)
 rw [beK_byL (by rw [pow128]; exact hX), beK_byL (by rw [pow128]; exact hY)] at h
 rw [← h, byL_beK (xorA_length _ _ _)]
/-- A bit of a block. -/
theorem bit_eq (l : List UInt8) {n : Nat} (hn : n < 128) : iand .u8 ((((l.getD (n / 8) 0).toNat : Nat) : Int) / 2 ^ min (7 - (n : Int) % 8).toNat IntKind.u8.bits) 1 = ((beK l 16 / 2 ^ (127 - n) % 2 : Nat) : Int) := by
 rw [show IntKind.u8.bits = 8 from rfl, show min (7 - (n : Int) % 8).toNat 8 = 7 - n % 8 from by omega]
 have hg := beK_get l 16 (n / 8) (by omega)
 have hc := (l.getD (n / 8) 0).toNat_lt
 have e1 : 127 - n = 8 * (16 - 1 - n / 8) + (7 - n % 8) := by omega
 rw [e1, Nat.pow_add, ← Nat.div_div_eq_div_mul, show (2 : Nat) ^ (8 * (16 - 1 - n / 8)) = 256 ^ (16 - 1 - n / 8) from by rw [Nat.pow_mul]]
 generalize beK l 16 / 256 ^ (16 - 1 - n / 8) = q at *
 rw [← hg] at hc ⊢
 have h7 : 7 - n % 8 ≤ 7 := by omega
 generalize 7 - n % 8 = k at *
 have e2 : (((q % 256 : Nat) : Int) / 2 ^ k) = ((q % 256 / 2 ^ k : Nat) : Int) := by rw [Int.natCast_ediv, Int.natCast_pow]; rfl
 have hx : q % 256 / 2 ^ k < 256 := Nat.lt_of_le_of_lt (Nat.div_le_self _ _) hc
 rw [e2, mask_u8 1 (by decide) (Int.natCast_nonneg _) (Int.ofNat_lt.2 hx) 1 (by decide)]
 have e3 : (256 : Nat) = 2 ^ k * (2 * 2 ^ (7 - k)) := by rw [← Nat.mul_assoc, ← Nat.pow_succ, ← Nat.pow_add, show k + 1 + (7 - k) = 8 from by omega]
 have e4 : q % 256 / 2 ^ k % 2 = q / 2 ^ k % 2 := by
  conv => lhs; rw [e3]
  rw [Nat.mod_mul_right_div_self, Nat.mod_mul_right_mod]
 rw [← e4, show ((2 ^ 1 : Nat) : Int) = 2 from by decide]; omega
/-- Half of a byte, below the last bit of the one ahead. -/
def hbB (x y : UInt8) : UInt8 := UInt8.ofNat (x.toNat / 2 + y.toNat % 2 * 128)
theorem hbB_toNat (x y : UInt8) : (hbB x y).toNat = x.toNat / 2 + y.toNat % 2 * 128 := by
 have := x.toNat_lt
 rw [hbB, UInt8.toNat_ofNat', Nat.mod_eq_of_lt (by omega)]
theorem hb_eq (x y : UInt8) : ior .u8 (((x.toNat : Nat) : Int) / 2 ^ 1) (IntKind.u8.wrap (((y.toNat : Nat) : Int) * 2 ^ 7)) = (((hbB x y).toNat : Nat) : Int) := by
 have h1 := x.toNat_lt
 have h2 := y.toNat_lt
 have e1 : ((x.toNat : Nat) : Int) / 2 ^ 1 = ((x.toNat / 2 : Nat) : Int) := by omega
 have e2 : IntKind.u8.wrap (((y.toNat : Nat) : Int) * 2 ^ 7) = ((y.toNat % 2 * 2 ^ 7 : Nat) : Int) := by rw [wrap_u8]; omega
 rw [hbB_toNat, e1, e2, ior_u8 (by omega) (by omega), or_add (by omega)]
theorem hb_top (x : UInt8) : ((x.toNat : Nat) : Int) / 2 ^ 1 = (((hbB x 0).toNat : Nat) : Int) := by
 rw [hbB_toNat]; show _ = ((x.toNat / 2 + 0 % 2 * 128 : Nat) : Int); omega
def shD (l : List UInt8) : Nat → List UInt8
 | 0 => l
 | j + 1 => (shD l j).set (15 - j) (hbB ((shD l j).getD (15 - j) 0) ((shD l j).getD (14 - j) 0))
theorem shD_zero (l : List UInt8) : shD l 0 = l := rfl
theorem shD_succ (l : List UInt8) (j : Nat) : shD l (j + 1) = (shD l j).set (15 - j) (hbB ((shD l j).getD (15 - j) 0) ((shD l j).getD (14 - j) 0)) := rfl
theorem shD_length (l : List UInt8) (j : Nat) : (shD l j).length = l.length := by
 induction j with
 | zero => rfl
 | succ j ih => rw [shD_succ, List.length_set, ih]
theorem getD_set8 {l : List UInt8} {i j : Nat} {c : UInt8} : (l.set i c).getD j 0 = if i = j ∧ j < l.length then c else l.getD j 0 := by
 simp only [List.getD_eq_getElem?_getD, List.getElem?_set]
 by_cases h : i = j
 ·subst h
  by_cases h2 : i < l.length
  ·simp [h2]
  ·simp [h2]
 ·simp [h]
theorem shD_get {l : List UInt8} (hl : l.length = 16) : ∀ j, j ≤ 15 → ∀ i, i < 16 → (shD l j).getD i 0 = if 15 - j < i then hbB (l.getD i 0) (l.getD (i - 1) 0) else l.getD i 0 := by
 intro j
 induction j with
 | zero => intro _ i hi; rw [shD_zero, if_neg (by omega)]
 | succ j ih =>
  intro hj i hi
  rw [shD_succ, getD_set8, shD_length, hl]
  by_cases h : 15 - j = i
  ·rw [if_pos ⟨h, hi⟩, ih (by omega) (15 - j) (by omega), ih (by omega) (14 - j) (by omega), if_neg (by omega), if_neg (by omega), if_pos (by omega), ← h, show 15 - j - 1 = 14 - j from by omega]
  ·rw [if_neg (fun g => h g.1), ih (by omega) i hi]
   by_cases h2 : 15 - j < i
   ·rw [if_pos h2, if_pos (by omega)]
   ·rw [if_neg h2, if_neg (by omega)]
theorem xor_byte (a b k : Nat) : (a ^^^ b) / 256 ^ k % 256 = (a / 256 ^ k % 256) ^^^ (b / 256 ^ k % 256) := by
 have e : (256 : Nat) ^ k = 2 ^ (8 * k) := by rw [Nat.pow_mul]
 rw [e]
 have h := @Nat.shiftRight_xor_distrib (8 * k) a b
 rw [Nat.shiftRight_eq_div_pow, Nat.shiftRight_eq_div_pow, Nat.shiftRight_eq_div_pow] at h
 rw [h]
 exact Nat.xor_mod_two_pow (n := 8)
theorem red_byte {k : Nat} (hk : k < 16) (b : Nat) : b % 2 * redR / 256 ^ k % 256 = if k = 15 then b % 2 * 225 else 0 := by
 rw [redR_def]
 rcases Nat.mod_two_eq_zero_or_one b with e | e <;> rw [e]
 ·rw [Nat.zero_mul, Nat.zero_div]; split <;> rfl
 ·rw [Nat.one_mul]
  have : ∀ k : Nat, k < 16 → 299076299051606071403356588563077529600 / 256 ^ k % 256 = if k = 15 then 1 * 225 else 0 := by decide +kernel
  exact this k hk
def topB (l : List UInt8) : List UInt8 := (shD l 15).set 0 (hbB ((shD l 15).getD 0 0) 0)
theorem topB_length (l : List UInt8) : (topB l).length = l.length := by rw [topB, List.length_set, shD_length]
theorem topB_get {l : List UInt8} (hl : l.length = 16) {i : Nat} (hi : i < 16) : (topB l).getD i 0 = if i = 0 then hbB (l.getD 0 0) 0 else hbB (l.getD i 0) (l.getD (i - 1) 0) := by
 rw [topB, getD_set8, shD_length, hl]
 by_cases h : i = 0
 ·subst h
  rw [if_pos ⟨rfl, hi⟩, if_pos rfl, shD_get hl 15 (by omega) 0 (by omega), if_neg (by omega)]
 ·rw [if_neg (fun g => h g.1.symm), if_neg h, shD_get hl 15 (by omega) i hi, if_pos (by omega)]
theorem top_byte {V i : Nat} (hV : V < 2 ^ 128) (hi : i < 16) : ((topB (byL V 16)).getD i 0).toNat = V / 2 / 256 ^ (15 - i) % 256 := by
 rw [topB_get (byL_length V 16) hi]
 have hd : V / 2 / 256 ^ (15 - i) = V / 256 ^ (15 - i) / 2 := by rw [Nat.div_div_eq_div_mul, Nat.mul_comm, ← Nat.div_div_eq_div_mul]
 by_cases h : i = 0
 ·subst h
  rw [if_pos rfl, hbB_toNat, byL_get (by omega), hd]
  show V / 256 ^ 15 % 256 / 2 + 0 % 2 * 128 = _
  have : V / 256 ^ 15 < 256 := Nat.div_lt_of_lt_mul (by rw [← Nat.pow_succ, pow128]; exact hV)
  generalize V / 256 ^ (15 - 0) = q at *
  omega
 ·rw [if_neg h, hbB_toNat, byL_get hi, byL_get (by omega), hd, show 16 - 1 - i = 15 - i from by omega, show 16 - 1 - (i - 1) = (15 - i) + 1 from by omega, Nat.pow_succ, ← Nat.div_div_eq_div_mul]
  generalize V / 256 ^ (15 - i) = q
  omega
theorem sh_byte {V i : Nat} (hi : i < 16) : ((byL (sh V) 16).getD i 0).toNat = (V / 2 / 256 ^ (15 - i) % 256) ^^^ (if i = 0 then V % 2 * 225 else 0) := by
 rw [byL_get hi, show 16 - 1 - i = 15 - i from by omega, sh_def, xor_byte, red_byte (by omega)]
 by_cases h : i = 0
 ·rw [if_pos h, if_pos (by omega)]
 ·rw [if_neg h, if_neg (by omega)]
theorem last_bit {V : Nat} (hV : V < 2 ^ 128) : (((byL V 16).getD 15 0 &&& 1).toNat) = V % 2 := by
 rw [UInt8.toNat_and, byL_get (by decide)]
 show (V / 256 ^ 0 % 256) &&& 1 = _
 rw [Nat.pow_zero, Nat.div_one, Nat.and_one_is_mod]; omega
theorem sh_even {V : Nat} (hV : V < 2 ^ 128) (h : V % 2 = 0) : topB (byL V 16) = byL (sh V) 16 := by
 apply getD_ext (by rw [topB_length, byL_length, byL_length])
 intro i hi
 rw [topB_length, byL_length] at hi
 apply UInt8.toNat_inj.1
 rw [top_byte hV hi, sh_byte hi, h]
 split <;> simp
theorem sh_odd {V : Nat} (hV : V < 2 ^ 128) (h : V % 2 = 1) : (topB (byL V 16)).set 0 ((topB (byL V 16)).getD 0 0 ^^^ 225) = byL (sh V) 16 := by
 apply getD_ext (by rw [List.length_set, topB_length, byL_length, byL_length])
 intro i hi
 rw [List.length_set, topB_length, byL_length] at hi
 apply UInt8.toNat_inj.1
 rw [getD_set8, topB_length, byL_length, sh_byte hi, h]
 by_cases h0 : i = 0
 ·subst h0
  rw [if_pos ⟨rfl, hi⟩, UInt8.toNat_xor, top_byte hV hi, if_pos rfl]; rfl
 ·rw [if_neg (fun g => h0 g.1.symm), top_byte hV hi, if_neg h0, Nat.xor_zero]
def curS (key nonce : List UInt8) (i : Nat) : List UInt8 := if i = 0 then [] else blkA key (ctrB nonce (2 + (i - 1) / 16))
theorem curS_succ (key nonce : List UInt8) (i : Nat) : curS key nonce (i + 1) = blkA key (ctrB nonce (2 + i / 16)) := by rw [curS, if_neg (by omega), Nat.add_sub_cancel]
theorem curS_same (key nonce : List UInt8) {i : Nat} (h : ¬ i % 16 = 0) : curS key nonce i = blkA key (ctrB nonce (2 + i / 16)) := by rw [curS, if_neg (by omega), show (i - 1) / 16 = i / 16 from by omega]
theorem strm_next (key nonce s : List UInt8) {i : Nat} (hi : i < s.length) : (strmB key nonce s).take (i + 1) = (strmB key nonce s).take i ++ [s.getD i 0 ^^^ (blkA key (ctrB nonce (2 + i / 16))).getD (i % 16) 0] := by
 have hl := strmB_length' key nonce s
 rw [List.take_succ_eq_append_getElem (by omega)]
 congr 2
 have e : (strmB key nonce s)[i]'(by omega) = (strmB key nonce s).getD i 0 := by rw [List.getD_eq_getElem?_getD, List.getElem?_eq_getElem (by omega)]; rfl
 rw [e, strmB_eq, laidB_eq, xorA_get hi, overK_get' key nonce _ i (by omega), show i / 16 + 2 = 2 + i / 16 from by omega]
theorem long_byte (n : Nat) {j : Nat} (hj : j < 8) : IntKind.u8.wrap ((8 * (n : Int)) / 2 ^ min (8 * (7 - (j : Int))).toNat IntKind.i64.bits) = ((((longB n).getD j 0).toNat : Nat) : Int) := by
 rw [longB_eq, byL_get hj, wrap_u8, show IntKind.i64.bits = 64 from rfl, show min (8 * (7 - (j : Int))).toNat 64 = 8 * (8 - 1 - j) from by omega, show (256 : Nat) ^ (8 - 1 - j) = 2 ^ (8 * (8 - 1 - j)) from by rw [Nat.pow_mul], Int.natCast_emod, Int.natCast_ediv, Int.natCast_pow, Int.natCast_mul]
 rfl
theorem ctr_part (n : Nat) (j : Nat) (hj : j < 4) : IntKind.u8.wrap ((n : Int) / 2 ^ (8 * (3 - j))) = ((((byL n 4).getD j 0).toNat : Nat) : Int) := by
 rw [byL_get hj, wrap_u8, show (256 : Nat) ^ (4 - 1 - j) = 2 ^ (8 * (3 - j)) from by rw [Nat.pow_mul], Int.natCast_emod, Int.natCast_ediv, Int.natCast_pow]
 rfl
theorem ctr_last (n : Nat) : IntKind.u8.wrap (n : Int) = ((((byL n 4).getD 3 0).toNat : Nat) : Int) := by
 have := ctr_part n 3 (by decide)
 rwa [show 8 * (3 - 3) = 0 from rfl, Int.pow_zero, Int.ediv_one] at this
theorem flB_eqn (s : List UInt8) : (flB s).length = s.length + (16 - s.length % 16) % 16 := by rw [flB_eq, List.length_append, zs_eq, List.length_replicate]
theorem zs_length16 : (zs 16).length = 16 := by rw [zs_eq]; rfl
attribute [irreducible] hbB shD topB curS
theorem shD_succ' (l : List UInt8) (j : Nat) : shD l (j + 1) = (shD l j).set (15 - j) (hbB ((shD l j).getD (15 - j) 0) ((shD l j).getD (14 - j) 0)) := by conv => lhs; unfold shD
theorem curS_zero' (key nonce : List UInt8) : curS key nonce 0 = [] := by unfold curS; rfl
theorem curS_succ' (key nonce : List UInt8) (i : Nat) : curS key nonce (i + 1) = blkA key (ctrB nonce (2 + i / 16)) := curS_succ key nonce i
theorem curS_same' (key nonce : List UInt8) {i : Nat} (h : ¬ i % 16 = 0) : curS key nonce i = blkA key (ctrB nonce (2 + i / 16)) := curS_same key nonce h
theorem ctrB_length' {nonce : List UInt8} (h : nonce.length = 12) (n : Nat) : (ctrB nonce n).length = 16 := by rw [ctrB_eq, List.length_append, byL_length, h]
theorem topB_eq (l : List UInt8) : topB l = (shD l 15).set 0 (hbB ((shD l 15).getD 0 0) 0) := by unfold topB; rfl
end Go.Proofs.YtfpoldogcopmpaaGreatDoor
end
section
namespace Go.Proofs.YtfpoldogcopmpaaGreatDoor.Ch
open Go Go.RowKit D
theorem iand_nonneg (a b : Int) : 0 ≤ iand .u64 a b := by
 unfold iand
 have : IntKind.u64.wrap ((BitVec.ofInt IntKind.u64.bits a &&& BitVec.ofInt IntKind.u64.bits b).toNat : Int) = ((BitVec.ofInt IntKind.u64.bits a &&& BitVec.ofInt IntKind.u64.bits b).toNat : Int) % 18446744073709551616 := by simp [IntKind.wrap, IntKind.bits, IntKind.signed]
 rw [this]; omega
theorem wrap_u64_nonneg (a : Int) : 0 ≤ IntKind.u64.wrap a := by
 have : IntKind.u64.wrap a = a % 18446744073709551616 := by simp [IntKind.wrap, IntKind.bits, IntKind.signed]
 rw [this]; omega
def rotl (x k : Int) : Int :=
 let s := iand .u64 (IntKind.u64.wrap k) 31
 ior .u32 (IntKind.u32.wrap (x * 2 ^ min s.toNat 32)) (x / 2 ^ min (IntKind.u64.wrap (32 - s)).toNat 32)
def word (s : List UInt8) : Int :=
 ior .u32 (ior .u32 (ior .u32 (IntKind.u32.wrap (bt s 0)) (IntKind.u32.wrap (IntKind.u32.wrap (bt s 1) * 2 ^ 8))) (IntKind.u32.wrap (IntKind.u32.wrap (bt s 2) * 2 ^ 16))) (IntKind.u32.wrap (IntKind.u32.wrap (bt s 3) * 2 ^ 24))
def addAt (xs : List Int) (a b : Nat) : List Int := xs.set a (IntKind.u32.wrap (xs.getD a 0 + xs.getD b 0))
def turnAt (xs : List Int) (d a : Nat) (k : Int) : List Int := xs.set d (rotl (ixor .u32 (xs.getD d 0) (xs.getD a 0)) k)
def quarter (xs : List Int) (a b c d : Nat) : List Int :=
 turnAt (addAt (turnAt (addAt (turnAt (addAt (turnAt (addAt xs a b) d a 16) c d) b c 12) a b) d a 8) c d) b c 7
def wrong (key nonce : List UInt8) (n : Int) : Int :=
 if key.length ≠ 32 ∨ nonce.length ≠ 12 then 21 else if n < 0 ∨ n > 4294967295 then 1 else 0
def first4 : List Int := [1634760805, 857760878, 2036477234, 1797285236, 0, 0, 0, 0, 0, 0, 0, 0, 0, 0, 0, 0]
/-- xs with f 0, f 1, .. from place a on, i of them. -/
def fillK (a : Nat) (f : Nat → Int) (xs : List Int) : Nat → List Int
 | 0 => xs
 | i + 1 => (fillK a f xs i).set (a + i) (f i)
theorem fillK_succ (a : Nat) (f : Nat → Int) (xs : List Int) (i : Nat) : fillK a f xs (i + 1) = (fillK a f xs i).set (a + i) (f i) := rfl
theorem fillK_zero (a : Nat) (f : Nat → Int) (xs : List Int) : fillK a f xs 0 = xs := rfl
theorem fillK_length (a : Nat) (f : Nat → Int) (xs : List Int) (i : Nat) : (fillK a f xs i).length = xs.length := by
 induction i with
 | zero => rfl
 | succ i ih => simp [fillK, ih]
def started1 (key : List UInt8) (i : Nat) : List Int := fillK 4 (fun i => word (key.drop (4 * i))) first4 i
def started2 (key nonce : List UInt8) (n : Int) (i : Nat) : List Int := fillK 13 (fun i => word (nonce.drop (4 * i))) ((started1 key 8).set 12 (IntKind.u32.wrap n)) i
def started (key nonce : List UInt8) (n : Int) : List Int := started2 key nonce n 3
theorem started1_length (key : List UInt8) (i : Nat) : (started1 key i).length = 16 := by rw [started1, fillK_length]; rfl
theorem started2_length (key nonce : List UInt8) (n : Int) (i : Nat) : (started2 key nonce n i).length = 16 := by rw [started2, fillK_length]; simp [started1_length]
theorem quarter_length (xs : List Int) (a b c d : Nat) : (quarter xs a b c d).length = xs.length := by simp [quarter, turnAt, addAt]
attribute [irreducible] quarter fillK
def colK (xs : List Int) : Nat → List Int
 | 0 => xs
 | j + 1 => quarter (colK xs j) j (4 + j) (8 + j) (12 + j)
def diagK (xs : List Int) : Nat → List Int
 | 0 => xs
 | j + 1 => quarter (diagK xs j) j (4 + (j + 1) % 4) (8 + (j + 2) % 4) (12 + (j + 3) % 4)
def roundK (xs : List Int) : Nat → List Int
 | 0 => xs
 | i + 1 => diagK (colK (roundK xs i) 4) 4
theorem colK_length (xs : List Int) (h : xs.length = 16) (j : Nat) : (colK xs j).length = 16 := by
 induction j with
 | zero => exact h
 | succ j ih => rw [colK, quarter_length, ih]
theorem diagK_length (xs : List Int) (h : xs.length = 16) (j : Nat) : (diagK xs j).length = 16 := by
 induction j with
 | zero => exact h
 | succ j ih => rw [diagK, quarter_length, ih]
theorem roundK_length (xs : List Int) (h : xs.length = 16) (i : Nat) : (roundK xs i).length = 16 := by
 induction i with
 | zero => exact h
 | succ i ih => rw [roundK]; exact diagK_length _ (colK_length _ ih 4) 4
theorem colK_succ (xs : List Int) (j : Nat) : colK xs (j + 1) = quarter (colK xs j) j (4 + j) (8 + j) (12 + j) := rfl
theorem diagK_succ (xs : List Int) (j : Nat) : diagK xs (j + 1) = quarter (diagK xs j) j (4 + (j + 1) % 4) (8 + (j + 2) % 4) (12 + (j + 3) % 4) := rfl
theorem roundK_succ (xs : List Int) (i : Nat) : roundK xs (i + 1) = diagK (colK (roundK xs i) 4) 4 := rfl
theorem colK_zero (xs : List Int) : colK xs 0 = xs := rfl
theorem diagK_zero (xs : List Int) : diagK xs 0 = xs := rfl
theorem roundK_zero (xs : List Int) : roundK xs 0 = xs := rfl
attribute [irreducible] colK diagK roundK
def outB (xs : List Int) (j : Nat) : Int := IntKind.u8.wrap (IntKind.u32.wrap ((roundK xs 10).getD (j / 4) 0 + xs.getD (j / 4) 0) / 2 ^ min (8 * (j % 4)) 32)
def outK (xs : List Int) (j : Nat) : List Int := fillK 0 (outB xs) (List.replicate 64 0) j
theorem outK_length (xs : List Int) (j : Nat) : (outK xs j).length = 64 := by rw [outK, fillK_length]; simp
def stirred (xs : List Int) : List Int := outK xs 64
attribute [irreducible] rotl word
theorem started_length (key nonce : List UInt8) (n : Int) : (started key nonce n).length = 16 := started2_length key nonce n 3
theorem stirred_length (xs : List Int) : (stirred xs).length = 64 := outK_length xs 64
theorem wrong_zero {key nonce : List UInt8} {n : Int} (h : wrong key nonce n = 0) : key.length = 32 ∧ nonce.length = 12 ∧ 0 ≤ n ∧ n ≤ 4294967295 := by
 unfold wrong at h; split at h
 ·cases h
 ·split at h
  ·cases h
  ·omega
def blockP (key nonce : List UInt8) (n : Int) : List UInt8 × Int :=
 if wrong key nonce n = 0 then (toB ((stirred (started key nonce n)).take 64), 0) else ([], wrong key nonce n)
theorem blockP_bad {key nonce : List UInt8} {n : Int} (h : ¬ wrong key nonce n = 0) : blockP key nonce n = ([], wrong key nonce n) := if_neg h
theorem blockP_ok {key nonce : List UInt8} {n : Int} (h : wrong key nonce n = 0) : blockP key nonce n = (toB ((stirred (started key nonce n)).take 64), 0) := if_pos h
def stK (key nonce : List UInt8) (n : Int) : Nat → List Int
 | 0 => started key nonce n
 | i + 1 => (stK key nonce n i).set 12 (IntKind.u32.wrap ((stK key nonce n i).getD 12 0 + 1))
theorem stK_zero (key nonce : List UInt8) (n : Int) : stK key nonce n 0 = started key nonce n := rfl
theorem stK_succ (key nonce : List UInt8) (n : Int) (i : Nat) : stK key nonce n (i + 1) = (stK key nonce n i).set 12 (IntKind.u32.wrap ((stK key nonce n i).getD 12 0 + 1)) := rfl
theorem stK_length (key nonce : List UInt8) (n : Int) (i : Nat) : (stK key nonce n i).length = 16 := by
 induction i with
 | zero => exact started_length key nonce n
 | succ i ih => simp [stK, ih]
def xorI (base : Nat) (ks xs : List Int) : Nat → List Int
 | 0 => xs
 | j + 1 => if base + j < xs.length then (xorI base ks xs j).set (base + j) (ixor .u8 ((xorI base ks xs j).getD (base + j) 0) (ks.getD j 0)) else xorI base ks xs j
theorem xorI_zero (base : Nat) (ks xs : List Int) : xorI base ks xs 0 = xs := rfl
theorem xorI_pos {base j : Nat} {ks xs : List Int} (h : base + j < xs.length) : xorI base ks xs (j + 1) = (xorI base ks xs j).set (base + j) (ixor .u8 ((xorI base ks xs j).getD (base + j) 0) (ks.getD j 0)) := if_pos h
theorem xorI_neg {base j : Nat} {ks xs : List Int} (h : ¬ base + j < xs.length) : xorI base ks xs (j + 1) = xorI base ks xs j := if_neg h
theorem xorI_length (base : Nat) (ks xs : List Int) (j : Nat) : (xorI base ks xs j).length = xs.length := by
 induction j with
 | zero => rfl
 | succ j ih => rw [xorI]; split <;> simp [ih]
def xorO (key nonce : List UInt8) (n : Int) (data : List UInt8) : Nat → List Int
 | 0 => ofB data
 | i + 1 => xorI (64 * i) (stirred (stK key nonce n i)) (xorO key nonce n data i) 64
theorem xorO_zero (key nonce : List UInt8) (n : Int) (data : List UInt8) : xorO key nonce n data 0 = ofB data := rfl
theorem xorO_succ (key nonce : List UInt8) (n : Int) (data : List UInt8) (i : Nat) : xorO key nonce n data (i + 1) = xorI (64 * i) (stirred (stK key nonce n i)) (xorO key nonce n data i) 64 := rfl
theorem xorO_length (key nonce : List UInt8) (n : Int) (data : List UInt8) (i : Nat) : (xorO key nonce n data i).length = data.length := by
 induction i with
 | zero => rw [xorO_zero, ofB_length]
 | succ i ih => rw [xorO_succ, xorI_length, ih]
attribute [irreducible] stK xorI xorO wrong started stirred
def xorP (key nonce : List UInt8) (n : Int) (data : List UInt8) : List UInt8 × Int :=
 if wrong key nonce n = 0 then (if 4294967296 - n < ((data.length : Int) + 64 - 1) / 64 then ([], 13) else (toB ((xorO key nonce n data ((data.length + 63) / 64)).take data.length), 0)) else ([], wrong key nonce n)
theorem xorP_bad {key nonce data : List UInt8} {n : Int} (h : ¬ wrong key nonce n = 0) : xorP key nonce n data = ([], wrong key nonce n) := if_neg h
theorem xorP_big {key nonce data : List UInt8} {n : Int} (h : wrong key nonce n = 0) (h1 : 4294967296 - n < ((data.length : Int) + 64 - 1) / 64) : xorP key nonce n data = ([], 13) := by rw [xorP, if_pos h, if_pos h1]
theorem xorP_ok {key nonce data : List UInt8} {n : Int} (h : wrong key nonce n = 0) (h1 : ((data.length : Int) + 64 - 1) / 64 ≤ 4294967296 - n) : xorP key nonce n data = (toB ((xorO key nonce n data ((data.length + 63) / 64)).take data.length), 0) := by rw [xorP, if_pos h, if_neg (by omega)]
end Go.Proofs.YtfpoldogcopmpaaGreatDoor.Ch
end
section
namespace Go.Proofs.YtfpoldogcopmpaaGreatDoor.Ch
open Go Go.RowKit D
set_option linter.unusedVariables false
set_option linter.unusedSimpArgs false
def rolledR (x n : Int) : Int := ior .u32 (IntKind.u32.wrap (x * 2 ^ min n.toNat 32)) (x / 2 ^ min (32 - n).toNat 32)
theorem rolledR_eq {x n : Int} (h : n = 16 ∨ n = 12 ∨ n = 8 ∨ n = 7) : rolledR x n = rotl x n := by
 rcases h with rfl | rfl | rfl | rfl <;> (unfold rotl rolledR; rfl)
def words (s : List UInt8) (k : Nat) : List Int := (List.range k).map fun i => word (s.drop (4 * i))
theorem words_zero (s : List UInt8) : words s 0 = [] := rfl
theorem words_succ (s : List UInt8) (k : Nat) : words s (k + 1) = words s k ++ [word (s.drop (4 * k))] := by simp [words, List.range_succ]
theorem words_length (s : List UInt8) (k : Nat) : (words s k).length = k := by simp [words]
theorem word_at (s : List UInt8) (m : Nat) : word (s.drop m) =
  ior .u32 (ior .u32 (ior .u32 (IntKind.u32.wrap (bt s m)) (IntKind.u32.wrap (IntKind.u32.wrap (bt s (m + 1)) * 2 ^ 8))) (IntKind.u32.wrap (IntKind.u32.wrap (bt s (m + 2)) * 2 ^ 16))) (IntKind.u32.wrap (IntKind.u32.wrap (bt s (m + 3)) * 2 ^ 24)) := by
 unfold word; simp only [bt_drop, Nat.add_zero]
theorem started_eq (key nonce : List UInt8) (n : Int) : started key nonce n = [1634760805, 857760878, 2036477234, 1797285236] ++ words key 8 ++ [IntKind.u32.wrap n] ++ words nonce 3 := by
 unfold started started2 started1 first4
 simp [fillK_succ, fillK_zero, words, List.range_succ]
theorem roundR (xs : List Int) : quarter (quarter (quarter (quarter (quarter (quarter (quarter (quarter xs 0 4 8 12) 1 5 9 13) 2 6 10 14) 3 7 11 15) 0 5 10 15) 1 6 11 12) 2 7 8 13) 3 4 9 14 = diagK (colK xs 4) 4 := by
 simp only [diagK_succ, colK_succ, diagK_zero, colK_zero]
def outR (xs : List Int) (k : Nat) : List Int := (List.range k).map (outB xs)
theorem outR_zero (xs : List Int) : outR xs 0 = [] := rfl
theorem outR_length (xs : List Int) (k : Nat) : (outR xs k).length = k := by simp [outR]
theorem outB_at (xs : List Int) (i j : Nat) (h : j < 4) : outB xs (4 * i + j) = IntKind.u8.wrap (IntKind.u32.wrap ((roundK xs 10).getD i 0 + xs.getD i 0) / 2 ^ min (8 * j) 32) := by
 unfold outB; rw [show (4 * i + j) / 4 = i from by omega, show (4 * i + j) % 4 = j from by omega]
theorem outR_succ4 (xs : List Int) (i : Nat) : outR xs (4 * (i + 1)) = outR xs (4 * i) ++ [IntKind.u8.wrap (IntKind.u32.wrap ((roundK xs 10).getD i 0 + xs.getD i 0)),
  IntKind.u8.wrap (IntKind.u32.wrap ((roundK xs 10).getD i 0 + xs.getD i 0) / 2 ^ 8), IntKind.u8.wrap (IntKind.u32.wrap ((roundK xs 10).getD i 0 + xs.getD i 0) / 2 ^ 16), IntKind.u8.wrap (IntKind.u32.wrap ((roundK xs 10).getD i 0 + xs.getD i 0) / 2 ^ 24)] := by
 rw [show 4 * (i + 1) = 4 * i + 1 + 1 + 1 + 1 from by omega]
 unfold outR
 simp only [List.range_succ, List.map_append, List.map_cons, List.map_nil, List.append_assoc, List.cons_append, List.nil_append, show 4 * i + 1 + 1 = 4 * i + 2 from rfl, show 4 * i + 2 + 1 = 4 * i + 3 from rfl]
 have h0 := outB_at xs i 0 (by omega)
 rw [Nat.add_zero] at h0
 rw [h0, outB_at xs i 1 (by omega), outB_at xs i 2 (by omega), outB_at xs i 3 (by omega)]
 simp
theorem fillK_range (f : Nat → Int) (m : Nat) : ∀ i, i ≤ m → fillK 0 f (List.replicate m 0) i = (List.range i).map f ++ List.replicate (m - i) 0 := by
 intro i
 induction i with
 | zero => intro _; simp [fillK_zero]
 | succ i ih =>
  intro h
  rw [fillK_succ, ih (by omega), List.range_succ, List.map_append]
  have : m - i = (m - (i + 1)) + 1 := by omega
  rw [this, List.replicate_succ]
  simp
theorem stirred_range (xs : List Int) : stirred xs = (List.range 64).map (outB xs) := by
 unfold stirred outK
 rw [fillK_range _ _ _ (Nat.le_refl _)]; simp
theorem stirred_outR (xs : List Int) : stirred xs = outR xs 64 := stirred_range xs
theorem wrong_key {key nonce : List UInt8} {n : Int} (h : key.length ≠ 32 ∨ nonce.length ≠ 12) : wrong key nonce n = 21 := by unfold wrong; rw [if_pos h]
theorem wrong_arg {key nonce : List UInt8} {n : Int} (h1 : key.length = 32) (h2 : nonce.length = 12) (h : n < 0 ∨ n > 4294967295) : wrong key nonce n = 1 := by unfold wrong; rw [if_neg (by omega), if_pos h]
theorem wrong_none {key nonce : List UInt8} {n : Int} (h1 : key.length = 32) (h2 : nonce.length = 12) (h : 0 ≤ n ∧ n ≤ 4294967295) : wrong key nonce n = 0 := by unfold wrong; rw [if_neg (by omega), if_neg (by omega)]
theorem blockP_len {key nonce : List UInt8} {n : Int} (h : wrong key nonce n = 0) : (blockP key nonce n).1.length = 64 := by
 rw [blockP_ok h]; simp [toB_length, stirred_length]
theorem wrong_shift {key nonce : List UInt8} {n : Int} (h : wrong key nonce n = 0) {k : Nat} (hk : n + (k : Int) ≤ 4294967295) : wrong key nonce (n + (k : Int)) = 0 := by
 obtain ⟨h1, h2, h3, h4⟩ := wrong_zero h
 exact wrong_none h1 h2 (by omega)
def xorR (key nonce : List UInt8) (n : Int) (data : List UInt8) (i : Nat) : List Int := (List.range i).map fun j => ixor .u8 (bt data j) (bt (blockP key nonce (n + ((j / 64 : Nat) : Int))).1 (j % 64))
theorem xorR_zero (key nonce : List UInt8) (n : Int) (data : List UInt8) : xorR key nonce n data 0 = [] := rfl
theorem xorR_succ (key nonce : List UInt8) (n : Int) (data : List UInt8) (i : Nat) : xorR key nonce n data (i + 1) = xorR key nonce n data i ++ [ixor .u8 (bt data i) (bt (blockP key nonce (n + ((i / 64 : Nat) : Int))).1 (i % 64))] := by simp [xorR, List.range_succ]
theorem xorR_length (key nonce : List UInt8) (n : Int) (data : List UInt8) (i : Nat) : (xorR key nonce n data i).length = i := by simp [xorR]
def xorRP (key nonce : List UInt8) (n : Int) (data : List UInt8) : List UInt8 × Int :=
 if wrong key nonce n = 0 then (if n + ((data.length : Int) + 63) / 64 > 4294967296 then ([], 13) else (toB (xorR key nonce n data data.length), 0)) else ([], wrong key nonce n)
theorem blockP_snd (key nonce : List UInt8) (n : Int) : (blockP key nonce n).2 = wrong key nonce n := by
 by_cases h : wrong key nonce n = 0
 ·rw [blockP_ok h, h]
 ·rw [blockP_bad h]
theorem xorRP_bad {key nonce data : List UInt8} {n : Int} (h : ¬ wrong key nonce n = 0) : xorRP key nonce n data = ([], wrong key nonce n) := if_neg h
theorem xorRP_big {key nonce data : List UInt8} {n : Int} (h : wrong key nonce n = 0) (h1 : 4294967296 < n + ((data.length : Int) + 63) / 64) : xorRP key nonce n data = ([], 13) := by rw [xorRP, if_pos h, if_pos h1]
theorem xorRP_ok {key nonce data : List UInt8} {n : Int} (h : wrong key nonce n = 0) (h1 : n + ((data.length : Int) + 63) / 64 ≤ 4294967296) : xorRP key nonce n data = (toB (xorR key nonce n data data.length), 0) := by rw [xorRP, if_pos h, if_neg (by omega)]
attribute [irreducible] words outR xorR
end Go.Proofs.YtfpoldogcopmpaaGreatDoor.Ch
end
section
namespace Go.Proofs.YtfpoldogcopmpaaGreatDoor.Ch
open Go Go.RowKit D
set_option linter.unusedVariables false
set_option linter.unusedSimpArgs false
set_option maxRecDepth 100000
theorem wrap8 (x : Int) : IntKind.u8.wrap x = x % 256 := by simp [IntKind.wrap, IntKind.bits, IntKind.signed]
theorem wrap32 (x : Int) : IntKind.u32.wrap x = x % 4294967296 := by simp [IntKind.wrap, IntKind.bits, IntKind.signed]
theorem ixor8 (a b : Int) : ixor .u8 a b = ((BitVec.ofInt 8 a ^^^ BitVec.ofInt 8 b).toNat : Int) := by
 unfold ixor
 rw [wrap8]
 have : (BitVec.ofInt IntKind.u8.bits a ^^^ BitVec.ofInt IntKind.u8.bits b).toNat < 256 := (BitVec.ofInt 8 a ^^^ BitVec.ofInt 8 b).isLt
 show (((BitVec.ofInt 8 a ^^^ BitVec.ofInt 8 b).toNat : Int)) % 256 = _
 have h2 : (BitVec.ofInt 8 a ^^^ BitVec.ofInt 8 b).toNat < 256 := this
 omega
theorem ixor8_range (a b : Int) : 0 ≤ ixor .u8 a b ∧ ixor .u8 a b ≤ 255 := by
 rw [ixor8]
 have h2 : (BitVec.ofInt 8 a ^^^ BitVec.ofInt 8 b).toNat < 256 := (BitVec.ofInt 8 a ^^^ BitVec.ofInt 8 b).isLt
 omega
theorem ofInt_toNat8 (x : BitVec 8) : BitVec.ofInt 8 (x.toNat : Int) = x := by
 apply BitVec.eq_of_toNat_eq
 have := x.isLt
 simp
theorem toNat_ofInt8 {a : Int} (h : 0 ≤ a ∧ a ≤ 255) : ((BitVec.ofInt 8 a).toNat : Int) = a := by
 rw [BitVec.toNat_ofInt]
 omega
theorem ixor8_twice {a b : Int} (h : 0 ≤ a ∧ a ≤ 255) : ixor .u8 (ixor .u8 a b) b = a := by
 rw [ixor8, ixor8, ofInt_toNat8, BitVec.xor_assoc, BitVec.xor_self, BitVec.xor_zero, toNat_ofInt8 h]
theorem bt_toB {xs : List Int} {i : Nat} (hi : i < xs.length) (h : 0 ≤ xs.getD i 0 ∧ xs.getD i 0 ≤ 255) : bt (toB xs) i = xs.getD i 0 := by
 unfold bt toB
 simp only [List.getD_eq_getElem?_getD, List.getElem?_map, List.getElem?_eq_getElem hi, Option.map_some, Option.getD_some] at h ⊢
 rw [UInt8.toNat_ofNat']
 omega
theorem list_ext {α : Type} {d : α} {xs ys : List α} (hl : xs.length = ys.length) (h : ∀ i, i < xs.length → xs.getD i d = ys.getD i d) : xs = ys := by
 apply List.ext_getElem hl
 intro i h1 h2
 have := h i h1
 simpa [h1, h2] using this
theorem bytes_ext {xs ys : List UInt8} (hl : xs.length = ys.length) (h : ∀ i, i < xs.length → bt xs i = bt ys i) : xs = ys := by
 refine list_ext (d := 0) hl fun i hi => ?_
 have := h i hi
 unfold bt at this
 exact UInt8.toNat.inj (by omega)
theorem getD_map_range (f : Nat → Int) {m i : Nat} (h : i < m) : ((List.range m).map f).getD i 0 = f i := by
 simp [h]
theorem stK_started (key nonce : List UInt8) (n : Int) (i : Nat) : stK key nonce n i = started key nonce (n + (i : Int)) := by
 induction i with
 | zero => rw [stK_zero]; simp
 | succ i ih =>
  rw [stK_succ, ih, started_eq, started_eq]
  have h8 := words_length key 8
  have hg : ([1634760805, 857760878, 2036477234, 1797285236] ++ words key 8 ++ [IntKind.u32.wrap (n + (i : Int))] ++ words nonce 3).getD 12 0 = IntKind.u32.wrap (n + (i : Int)) := by
   simp [List.getD_eq_getElem?_getD, List.getElem?_append, h8]
  rw [hg]
  have hs : ∀ x y : Int, ([1634760805, 857760878, 2036477234, 1797285236] ++ words key 8 ++ [x] ++ words nonce 3).set 12 y = [1634760805, 857760878, 2036477234, 1797285236] ++ words key 8 ++ [y] ++ words nonce 3 := by
   intro x y
   rw [List.append_assoc, List.set_append, if_neg (by simp [h8])]
   simp [h8]
  rw [hs]
  congr 2
  rw [wrap32, wrap32, wrap32]
  have : n + ((i + 1 : Nat) : Int) = n + (i : Int) + 1 := by omega
  rw [this]
  simp
/-- The stream's byte at place m. -/
def ks (key nonce : List UInt8) (n : Int) (m : Nat) : Int := outB (started key nonce (n + ((m / 64 : Nat) : Int))) (m % 64)
theorem outB_range (xs : List Int) (j : Nat) : 0 ≤ outB xs j ∧ outB xs j ≤ 255 := by unfold outB; rw [wrap8]; omega
theorem stirred_get (xs : List Int) {j : Nat} (h : j < 64) : (stirred xs).getD j 0 = outB xs j := by rw [stirred_range]; exact getD_map_range _ h
theorem stK_get (key nonce : List UInt8) (n : Int) (m : Nat) : (stirred (stK key nonce n (m / 64))).getD (m % 64) 0 = ks key nonce n m := by
 rw [stK_started, stirred_get _ (by omega)]; rfl
theorem xorI_get (base : Nat) (s xs : List Int) (j m : Nat) : (xorI base s xs j).getD m 0 = if base ≤ m ∧ m < base + j ∧ m < xs.length then ixor .u8 (xs.getD m 0) (s.getD (m - base) 0) else xs.getD m 0 := by
 induction j with
 | zero => rw [xorI_zero, if_neg (by omega)]
 | succ j ih =>
  by_cases hb : base + j < xs.length
  ·rw [xorI_pos hb]
   by_cases hm : m = base + j
   ·subst hm
    rw [if_pos (by omega)]
    have hl := xorI_length base s xs j
    rw [List.getD_eq_getElem?_getD, List.getElem?_set_self (by omega), Option.getD_some, ih, if_neg (by omega), show base + j - base = j from by omega]
   ·rw [List.getD_eq_getElem?_getD, List.getElem?_set_ne (Ne.symm hm), ← List.getD_eq_getElem?_getD, ih]
    by_cases hc : base ≤ m ∧ m < base + j ∧ m < xs.length
    ·rw [if_pos hc, if_pos (by omega)]
    ·rw [if_neg hc, if_neg (by omega)]
  ·rw [xorI_neg hb, ih]
   by_cases hc : base ≤ m ∧ m < base + j ∧ m < xs.length
   ·rw [if_pos hc, if_pos (by omega)]
   ·rw [if_neg hc, if_neg (by omega)]
theorem xorO_get (key nonce : List UInt8) (n : Int) (data : List UInt8) (i m : Nat) : (xorO key nonce n data i).getD m 0 = if m < 64 * i ∧ m < data.length then ixor .u8 (bt data m) (ks key nonce n m) else bt data m := by
 induction i with
 | zero => rw [xorO_zero, if_neg (by omega), ofB_getD]
 | succ i ih =>
  have hl := xorO_length key nonce n data i
  rw [xorO_succ, xorI_get, hl]
  by_cases hc : 64 * i ≤ m ∧ m < 64 * i + 64 ∧ m < data.length
  ·rw [if_pos hc, if_pos (by omega), ih, if_neg (by omega)]
   rw [show m - 64 * i = m % 64 from by omega, show i = m / 64 from by omega, stK_get]
  ·rw [if_neg hc, ih]
   by_cases h1 : m < 64 * i ∧ m < data.length
   ·rw [if_pos h1, if_pos (by omega)]
   ·rw [if_neg h1, if_neg (by omega)]
/-- Data with a stream. -/
def xorV (key nonce : List UInt8) (n : Int) (data : List UInt8) : List Int := (List.range data.length).map fun m => ixor .u8 (bt data m) (ks key nonce n m)
theorem xorV_length (key nonce : List UInt8) (n : Int) (data : List UInt8) : (xorV key nonce n data).length = data.length := by simp [xorV]
theorem xorO_all (key nonce : List UInt8) (n : Int) (data : List UInt8) : (xorO key nonce n data ((data.length + 63) / 64)).take data.length = xorV key nonce n data := by
 have hl := xorO_length key nonce n data ((data.length + 63) / 64)
 rw [List.take_of_length_le (by omega)]
 refine list_ext (d := 0) (by rw [hl, xorV_length]) fun i hi => ?_
 rw [xorO_get, if_pos (by omega), xorV, getD_map_range _ (by omega)]
theorem block_get {key nonce : List UInt8} {n : Int} (h : wrong key nonce n = 0) {j : Nat} (hj : j < 64) : bt (blockP key nonce n).1 j = outB (started key nonce n) j := by
 rw [blockP_ok h]
 show bt (toB _) j = _
 rw [List.take_of_length_le (by rw [stirred_length]; exact Nat.le_refl _), bt_toB (by rw [stirred_length]; exact hj) (by rw [stirred_get _ hj]; exact outB_range _ _), stirred_get _ hj]
theorem xorR_all {key nonce : List UInt8} {n : Int} {data : List UInt8} (h : wrong key nonce n = 0) (h1 : n + ((data.length : Int) + 63) / 64 ≤ 4294967296) : xorR key nonce n data data.length = xorV key nonce n data := by
 unfold xorR xorV
 apply List.map_congr_left
 intro m hm
 simp only [List.mem_range] at hm
 rw [block_get (wrong_shift h (by omega)) (by omega)]
 rfl
theorem xor_same (key nonce : List UInt8) (n : Int) (data : List UInt8) : xorRP key nonce n data = xorP key nonce n data := by
 by_cases h : wrong key nonce n = 0
 ·by_cases h1 : n + ((data.length : Int) + 63) / 64 ≤ 4294967296
  ·rw [xorRP_ok h h1, xorP_ok h (by omega), xorR_all h h1, xorO_all]
  ·rw [xorRP_big h (by omega), xorP_big h (by omega)]
 ·rw [xorRP_bad h, xorP_bad h]
theorem xorV_get {key nonce : List UInt8} {n : Int} {data : List UInt8} {m : Nat} (hm : m < data.length) : bt (toB (xorV key nonce n data)) m = ixor .u8 (bt data m) (ks key nonce n m) := by
 have hg : (xorV key nonce n data).getD m 0 = ixor .u8 (bt data m) (ks key nonce n m) := by unfold xorV; exact getD_map_range _ hm
 rw [bt_toB (by rw [xorV_length]; exact hm) (by rw [hg]; exact ixor8_range _ _), hg]
theorem xorP_val {key nonce data : List UInt8} {n : Int} (h : wrong key nonce n = 0) (h1 : n + ((data.length : Int) + 63) / 64 ≤ 4294967296) : xorP key nonce n data = (toB (xorV key nonce n data), 0) := by
 rw [xorP_ok h (by omega), xorO_all]
theorem xorP_zero {key nonce data : List UInt8} {n : Int} (h : (xorP key nonce n data).2 = 0) : wrong key nonce n = 0 ∧ n + ((data.length : Int) + 63) / 64 ≤ 4294967296 := by
 by_cases hw : wrong key nonce n = 0
 ·by_cases h1 : n + ((data.length : Int) + 63) / 64 ≤ 4294967296
  ·exact ⟨hw, h1⟩
  ·rw [xorP_big hw (by omega)] at h; cases h
 ·rw [xorP_bad hw] at h; exact absurd h hw
theorem xorP_back {key nonce data : List UInt8} {n : Int} (h : (xorP key nonce n data).2 = 0) : xorP key nonce n (xorP key nonce n data).1 = (data, 0) := by
 obtain ⟨hw, h1⟩ := xorP_zero h
 rw [xorP_val hw h1]
 have hl : (toB (xorV key nonce n data)).length = data.length := by rw [toB_length, xorV_length]
 rw [xorP_val hw (by rw [hl]; exact h1)]
 congr 1
 refine bytes_ext (by rw [toB_length, xorV_length, hl]) fun i hi => ?_
 rw [toB_length, xorV_length] at hi
 have hi : i < data.length := by rw [← hl]; exact hi
 rw [xorV_get (by omega), xorV_get hi, ixor8_twice (bt_range _ _)]
theorem xorP_length {key nonce data : List UInt8} {n : Int} (h : (xorP key nonce n data).2 = 0) : (xorP key nonce n data).1.length = data.length := by
 obtain ⟨hw, h1⟩ := xorP_zero h
 rw [xorP_val hw h1, toB_length, xorV_length]
end Go.Proofs.YtfpoldogcopmpaaGreatDoor.Ch
end
section
namespace Go.Proofs.YtfpoldogcopmpaaGreatDoor.Po
open Go Go.RowKit D
set_option linter.unusedVariables false
set_option linter.unusedSimpArgs false
/-- A number of digits, the lowest one first. -/
def val (W : Int) : List Int → Int
 | [] => 0
 | x :: xs => x + W * val W xs
theorem getD_set_self {xs : List Int} {j : Nat} {x : Int} (h : j < xs.length) : (xs.set j x).getD j 0 = x := by simp [h]
theorem getD_set_ne {xs : List Int} {j k : Nat} {x : Int} (h : j ≠ k) : (xs.set j x).getD k 0 = xs.getD k 0 := by simp [List.getD_eq_getElem?_getD, List.getElem?_set, h]
theorem val_set (W : Int) (xs : List Int) : ∀ (j : Nat) (y : Int), j < xs.length → val W (xs.set j y) = val W xs + (y - xs.getD j 0) * W ^ j := by
 induction xs with
 | nil => intro j y h; simp at h
 | cons x xs ih =>
  intro j y h
  cases j with
  | zero => simp [val]; omega
  | succ j =>
   have := ih j y (by simpa using h)
   simp only [List.set_cons_succ, val, List.getD_cons_succ, this]
   grind
theorem val_app (W : Int) (xs ys : List Int) : val W (xs ++ ys) = val W xs + W ^ xs.length * val W ys := by
 induction xs with
 | nil => simp [val]
 | cons x xs ih => simp only [List.cons_append, val, ih, List.length_cons]; grind
theorem val_lt {W : Int} (hW : 1 ≤ W) : ∀ {xs : List Int}, (∀ x ∈ xs, 0 ≤ x ∧ x < W) → val W xs < W ^ xs.length := by
 intro xs
 induction xs with
 | nil => intro _; simp [val]
 | cons x xs ih =>
  intro h
  have h1 := h x (by simp)
  have h2 := ih fun y hy => h y (by simp [hy])
  have h3 : W * val W xs ≤ W * (W ^ xs.length - 1) := Int.mul_le_mul_of_nonneg_left (by omega) (by omega)
  have h4 : W * (W ^ xs.length - 1) = W ^ (xs.length + 1) - W := by grind
  simp only [val, List.length_cons]; omega
def carK (k : IntKind) (W m : Int) (xs : List Int) : Nat → List Int × Int
 | 0 => (xs, 0)
 | i + 1 => ((carK k W m xs i).1.set i (iand k (k.wrap ((carK k W m xs i).1.getD i 0 + (carK k W m xs i).2)) m), k.wrap ((carK k W m xs i).1.getD i 0 + (carK k W m xs i).2) / W)
theorem carK_zero (k : IntKind) (W m : Int) (xs : List Int) : carK k W m xs 0 = (xs, 0) := rfl
theorem carK_succ (k : IntKind) (W m : Int) (xs : List Int) (i : Nat) : carK k W m xs (i + 1) = ((carK k W m xs i).1.set i (iand k (k.wrap ((carK k W m xs i).1.getD i 0 + (carK k W m xs i).2)) m), k.wrap ((carK k W m xs i).1.getD i 0 + (carK k W m xs i).2) / W) := rfl
theorem carK_length (k : IntKind) (W m : Int) (xs : List Int) (i : Nat) : (carK k W m xs i).1.length = xs.length := by
 induction i with
 | zero => rfl
 | succ i ih => rw [carK_succ]; simp [ih]
attribute [irreducible] carK
def car1 (k : IntKind) (W m : Int) (n : Nat) (xs : List Int) : List Int := (carK k W m xs n).1.set 0 (k.wrap ((carK k W m xs n).1.getD 0 0 + k.wrap (5 * (carK k W m xs n).2)))
theorem car1_length (k : IntKind) (W m : Int) (n : Nat) (xs : List Int) : (car1 k W m n xs).length = xs.length := by simp [car1, carK_length]
def carR (k : IntKind) (W m : Int) (n : Nat) (xs : List Int) : Nat → List Int
 | 0 => xs
 | r + 1 => car1 k W m n (carR k W m n xs r)
theorem carR_zero (k : IntKind) (W m : Int) (n : Nat) (xs : List Int) : carR k W m n xs 0 = xs := rfl
theorem carR_succ (k : IntKind) (W m : Int) (n : Nat) (xs : List Int) (r : Nat) : carR k W m n xs (r + 1) = car1 k W m n (carR k W m n xs r) := rfl
theorem carR_length (k : IntKind) (W m : Int) (n : Nat) (xs : List Int) (r : Nat) : (carR k W m n xs r).length = xs.length := by
 induction r with
 | zero => rfl
 | succ r ih => rw [carR_succ, car1_length, ih]
attribute [irreducible] car1 carR
def mulC (k : IntKind) (n : Nat) (a b : Int) (out : List Int) (i j : Nat) : List Int :=
 if i + j < n then out.set (i + j) (k.wrap (out.getD (i + j) 0 + k.wrap (a * b))) else out.set (i + j - n) (k.wrap (out.getD (i + j - n) 0 + k.wrap (k.wrap (5 * a) * b)))
theorem mulC_lt {k : IntKind} {n : Nat} {a b : Int} {out : List Int} {i j : Nat} (h : i + j < n) : mulC k n a b out i j = out.set (i + j) (k.wrap (out.getD (i + j) 0 + k.wrap (a * b))) := if_pos h
theorem mulC_ge {k : IntKind} {n : Nat} {a b : Int} {out : List Int} {i j : Nat} (h : ¬ i + j < n) : mulC k n a b out i j = out.set (i + j - n) (k.wrap (out.getD (i + j - n) 0 + k.wrap (k.wrap (5 * a) * b))) := if_neg h
theorem mulC_length (k : IntKind) (n : Nat) (a b : Int) (out : List Int) (i j : Nat) : (mulC k n a b out i j).length = out.length := by unfold mulC; split <;> simp
attribute [irreducible] mulC
def mulR (k : IntKind) (n : Nat) (a : Int) (ys : List Int) (out : List Int) (i : Nat) : Nat → List Int
 | 0 => out
 | j + 1 => mulC k n a (ys.getD j 0) (mulR k n a ys out i j) i j
theorem mulR_zero (k : IntKind) (n : Nat) (a : Int) (ys : List Int) (out : List Int) (i : Nat) : mulR k n a ys out i 0 = out := rfl
theorem mulR_succ (k : IntKind) (n : Nat) (a : Int) (ys : List Int) (out : List Int) (i j : Nat) : mulR k n a ys out i (j + 1) = mulC k n a (ys.getD j 0) (mulR k n a ys out i j) i j := rfl
theorem mulR_length (k : IntKind) (n : Nat) (a : Int) (ys : List Int) (out : List Int) (i j : Nat) : (mulR k n a ys out i j).length = out.length := by
 induction j with
 | zero => rfl
 | succ j ih => rw [mulR_succ, mulC_length, ih]
attribute [irreducible] mulR
def mulA (k : IntKind) (n : Nat) (xs ys : List Int) : Nat → List Int
 | 0 => List.replicate n 0
 | i + 1 => mulR k n (xs.getD i 0) ys (mulA k n xs ys i) i n
theorem mulA_zero (k : IntKind) (n : Nat) (xs ys : List Int) : mulA k n xs ys 0 = List.replicate n 0 := rfl
theorem mulA_succ (k : IntKind) (n : Nat) (xs ys : List Int) (i : Nat) : mulA k n xs ys (i + 1) = mulR k n (xs.getD i 0) ys (mulA k n xs ys i) i n := rfl
theorem mulA_length (k : IntKind) (n : Nat) (xs ys : List Int) (i : Nat) : (mulA k n xs ys i).length = n := by
 induction i with
 | zero => simp [mulA_zero]
 | succ i ih => rw [mulA_succ, mulR_length, ih]
attribute [irreducible] mulA
def addK (k : IntKind) (xs ys : List Int) : Nat → List Int
 | 0 => xs
 | i + 1 => (addK k xs ys i).set i (k.wrap ((addK k xs ys i).getD i 0 + ys.getD i 0))
theorem addK_zero (k : IntKind) (xs ys : List Int) : addK k xs ys 0 = xs := rfl
theorem addK_succ (k : IntKind) (xs ys : List Int) (i : Nat) : addK k xs ys (i + 1) = (addK k xs ys i).set i (k.wrap ((addK k xs ys i).getD i 0 + ys.getD i 0)) := rfl
theorem addK_length (k : IntKind) (xs ys : List Int) (i : Nat) : (addK k xs ys i).length = xs.length := by
 induction i with
 | zero => rfl
 | succ i ih => rw [addK_succ]; simp [ih]
attribute [irreducible] addK
def grp (g N V j : Nat) : Nat := V % 2 ^ N / 2 ^ (g * j) % 2 ^ g
def grps (g n N V : Nat) : List Int := (List.range n).map fun j => ((grp g N V j : Nat) : Int)
theorem grps_length (g n N V : Nat) : (grps g n N V).length = n := by simp [grps]
theorem grps_getD {g n N V j : Nat} (h : j < n) : (grps g n N V).getD j 0 = (grp g N V j : Nat) := by simp [grps, h]
theorem grps_zero (g n V : Nat) : grps g n 0 V = List.replicate n 0 := by
 apply List.ext_getElem
 ·simp [grps]
 ·intro i h1 h2; simp [grps, grp, Nat.mod_one]
theorem grp_bit (g N V j t : Nat) : (grp g N V j).testBit t = (decide (t < g) && (decide (g * j + t < N) && V.testBit (g * j + t))) := by
 unfold grp
 rw [Nat.testBit_mod_two_pow, Nat.testBit_div_two_pow, Nat.testBit_mod_two_pow, Nat.add_comm t]
theorem bit01 (V N : Nat) : V / 2 ^ N % 2 = if V.testBit N = true then 1 else 0 := by
 rw [Nat.testBit_eq_decide_div_mod_eq]
 have : V / 2 ^ N % 2 < 2 := Nat.mod_lt _ (by decide)
 split <;> rename_i h <;> simp at h <;> omega
/-- One bit more. -/
theorem grp_here (g N V : Nat) (hg : 0 < g) : grp g (N + 1) V (N / g) = (grp g N V (N / g) ||| V / 2 ^ N % 2 * 2 ^ (N % g)) := by
 have hN : g * (N / g) + N % g = N := Nat.div_add_mod N g
 have hr : N % g < g := Nat.mod_lt N hg
 apply Nat.eq_of_testBit_eq
 intro t
 rw [Nat.testBit_or, grp_bit, grp_bit, bit01]
 by_cases hb : V.testBit N = true
 ·rw [if_pos hb, Nat.one_mul, Nat.testBit_two_pow]
  by_cases ht : t = N % g
  ·subst ht
   have h1 : g * (N / g) + N % g < N + 1 := by omega
   have h2 : decide (N % g = N % g) = true := by simp
   rw [h2, hN]; simp [hb, hr]
  ·have h2 : decide (N % g = t) = false := by simp; omega
   rw [h2, Bool.or_false]
   have h3 : g * (N / g) + t < N + 1 ↔ g * (N / g) + t < N := by omega
   simp only [h3]
 ·rw [if_neg hb, Nat.zero_mul, Nat.zero_testBit, Bool.or_false]
  by_cases ht : t = N % g
  ·subst ht
   rw [hN]; simp at hb; simp [hb]
  ·have h3 : g * (N / g) + t < N + 1 ↔ g * (N / g) + t < N := by omega
   simp only [h3]
theorem grp_other (g N V j : Nat) (hg : 0 < g) (hj : j ≠ N / g) : grp g (N + 1) V j = grp g N V j := by
 apply Nat.eq_of_testBit_eq
 intro t
 rw [grp_bit, grp_bit]
 by_cases ht : t < g
 ·have h3 : g * j + t < N + 1 ↔ g * j + t < N := by
   have : g * j + t ≠ N := by
    intro e
    apply hj
    rw [← e, Nat.mul_add_div hg, Nat.div_eq_of_lt ht, Nat.add_zero]
   omega
  simp only [h3]
 ·simp [ht]
theorem grp_lt (g N V j : Nat) : grp g N V j < 2 ^ g := Nat.mod_lt _ (Nat.two_pow_pos g)
theorem grps_succ (g n N V : Nat) (hg : 0 < g) (hn : N / g < n) : (grps g n N V).set (N / g) ((grp g N V (N / g) ||| V / 2 ^ N % 2 * 2 ^ (N % g) : Nat) : Int) = grps g n (N + 1) V := by
 apply List.ext_getElem
 ·simp [grps]
 ·intro i h1 h2
  simp only [grps, List.length_map, List.length_range, List.length_set] at h1 h2
  rw [List.getElem_set]
  simp only [grps, List.getElem_map, List.getElem_range]
  split
  ·rename_i h; subst h; rw [grp_here g N V hg]
  ·rename_i h; rw [grp_other g N V i hg (fun e => h e.symm)]
theorem grps_skip (g n N V : Nat) (hg : 0 < g) (h0 : V / 2 ^ N % 2 = 0) : grps g n N V = grps g n (N + 1) V := by
 apply List.ext_getElem
 ·simp [grps]
 ·intro i h1 h2
  simp only [grps, List.getElem_map, List.getElem_range]
  by_cases hj : i = N / g
  ·rw [hj, grp_here g N V hg, h0]; simp
  ·rw [grp_other g N V i hg hj]
theorem val_grps (g n N V : Nat) (hN : g * n ≤ N) : val ((2 ^ g : Nat) : Int) (grps g n N V) = ((V % 2 ^ (g * n) : Nat) : Int) := by
 induction n with
 | zero => simp [grps, val, Nat.mod_one]
 | succ n ih =>
  have e : grps g (n + 1) N V = grps g n N V ++ [((grp g N V n : Nat) : Int)] := by simp [grps, List.range_succ]
  rw [e, val_app, ih (by rw [Nat.mul_succ] at hN; omega), grps_length]
  have h1 : grp g N V n = V / 2 ^ (g * n) % 2 ^ g := by
   unfold grp
   apply Nat.eq_of_testBit_eq
   intro t
   rw [Nat.testBit_mod_two_pow, Nat.testBit_div_two_pow, Nat.testBit_mod_two_pow, Nat.testBit_mod_two_pow, Nat.testBit_div_two_pow]
   by_cases ht : t < g
   ·have : t + g * n < N := by rw [Nat.mul_succ] at hN; omega
    simp [ht, this]
   ·simp [ht]
  have h2 : V % 2 ^ (g * (n + 1)) = V % 2 ^ (g * n) + 2 ^ (g * n) * (V / 2 ^ (g * n) % 2 ^ g) := by
   rw [Nat.mul_succ, Nat.pow_add, Nat.mod_mul]
  have h3 : ((2 ^ g : Nat) : Int) ^ n = ((2 ^ (g * n) : Nat) : Int) := by rw [Nat.pow_mul]; simp
  rw [h1, h2, h3]
  simp [val]
/-- Numbers of so many digits, each below 2^g, are their own groups. -/
theorem grps_of (g : Nat) (hg : 0 < g) : ∀ (xs : List Nat) (N : Nat), (∀ x ∈ xs, x < 2 ^ g) → g * xs.length ≤ N → ∃ V : Nat, val ((2 ^ g : Nat) : Int) (xs.map fun x : Nat => (x : Int)) = (V : Int) ∧ V < 2 ^ (g * xs.length) ∧ (xs.map fun x : Nat => (x : Int)) = grps g xs.length N V := by
 intro xs
 induction xs with
 | nil => intro N _ _; exact ⟨0, by simp [val], by simp, by simp [grps]⟩
 | cons x xs ih =>
  intro N hx hN
  simp only [List.length_cons, Nat.mul_succ] at hN
  obtain ⟨V, h1, h2, h3⟩ := ih (N - g) (fun y hy => hx y (by simp [hy])) (by omega)
  have hxl := hx x (by simp)
  refine ⟨x + 2 ^ g * V, by simp only [List.map_cons, val, h1]; simp, ?_, ?_⟩
  ·simp only [List.length_cons, Nat.mul_succ, Nat.pow_add]
   have : 2 ^ g * V ≤ 2 ^ g * (2 ^ (g * xs.length) - 1) := Nat.mul_le_mul_left _ (by omega)
   have h5 : 2 ^ g * (2 ^ (g * xs.length) - 1) = 2 ^ (g * xs.length) * 2 ^ g - 2 ^ g := by rw [Nat.mul_sub, Nat.mul_one, Nat.mul_comm]
   have h6 : 2 ^ g ≤ 2 ^ (g * xs.length) * 2 ^ g := Nat.le_mul_of_pos_left _ (Nat.two_pow_pos _)
   omega
  ·simp only [List.map_cons, List.length_cons]
   rw [h3]
   apply List.ext_getElem
   ·simp [grps]
   ·intro i p1 p2
    cases i with
    | zero =>
     simp only [grps, List.getElem_cons_zero, List.getElem_map, List.getElem_range]
     congr 1
     unfold grp
     rw [Nat.mul_zero, Nat.pow_zero, Nat.div_one]
     rw [Nat.mod_mod_of_dvd _ (Nat.pow_dvd_pow 2 (by omega : g ≤ N)), Nat.add_mul_mod_self_left, Nat.mod_eq_of_lt hxl]
    | succ i =>
     simp only [grps, List.getElem_cons_succ, List.getElem_map, List.getElem_range]
     congr 1
     apply Nat.eq_of_testBit_eq
     intro t
     rw [grp_bit, grp_bit]
     have e : (x + 2 ^ g * V).testBit (g * (i + 1) + t) = V.testBit (g * i + t) := by
      rw [show g * (i + 1) + t = (g * i + t) + g from by rw [Nat.mul_succ]; omega, ← Nat.testBit_div_two_pow, Nat.add_mul_div_left _ _ (Nat.two_pow_pos g), Nat.div_eq_of_lt hxl, Nat.zero_add]
     rw [e]
     have : g * i + t < N - g ↔ g * (i + 1) + t < N := by rw [Nat.mul_succ]; omega
     simp only [this]
def BytesL (xs : List Int) : Prop := ∀ j, 0 ≤ xs.getD j 0 ∧ xs.getD j 0 ≤ 255
def wd (xs : List Int) (o : Nat) : Int := xs.getD o 0 + 256 * xs.getD (o + 1) 0 + 65536 * xs.getD (o + 2) 0 + 16777216 * xs.getD (o + 3) 0
theorem wd_range {xs : List Int} (h : BytesL xs) (o : Nat) : 0 ≤ wd xs o ∧ wd xs o < 4294967296 := by
 have := h o; have := h (o + 1); have := h (o + 2); have := h (o + 3)
 unfold wd; omega
theorem or64 {a b : Int} (i : Nat) (hi : i ≤ 62) (ha : 0 ≤ a) (h1 : a < 2 ^ i) (hb : 0 ≤ b) (h2 : b * 2 ^ i < 9223372036854775808) : ior .u64 a (b * 2 ^ i) = a + b * 2 ^ i := by
 obtain ⟨m, rfl⟩ := Int.eq_ofNat_of_zero_le ha
 obtain ⟨n, rfl⟩ := Int.eq_ofNat_of_zero_le hb
 have e : ((n : Int) * 2 ^ i) = ((n * 2 ^ i : Nat) : Int) := by simp
 have h1' : m < 2 ^ i := by
  have : ((m : Nat) : Int) < ((2 ^ i : Nat) : Int) := by simpa using h1
  omega
 have hp : (2 : Nat) ^ i ≤ 2 ^ 62 := Nat.pow_le_pow_right (by decide) hi
 rw [e] at h2 ⊢
 rw [ior_u64 (by omega) (by omega), or_add h1']
 simp
theorem word_eq {a b c d : Int} (ha : 0 ≤ a ∧ a ≤ 255) (hb : 0 ≤ b ∧ b ≤ 255) (hc : 0 ≤ c ∧ c ≤ 255) (hd : 0 ≤ d ∧ d ≤ 255) :
  ior .u64 (ior .u64 (ior .u64 (IntKind.u64.wrap a) (IntKind.u64.wrap (IntKind.u64.wrap b * 2 ^ 8))) (IntKind.u64.wrap (IntKind.u64.wrap c * 2 ^ 16))) (IntKind.u64.wrap (IntKind.u64.wrap d * 2 ^ 24)) = a + 256 * b + 65536 * c + 16777216 * d := by
 rw [wrap_u64_in (x := a) (by omega) (by omega), wrap_u64_in (x := b) (by omega) (by omega), wrap_u64_in (x := c) (by omega) (by omega), wrap_u64_in (x := d) (by omega) (by omega),
  wrap_u64_in (x := b * 2 ^ 8) (by omega) (by omega), wrap_u64_in (x := c * 2 ^ 16) (by omega) (by omega), wrap_u64_in (x := d * 2 ^ 24) (by omega) (by omega),
  or64 8 (by decide) (by omega) (by omega) (by omega) (by omega), or64 16 (by decide) (by omega) (by omega) (by omega) (by omega), or64 24 (by decide) (by omega) (by omega) (by omega) (by omega)]
 omega
theorem mask26 {x : Int} (h : 0 ≤ x) (h1 : x < 18446744073709551616) : iand .u64 x 67108863 = x % 67108864 := mask_u64 26 (by decide) h h1 67108863 (by decide)
def ofL (xs : List Int) : List Int := [wd xs 0 % 67108864, wd xs 3 / 2 ^ 2 % 67108864, wd xs 6 / 2 ^ 4 % 67108864, wd xs 9 / 2 ^ 6, wd xs 12 / 2 ^ 8 % 67108864 + xs.getD 16 0 * 2 ^ 24]
theorem ofL_length (xs : List Int) : (ofL xs).length = 5 := rfl
theorem of_last {xs : List Int} (h : BytesL xs) : ior .u64 (wd xs 12 / 2 ^ 8 % 67108864) (IntKind.u64.wrap (IntKind.u64.wrap (xs.getD 16 0) * 2 ^ 24)) = wd xs 12 / 2 ^ 8 % 67108864 + xs.getD 16 0 * 2 ^ 24 := by
 have h1 := h 16
 have h2 := wd_range h 12
 rw [wrap_u64_in (x := xs.getD 16 0) (by omega) (by omega), wrap_u64_in (by omega) (by omega), or64 24 (by decide) (by omega) (by omega) (by omega) (by omega)]
def timesP (xs ys : List Int) : List Int := carR .u64 67108864 67108863 5 (mulA .u64 5 xs ys 5) 2
def restS (ys : List Int) (i : Nat) : List Int :=
 (ys.set (i + 1) (IntKind.u64.wrap (ys.getD (i + 1) 0 + ys.getD i 0 / 2 ^ 26))).set i (iand .u64 ((ys.set (i + 1) (IntKind.u64.wrap (ys.getD (i + 1) 0 + ys.getD i 0 / 2 ^ 26))).getD i 0) 67108863)
theorem restS_length (ys : List Int) (i : Nat) : (restS ys i).length = ys.length := by simp [restS]
def restK (xs : List Int) : Nat → List Int
 | 0 => xs.set 0 (IntKind.u64.wrap (xs.getD 0 0 + 5))
 | i + 1 => restS (restK xs i) i
theorem restK_zero (xs : List Int) : restK xs 0 = xs.set 0 (IntKind.u64.wrap (xs.getD 0 0 + 5)) := rfl
theorem restK_succ (xs : List Int) (i : Nat) : restK xs (i + 1) = restS (restK xs i) i := rfl
theorem restK_length (xs : List Int) (i : Nat) : (restK xs i).length = xs.length := by
 induction i with
 | zero => simp [restK_zero]
 | succ i ih => rw [restK_succ, restS_length, ih]
attribute [irreducible] restK
def restP (xs : List Int) : List Int := if 0 < (restK xs 4).getD 4 0 / 2 ^ 26 then (restK xs 4).set 4 (iand .u64 ((restK xs 4).getD 4 0) 67108863) else xs
theorem restP_yes {xs : List Int} (h : 0 < (restK xs 4).getD 4 0 / 2 ^ 26) : restP xs = (restK xs 4).set 4 (iand .u64 ((restK xs 4).getD 4 0) 67108863) := if_pos h
theorem restP_no {xs : List Int} (h : ¬ 0 < (restK xs 4).getD 4 0 / 2 ^ 26) : restP xs = xs := if_neg h
attribute [irreducible] restP
def clS (ys : List Int) (j : Nat) : List Int :=
 (ys.set (4 * j + 3) (iand .u8 (ys.getD (4 * j + 3) 0) 15)).set ((4 * j + 4) % 16) (iand .u8 ((ys.set (4 * j + 3) (iand .u8 (ys.getD (4 * j + 3) 0) 15)).getD ((4 * j + 4) % 16) 0) (ior .u8 252 (IntKind.u8.wrap (3 * (((4 * j + 3 : Nat) : Int) / 15)))))
theorem clS_length (ys : List Int) (i : Nat) : (clS ys i).length = ys.length := by simp [clS]
def clK (xs : List Int) : Nat → List Int
 | 0 => xs
 | j + 1 => clS (clK xs j) j
theorem clK_zero (xs : List Int) : clK xs 0 = xs := rfl
theorem clK_succ (xs : List Int) (j : Nat) : clK xs (j + 1) = clS (clK xs j) j := rfl
theorem clK_length (xs : List Int) (i : Nat) : (clK xs i).length = xs.length := by
 induction i with
 | zero => rfl
 | succ i ih => rw [clK_succ, clS_length, ih]
attribute [irreducible] clK ofL
theorem grps_bit26 {V i : Nat} (hi : i < 130) : (grp 26 130 V (i / 26)) / 2 ^ (i % 26) % 2 = V / 2 ^ i % 2 := by
 rw [bit01, bit01, grp_bit, Nat.div_add_mod, decide_eq_true (Nat.mod_lt i (by decide : 0 < 26)), decide_eq_true hi]
 simp
theorem bytes_step {V i : Nat} (hi : i < 128) :
  (grps 8 16 i V).set ((i : Int) / 8).toNat (ior .u8 ((grps 8 16 i V).getD ((i : Int) / 8).toNat 0) (IntKind.u8.wrap (IntKind.u8.wrap (iand .u64 ((grps 26 5 130 V).getD ((i : Int) / 26).toNat 0 / 2 ^ min ((i : Int) % 26).toNat IntKind.u64.bits) 1) * 2 ^ min ((i : Int) % 8).toNat IntKind.u8.bits))) = grps 8 16 (i + 1) V := by
 rw [← grps_succ 8 16 i V (by decide) (by omega), show ((i : Int) / 8).toNat = i / 8 from by omega, show ((i : Int) / 26).toNat = i / 26 from by omega]
 rw [show min ((i : Int) % 26).toNat IntKind.u64.bits = i % 26 from by show min _ 64 = _; omega, show min ((i : Int) % 8).toNat IntKind.u8.bits = i % 8 from by show min _ 8 = _; omega]
 rw [grps_getD (by omega : i / 8 < 16), grps_getD (by omega : i / 26 < 5)]
 have h1 : ((grp 26 130 V (i / 26) : Nat) : Int) / 2 ^ (i % 26) = ((grp 26 130 V (i / 26) / 2 ^ (i % 26) : Nat) : Int) := by simp
 have hlt : grp 26 130 V (i / 26) / 2 ^ (i % 26) < 2 ^ 26 := Nat.lt_of_le_of_lt (Nat.div_le_self _ _) (grp_lt 26 130 V _)
 have hq := grps_bit26 (V := V) (i := i) (by omega)
 rw [h1]
 generalize grp 26 130 V (i / 26) / 2 ^ (i % 26) = q at hlt hq
 rw [mask_u64 1 (by decide) (by omega) (by omega) 1 (by decide), ← Int.natCast_emod, show q % 2 ^ 1 = V / 2 ^ i % 2 from hq]
 have hb : V / 2 ^ i % 2 < 2 := Nat.mod_lt _ (by decide)
 generalize V / 2 ^ i % 2 = b at hb
 have hp : (2 : Nat) ^ (i % 8) ≤ 2 ^ 7 := Nat.pow_le_pow_right (by decide) (by omega)
 have hm : b * 2 ^ (i % 8) ≤ 1 * 2 ^ 7 := Nat.mul_le_mul (by omega) hp
 have e : (((b : Nat) : Int) * 2 ^ (i % 8)) = ((b * 2 ^ (i % 8) : Nat) : Int) := by simp
 rw [wrap_u8_in (x := ((b : Nat) : Int)) (by omega) (by omega), e, wrap_u8_in (by omega) (by omega), ior_u8 (grp_lt 8 i V _) (by omega)]
theorem clamp_start {l : List UInt8} (h : l.length = 16) : (List.take 0 (List.replicate 17 (0 : Int)) ++ (ofB l).take (min l.length 17) ++ List.drop (0 + ((ofB l).take (min l.length 17)).length) (List.replicate 17 (0 : Int))) = ofB l ++ [0] := by
 rw [h, show min 16 17 = 16 from rfl, List.take_zero, List.nil_append, List.take_of_length_le (by rw [ofB_length]; omega), ofB_length, h]
 rfl
theorem list16 {α : Type} {l : List α} (h : l.length = 16) : ∃ a0 a1 a2 a3 a4 a5 a6 a7 a8 a9 a10 a11 a12 a13 a14 a15, l = [a0, a1, a2, a3, a4, a5, a6, a7, a8, a9, a10, a11, a12, a13, a14, a15] := by
 match l, h with
 | [a0, a1, a2, a3, a4, a5, a6, a7, a8, a9, a10, a11, a12, a13, a14, a15], _ => exact ⟨a0, a1, a2, a3, a4, a5, a6, a7, a8, a9, a10, a11, a12, a13, a14, a15, rfl⟩
theorem and_byte (a : UInt8) (m : Nat) (hm : m < 256) : iand .u8 ((a.toNat : Nat) : Int) (m : Int) = (((a.toNat &&& m : Nat)) : Int) := iand_u8 (by have := a.toNat_lt; omega) (by omega)
/-- The bits of the key that do not count are left out. -/
def clL (l : List UInt8) : List UInt8 := (List.range 16).map fun i => if i % 4 = 3 then l.getD i 0 &&& 15 else if i % 4 = 0 ∧ 0 < i then l.getD i 0 &&& 252 else l.getD i 0
theorem clK_eq {l : List UInt8} (h : l.length = 16) : clK (ofB l ++ [0]) 4 = ofB (clL l) ++ [0] := by
 obtain ⟨a0, a1, a2, a3, a4, a5, a6, a7, a8, a9, a10, a11, a12, a13, a14, a15, rfl⟩ := list16 h
 have m15 : ∀ a : UInt8, iand .u8 ((a.toNat : Nat) : Int) 15 = (((a &&& 15).toNat : Nat) : Int) := fun a => by rw [show (15 : Int) = ((15 : Nat) : Int) from rfl, and_byte a 15 (by decide), UInt8.toNat_and]; rfl
 have m252 : ∀ a : UInt8, iand .u8 ((a.toNat : Nat) : Int) 252 = (((a &&& 252).toNat : Nat) : Int) := fun a => by rw [show (252 : Int) = ((252 : Nat) : Int) from rfl, and_byte a 252 (by decide), UInt8.toNat_and]; rfl
 have m255 : ∀ a : UInt8, iand .u8 ((a.toNat : Nat) : Int) 255 = ((a.toNat : Nat) : Int) := fun a => by
  rw [show (255 : Int) = ((255 : Nat) : Int) from rfl, and_byte a 255 (by decide), show (255 : Nat) = 2 ^ 8 - 1 from rfl, Nat.and_two_pow_sub_one_eq_mod, Nat.mod_eq_of_lt a.toNat_lt]
 have k0 : ior .u8 252 (IntKind.u8.wrap (3 * (((4 * 0 + 3 : Nat) : Int) / 15))) = 252 := by decide
 have k1 : ior .u8 252 (IntKind.u8.wrap (3 * (((4 * 1 + 3 : Nat) : Int) / 15))) = 252 := by decide
 have k2 : ior .u8 252 (IntKind.u8.wrap (3 * (((4 * 2 + 3 : Nat) : Int) / 15))) = 252 := by decide
 have k3 : ior .u8 252 (IntKind.u8.wrap (3 * (((4 * 3 + 3 : Nat) : Int) / 15))) = 255 := by decide
 simp only [clK_succ, clK_zero, clS, k0, k1, k2, k3]
 simp only [ofB, List.map_cons, List.map_nil, List.cons_append, List.nil_append, Nat.mul_zero, Nat.zero_add, Nat.mul_one, Nat.reduceMul, Nat.reduceAdd, Nat.reduceMod, List.set_cons_succ, List.set_cons_zero, List.getD_cons_succ, List.getD_cons_zero, m15, m252, m255]
 rfl
theorem bytesL_ofB (l : List UInt8) : BytesL (ofB l) := fun j => by rw [ofB_getD]; exact bt_range l j
theorem bytesL_app0 (l : List UInt8) : BytesL (ofB l ++ [0]) := fun j => by
 rw [List.getD_eq_getElem?_getD, List.getElem?_append]
 split
 ·have := bt_range l j; rw [← ofB_getD, List.getD_eq_getElem?_getD] at this; exact this
 ·rw [List.getElem?_cons]; split <;> simp
theorem cl_bytes {l : List UInt8} (h : l.length = 16) : BytesL (clK (ofB l ++ [0]) 4) := by rw [clK_eq h]; exact bytesL_app0 _
end Go.Proofs.YtfpoldogcopmpaaGreatDoor.Po
end
section
namespace Go.Proofs.YtfpoldogcopmpaaGreatDoor.Po
open Go Go.RowKit D
set_option linter.unusedVariables false
set_option linter.unusedSimpArgs false
set_option maxHeartbeats 1000000
def pp : Int := 1361129467683753853853498429727072845819
def Cg (x y : Int) : Prop := ∃ q, x = y + q * pp
theorem Cg.refl (x : Int) : Cg x x := ⟨0, by omega⟩
theorem Cg.trans {x y z : Int} (h : Cg x y) (k : Cg y z) : Cg x z := by obtain ⟨q, h⟩ := h; obtain ⟨r, k⟩ := k; exact ⟨q + r, by grind⟩
theorem Cg.add {x y z w : Int} (h : Cg x y) (k : Cg z w) : Cg (x + z) (y + w) := by obtain ⟨q, h⟩ := h; obtain ⟨r, k⟩ := k; exact ⟨q + r, by grind⟩
theorem Cg.mul {x y z w : Int} (h : Cg x y) (k : Cg z w) : Cg (x * z) (y * w) := by obtain ⟨q, h⟩ := h; obtain ⟨r, k⟩ := k; exact ⟨q * w + y * r + q * r * pp, by grind⟩
theorem Cg.mod (x : Int) : Cg x (x % pp) := ⟨x / pp, by have := Int.emod_add_mul_ediv x pp; grind⟩
theorem Cg.same {x y : Int} (h : Cg x y) (hx : 0 ≤ x ∧ x < pp) (hy : 0 ≤ y ∧ y < pp) : x = y := by
 obtain ⟨q, h⟩ := h
 have h1 : x % pp = y % pp := by rw [h, Int.add_mul_emod_self_right]
 rwa [Int.emod_eq_of_lt hx.1 hx.2, Int.emod_eq_of_lt hy.1 hy.2] at h1
/-- All are from 0 to K. -/
def Ent (K : Int) (xs : List Int) : Prop := ∀ x ∈ xs, 0 ≤ x ∧ x ≤ K
theorem Ent.getD {K : Int} {xs : List Int} (h : Ent K xs) (hK : 0 ≤ K) (j : Nat) : 0 ≤ xs.getD j 0 ∧ xs.getD j 0 ≤ K := by
 by_cases hj : j < xs.length
 ·rw [List.getD_eq_getElem?_getD, List.getElem?_eq_getElem hj]; exact h _ (List.getElem_mem hj)
 ·rw [List.getD_eq_getElem?_getD, List.getElem?_eq_none (by omega)]; exact ⟨Int.le_refl 0, hK⟩
theorem Ent.set {K : Int} {xs : List Int} (h : Ent K xs) {j : Nat} {y : Int} (hy : 0 ≤ y ∧ y ≤ K) : Ent K (xs.set j y) := fun x hx => by
 rcases List.mem_or_eq_of_mem_set hx with hx | rfl
 ·exact h x hx
 ·exact hy
theorem Ent.mono {K K' : Int} {xs : List Int} (h : Ent K xs) (hk : K ≤ K') : Ent K' xs := fun x hx => ⟨(h x hx).1, Int.le_trans (h x hx).2 hk⟩
theorem Ent.zero {K : Int} (hK : 0 ≤ K) (n : Nat) : Ent K (List.replicate n 0) := fun x hx => by rw [List.eq_of_mem_replicate hx]; exact ⟨Int.le_refl 0, hK⟩
theorem Ent.of {K : Int} {xs : List Int} (h : ∀ j, j < xs.length → 0 ≤ xs.getD j 0 ∧ xs.getD j 0 ≤ K) : Ent K xs := fun x hx => by
 obtain ⟨j, hj, rfl⟩ := List.getElem_of_mem hx
 have := h j hj
 rwa [List.getD_eq_getElem?_getD, List.getElem?_eq_getElem hj] at this
theorem val_zero (W : Int) (n : Nat) : val W (List.replicate n 0) = 0 := by
 induction n with
 | zero => rfl
 | succ n ih => simp [List.replicate_succ, val, ih]
theorem val_take_succ (W : Int) (xs : List Int) {j : Nat} (h : j < xs.length) : val W (xs.take (j + 1)) = val W (xs.take j) + xs.getD j 0 * W ^ j := by
 rw [List.take_succ_eq_append_getElem h, val_app, List.length_take, Nat.min_eq_left (by omega), List.getD_eq_getElem?_getD, List.getElem?_eq_getElem h]
 simp [val]; grind
theorem mul_bd {a b A B : Int} (ha : 0 ≤ a ∧ a ≤ A) (hb : 0 ≤ b ∧ b ≤ B) : 0 ≤ a * b ∧ a * b ≤ A * B :=
 ⟨Int.mul_nonneg ha.1 hb.1, Int.mul_le_mul ha.2 hb.2 hb.1 (Int.le_trans ha.1 ha.2)⟩
theorem wr5 {x : Int} (h : 0 ≤ x) (h1 : x < 18446744073709551616) : IntKind.u64.wrap x = x := by first | exact wrap_u64_in h h1 | exact wrap_i64_in (by omega) (by omega)
theorem mk5 {x : Int} (h : 0 ≤ x) (h1 : x < 18446744073709551616) : iand .u64 x 67108863 = x % 67108864 := by first | exact mask_u64 26 (by decide) h h1 67108863 (by decide) | exact mask_i64 26 (by decide) h h1 67108863 (by decide)
theorem W5 : (67108864 : Int) ^ 5 = pp + 5 := by decide
structure Car5 (X : Int) (xs ys : List Int) (c : Int) (i : Nat) : Prop where
 len : ys.length = 5
 c0 : 0 ≤ c
 cX : c * 67108863 ≤ X
 lo : ∀ t, t < i → 0 ≤ ys.getD t 0 ∧ ys.getD t 0 < 67108864
 hi : ∀ t, i ≤ t → ys.getD t 0 = xs.getD t 0
 v : val 67108864 ys + c * 67108864 ^ i = val 67108864 xs
theorem car5 {X : Int} {xs : List Int} (hl : xs.length = 5) (hX : 0 ≤ X ∧ 2 * X < 18446744073709551616) (h : Ent X xs) : ∀ i, i ≤ 5 → Car5 X xs (carK .u64 67108864 67108863 xs i).1 (carK .u64 67108864 67108863 xs i).2 i := by
 intro i
 induction i with
 | zero => intro _; rw [carK_zero]; exact ⟨hl, Int.le_refl 0, by omega, fun t ht => by omega, fun _ _ => rfl, by simp⟩
 | succ i ih =>
  intro hi
  obtain ⟨i1, i2, i3, i4, i5, i6⟩ := ih (by omega)
  rw [carK_succ]
  generalize (carK .u64 67108864 67108863 xs i).1 = ys at *
  generalize (carK .u64 67108864 67108863 xs i).2 = c at *
  have hx := h.getD hX.1 i
  have e : ys.getD i 0 = xs.getD i 0 := i5 i (Nat.le_refl i)
  rw [e]
  rw [wr5 (x := xs.getD i 0 + c) (by omega) (by omega), mk5 (by omega) (by omega)]
  refine ⟨by simp [i1], by show 0 ≤ (xs.getD i 0 + c) / 67108864; omega, by show (xs.getD i 0 + c) / 67108864 * 67108863 ≤ X; omega, ?_, ?_, ?_⟩
  ·intro t ht
   by_cases hti : t = i
   ·subst hti; rw [getD_set_self (by omega)]; omega
   ·rw [getD_set_ne (Ne.symm hti)]; exact i4 t (by omega)
  ·intro t ht; rw [getD_set_ne (by omega)]; exact i5 t (by omega)
  ·show val 67108864 (ys.set i ((xs.getD i 0 + c) % 67108864)) + (xs.getD i 0 + c) / 67108864 * 67108864 ^ (i + 1) = _
   rw [val_set _ _ _ _ (by omega), e]
   have hq := Int.emod_add_mul_ediv (xs.getD i 0 + c) 67108864
   generalize (xs.getD i 0 + c) % 67108864 = r at *
   generalize (xs.getD i 0 + c) / 67108864 = q at *
   rw [Int.pow_succ]
   generalize (67108864 : Int) ^ i = w at *
   grind
theorem car15 {X C : Int} {xs : List Int} (hl : xs.length = 5) (hX : 0 ≤ X ∧ 2 * X + 5 * 67108864 < 18446744073709551616) (h : Ent X xs) (hC : X < (C + 1) * 67108863) :
  Cg (val 67108864 (car1 .u64 67108864 67108863 5 xs)) (val 67108864 xs) ∧ (car1 .u64 67108864 67108863 5 xs).length = 5 ∧ (∀ t, 1 ≤ t → 0 ≤ (car1 .u64 67108864 67108863 5 xs).getD t 0 ∧ (car1 .u64 67108864 67108863 5 xs).getD t 0 < 67108864) ∧
   0 ≤ (car1 .u64 67108864 67108863 5 xs).getD 0 0 ∧ (car1 .u64 67108864 67108863 5 xs).getD 0 0 < 67108864 + 5 * C := by
 obtain ⟨i1, i2, i3, i4, i5, i6⟩ := car5 hl ⟨hX.1, by omega⟩ h 5 (Nat.le_refl _)
 unfold car1
 generalize (carK .u64 67108864 67108863 xs 5).1 = ys at *
 generalize (carK .u64 67108864 67108863 xs 5).2 = c at *
 have hc : c ≤ C := by omega
 have h0 := i4 0 (by decide)
 rw [wr5 (x := 5 * c) (by omega) (by omega), wr5 (by omega) (by omega)]
 refine ⟨⟨-c, ?_⟩, by simp [i1], ?_, ?_⟩
 ·rw [val_set _ _ _ _ (by omega), ← i6, W5]; grind
 ·intro t ht
  rw [getD_set_ne (by omega)]
  by_cases htn : t < 5
  ·exact i4 t htn
  ·rw [List.getD_eq_getElem?_getD, List.getElem?_eq_none (by omega)]; simp
 ·rw [getD_set_self (by omega)]; omega
/-- Of digits that are almost carried. -/
theorem near5 {dl : Int} {xs : List Int} (hl : xs.length = 5) (hd : 0 ≤ dl ∧ dl + 5 ≤ 67108864) (h0 : 0 ≤ xs.getD 0 0 ∧ xs.getD 0 0 < 67108864 + dl) (h : ∀ t, 1 ≤ t → 0 ≤ xs.getD t 0 ∧ xs.getD t 0 < 67108864) :
  Cg (val 67108864 (car1 .u64 67108864 67108863 5 xs)) (val 67108864 xs) ∧ (car1 .u64 67108864 67108863 5 xs).length = 5 ∧ (∀ t, 0 ≤ (car1 .u64 67108864 67108863 5 xs).getD t 0 ∧ (car1 .u64 67108864 67108863 5 xs).getD t 0 < 67108864) := by
 have hE : Ent (67108864 + dl) xs := Ent.of fun j _ => by
  rcases Nat.eq_zero_or_pos j with rfl | hj
  ·omega
  ·have := h j hj; omega
 obtain ⟨j1, j2, j3, j4⟩ := car15 (X := 67108864 + dl) (C := 2) hl (by omega) hE (by omega)
 refine ⟨j1, j2, ?_⟩
 have key : ∀ i, 1 ≤ i → i ≤ 5 → (carK .u64 67108864 67108863 xs i).2 ≤ 1 ∧ ((carK .u64 67108864 67108863 xs i).2 = 1 → (carK .u64 67108864 67108863 xs i).1.getD 0 0 < dl) := by
  intro i
  induction i with
  | zero => intro hi; omega
  | succ i ih =>
   intro _ hi
   obtain ⟨i1, i2, i3, i4, i5, i6⟩ := car5 hl ⟨by omega, by omega⟩ hE i (by omega)
   rw [carK_succ]
   have e := i5 i (Nat.le_refl i)
   rcases Nat.eq_zero_or_pos i with rfl | hpos
   ·rw [carK_zero] at e ⊢
    simp only [Int.add_zero]
    rw [wr5 (by omega) (by omega), mk5 (by omega) (by omega), getD_set_self (by omega)]
    omega
   ·obtain ⟨k1, k2⟩ := ih hpos (by omega)
    have hxi := h i hpos
    generalize (carK .u64 67108864 67108863 xs i).1 = ys at *
    generalize (carK .u64 67108864 67108863 xs i).2 = c at *
    rw [e, wr5 (by omega) (by omega)]
    refine ⟨by show (xs.getD i 0 + c) / 67108864 ≤ 1; omega, ?_⟩
    intro h1
    rw [getD_set_ne (by omega)]
    refine k2 ?_
    have : (xs.getD i 0 + c) / 67108864 = 1 := h1
    omega
 intro t
 rcases Nat.eq_zero_or_pos t with rfl | hpos
 ·obtain ⟨i1, i2, i3, i4, i5, i6⟩ := car5 hl ⟨by omega, by omega⟩ hE 5 (Nat.le_refl _)
  obtain ⟨k1, k2⟩ := key 5 (by decide) (Nat.le_refl _)
  refine ⟨j4.1, ?_⟩
  unfold car1
  generalize (carK .u64 67108864 67108863 xs 5).1 = ys at *
  generalize (carK .u64 67108864 67108863 xs 5).2 = c at *
  have h0 := i4 0 (by decide)
  rw [wr5 (x := 5 * c) (by omega) (by omega), wr5 (by omega) (by omega), getD_set_self (by omega)]
  by_cases hc : c = 1
  ·have := k2 hc; omega
  ·omega
 ·exact j3 t hpos
theorem mulC5 {K A B : Int} {a b : Int} {out : List Int} {i j : Nat} (hl : out.length = 5) (hi : i < 5) (hj : j < 5) (hK : 0 ≤ K) (hM : K + 5 * (A * B) < 18446744073709551616) (hA : 5 * A < 18446744073709551616) (ha : 0 ≤ a ∧ a ≤ A) (hb : 0 ≤ b ∧ b ≤ B) (h : Ent K out) :
  Ent (K + 5 * (A * B)) (mulC .u64 5 a b out i j) ∧ (mulC .u64 5 a b out i j).length = 5 ∧ Cg (val 67108864 (mulC .u64 5 a b out i j)) (val 67108864 out + a * b * 67108864 ^ (i + j)) := by
 have hab := mul_bd ha hb
 have h5 : 5 * a * b = 5 * (a * b) := by rw [Int.mul_assoc]
 refine ⟨?_, by rw [mulC_length, hl], ?_⟩
 ·by_cases hc : i + j < 5
  ·rw [mulC_lt hc]
   have hg := h.getD hK (i + j)
   rw [wr5 (x := a * b) (by omega) (by omega), wr5 (by omega) (by omega)]
   exact (h.mono (by omega)).set (by omega)
  ·rw [mulC_ge hc]
   have hg := h.getD hK (i + j - 5)
   rw [wr5 (x := 5 * a) (by omega) (by omega), h5, wr5 (x := 5 * (a * b)) (by omega) (by omega), wr5 (by omega) (by omega)]
   exact (h.mono (by omega)).set (by omega)
 ·by_cases hc : i + j < 5
  ·rw [mulC_lt hc]
   have hg := h.getD hK (i + j)
   rw [wr5 (x := a * b) (by omega) (by omega), wr5 (by omega) (by omega), val_set _ _ _ _ (by omega)]
   exact ⟨0, by grind⟩
  ·rw [mulC_ge hc]
   have hg := h.getD hK (i + j - 5)
   rw [wr5 (x := 5 * a) (by omega) (by omega), h5, wr5 (x := 5 * (a * b)) (by omega) (by omega), wr5 (by omega) (by omega), val_set _ _ _ _ (by omega)]
   have hp : (67108864 : Int) ^ (i + j) = 67108864 ^ (i + j - 5) * (pp + 5) := by rw [← W5, ← Int.pow_add]; congr 1; omega
   rw [hp]
   exact ⟨-(a * b * 67108864 ^ (i + j - 5)), by grind⟩
theorem mulR5 {K A B : Int} {a : Int} {ys out : List Int} {i : Nat} (hl : out.length = 5) (hy : ys.length = 5) (hi : i < 5) (hK : 0 ≤ K) (hB : 0 ≤ B) (hM : K + 5 * (5 * (A * B)) < 18446744073709551616) (hA : 5 * A < 18446744073709551616) (ha : 0 ≤ a ∧ a ≤ A) (h : Ent K out) (hE : Ent B ys) :
  ∀ j : Nat, j ≤ 5 → Ent (K + (j : Int) * (5 * (A * B))) (mulR .u64 5 a ys out i j) ∧ (mulR .u64 5 a ys out i j).length = 5 ∧ Cg (val 67108864 (mulR .u64 5 a ys out i j)) (val 67108864 out + a * 67108864 ^ i * val 67108864 (ys.take j)) := by
 have hAB : 0 ≤ A * B := Int.mul_nonneg (Int.le_trans ha.1 ha.2) hB
 intro j
 induction j with
 | zero => intro _; rw [mulR_zero]; exact ⟨by simpa using h, hl, 0, by simp [val]⟩
 | succ j ih =>
  intro hj
  obtain ⟨k1, k2, k3⟩ := ih (by omega)
  rw [mulR_succ]
  have hjb : ((j : Nat) : Int) * (5 * (A * B)) ≤ 4 * (5 * (A * B)) := Int.mul_le_mul_of_nonneg_right (by omega) (by omega)
  have hj0 : 0 ≤ ((j : Nat) : Int) * (5 * (A * B)) := Int.mul_nonneg (by omega) (by omega)
  obtain ⟨c1, c2, c3⟩ := mulC5 (b := ys.getD j 0) (B := B) k2 hi (by omega : j < 5) (by omega) (by omega) hA ha (hE.getD hB j) k1
  refine ⟨?_, c2, ?_⟩
  ·have e : K + ((j + 1 : Nat) : Int) * (5 * (A * B)) = K + (j : Int) * (5 * (A * B)) + 5 * (A * B) := by simp only [Int.natCast_add, Int.add_mul]; omega
   rw [e]; exact c1
  ·refine c3.trans ((k3.add (Cg.refl _)).trans ?_)
   rw [val_take_succ _ _ (by omega), Int.pow_add]
   exact ⟨0, by grind⟩
theorem mulA5 {A B : Int} {xs ys : List Int} (hx : xs.length = 5) (hy : ys.length = 5) (hA0 : 0 ≤ A) (hB : 0 ≤ B) (hM : 25 * (5 * (A * B)) < 18446744073709551616) (hA : 5 * A < 18446744073709551616) (hEx : Ent A xs) (hEy : Ent B ys) :
  ∀ i : Nat, i ≤ 5 → Ent ((i : Int) * (5 * (5 * (A * B)))) (mulA .u64 5 xs ys i) ∧ Cg (val 67108864 (mulA .u64 5 xs ys i)) (val 67108864 (xs.take i) * val 67108864 ys) := by
 have hAB : 0 ≤ A * B := Int.mul_nonneg hA0 hB
 intro i
 induction i with
 | zero => intro _; rw [mulA_zero]; exact ⟨Ent.zero (by simp) _, 0, by rw [val_zero]; simp [val]⟩
 | succ i ih =>
  intro hi
  obtain ⟨k1, k2⟩ := ih (by omega)
  rw [mulA_succ]
  have hib : ((i : Nat) : Int) * (5 * (5 * (A * B))) ≤ 4 * (5 * (5 * (A * B))) := Int.mul_le_mul_of_nonneg_right (by omega) (by omega)
  have hi0 : 0 ≤ ((i : Nat) : Int) * (5 * (5 * (A * B))) := Int.mul_nonneg (by omega) (by omega)
  obtain ⟨c1, c2, c3⟩ := mulR5 (mulA_length _ _ _ _ _) hy (by omega : i < 5) hi0 hB (by omega) hA (hEx.getD hA0 i) k1 hEy 5 (Nat.le_refl _)
  refine ⟨?_, ?_⟩
  ·have e : ((i + 1 : Nat) : Int) * (5 * (5 * (A * B))) = (i : Int) * (5 * (5 * (A * B))) + ((5 : Nat) : Int) * (5 * (A * B)) := by grind
   rw [e]; exact c1
  ·refine c3.trans ((k2.add (Cg.refl _)).trans ?_)
   rw [val_take_succ _ xs (by omega), List.take_of_length_le (l := ys) (by omega)]
   exact ⟨0, by grind⟩
theorem wr10 {x : Int} (h : 0 ≤ x) (h1 : x < 9223372036854775808) : IntKind.i64.wrap x = x := by first | exact wrap_u64_in h h1 | exact wrap_i64_in (by omega) (by omega)
theorem mk10 {x : Int} (h : 0 ≤ x) (h1 : x < 9223372036854775808) : iand .i64 x 8191 = x % 8192 := by first | exact mask_u64 13 (by decide) h h1 8191 (by decide) | exact mask_i64 13 (by decide) h h1 8191 (by decide)
theorem W10 : (8192 : Int) ^ 10 = pp + 5 := by decide
structure Car10 (X : Int) (xs ys : List Int) (c : Int) (i : Nat) : Prop where
 len : ys.length = 10
 c0 : 0 ≤ c
 cX : c * 8191 ≤ X
 lo : ∀ t, t < i → 0 ≤ ys.getD t 0 ∧ ys.getD t 0 < 8192
 hi : ∀ t, i ≤ t → ys.getD t 0 = xs.getD t 0
 v : val 8192 ys + c * 8192 ^ i = val 8192 xs
theorem car10 {X : Int} {xs : List Int} (hl : xs.length = 10) (hX : 0 ≤ X ∧ 2 * X < 9223372036854775808) (h : Ent X xs) : ∀ i, i ≤ 10 → Car10 X xs (carK .i64 8192 8191 xs i).1 (carK .i64 8192 8191 xs i).2 i := by
 intro i
 induction i with
 | zero => intro _; rw [carK_zero]; exact ⟨hl, Int.le_refl 0, by omega, fun t ht => by omega, fun _ _ => rfl, by simp⟩
 | succ i ih =>
  intro hi
  obtain ⟨i1, i2, i3, i4, i5, i6⟩ := ih (by omega)
  rw [carK_succ]
  generalize (carK .i64 8192 8191 xs i).1 = ys at *
  generalize (carK .i64 8192 8191 xs i).2 = c at *
  have hx := h.getD hX.1 i
  have e : ys.getD i 0 = xs.getD i 0 := i5 i (Nat.le_refl i)
  rw [e]
  rw [wr10 (x := xs.getD i 0 + c) (by omega) (by omega), mk10 (by omega) (by omega)]
  refine ⟨by simp [i1], by show 0 ≤ (xs.getD i 0 + c) / 8192; omega, by show (xs.getD i 0 + c) / 8192 * 8191 ≤ X; omega, ?_, ?_, ?_⟩
  ·intro t ht
   by_cases hti : t = i
   ·subst hti; rw [getD_set_self (by omega)]; omega
   ·rw [getD_set_ne (Ne.symm hti)]; exact i4 t (by omega)
  ·intro t ht; rw [getD_set_ne (by omega)]; exact i5 t (by omega)
  ·show val 8192 (ys.set i ((xs.getD i 0 + c) % 8192)) + (xs.getD i 0 + c) / 8192 * 8192 ^ (i + 1) = _
   rw [val_set _ _ _ _ (by omega), e]
   have hq := Int.emod_add_mul_ediv (xs.getD i 0 + c) 8192
   generalize (xs.getD i 0 + c) % 8192 = r at *
   generalize (xs.getD i 0 + c) / 8192 = q at *
   rw [Int.pow_succ]
   generalize (8192 : Int) ^ i = w at *
   grind
theorem car110 {X C : Int} {xs : List Int} (hl : xs.length = 10) (hX : 0 ≤ X ∧ 2 * X + 5 * 8192 < 9223372036854775808) (h : Ent X xs) (hC : X < (C + 1) * 8191) :
  Cg (val 8192 (car1 .i64 8192 8191 10 xs)) (val 8192 xs) ∧ (car1 .i64 8192 8191 10 xs).length = 10 ∧ (∀ t, 1 ≤ t → 0 ≤ (car1 .i64 8192 8191 10 xs).getD t 0 ∧ (car1 .i64 8192 8191 10 xs).getD t 0 < 8192) ∧
   0 ≤ (car1 .i64 8192 8191 10 xs).getD 0 0 ∧ (car1 .i64 8192 8191 10 xs).getD 0 0 < 8192 + 5 * C := by
 obtain ⟨i1, i2, i3, i4, i5, i6⟩ := car10 hl ⟨hX.1, by omega⟩ h 10 (Nat.le_refl _)
 unfold car1
 generalize (carK .i64 8192 8191 xs 10).1 = ys at *
 generalize (carK .i64 8192 8191 xs 10).2 = c at *
 have hc : c ≤ C := by omega
 have h0 := i4 0 (by decide)
 rw [wr10 (x := 5 * c) (by omega) (by omega), wr10 (by omega) (by omega)]
 refine ⟨⟨-c, ?_⟩, by simp [i1], ?_, ?_⟩
 ·rw [val_set _ _ _ _ (by omega), ← i6, W10]; grind
 ·intro t ht
  rw [getD_set_ne (by omega)]
  by_cases htn : t < 10
  ·exact i4 t htn
  ·rw [List.getD_eq_getElem?_getD, List.getElem?_eq_none (by omega)]; simp
 ·rw [getD_set_self (by omega)]; omega
/-- Of digits that are almost carried. -/
theorem near10 {dl : Int} {xs : List Int} (hl : xs.length = 10) (hd : 0 ≤ dl ∧ dl + 5 ≤ 8192) (h0 : 0 ≤ xs.getD 0 0 ∧ xs.getD 0 0 < 8192 + dl) (h : ∀ t, 1 ≤ t → 0 ≤ xs.getD t 0 ∧ xs.getD t 0 < 8192) :
  Cg (val 8192 (car1 .i64 8192 8191 10 xs)) (val 8192 xs) ∧ (car1 .i64 8192 8191 10 xs).length = 10 ∧ (∀ t, 0 ≤ (car1 .i64 8192 8191 10 xs).getD t 0 ∧ (car1 .i64 8192 8191 10 xs).getD t 0 < 8192) := by
 have hE : Ent (8192 + dl) xs := Ent.of fun j _ => by
  rcases Nat.eq_zero_or_pos j with rfl | hj
  ·omega
  ·have := h j hj; omega
 obtain ⟨j1, j2, j3, j4⟩ := car110 (X := 8192 + dl) (C := 2) hl (by omega) hE (by omega)
 refine ⟨j1, j2, ?_⟩
 have key : ∀ i, 1 ≤ i → i ≤ 10 → (carK .i64 8192 8191 xs i).2 ≤ 1 ∧ ((carK .i64 8192 8191 xs i).2 = 1 → (carK .i64 8192 8191 xs i).1.getD 0 0 < dl) := by
  intro i
  induction i with
  | zero => intro hi; omega
  | succ i ih =>
   intro _ hi
   obtain ⟨i1, i2, i3, i4, i5, i6⟩ := car10 hl ⟨by omega, by omega⟩ hE i (by omega)
   rw [carK_succ]
   have e := i5 i (Nat.le_refl i)
   rcases Nat.eq_zero_or_pos i with rfl | hpos
   ·rw [carK_zero] at e ⊢
    simp only [Int.add_zero]
    rw [wr10 (by omega) (by omega), mk10 (by omega) (by omega), getD_set_self (by omega)]
    omega
   ·obtain ⟨k1, k2⟩ := ih hpos (by omega)
    have hxi := h i hpos
    generalize (carK .i64 8192 8191 xs i).1 = ys at *
    generalize (carK .i64 8192 8191 xs i).2 = c at *
    rw [e, wr10 (by omega) (by omega)]
    refine ⟨by show (xs.getD i 0 + c) / 8192 ≤ 1; omega, ?_⟩
    intro h1
    rw [getD_set_ne (by omega)]
    refine k2 ?_
    have : (xs.getD i 0 + c) / 8192 = 1 := h1
    omega
 intro t
 rcases Nat.eq_zero_or_pos t with rfl | hpos
 ·obtain ⟨i1, i2, i3, i4, i5, i6⟩ := car10 hl ⟨by omega, by omega⟩ hE 10 (Nat.le_refl _)
  obtain ⟨k1, k2⟩ := key 10 (by decide) (Nat.le_refl _)
  refine ⟨j4.1, ?_⟩
  unfold car1
  generalize (carK .i64 8192 8191 xs 10).1 = ys at *
  generalize (carK .i64 8192 8191 xs 10).2 = c at *
  have h0 := i4 0 (by decide)
  rw [wr10 (x := 5 * c) (by omega) (by omega), wr10 (by omega) (by omega), getD_set_self (by omega)]
  by_cases hc : c = 1
  ·have := k2 hc; omega
  ·omega
 ·exact j3 t hpos
theorem mulC10 {K A B : Int} {a b : Int} {out : List Int} {i j : Nat} (hl : out.length = 10) (hi : i < 10) (hj : j < 10) (hK : 0 ≤ K) (hM : K + 5 * (A * B) < 9223372036854775808) (hA : 5 * A < 9223372036854775808) (ha : 0 ≤ a ∧ a ≤ A) (hb : 0 ≤ b ∧ b ≤ B) (h : Ent K out) :
  Ent (K + 5 * (A * B)) (mulC .i64 10 a b out i j) ∧ (mulC .i64 10 a b out i j).length = 10 ∧ Cg (val 8192 (mulC .i64 10 a b out i j)) (val 8192 out + a * b * 8192 ^ (i + j)) := by
 have hab := mul_bd ha hb
 have h5 : 5 * a * b = 5 * (a * b) := by rw [Int.mul_assoc]
 refine ⟨?_, by rw [mulC_length, hl], ?_⟩
 ·by_cases hc : i + j < 10
  ·rw [mulC_lt hc]
   have hg := h.getD hK (i + j)
   rw [wr10 (x := a * b) (by omega) (by omega), wr10 (by omega) (by omega)]
   exact (h.mono (by omega)).set (by omega)
  ·rw [mulC_ge hc]
   have hg := h.getD hK (i + j - 10)
   rw [wr10 (x := 5 * a) (by omega) (by omega), h5, wr10 (x := 5 * (a * b)) (by omega) (by omega), wr10 (by omega) (by omega)]
   exact (h.mono (by omega)).set (by omega)
 ·by_cases hc : i + j < 10
  ·rw [mulC_lt hc]
   have hg := h.getD hK (i + j)
   rw [wr10 (x := a * b) (by omega) (by omega), wr10 (by omega) (by omega), val_set _ _ _ _ (by omega)]
   exact ⟨0, by grind⟩
  ·rw [mulC_ge hc]
   have hg := h.getD hK (i + j - 10)
   rw [wr10 (x := 5 * a) (by omega) (by omega), h5, wr10 (x := 5 * (a * b)) (by omega) (by omega), wr10 (by omega) (by omega), val_set _ _ _ _ (by omega)]
   have hp : (8192 : Int) ^ (i + j) = 8192 ^ (i + j - 10) * (pp + 5) := by rw [← W10, ← Int.pow_add]; congr 1; omega
   rw [hp]
   exact ⟨-(a * b * 8192 ^ (i + j - 10)), by grind⟩
theorem mulR10 {K A B : Int} {a : Int} {ys out : List Int} {i : Nat} (hl : out.length = 10) (hy : ys.length = 10) (hi : i < 10) (hK : 0 ≤ K) (hB : 0 ≤ B) (hM : K + 10 * (5 * (A * B)) < 9223372036854775808) (hA : 5 * A < 9223372036854775808) (ha : 0 ≤ a ∧ a ≤ A) (h : Ent K out) (hE : Ent B ys) :
  ∀ j : Nat, j ≤ 10 → Ent (K + (j : Int) * (5 * (A * B))) (mulR .i64 10 a ys out i j) ∧ (mulR .i64 10 a ys out i j).length = 10 ∧ Cg (val 8192 (mulR .i64 10 a ys out i j)) (val 8192 out + a * 8192 ^ i * val 8192 (ys.take j)) := by
 have hAB : 0 ≤ A * B := Int.mul_nonneg (Int.le_trans ha.1 ha.2) hB
 intro j
 induction j with
 | zero => intro _; rw [mulR_zero]; exact ⟨by simpa using h, hl, 0, by simp [val]⟩
 | succ j ih =>
  intro hj
  obtain ⟨k1, k2, k3⟩ := ih (by omega)
  rw [mulR_succ]
  have hjb : ((j : Nat) : Int) * (5 * (A * B)) ≤ 9 * (5 * (A * B)) := Int.mul_le_mul_of_nonneg_right (by omega) (by omega)
  have hj0 : 0 ≤ ((j : Nat) : Int) * (5 * (A * B)) := Int.mul_nonneg (by omega) (by omega)
  obtain ⟨c1, c2, c3⟩ := mulC10 (b := ys.getD j 0) (B := B) k2 hi (by omega : j < 10) (by omega) (by omega) hA ha (hE.getD hB j) k1
  refine ⟨?_, c2, ?_⟩
  ·have e : K + ((j + 1 : Nat) : Int) * (5 * (A * B)) = K + (j : Int) * (5 * (A * B)) + 5 * (A * B) := by simp only [Int.natCast_add, Int.add_mul]; omega
   rw [e]; exact c1
  ·refine c3.trans ((k3.add (Cg.refl _)).trans ?_)
   rw [val_take_succ _ _ (by omega), Int.pow_add]
   exact ⟨0, by grind⟩
theorem mulA10 {A B : Int} {xs ys : List Int} (hx : xs.length = 10) (hy : ys.length = 10) (hA0 : 0 ≤ A) (hB : 0 ≤ B) (hM : 100 * (5 * (A * B)) < 9223372036854775808) (hA : 5 * A < 9223372036854775808) (hEx : Ent A xs) (hEy : Ent B ys) :
  ∀ i : Nat, i ≤ 10 → Ent ((i : Int) * (10 * (5 * (A * B)))) (mulA .i64 10 xs ys i) ∧ Cg (val 8192 (mulA .i64 10 xs ys i)) (val 8192 (xs.take i) * val 8192 ys) := by
 have hAB : 0 ≤ A * B := Int.mul_nonneg hA0 hB
 intro i
 induction i with
 | zero => intro _; rw [mulA_zero]; exact ⟨Ent.zero (by simp) _, 0, by rw [val_zero]; simp [val]⟩
 | succ i ih =>
  intro hi
  obtain ⟨k1, k2⟩ := ih (by omega)
  rw [mulA_succ]
  have hib : ((i : Nat) : Int) * (10 * (5 * (A * B))) ≤ 9 * (10 * (5 * (A * B))) := Int.mul_le_mul_of_nonneg_right (by omega) (by omega)
  have hi0 : 0 ≤ ((i : Nat) : Int) * (10 * (5 * (A * B))) := Int.mul_nonneg (by omega) (by omega)
  obtain ⟨c1, c2, c3⟩ := mulR10 (mulA_length _ _ _ _ _) hy (by omega : i < 10) hi0 hB (by omega) hA (hEx.getD hA0 i) k1 hEy 10 (Nat.le_refl _)
  refine ⟨?_, ?_⟩
  ·have e : ((i + 1 : Nat) : Int) * (10 * (5 * (A * B))) = (i : Int) * (10 * (5 * (A * B))) + ((10 : Nat) : Int) * (5 * (A * B)) := by grind
   rw [e]; exact c1
  ·refine c3.trans ((k2.add (Cg.refl _)).trans ?_)
   rw [val_take_succ _ xs (by omega), List.take_of_length_le (l := ys) (by omega)]
   exact ⟨0, by grind⟩
end Go.Proofs.YtfpoldogcopmpaaGreatDoor.Po
end
section
namespace Go.Proofs.YtfpoldogcopmpaaGreatDoor.Po
open Go Go.RowKit D
set_option linter.unusedVariables false
set_option linter.unusedSimpArgs false
set_option maxHeartbeats 1000000
/-- The number of bytes, the lowest one first. -/
def numL : List UInt8 → Nat
 | [] => 0
 | c :: l => c.toNat + 256 * numL l
theorem val_ofB (l : List UInt8) : val 256 (ofB l) = (numL l : Int) := by
 induction l with
 | nil => rfl
 | cons c l ih => simp only [ofB, List.map_cons, val, numL] at *; rw [ih]; simp
theorem numL_lt (l : List UInt8) : numL l < 256 ^ l.length := by
 induction l with
 | nil => simp [numL]
 | cons c l ih =>
  have := c.toNat_lt
  simp only [numL, List.length_cons, Nat.pow_succ]
  generalize 256 ^ l.length = q at *
  omega
theorem numL_app (a b : List UInt8) : numL (a ++ b) = numL a + 256 ^ a.length * numL b := by
 induction a with
 | nil => simp [numL]
 | cons c a ih => simp only [List.cons_append, numL, ih, List.length_cons]; grind
/-- One piece: up to 16 bytes, and a 1 behind them. -/
def padB (d : List UInt8) : List UInt8 := d.take 16 ++ 1 :: List.replicate (16 - (d.take 16).length) 0
theorem padB_length (d : List UInt8) : (padB d).length = 17 := by
 have : (d.take 16).length ≤ 16 := List.length_take_le _ _
 simp only [padB, List.length_append, List.length_cons, List.length_replicate]; omega
def blkN (d : List UInt8) : Nat := numL (d.take 16 ++ [1])
theorem numL_zeros (n : Nat) : numL (List.replicate n 0) = 0 := by
 induction n with
 | zero => rfl
 | succ n ih => simp [List.replicate_succ, numL, ih]
theorem numL_pad (d : List UInt8) : numL (padB d) = blkN d := by
 unfold padB blkN
 rw [numL_app, numL_app]
 simp [numL, numL_zeros]
theorem pad_last (d : List UInt8) : (ofB (padB d)).getD 16 0 ≤ 1 := by
 have : (d.take 16).length ≤ 16 := List.length_take_le _ _
 rw [ofB_getD]
 unfold bt padB
 rw [List.getD_eq_getElem?_getD, List.getElem?_append_right this]
 cases h : 16 - (d.take 16).length with
 | zero => simp
 | succ n => simp only [List.getElem?_cons_succ, List.getElem?_replicate]; split <;> simp
theorem list17 {α : Type} {l : List α} (h : l.length = 17) : ∃ a0 a1 a2 a3 a4 a5 a6 a7 a8 a9 a10 a11 a12 a13 a14 a15 a16, l = [a0, a1, a2, a3, a4, a5, a6, a7, a8, a9, a10, a11, a12, a13, a14, a15, a16] := by
 match l, h with
 | [a0, a1, a2, a3, a4, a5, a6, a7, a8, a9, a10, a11, a12, a13, a14, a15, a16], _ => exact ⟨a0, a1, a2, a3, a4, a5, a6, a7, a8, a9, a10, a11, a12, a13, a14, a15, a16, rfl⟩
theorem list5 {α : Type} {l : List α} (h : l.length = 5) : ∃ a0 a1 a2 a3 a4, l = [a0, a1, a2, a3, a4] := by
 match l, h with
 | [a0, a1, a2, a3, a4], _ => exact ⟨a0, a1, a2, a3, a4, rfl⟩
theorem of_spec {xs : List Int} (hl : xs.length = 17) (hB : BytesL xs) (h16 : xs.getD 16 0 ≤ 3) : val 67108864 (ofL xs) = val 256 xs ∧ Ent 67108863 (ofL xs) ∧ (ofL xs).length = 5 := by
 obtain ⟨a0, a1, a2, a3, a4, a5, a6, a7, a8, a9, a10, a11, a12, a13, a14, a15, a16, rfl⟩ := list17 hl
 have b0 := hB 0; have b1 := hB 1; have b2 := hB 2; have b3 := hB 3; have b4 := hB 4; have b5 := hB 5; have b6 := hB 6; have b7 := hB 7; have b8 := hB 8
 have b9 := hB 9; have b10 := hB 10; have b11 := hB 11; have b12 := hB 12; have b13 := hB 13; have b14 := hB 14; have b15 := hB 15; have b16 := hB 16
 simp only [List.getD_cons_zero, List.getD_cons_succ] at *
 unfold ofL
 simp only [wd, List.getD_cons_zero, List.getD_cons_succ, Nat.zero_add, Nat.reduceAdd, val]
 refine ⟨by omega, ?_, rfl⟩
 intro x hx
 simp only [List.mem_cons, List.not_mem_nil, or_false] at hx
 rcases hx with rfl | rfl | rfl | rfl | rfl <;> omega
theorem add5 {A B : Int} {xs ys : List Int} (hx : xs.length = 5) (hy : ys.length = 5) (hA : 0 ≤ A) (hB : 0 ≤ B) (hM : A + B < 18446744073709551616) (h1 : Ent A xs) (h2 : Ent B ys) :
  val 67108864 (addK .u64 xs ys 5) = val 67108864 xs + val 67108864 ys ∧ Ent (A + B) (addK .u64 xs ys 5) ∧ (addK .u64 xs ys 5).length = 5 := by
 obtain ⟨a0, a1, a2, a3, a4, rfl⟩ := list5 hx
 obtain ⟨c0, c1, c2, c3, c4, rfl⟩ := list5 hy
 have p0 := h1 a0 (by simp); have p1 := h1 a1 (by simp); have p2 := h1 a2 (by simp); have p3 := h1 a3 (by simp); have p4 := h1 a4 (by simp)
 have q0 := h2 c0 (by simp); have q1 := h2 c1 (by simp); have q2 := h2 c2 (by simp); have q3 := h2 c3 (by simp); have q4 := h2 c4 (by simp)
 have e : addK .u64 [a0, a1, a2, a3, a4] [c0, c1, c2, c3, c4] 5 = [a0 + c0, a1 + c1, a2 + c2, a3 + c3, a4 + c4] := by
  simp only [addK_succ, addK_zero, List.set_cons_zero, List.set_cons_succ, List.getD_cons_zero, List.getD_cons_succ]
  rw [wr5 (by omega) (by omega), wr5 (by omega) (by omega), wr5 (by omega) (by omega), wr5 (by omega) (by omega), wr5 (by omega) (by omega)]
 rw [e]
 refine ⟨by simp only [val]; omega, ?_, rfl⟩
 intro x hx
 simp only [List.mem_cons, List.not_mem_nil, or_false] at hx
 rcases hx with rfl | rfl | rfl | rfl | rfl <;> omega
/-- What is known of the sum ahead of each piece. -/
structure I5 (xs : List Int) (a : Int) : Prop where
 len : xs.length = 5
 lo : 0 ≤ xs.getD 0 0 ∧ xs.getD 0 0 < 67108864 + 7000
 hi : ∀ t, 1 ≤ t → 0 ≤ xs.getD t 0 ∧ xs.getD t 0 < 67108864
 v : Cg (val 67108864 xs) a
theorem I5.zero : I5 (List.replicate 5 0) 0 :=
 ⟨by simp, by simp, fun t _ => by simp only [List.getD_eq_getElem?_getD, List.getElem?_replicate]; split <;> simp, by rw [val_zero]; exact Cg.refl _⟩
theorem I5.ent {xs : List Int} {a : Int} (h : I5 xs a) : Ent 67115863 xs := Ent.of fun j _ => by
 rcases Nat.eq_zero_or_pos j with rfl | hj
 ·have := h.lo; omega
 ·have := h.hi j hj; omega
theorem step5 {xs ys rs : List Int} {a b r : Int} (h : I5 xs a) (hy : ys.length = 5) (hye : Ent 67108863 ys) (hyv : val 67108864 ys = b) (hr : rs.length = 5) (hre : Ent 67108863 rs) (hrv : val 67108864 rs = r) :
  I5 (timesP (addK .u64 xs ys 5) rs) (((a + b) * r) % pp) := by
 obtain ⟨s1, s2, s3⟩ := add5 h.len hy (by decide) (by decide) (by decide) h.ent hye
 obtain ⟨m1, m2⟩ := mulA5 (A := 67115863 + 67108863) (B := 67108863) s3 hr (by decide) (by decide) (by decide) (by decide) s2 hre 5 (by decide)
 rw [List.take_of_length_le (by omega), s1, hyv, hrv] at m2
 have hE : Ent 1125958593543317250 (mulA .u64 5 (addK .u64 xs ys 5) rs 5) := m1.mono (by decide)
 obtain ⟨c1, c2, c3, c4⟩ := car15 (X := 1125958593543317250) (C := 16778090750) (mulA_length _ _ _ _ _) (by decide) hE (by decide)
 unfold timesP
 rw [carR_succ, carR_succ, carR_zero]
 generalize car1 .u64 67108864 67108863 5 (mulA .u64 5 (addK .u64 xs ys 5) rs 5) = zs at *
 have hE2 : Ent (67108864 + 5 * 16778090750) zs := Ent.of fun j _ => by
  rcases Nat.eq_zero_or_pos j with rfl | hj
  ·omega
  ·have := c3 j hj; omega
 obtain ⟨d1, d2, d3, d4⟩ := car15 (X := 67108864 + 5 * 16778090750) (C := 1300) c2 (by decide) hE2 (by decide)
 refine ⟨d2, ⟨d4.1, by omega⟩, d3, ?_⟩
 exact d1.trans (c1.trans (m2.trans ((Cg.mul (h.v.add (Cg.refl _)) (Cg.refl _)).trans (Cg.mod _))))
theorem restS_eq {ys : List Int} {i : Nat} (hl : ys.length = 5) (hi : i < 4) (h0 : 0 ≤ ys.getD i 0 ∧ ys.getD i 0 < 18446744073709551616) (h1 : 0 ≤ ys.getD (i + 1) 0 ∧ ys.getD (i + 1) 0 + ys.getD i 0 / 2 ^ 26 < 18446744073709551616) :
  restS ys i = (ys.set (i + 1) (ys.getD (i + 1) 0 + ys.getD i 0 / 2 ^ 26)).set i (ys.getD i 0 % 67108864) := by
 unfold restS
 rw [wr5 (x := ys.getD (i + 1) 0 + ys.getD i 0 / 2 ^ 26) (by omega) (by omega), getD_set_ne (by omega), mk5 (by omega) (by omega)]
structure RestI (xs ys : List Int) (i : Nat) : Prop where
 len : ys.length = 5
 v : val 67108864 ys = val 67108864 xs + 5
 lo : ∀ t, t < i → 0 ≤ ys.getD t 0 ∧ ys.getD t 0 < 67108864
 at' : 0 ≤ ys.getD i 0 ∧ ys.getD i 0 ≤ 67108864 + 4
 at1 : 1 ≤ i → ys.getD i 0 ≤ 67108864
 hi : ∀ t, i < t → ys.getD t 0 = xs.getD t 0
theorem restI {xs : List Int} (hl : xs.length = 5) (h : ∀ t, 0 ≤ xs.getD t 0 ∧ xs.getD t 0 < 67108864) : ∀ i, i ≤ 4 → RestI xs (restK xs i) i := by
 intro i
 induction i with
 | zero =>
  intro _
  have h0 := h 0
  rw [restK_zero, wr5 (by omega) (by omega)]
  refine ⟨by simp [hl], by rw [val_set _ _ _ _ (by omega)]; simp; omega, fun t ht => by omega, by rw [getD_set_self (by omega)]; omega, fun h => by omega, fun t ht => getD_set_ne (by omega)⟩
 | succ i ih =>
  intro hi
  obtain ⟨i1, i2, i3, i4, i5, i6⟩ := ih (by omega)
  have hx := h (i + 1)
  have e := i6 (i + 1) (by omega)
  rw [restK_succ, restS_eq i1 (by omega) (by omega) (by omega)]
  generalize restK xs i = ys at *
  have hq := Int.emod_add_mul_ediv (ys.getD i 0) 67108864
  refine ⟨by simp [i1], ?_, ?_, ?_, ?_, ?_⟩
  ·rw [val_set _ _ _ _ (by simp; omega), val_set _ _ _ _ (by omega), getD_set_ne (by omega), ← i2, show (2 : Int) ^ 26 = 67108864 from by decide, Int.pow_succ]
   generalize ys.getD i 0 % 67108864 = u at *
   generalize ys.getD i 0 / 67108864 = w at *
   generalize (67108864 : Int) ^ i = z at *
   grind
  ·intro t ht
   by_cases hti : t = i
   ·subst hti; rw [getD_set_self (by simp; omega)]; omega
   ·rw [getD_set_ne (Ne.symm hti), getD_set_ne (by omega)]; exact i3 t (by omega)
  ·rw [getD_set_ne (by omega), getD_set_self (by omega), e]; omega
  ·intro _
   rw [getD_set_ne (by omega), getD_set_self (by omega), e]; omega
  ·intro t ht; rw [getD_set_ne (by omega), getD_set_ne (by omega)]; exact i6 t (by omega)
theorem rest5 {xs : List Int} (hl : xs.length = 5) (h : ∀ t, 0 ≤ xs.getD t 0 ∧ xs.getD t 0 < 67108864) :
  (restP xs).length = 5 ∧ (∀ t, 0 ≤ (restP xs).getD t 0 ∧ (restP xs).getD t 0 < 67108864) ∧ Cg (val 67108864 (restP xs)) (val 67108864 xs) ∧ val 67108864 (restP xs) < pp := by
 obtain ⟨i1, i2, i3, i4, i5, i6⟩ := restI hl h 4 (Nat.le_refl _)
 have hb : ∀ ys : List Int, ys.length = 5 → (∀ t, 0 ≤ ys.getD t 0 ∧ ys.getD t 0 < 67108864) → val 67108864 ys < pp + 5 := fun ys hl h => by
  have := val_lt (W := 67108864) (xs := ys) (by decide) (fun x hx => by
   obtain ⟨j, hj, rfl⟩ := List.getElem_of_mem hx
   have := h j; rwa [List.getD_eq_getElem?_getD, List.getElem?_eq_getElem hj] at this)
  rw [hl, W5] at this; exact this
 have h4 := i5 (by decide)
 by_cases hc : 0 < (restK xs 4).getD 4 0 / 2 ^ 26
 ·rw [restP_yes hc, mk5 (by omega) (by omega)]
  have hV := hb xs hl h
  have e4 : (restK xs 4).getD 4 0 = 67108864 := by omega
  have hv : val 67108864 ((restK xs 4).set 4 ((restK xs 4).getD 4 0 % 67108864)) = val 67108864 xs - pp := by
   rw [val_set _ _ _ _ (by omega), i2, e4]
   have := W5
   unfold pp at *; omega
  refine ⟨by simp [i1], ?_, ?_, ?_⟩
  ·intro t
   by_cases ht : t = 4
   ·subst ht; rw [getD_set_self (by omega)]; omega
   ·rw [getD_set_ne (Ne.symm ht)]
    by_cases ht4 : t < 4
    ·exact i3 t ht4
    ·rw [i6 t (by omega)]; exact h t
  ·rw [hv]; exact ⟨-1, by omega⟩
  ·rw [hv]; unfold pp at *; omega
 ·rw [restP_no hc]
  refine ⟨hl, h, Cg.refl _, ?_⟩
  have := hb (restK xs 4) i1 (fun t => by
   by_cases ht : t < 4
   ·exact i3 t ht
   ·by_cases ht4 : t = 4
    ·subst ht4; omega
    ·rw [i6 t (by omega)]; exact h t)
  omega
/-- Digits of a number that is known. -/
theorem digits_of {g n N : Nat} (hg : 0 < g) {xs : List Int} {a : Int} (hl : xs.length = n) (hN : g * n ≤ N) (h : ∀ t, 0 ≤ xs.getD t 0 ∧ xs.getD t 0 < ((2 ^ g : Nat) : Int)) (hc : Cg (val ((2 ^ g : Nat) : Int) xs) a) (hv : val ((2 ^ g : Nat) : Int) xs < pp) (ha : 0 ≤ a ∧ a < pp) : xs = grps g n N a.toNat := by
 obtain ⟨V, h1, h2, h3⟩ := grps_of g hg (xs.map Int.toNat) N (fun x hx => by
  obtain ⟨y, hy, rfl⟩ := List.mem_map.1 hx
  obtain ⟨j, hj, rfl⟩ := List.getElem_of_mem hy
  have := h j
  rw [List.getD_eq_getElem?_getD, List.getElem?_eq_getElem hj] at this
  simp only [Option.getD_some] at this
  omega) (by simpa [hl] using hN)
 have e : (xs.map Int.toNat).map (fun x : Nat => (x : Int)) = xs := by
  rw [List.map_map]
  conv => rhs; rw [← List.map_id xs]
  apply List.map_congr_left
  intro x hx
  obtain ⟨j, hj, rfl⟩ := List.getElem_of_mem hx
  have := h j
  rw [List.getD_eq_getElem?_getD, List.getElem?_eq_getElem hj] at this
  simp only [Option.getD_some] at this
  simp only [Function.comp, id]; omega
 rw [e] at h1 h3
 have h0 : 0 ≤ val ((2 ^ g : Nat) : Int) xs := by rw [h1]; omega
 have := hc.same ⟨h0, hv⟩ ha
 rw [h1] at this
 rw [← this, Int.toNat_natCast]
 simpa [hl] using h3
theorem fin5 {xs : List Int} {a : Int} (h : I5 xs a) (ha : 0 ≤ a ∧ a < pp) : restP (carR .u64 67108864 67108863 5 xs 2) = grps 26 5 130 a.toNat := by
 rw [carR_succ, carR_succ, carR_zero]
 obtain ⟨c1, c2, c3⟩ := near5 (dl := 7000) h.len (by decide) h.lo h.hi
 obtain ⟨d1, d2, d3⟩ := near5 (dl := 0) c2 (by decide) (by have := c3 0; omega) (fun t _ => c3 t)
 obtain ⟨e1, e2, e3, e4⟩ := rest5 d2 d3
 exact digits_of (by decide) e1 (by decide) e2 (e3.trans (d1.trans (c1.trans h.v))) e4 ha
end Go.Proofs.YtfpoldogcopmpaaGreatDoor.Po
end
section
namespace Go.Proofs.YtfpoldogcopmpaaGreatDoor.Po
open Go Go.RowKit D
set_option linter.unusedVariables false
set_option linter.unusedSimpArgs false
set_option maxHeartbeats 1000000
def cyK (V T i : Nat) : Nat := (V % 256 ^ i + T % 256 ^ i) / 256 ^ i
theorem cyK_zero (V T : Nat) : cyK V T 0 = 0 := by simp [cyK, Nat.mod_one]
theorem cyK_le (V T i : Nat) : cyK V T i ≤ 1 := by
 unfold cyK
 have h1 : V % 256 ^ i < 256 ^ i := Nat.mod_lt _ (Nat.pow_pos (by decide))
 have h2 : T % 256 ^ i < 256 ^ i := Nat.mod_lt _ (Nat.pow_pos (by decide))
 have : (V % 256 ^ i + T % 256 ^ i) / 256 ^ i < 2 := Nat.div_lt_of_lt_mul (by omega)
 omega
theorem cy_sum (V T i : Nat) : cyK V T i + V / 256 ^ i % 256 + T / 256 ^ i % 256 = (V % 256 ^ (i + 1) + T % 256 ^ (i + 1)) / 256 ^ i := by
 unfold cyK
 have hp : 0 < 256 ^ i := Nat.pow_pos (by decide)
 rw [Nat.pow_succ, Nat.mod_mul, Nat.mod_mul]
 have : V % 256 ^ i + 256 ^ i * (V / 256 ^ i % 256) + (T % 256 ^ i + 256 ^ i * (T / 256 ^ i % 256)) = (V % 256 ^ i + T % 256 ^ i) + 256 ^ i * (V / 256 ^ i % 256 + T / 256 ^ i % 256) := by grind
 rw [this, Nat.add_mul_div_left _ _ hp]
 omega
theorem cyK_succ (V T i : Nat) : cyK V T (i + 1) = (cyK V T i + V / 256 ^ i % 256 + T / 256 ^ i % 256) / 256 := by
 rw [cy_sum, Nat.div_div_eq_div_mul, ← Nat.pow_succ]; rfl
theorem cy_byte (V T i : Nat) : (cyK V T i + V / 256 ^ i % 256 + T / 256 ^ i % 256) % 256 = (V + T) / 256 ^ i % 256 := by
 rw [cy_sum]
 have hp : 0 < 256 ^ i := Nat.pow_pos (by decide)
 have e : ∀ x, x / 256 ^ i % 256 = x % 256 ^ (i + 1) / 256 ^ i := fun x => by
  rw [Nat.pow_succ, Nat.mod_mul_right_div_self]
 rw [e, e (V + T), ← Nat.add_mod]
/-- The first i bytes of a number. -/
def tagL (T i : Nat) : List Int := (List.range i).map fun t => ((T / 256 ^ t % 256 : Nat) : Int)
theorem tagL_length (T i : Nat) : (tagL T i).length = i := by simp [tagL]
theorem tagL_zero (T : Nat) : tagL T 0 = [] := rfl
theorem tagL_succ (T i : Nat) : tagL T (i + 1) = tagL T i ++ [((T / 256 ^ i % 256 : Nat) : Int)] := by simp [tagL, List.range_succ]
def tagB (T : Nat) : List UInt8 := toB (tagL T 16)
theorem tagB_length (T : Nat) : (tagB T).length = 16 := by simp [tagB, toB_length, tagL_length]
theorem grp8 {V i : Nat} (hi : i < 16) : grp 8 128 V i = V / 256 ^ i % 256 := by
 unfold grp
 apply Nat.eq_of_testBit_eq
 intro t
 rw [show (256 : Nat) = 2 ^ 8 from rfl, ← Nat.pow_mul, Nat.testBit_mod_two_pow, Nat.testBit_div_two_pow, Nat.testBit_mod_two_pow, Nat.testBit_mod_two_pow, Nat.testBit_div_two_pow]
 by_cases ht : t < 8
 ·have : t + 8 * i < 128 := by omega
  simp [ht, this]
 ·simp [ht]
/-- The state of package poly's last loop: i bytes are summed. -/
def outK (V T i : Nat) : List Int := (List.range 16).map fun t => if t < i then (((V + T) / 256 ^ t % 256 : Nat) : Int) else ((grp 8 128 V t : Nat) : Int)
theorem outK_length (V T i : Nat) : (outK V T i).length = 16 := by simp [outK]
theorem outK_zero (V T : Nat) : outK V T 0 = grps 8 16 128 V := by simp [outK, grps]
theorem outK_full (V T : Nat) : outK V T 16 = tagL (V + T) 16 := by
 unfold outK tagL
 apply List.map_congr_left
 intro t ht
 rw [if_pos (by simpa using ht)]
theorem outK_at {V T i : Nat} (hi : i < 16) : (outK V T i).getD i 0 = ((V / 256 ^ i % 256 : Nat) : Int) := by
 simp [outK, hi, grp8 hi]
theorem outK_set {V T i : Nat} (hi : i < 16) : (outK V T i).set i (((V + T) / 256 ^ i % 256 : Nat) : Int) = outK V T (i + 1) := by
 apply List.ext_getElem
 ·simp [outK]
 ·intro t h1 h2
  rw [List.getElem_set]
  simp only [outK, List.getElem_map, List.getElem_range]
  by_cases ht : i = t
  ·subst ht; simp
  ·rw [if_neg ht]
   by_cases hlt : t < i
   ·rw [if_pos hlt, if_pos (by omega)]
   ·rw [if_neg hlt, if_neg (by omega)]
theorem numL_byte (l : List UInt8) : ∀ i, numL l / 256 ^ i % 256 = (l.getD i 0).toNat := by
 induction l with
 | nil => intro i; simp [numL]
 | cons c l ih =>
  intro i
  have hc := c.toNat_lt
  cases i with
  | zero => simp only [numL, Nat.pow_zero, Nat.div_one, List.getD_cons_zero]; omega
  | succ i =>
   rw [List.getD_cons_succ, ← ih i, Nat.pow_succ, Nat.mul_comm, ← Nat.div_div_eq_div_mul]
   simp only [numL]
   congr 2
   omega
theorem bt_num (l : List UInt8) (i : Nat) : bt l i = ((numL l / 256 ^ i % 256 : Nat) : Int) := by rw [numL_byte]; rfl
theorem bit_bytes (l : List UInt8) {i k : Nat} (hk : k < 8) : (l.getD i 0).toNat / 2 ^ k % 2 = numL l / 2 ^ (8 * i + k) % 2 := by
 rw [← numL_byte, bit01, bit01, show (256 : Nat) = 2 ^ 8 from rfl, ← Nat.pow_mul, Nat.testBit_mod_two_pow, Nat.testBit_div_two_pow]
 simp [hk, Nat.add_comm]
theorem dig_test (l : List UInt8) {i k : Nat} (hk : k < 8) : iand .u8 (bt l i / 2 ^ min (k : Int).toNat IntKind.u8.bits) 1 = ((numL l / 2 ^ (8 * i + k) % 2 : Nat) : Int) := by
 rw [← bit_bytes l hk]
 unfold bt
 rw [show min (k : Int).toNat IntKind.u8.bits = k from by show min _ 8 = k; rw [Int.toNat_natCast]; omega]
 have hb := (l.getD i 0).toNat_lt
 generalize (l.getD i 0).toNat = c at *
 have h1 : ((c : Nat) : Int) / 2 ^ k = ((c / 2 ^ k : Nat) : Int) := by simp
 have h2 : c / 2 ^ k ≤ c := Nat.div_le_self _ _
 rw [h1]
 generalize c / 2 ^ k = q at *
 rw [mask_u8 1 (by decide) (by omega) (by omega) 1 (by decide)]
 simp
theorem grps_big {g n N M V : Nat} (h1 : V < 2 ^ N) (h2 : V < 2 ^ M) : grps g n N V = grps g n M V := by
 unfold grps grp
 rw [Nat.mod_eq_of_lt h1, Nat.mod_eq_of_lt h2]
theorem dig_small {V N : Nat} (hV : V < 2 ^ 130) (h : V / 2 ^ N % 2 = 1) : N < 130 := by
 rcases Nat.lt_or_ge N 130 with h1 | h1
 ·exact h1
 ·have : V < 2 ^ N := Nat.lt_of_lt_of_le hV (Nat.pow_le_pow_right (by decide) h1)
  rw [Nat.div_eq_of_lt this] at h; simp at h
theorem dig_step {V N : Nat} (hN : N < 130) (h : V / 2 ^ N % 2 = 1) :
  (grps 13 10 N V).set ((N : Int) / 13).toNat (ior .i64 ((grps 13 10 N V).getD ((N : Int) / 13).toNat 0) (IntKind.i64.wrap (1 * 2 ^ min ((N : Int) % 13).toNat IntKind.i64.bits))) = grps 13 10 (N + 1) V := by
 rw [← grps_succ 13 10 N V (by decide) (by omega), show ((N : Int) / 13).toNat = N / 13 from by omega]
 rw [show min ((N : Int) % 13).toNat IntKind.i64.bits = N % 13 from by show min _ 64 = _; omega, grps_getD (by omega : N / 13 < 10), h, Int.one_mul, Nat.one_mul]
 have hp : (2 : Nat) ^ (N % 13) ≤ 2 ^ 12 := Nat.pow_le_pow_right (by decide) (by omega)
 have hg := grp_lt 13 N V (N / 13)
 have e : (2 : Int) ^ (N % 13) = ((2 ^ (N % 13) : Nat) : Int) := by simp
 rw [e]
 generalize (2 : Nat) ^ (N % 13) = z at *
 rw [wrap_i64_in (by omega) (by omega), ior_i64 (by omega) (by omega)]
theorem grps_bit13 {V i : Nat} (hi : i < 130) : (grp 13 130 V (i / 13)) / 2 ^ (i % 13) % 2 = V / 2 ^ i % 2 := by
 rw [bit01, bit01, grp_bit, Nat.div_add_mod, decide_eq_true (Nat.mod_lt i (by decide : 0 < 13)), decide_eq_true hi]
 simp
theorem x_step {V i k : Nat} (hi : i < 16) (hk : k < 8) :
  ior .i64 ((V / 256 ^ i % 2 ^ k : Nat) : Int) (IntKind.i64.wrap (iand .i64 ((grps 13 10 130 V).getD (((8 * i + k : Nat) : Int) / 13).toNat 0 / 2 ^ min (((8 * i + k : Nat) : Int) % 13).toNat IntKind.i64.bits) 1 * 2 ^ min (k : Int).toNat IntKind.i64.bits)) = ((V / 256 ^ i % 2 ^ (k + 1) : Nat) : Int) := by
 rw [show (((8 * i + k : Nat) : Int) / 13).toNat = (8 * i + k) / 13 from by omega, show min (((8 * i + k : Nat) : Int) % 13).toNat IntKind.i64.bits = (8 * i + k) % 13 from by show min _ 64 = _; omega, show min (k : Int).toNat IntKind.i64.bits = k from by show min _ 64 = _; omega]
 rw [grps_getD (by omega : (8 * i + k) / 13 < 10)]
 have hq := grps_bit13 (V := V) (i := 8 * i + k) (by omega)
 have hlt : grp 13 130 V ((8 * i + k) / 13) / 2 ^ ((8 * i + k) % 13) < 2 ^ 13 := Nat.lt_of_le_of_lt (Nat.div_le_self _ _) (grp_lt 13 130 V _)
 have h1 : ((grp 13 130 V ((8 * i + k) / 13) : Nat) : Int) / 2 ^ ((8 * i + k) % 13) = ((grp 13 130 V ((8 * i + k) / 13) / 2 ^ ((8 * i + k) % 13) : Nat) : Int) := by simp
 rw [h1]
 generalize grp 13 130 V ((8 * i + k) / 13) / 2 ^ ((8 * i + k) % 13) = q at hlt hq
 rw [mask_i64 1 (by decide) (by omega) (by omega) 1 (by decide), ← Int.natCast_emod, show q % 2 ^ 1 = V / 2 ^ (8 * i + k) % 2 from hq]
 have e1 : V / 2 ^ (8 * i + k) % 2 = V / 256 ^ i / 2 ^ k % 2 := by rw [Nat.div_div_eq_div_mul, show (256 : Nat) = 2 ^ 8 from rfl, ← Nat.pow_mul, ← Nat.pow_add]
 rw [e1]
 generalize V / 256 ^ i = U
 have hb : U / 2 ^ k % 2 < 2 := Nat.mod_lt _ (by decide)
 have hp : (2 : Nat) ^ k ≤ 2 ^ 7 := Nat.pow_le_pow_right (by decide) (by omega)
 have hm : U % 2 ^ k < 2 ^ k := Nat.mod_lt _ (Nat.two_pow_pos k)
 have hmul : U / 2 ^ k % 2 * 2 ^ k ≤ 1 * 2 ^ 7 := Nat.mul_le_mul (by omega) hp
 have e2 : U % 2 ^ (k + 1) = U % 2 ^ k + U / 2 ^ k % 2 * 2 ^ k := by rw [Nat.pow_succ, Nat.mod_mul, Nat.mul_comm (2 ^ k) (U / 2 ^ k % 2)]
 rw [e2]
 generalize U / 2 ^ k % 2 = b at *
 have e : (((b : Nat) : Int) * 2 ^ k) = ((b * 2 ^ k : Nat) : Int) := by simp
 rw [e, wrap_i64_in (by omega) (by omega), ior_i64 (by omega) (by omega), or_add hm]
def cl1 (xs : List Int) : Nat → List Int
 | 0 => xs
 | j + 1 => (cl1 xs j).set (4 * j + 3) (iand .u8 ((cl1 xs j).getD (4 * j + 3) 0) 15)
def cl2 (xs : List Int) : Nat → List Int
 | 0 => xs
 | j + 1 => (cl2 xs j).set (4 * j + 4) (iand .u8 ((cl2 xs j).getD (4 * j + 4) 0) 252)
theorem cl1_zero (xs : List Int) : cl1 xs 0 = xs := rfl
theorem cl1_succ (xs : List Int) (j : Nat) : cl1 xs (j + 1) = (cl1 xs j).set (4 * j + 3) (iand .u8 ((cl1 xs j).getD (4 * j + 3) 0) 15) := rfl
theorem cl2_zero (xs : List Int) : cl2 xs 0 = xs := rfl
theorem cl2_succ (xs : List Int) (j : Nat) : cl2 xs (j + 1) = (cl2 xs j).set (4 * j + 4) (iand .u8 ((cl2 xs j).getD (4 * j + 4) 0) 252) := rfl
theorem cl1_length (xs : List Int) (j : Nat) : (cl1 xs j).length = xs.length := by induction j with
 | zero => rfl
 | succ j ih => rw [cl1_succ]; simp [ih]
theorem cl2_length (xs : List Int) (j : Nat) : (cl2 xs j).length = xs.length := by induction j with
 | zero => rfl
 | succ j ih => rw [cl2_succ]; simp [ih]
attribute [irreducible] cl1 cl2
theorem cl_eq {l : List UInt8} (h : l.length = 16) : toB (cl2 (cl1 (ofB l) 4) 3) = clL l := by
 obtain ⟨a0, a1, a2, a3, a4, a5, a6, a7, a8, a9, a10, a11, a12, a13, a14, a15, rfl⟩ := list16 h
 have m15 : ∀ a : UInt8, iand .u8 ((a.toNat : Nat) : Int) 15 = (((a &&& 15).toNat : Nat) : Int) := fun a => by rw [show (15 : Int) = ((15 : Nat) : Int) from rfl, and_byte a 15 (by decide), UInt8.toNat_and]; rfl
 have m252 : ∀ a : UInt8, iand .u8 ((a.toNat : Nat) : Int) 252 = (((a &&& 252).toNat : Nat) : Int) := fun a => by rw [show (252 : Int) = ((252 : Nat) : Int) from rfl, and_byte a 252 (by decide), UInt8.toNat_and]; rfl
 have : cl2 (cl1 (ofB [a0, a1, a2, a3, a4, a5, a6, a7, a8, a9, a10, a11, a12, a13, a14, a15]) 4) 3 = ofB (clL [a0, a1, a2, a3, a4, a5, a6, a7, a8, a9, a10, a11, a12, a13, a14, a15]) := by
  simp only [cl2_succ, cl2_zero, cl1_succ, cl1_zero]
  simp only [ofB, List.map_cons, List.map_nil, Nat.mul_zero, Nat.zero_add, Nat.mul_one, Nat.reduceMul, Nat.reduceAdd, List.set_cons_succ, List.set_cons_zero, List.getD_cons_succ, List.getD_cons_zero, m15, m252]
  rfl
 rw [this, toB_ofB]
def grK (xs : List Int) : Nat → Bool
 | 0 => decide (8187 ≤ xs.getD 0 0)
 | i + 1 => grK xs i && decide (xs.getD (i + 1) 0 = 8191)
theorem grK_zero (xs : List Int) : grK xs 0 = decide (8187 ≤ xs.getD 0 0) := rfl
theorem grK_succ (xs : List Int) (i : Nat) : grK xs (i + 1) = (grK xs i && decide (xs.getD (i + 1) 0 = 8191)) := rfl
attribute [irreducible] grK
def restR (xs : List Int) : List Int := if grK xs 9 = true then (List.replicate 10 0).set 0 (IntKind.i64.wrap (xs.getD 0 0 - 8187)) else xs
theorem restR_yes {xs : List Int} (h : grK xs 9 = true) : restR xs = (List.replicate 10 0).set 0 (IntKind.i64.wrap (xs.getD 0 0 - 8187)) := if_pos h
theorem restR_no {xs : List Int} (h : grK xs 9 = false) : restR xs = xs := if_neg (by simp [h])
theorem list10 {α : Type} {l : List α} (h : l.length = 10) : ∃ a0 a1 a2 a3 a4 a5 a6 a7 a8 a9, l = [a0, a1, a2, a3, a4, a5, a6, a7, a8, a9] := by
 match l, h with
 | [a0, a1, a2, a3, a4, a5, a6, a7, a8, a9], _ => exact ⟨a0, a1, a2, a3, a4, a5, a6, a7, a8, a9, rfl⟩
theorem rest10 {xs : List Int} (hl : xs.length = 10) (h : ∀ t, 0 ≤ xs.getD t 0 ∧ xs.getD t 0 < 8192) :
  (restR xs).length = 10 ∧ (∀ t, 0 ≤ (restR xs).getD t 0 ∧ (restR xs).getD t 0 < 8192) ∧ Cg (val 8192 (restR xs)) (val 8192 xs) ∧ val 8192 (restR xs) < pp := by
 have hv : ∃ a0 a1 a2 a3 a4 a5 a6 a7 a8 a9, xs = [a0, a1, a2, a3, a4, a5, a6, a7, a8, a9] := list10 hl
 obtain ⟨a0, a1, a2, a3, a4, a5, a6, a7, a8, a9, rfl⟩ := hv
 have b0 := h 0; have b1 := h 1; have b2 := h 2; have b3 := h 3; have b4 := h 4; have b5 := h 5; have b6 := h 6; have b7 := h 7; have b8 := h 8; have b9 := h 9
 simp only [List.getD_cons_zero, List.getD_cons_succ] at b0 b1 b2 b3 b4 b5 b6 b7 b8 b9
 by_cases hg : grK [a0, a1, a2, a3, a4, a5, a6, a7, a8, a9] 9 = true
 ·rw [restR_yes hg]
  simp only [grK_succ, grK_zero, List.getD_cons_zero, List.getD_cons_succ, Bool.and_eq_true, decide_eq_true_eq, Nat.reduceAdd, Nat.zero_add] at hg
  rw [List.getD_cons_zero, wrap_i64_in (by omega) (by omega)]
  refine ⟨rfl, ?_, ⟨-1, ?_⟩, ?_⟩
  ·intro t
   by_cases ht : t = 0
   ·subst ht; simp; omega
   ·rw [getD_set_ne (Ne.symm ht)]
    simp only [List.getD_eq_getElem?_getD, List.getElem?_replicate]; split <;> simp
  ·simp only [List.replicate, List.set_cons_zero, val]; unfold pp; omega
  ·simp only [List.replicate, List.set_cons_zero, val]; unfold pp; omega
 ·rw [restR_no (by simpa using hg)]
  refine ⟨hl, h, Cg.refl _, ?_⟩
  simp only [grK_succ, grK_zero, List.getD_cons_zero, List.getD_cons_succ, Bool.and_eq_true, decide_eq_true_eq, Nat.reduceAdd, Nat.zero_add] at hg
  simp only [val]; unfold pp; omega
theorem add10 {A B : Int} {xs ys : List Int} (hx : xs.length = 10) (hy : ys.length = 10) (hA : 0 ≤ A) (hB : 0 ≤ B) (hM : A + B < 9223372036854775808) (h1 : Ent A xs) (h2 : Ent B ys) :
  val 8192 (addK .i64 xs ys 10) = val 8192 xs + val 8192 ys ∧ Ent (A + B) (addK .i64 xs ys 10) ∧ (addK .i64 xs ys 10).length = 10 := by
 obtain ⟨a0, a1, a2, a3, a4, a5, a6, a7, a8, a9, rfl⟩ := list10 hx
 obtain ⟨c0, c1, c2, c3, c4, c5, c6, c7, c8, c9, rfl⟩ := list10 hy
 have p0 := h1 a0 (by simp); have p1 := h1 a1 (by simp); have p2 := h1 a2 (by simp); have p3 := h1 a3 (by simp); have p4 := h1 a4 (by simp)
 have p5 := h1 a5 (by simp); have p6 := h1 a6 (by simp); have p7 := h1 a7 (by simp); have p8 := h1 a8 (by simp); have p9 := h1 a9 (by simp)
 have q0 := h2 c0 (by simp); have q1 := h2 c1 (by simp); have q2 := h2 c2 (by simp); have q3 := h2 c3 (by simp); have q4 := h2 c4 (by simp)
 have q5 := h2 c5 (by simp); have q6 := h2 c6 (by simp); have q7 := h2 c7 (by simp); have q8 := h2 c8 (by simp); have q9 := h2 c9 (by simp)
 have e : addK .i64 [a0, a1, a2, a3, a4, a5, a6, a7, a8, a9] [c0, c1, c2, c3, c4, c5, c6, c7, c8, c9] 10 = [a0 + c0, a1 + c1, a2 + c2, a3 + c3, a4 + c4, a5 + c5, a6 + c6, a7 + c7, a8 + c8, a9 + c9] := by
  simp only [addK_succ, addK_zero, List.set_cons_zero, List.set_cons_succ, List.getD_cons_zero, List.getD_cons_succ]
  rw [wr10 (by omega) (by omega), wr10 (by omega) (by omega), wr10 (by omega) (by omega), wr10 (by omega) (by omega), wr10 (by omega) (by omega), wr10 (by omega) (by omega), wr10 (by omega) (by omega), wr10 (by omega) (by omega), wr10 (by omega) (by omega), wr10 (by omega) (by omega)]
 rw [e]
 refine ⟨by simp only [val]; omega, ?_, rfl⟩
 intro x hx
 simp only [List.mem_cons, List.not_mem_nil, or_false] at hx
 rcases hx with rfl | rfl | rfl | rfl | rfl | rfl | rfl | rfl | rfl | rfl <;> omega
structure I10 (xs : List Int) (a : Int) : Prop where
 len : xs.length = 10
 lo : 0 ≤ xs.getD 0 0 ∧ xs.getD 0 0 < 8192 + 10
 hi : ∀ t, 1 ≤ t → 0 ≤ xs.getD t 0 ∧ xs.getD t 0 < 8192
 v : Cg (val 8192 xs) a
theorem I10.zero : I10 (List.replicate 10 0) 0 :=
 ⟨by simp, by simp, fun t _ => by simp only [List.getD_eq_getElem?_getD, List.getElem?_replicate]; split <;> simp, by rw [val_zero]; exact Cg.refl _⟩
theorem I10.ent {xs : List Int} {a : Int} (h : I10 xs a) : Ent 8201 xs := Ent.of fun j _ => by
 rcases Nat.eq_zero_or_pos j with rfl | hj
 ·have := h.lo; omega
 ·have := h.hi j hj; omega
def carT (xs : List Int) : List Int := carR .i64 8192 8191 10 xs 3
theorem carT_length (xs : List Int) : (carT xs).length = xs.length := carR_length _ _ _ _ _ _
theorem ent_near {xs : List Int} {C : Int} (h0 : 0 ≤ xs.getD 0 0 ∧ xs.getD 0 0 < 8192 + 5 * C) (h : ∀ t, 1 ≤ t → 0 ≤ xs.getD t 0 ∧ xs.getD t 0 < 8192) (hC : 0 ≤ C) : Ent (8192 + 5 * C) xs := Ent.of fun j _ => by
 rcases Nat.eq_zero_or_pos j with rfl | hj
 ·omega
 ·have := h j hj; omega
theorem car10a {xs : List Int} {a : Int} (hl : xs.length = 10) (h : Ent 16392 xs) (hv : Cg (val 8192 xs) a) :
  (carT xs).length = 10 ∧ (∀ t, 0 ≤ (carT xs).getD t 0 ∧ (carT xs).getD t 0 < 8192) ∧ Cg (val 8192 (carT xs)) a := by
 unfold carT
 rw [carR_succ, carR_succ, carR_succ, carR_zero]
 obtain ⟨c1, c2, c3, c4⟩ := car110 (X := 16392) (C := 2) hl (by decide) h (by decide)
 obtain ⟨d1, d2, d3⟩ := near10 (dl := 10) c2 (by decide) (by omega) c3
 obtain ⟨e1, e2, e3⟩ := near10 (dl := 0) d2 (by decide) (by have := d3 0; omega) (fun t _ => d3 t)
 exact ⟨e2, e3, e1.trans (d1.trans (c1.trans hv))⟩
theorem step10 {xs rs : List Int} {a r : Int} (hx : xs.length = 10) (hxe : ∀ t, 0 ≤ xs.getD t 0 ∧ xs.getD t 0 < 8192) (hxv : Cg (val 8192 xs) a) (hr : rs.length = 10) (hre : Ent 8191 rs) (hrv : val 8192 rs = r) :
  I10 (carT (mulA .i64 10 xs rs 10)) ((a * r) % pp) := by
 have hE0 : Ent 8191 xs := Ent.of fun j _ => by have := hxe j; omega
 obtain ⟨m1, m2⟩ := mulA10 (A := 8191) (B := 8191) hx hr (by decide) (by decide) (by decide) (by decide) hE0 hre 10 (by decide)
 rw [List.take_of_length_le (by omega), hrv] at m2
 have hE : Ent 33546240500 (mulA .i64 10 xs rs 10) := m1.mono (by decide)
 unfold carT
 rw [carR_succ, carR_succ, carR_succ, carR_zero]
 obtain ⟨c1, c2, c3, c4⟩ := car110 (X := 33546240500) (C := 4095500) (mulA_length _ _ _ _ _) (by decide) hE (by decide)
 obtain ⟨d1, d2, d3, d4⟩ := car110 (X := 8192 + 5 * 4095500) (C := 2501) c2 (by decide) (ent_near c4 c3 (by decide)) (by decide)
 obtain ⟨e1, e2, e3, e4⟩ := car110 (X := 8192 + 5 * 2501) (C := 2) d2 (by decide) (ent_near d4 d3 (by decide)) (by decide)
 exact ⟨e2, ⟨e4.1, by omega⟩, e3, e1.trans (d1.trans (c1.trans (m2.trans ((Cg.mul hxv (Cg.refl _)).trans (Cg.mod _)))))⟩
theorem fin10 {xs : List Int} {a : Int} (h : I10 xs a) (ha : 0 ≤ a ∧ a < pp) : restR (carT xs) = grps 13 10 130 a.toNat := by
 obtain ⟨c1, c2, c3⟩ := car10a h.len (h.ent.mono (by decide)) h.v
 obtain ⟨e1, e2, e3, e4⟩ := rest10 c1 c2
 exact digits_of (by decide) e1 (by decide) e2 (e3.trans c3) e4 ha
def accN (r : Nat) (data : List UInt8) : Nat → Int
 | 0 => 0
 | j + 1 => ((accN r data j + (blkN (data.drop (16 * j)) : Int)) * (r : Int)) % pp
theorem accN_range (r : Nat) (data : List UInt8) (j : Nat) : 0 ≤ accN r data j ∧ accN r data j < pp := by
 cases j with
 | zero => exact ⟨Int.le_refl 0, by show (0 : Int) < pp; decide⟩
 | succ j => exact ⟨Int.emod_nonneg _ (by decide), Int.emod_lt_of_pos _ (by decide)⟩
def rN (key : List UInt8) : Nat := numL (clL (key.take 16))
def rL (key : List UInt8) : List Int := ofL (clK (ofB (key.take 16) ++ [0]) 4)
theorem clL_length (l : List UInt8) : (clL l).length = 16 := by simp [clL]
theorem rL_spec {key : List UInt8} (hk : key.length = 32) : (rL key).length = 5 ∧ Ent 67108863 (rL key) ∧ val 67108864 (rL key) = (rN key : Int) := by
 have h16 : (key.take 16).length = 16 := by rw [List.length_take, hk]; decide
 unfold rL
 rw [clK_eq h16]
 have hB := bytesL_app0 (clL (key.take 16))
 have hlast : (ofB (clL (key.take 16)) ++ [0]).getD 16 0 = 0 := by
  rw [List.getD_eq_getElem?_getD, List.getElem?_append_right (by rw [ofB_length, clL_length]; exact Nat.le_refl _), ofB_length, clL_length]; rfl
 obtain ⟨s1, s2, s3⟩ := of_spec (xs := ofB (clL (key.take 16)) ++ [0]) (by rw [List.length_append, ofB_length, clL_length]; rfl) hB (by rw [hlast]; decide)
 refine ⟨s3, s2, ?_⟩
 rw [s1, val_app, val_ofB]
 simp [val, rN]
def aP (key data : List UInt8) : Nat → List Int
 | 0 => List.replicate 5 0
 | j + 1 => timesP (addK .u64 (aP key data j) (ofL (ofB (padB (data.drop (16 * j))))) 5) (rL key)
theorem aP_zero (key data : List UInt8) : aP key data 0 = List.replicate 5 0 := rfl
theorem aP_succ (key data : List UInt8) (j : Nat) : aP key data (j + 1) = timesP (addK .u64 (aP key data j) (ofL (ofB (padB (data.drop (16 * j))))) 5) (rL key) := rfl
attribute [irreducible] aP rL rN accN
theorem accN_zero (r : Nat) (data : List UInt8) : accN r data 0 = 0 := by unfold accN; rfl
theorem accN_succ (r : Nat) (data : List UInt8) (j : Nat) : accN r data (j + 1) = ((accN r data j + (blkN (data.drop (16 * j)) : Int)) * (r : Int)) % pp := by conv => lhs; unfold accN
theorem aP_I5 {key data : List UInt8} (hk : key.length = 32) (j : Nat) : I5 (aP key data j) (accN (rN key) data j) := by
 induction j with
 | zero => rw [aP_zero, accN_zero]; exact I5.zero
 | succ j ih =>
  rw [aP_succ, accN_succ]
  obtain ⟨r1, r2, r3⟩ := rL_spec hk
  obtain ⟨s1, s2, s3⟩ := of_spec (xs := ofB (padB (data.drop (16 * j)))) (by rw [ofB_length, padB_length]) (bytesL_ofB _) (Int.le_trans (pad_last _) (by decide))
  exact step5 ih s3 s2 (by rw [s1, val_ofB, numL_pad]) r1 r2 r3
theorem aP_length {key data : List UInt8} (hk : key.length = 32) (j : Nat) : (aP key data j).length = 5 := (aP_I5 hk j).len
/-- The tag. -/
def accT (key data : List UInt8) : Nat := (accN (rN key) data ((data.length + 15) / 16)).toNat
def tagP (key data : List UInt8) : List UInt8 × Int := if key.length = 32 then (tagB (accT key data + numL (key.drop 16)), 0) else ([], 21)
theorem tagP_bad {key data : List UInt8} (h : ¬ key.length = 32) : tagP key data = ([], 21) := if_neg h
theorem tagP_ok {key data : List UInt8} (h : key.length = 32) : tagP key data = (tagB (accT key data + numL (key.drop 16)), 0) := if_pos h
theorem aP_fin {key data : List UInt8} (hk : key.length = 32) : restP (carR .u64 67108864 67108863 5 (aP key data ((data.length + 15) / 16)) 2) = grps 26 5 130 (accT key data) := fin5 (aP_I5 hk _) (accN_range _ _ _)
theorem drop_next (d : List UInt8) (n : Nat) (hn : n = min d.length 16) : d.drop n = d.drop 16 := by
 rcases Nat.lt_or_ge d.length 16 with h | h
 ·rw [List.drop_of_length_le (by omega), List.drop_of_length_le (by omega)]
 ·rw [hn, Nat.min_eq_right h]
theorem pad_list {d : List UInt8} {m : Nat} (hm : m = min d.length 16) : ((List.take 0 (List.replicate 17 (0 : Int)) ++ (ofB d).take m ++ List.drop (0 + ((ofB d).take m).length) (List.replicate 17 (0 : Int)))).set m 1 = ofB (padB d) := by
 have h16 : (d.take 16).length = m := by rw [List.length_take]; omega
 have e1 : (ofB d).take m = ofB (d.take 16) := by
  have : ofB (d.take 16) = (ofB d).take 16 := by simp [ofB, List.map_take]
  rw [this]
  rcases Nat.lt_or_ge d.length 16 with h | h
  ·rw [List.take_of_length_le (by rw [ofB_length]; omega), List.take_of_length_le (by rw [ofB_length]; omega)]
  ·rw [show m = 16 from by omega]
 have hlen : (ofB (d.take 16)).length = m := by rw [ofB_length, h16]
 rw [e1, hlen, List.take_zero, List.nil_append, Nat.zero_add, List.drop_replicate, List.set_append_right _ _ (by omega), hlen, Nat.sub_self]
 unfold padB
 rw [h16]
 have : 17 - m = (16 - m) + 1 := by omega
 rw [this, List.replicate_succ]
 simp [ofB]
theorem blkN_lt (d : List UInt8) : blkN d < 2 ^ 130 := by
 unfold blkN
 rw [numL_app]
 have h1 := numL_lt (d.take 16)
 have h2 : (d.take 16).length ≤ 16 := List.length_take_le _ _
 have h3 : (256 : Nat) ^ (d.take 16).length ≤ 256 ^ 16 := Nat.pow_le_pow_right (by decide) h2
 have h4 : numL [1] = 1 := rfl
 rw [h4]
 omega
def bP (key data : List UInt8) : Nat → List Int
 | 0 => List.replicate 10 0
 | j + 1 => carT (mulA .i64 10 (carT (addK .i64 (bP key data j) (grps 13 10 130 (blkN (data.drop (16 * j)))) 10)) (grps 13 10 130 (rN key)) 10)
theorem bP_zero (key data : List UInt8) : bP key data 0 = List.replicate 10 0 := rfl
theorem bP_succ (key data : List UInt8) (j : Nat) : bP key data (j + 1) = carT (mulA .i64 10 (carT (addK .i64 (bP key data j) (grps 13 10 130 (blkN (data.drop (16 * j)))) 10)) (grps 13 10 130 (rN key)) 10) := rfl
attribute [irreducible] bP
theorem grps_ent (V : Nat) : Ent 8191 (grps 13 10 130 V) := fun x hx => by
 simp only [grps, List.mem_map] at hx
 obtain ⟨j, _, rfl⟩ := hx
 have := grp_lt 13 130 V j
 omega
theorem grps_val {V : Nat} (hV : V < 2 ^ 130) : val 8192 (grps 13 10 130 V) = (V : Int) := by
 have := val_grps 13 10 130 V (by decide)
 rw [Nat.mod_eq_of_lt hV] at this
 exact this
theorem rN_lt (key : List UInt8) : rN key < 2 ^ 130 := by
 unfold rN
 have := numL_lt (clL (key.take 16))
 rw [clL_length] at this
 omega
theorem bP_I10 (key data : List UInt8) (j : Nat) : I10 (bP key data j) (accN (rN key) data j) := by
 induction j with
 | zero => rw [bP_zero, accN_zero]; exact I10.zero
 | succ j ih =>
  rw [bP_succ, accN_succ]
  obtain ⟨s1, s2, s3⟩ := add10 ih.len (grps_length 13 10 130 (blkN (data.drop (16 * j)))) (by decide) (by decide) (by decide) ih.ent (grps_ent _)
  obtain ⟨c1, c2, c3⟩ := car10a (a := accN (rN key) data j + (blkN (data.drop (16 * j)) : Int)) s3 (s2.mono (by decide)) (by rw [s1, grps_val (blkN_lt _)]; exact ih.v.add (Cg.refl _))
  exact step10 c1 c2 c3 (grps_length _ _ _ _) (grps_ent _) (grps_val (rN_lt key))
theorem bP_length (key data : List UInt8) (j : Nat) : (bP key data j).length = 10 := (bP_I10 key data j).len
theorem bP_fin (key data : List UInt8) : restR (carT (bP key data ((data.length + 15) / 16))) = grps 13 10 130 (accT key data) := fin10 (bP_I10 key data _) (accN_range _ _ _)
theorem take_min (d : List UInt8) : d.take (min 16 (d.length : Int)).toNat = d.take 16 := by
 rcases Nat.lt_or_ge d.length 16 with h | h
 ·rw [List.take_of_length_le (by omega), List.take_of_length_le (by omega)]
 ·rw [show (min 16 (d.length : Int)).toNat = 16 from by omega]
end Go.Proofs.YtfpoldogcopmpaaGreatDoor.Po
end
section
namespace Go.Proofs.YtfpoldogcopmpaaGreatDoor.D
open Go Go.RowKit
set_option linter.unusedVariables false
set_option linter.unusedSimpArgs false
section
variable {P : Program} {w0 : World} {ρ : Operand → Value} {H H0 : Hp} {L : List Chunk} {F : Chunk → List Chunk} {d : Option Tmp} {ty : TypeId} {pos : String} {af : Array Edge} {g : Option (Nat × Bool)} {xt yt : TypeId} {x y : Operand}
theorem q_fieldTo {t : TypeId} {fs : Array Field} {f : Field} {m sz : Nat} {x : Operand} {b : Nat} (k : Nat) (ht : P.underlying t = some (.struct fs)) (hf : fs[m]? = some f) (hk : f.offset = k) (hs : sizeT P f.type = some (sz + 1))
  (hx : ρ x = .pointer (some ⟨b, 0, none⟩)) : QS P w0 ρ ⟨d, .fieldAddr t x m, ty, pos, af, g⟩ H (.pointer (some ⟨b, k, none⟩)) := by
 have := q_fieldAddr (w0 := w0) (H := H) (d := d) (ty := ty) (pos := pos) (af := af) (g := g) ht hf hs hx
 rwa [Nat.zero_add, hk] at this
theorem q_loadTB1 {t : TypeId} {b j sz : Nat} {el : TypeId} {v0 : Value} {l : List UInt8} (ht : scalT P t = true) (hx : ρ x = .pointer (some ⟨b, 1 + j * 1, none⟩)) (hb : H b = some ⟨v0 :: nums .u8 (ofB l), sz, el⟩) (hj : j < l.length) :
  QS P w0 ρ ⟨d, .load t x, ty, pos, af, g⟩ H (BV (l.getD j 0)) := by
 have := q_loadTB (P := P) (w0 := w0) (H := H) (d := d) (ty := ty) (pos := pos) (af := af) (g := g) ht hx hb (by omega) (by omega)
 rwa [show 1 + j * 1 - 1 = j from by omega] at this
theorem s_storeTB1 {t : TypeId} {b j sz : Nat} {el : TypeId} {v0 : Value} {l : List UInt8} {c : UInt8} (hS : Sep H0 L H) (hA : At L (.blk b ⟨v0 :: nums .u8 (ofB l), sz, el⟩) F) (ht : sizeT P t = some 1) (hx : ρ x = .pointer (some ⟨b, 1 + j * 1, none⟩)) (hy : ρ y = BV c) (hj : j < l.length) :
  OpR P w0 ρ ⟨d, .store t x y, ty, pos, af, g⟩ H (fun u H' => u = undef ∧ Sep H0 (F (.blk b ⟨v0 :: nums .u8 (ofB (l.set j c)), sz, el⟩)) H') := by
 have := s_storeTB (w0 := w0) (d := d) (ty := ty) (pos := pos) (af := af) (g := g) hS hA ht hx hy (by omega) (by omega)
 rwa [show 1 + j * 1 - 1 = j from by omega] at this
theorem q_loadTA1 {t : TypeId} {n b j sz : Nat} {el : TypeId} {v0 : Value} {l : List UInt8} (ht : aggT P t n = true) (hx : ρ x = .pointer (some ⟨b, 1 + j * 1, none⟩)) (hb : H b = some ⟨v0 :: nums .u8 (ofB l), sz, el⟩) (hj : j + n ≤ l.length) :
  QS P w0 ρ ⟨d, .load t x, ty, pos, af, g⟩ H (.agg (nums .u8 (ofB ((l.drop j).take n))).toArray) := by
 have := q_loadTA (P := P) (w0 := w0) (H := H) (d := d) (ty := ty) (pos := pos) (af := af) (g := g) ht hx hb (by omega) (by omega)
 rwa [show 1 + j * 1 - 1 = j from by omega] at this
theorem q_arrayVec {t e el : TypeId} {m n : Nat} {v : Value} {cs : List Value} (hV : Vec H el 1 v n cs) (ht : P.underlying t = some (.array m e)) (hx : ρ x = v) (h : m ≤ n) (h0 : 0 < n) : QS P w0 ρ ⟨d, .sliceToArrayPointer t x, ty, pos, af, g⟩ H (vptr v 0) := by
 obtain ⟨b, cap, q, rfl, _⟩ := hV.opened h0
 exact q_arrayAt ht hx h
theorem q_loadVAB {t el : TypeId} {m n : Nat} {v : Value} {l : List UInt8} (hV : Vec H el 1 v n (nums .u8 (ofB l))) (ht : aggT P t m = true) (hx : ρ x = vptr v 0) (h : m ≤ l.length) (h0 : 0 < n) :
  QS P w0 ρ ⟨d, .load t x, ty, pos, af, g⟩ H (.agg (nums .u8 (ofB (l.take m))).toArray) := by
 obtain ⟨b, cap, q, rfl, hq, _, _, _, _, _, _, hc⟩ := hV.opened h0
 refine q_loadA (n := m) ht hx hq (by simp [nums_length, ofB_length]; omega) ?_
 intro i u hi
 have hi' : i < m := by
  rcases Nat.lt_or_ge i m with h | h
  ·exact h
  ·rw [List.getElem?_eq_none (by simp [nums_length, ofB_length]; omega)] at hi; exact absurd hi (by simp)
 refine hc (0 + i) u ?_
 rw [Nat.zero_add, ← hi]
 simp only [nums, ofB, List.map_take, List.getElem?_take, hi', if_true]
/-- A part of a slice. -/
def subV (v : Value) (a b : Nat) : Value := match v with
 | .slice (some ⟨k, o, r⟩) _ cp => .slice (some (if cp = a then ⟨k, o, r⟩ else ⟨k, o + a * 1, r⟩)) (b - a) (cp - a)
 | _ => v
theorem q_sliceVec {t e el : TypeId} {lo hi : Operand} {v : Value} {m : Nat} {cs : List Value} {k k' : IntKind} {a c : Int} (hV : Vec H el 1 v m cs) (ht : P.underlying t = some (.slice e)) (hs : sizeT P e = some 1) (hx : ρ x = v)
  (ha : ρ lo = .int k a) (hc : ρ hi = .int k' c) (h0 : 0 ≤ a) (h1 : a ≤ c) (h2 : c ≤ m) (h3 : 0 < m) : QS P w0 ρ ⟨d, .slice t x (some lo) (some hi) none, ty, pos, af, g⟩ H (subV v a.toNat c.toNat) := by
 obtain ⟨b, cap, q, rfl, _, _, _, _, h6, _, _, _⟩ := hV.opened h3
 exact q_sliceV (sz := 1) ht hs hx ha hc h0 h1 (by omega)
theorem q_stringSub {s t e el : TypeId} {v : Value} {m a c : Nat} {l : List UInt8} (hV : Vec H el 1 v m (nums .u8 (ofB l))) (hs : P.underlying s = some (.slice e)) (he : P.underlying e = some (.int .u8)) (ht : P.underlying t = some .string)
  (hx : ρ x = subV v a c) (h1 : a ≤ c) (h2 : c ≤ l.length) (h3 : 0 < m) : QS P w0 ρ ⟨d, .convert s t x, ty, pos, af, g⟩ H (S ((l.drop a).take (c - a))) := by
 obtain ⟨b, cap, q, rfl, hq, _, _, hl, h6, _, _, hcs⟩ := hV.opened h3
 have := q_string (P := P) (w0 := w0) (ρ := ρ) (x := x) (d := d) (ty := ty) (pos := pos) (af := af) (g := g) (b := b) (o := if cap = a then 0 else 0 + a * 1) (n := c - a) (c := cap - a) (xs := ofB ((l.drop a).take (c - a))) hs he ht (by rw [hx]; simp only [subV]; split <;> rfl) hq (by simp [ofB_length]; omega) (fun i u hi => by
  have hi' : i < c - a := by
   rcases Nat.lt_or_ge i (c - a) with h | h
   ·exact h
   ·rw [List.getElem?_eq_none (by simp [nums_length, ofB_length]; omega)] at hi; exact absurd hi (by simp)
  have hl' : m = l.length := by rw [nums_length, ofB_length] at hl; omega
  rw [if_neg (by omega)]
  refine hcs _ u ?_
  rw [← hi]
  simp only [nums, ofB, List.map_take, List.map_drop, List.getElem?_take, hi', if_true, List.getElem?_drop, Nat.zero_add, Nat.mul_one])
 rwa [toB_ofB] at this
end
end Go.Proofs.YtfpoldogcopmpaaGreatDoor.D
end
section
namespace Go.Proofs.YtfpoldogcopmpaaGreatDoor.D
open Go Go.RowKit
set_option linter.unusedVariables false
set_option linter.unusedSimpArgs false
/-- A slice that reads as these bytes. -/
def Rds (H : Hp) (v : Value) (l : List UInt8) : Prop := ∃ (a : Option Addr) (c : Nat), v = .slice a l.length c ∧ l.length ≤ c ∧
 ∀ j, j < l.length → ∃ (b o : Nat) (q : Blk), a = some ⟨b, o, none⟩ ∧ H b = some q ∧ q.cells[o + j]? = some (BV (l.getD j 0))
theorem Rds.mono {H H' : Hp} {v : Value} {l : List UInt8} (h : Rds H v l) (hl : H.le H') : Rds H' v l := by
 obtain ⟨a, c, h1, h2, h3⟩ := h
 refine ⟨a, c, h1, h2, fun j hj => ?_⟩
 obtain ⟨b, o, q, e1, e2, e3⟩ := h3 j hj
 exact ⟨b, o, q, e1, hl b q e2, e3⟩
/-- A slice from a place on. -/
def sufV (v : Value) (k : Nat) : Value := match v with
 | .slice (some ad) n c => .slice (some (if c = k then ad else ad.add k)) (n - k) (c - k)
 | .slice none n c => .slice none (n - k) (c - k)
 | v => v
/-- A slice up to a place. -/
def preV (v : Value) (k : Nat) : Value := match v with
 | .slice a _ c => .slice a k c
 | v => v
theorem Rds.suf {H : Hp} {v : Value} {l : List UInt8} {k : Nat} (h : Rds H v l) (hk : k ≤ l.length) : Rds H (sufV v k) (l.drop k) := by
 obtain ⟨a, c, rfl, h2, h3⟩ := h
 rcases a with _ | ⟨b, o, r⟩
 ·refine ⟨none, c - k, by simp [sufV], by simp; omega, fun j hj => ?_⟩
  obtain ⟨_, _, _, e, _⟩ := h3 (k + j) (by simp at hj; omega)
  cases e
 ·refine ⟨_, c - k, by simp only [sufV, List.length_drop]; rfl, by simp; omega, fun j hj => ?_⟩
  have hj' : k + j < l.length := by simp at hj; omega
  obtain ⟨b', o', q, e, e2, e3⟩ := h3 (k + j) hj'
  cases e
  refine ⟨b, o + k, q, ?_, e2, ?_⟩
  ·rw [if_neg (by omega)]; simp [Addr.add]
  ·rw [show o + k + j = o + (k + j) from by omega, e3]; simp [List.getElem?_drop]
theorem Rds.pre {H : Hp} {v : Value} {l : List UInt8} {k : Nat} (h : Rds H v l) (hk : k ≤ l.length) : Rds H (preV v k) (l.take k) := by
 obtain ⟨a, c, rfl, h2, h3⟩ := h
 have hl : (l.take k).length = k := by simp; omega
 refine ⟨a, c, by rw [hl]; rfl, by omega, fun j hj => ?_⟩
 rw [hl] at hj
 obtain ⟨b, o, q, e1, e2, e3⟩ := h3 j (by omega)
 refine ⟨b, o, q, e1, e2, ?_⟩
 rw [e3]; simp [hj]
section
variable {P : Program} {w0 : World} {ρ : Operand → Value} {H H0 : Hp} {d : Option Tmp} {ty : TypeId} {pos : String} {af : Array Edge} {g : Option (Nat × Bool)} {x y : Operand} {v : Value} {l : List UInt8}
theorem q_sliceV_lo_some {t e : TypeId} {m cp : Nat} {x lo : Operand} {ad : Addr} {k : IntKind} {a : Int} (ht : P.underlying t = some (.slice e)) (hs : sizeT P e = some 1) (hx : ρ x = .slice (some ad) m cp)
  (ha : ρ lo = .int k a) (h0 : 0 ≤ a) (h1 : a ≤ m) : QS P w0 ρ ⟨d, .slice t x (some lo) none none, ty, pos, af, g⟩ H (.slice (some (if cp = a.toNat then ad else ad.add a.toNat)) (m - a.toNat) (cp - a.toNat)) :=
 QS.of_run fun w _ => by
  simp only [execOp, Instr.sliceAt, hx, ha, Sem.run_bind, run_underlying ht, Result.andThen_ok, Option.map_some, Option.map_none, Instr.slice, Instr.sliceBounds, Sem.run_pure,
   run_sliceBound' k a m _ w h0 (by omega), run_sizeT hs, Nat.mul_one]
  split <;> rfl
theorem q_sliceV_lo_none {t e : TypeId} {m cp : Nat} {x lo : Operand} {k : IntKind} {a : Int} (ht : P.underlying t = some (.slice e)) (hs : sizeT P e = some 1) (hx : ρ x = .slice none m cp)
  (ha : ρ lo = .int k a) (h0 : 0 ≤ a) (h1 : a ≤ m) : QS P w0 ρ ⟨d, .slice t x (some lo) none none, ty, pos, af, g⟩ H (.slice none (m - a.toNat) (cp - a.toNat)) :=
 QS.of_run fun w _ => by
  simp only [execOp, Instr.sliceAt, hx, ha, Sem.run_bind, run_underlying ht, Result.andThen_ok, Option.map_some, Option.map_none, Instr.slice, Instr.sliceBounds, Sem.run_pure,
   run_sliceBound' k a m _ w h0 (by omega), run_sizeT hs]
  split <;> rfl
end
end Go.Proofs.YtfpoldogcopmpaaGreatDoor.D
end
section
namespace Go.Proofs.YtfpoldogcopmpaaGreatDoor.D
open Go Go.RowKit
set_option linter.unusedVariables false
set_option linter.unusedSimpArgs false
theorem Own.less {w0 w : World} {H H' : Hp} (h : Own w0 H' w) (hl : H.le H') : Own w0 H w := ⟨h.below, fun b o hb => h.fits b o (hl b o hb)⟩
theorem Addr.add_add (a : Addr) (i j : Nat) : (a.add i).add j = a.add (i + j) := by
 rcases i with _ | i
 ·rw [Nat.zero_add]; rfl
 ·rcases j with _ | j
  ·rfl
  ·show ({ a with off := a.off + (i + 1) + (j + 1), spot := none } : Addr) = { a with off := a.off + (i + 1 + (j + 1)), spot := none }
   rw [Nat.add_assoc]
/-- A slice whose cells, of one each, read as these. -/
def RdW (w0 : World) (H : Hp) (v : Value) (g : List Value) : Prop := ∃ (a : Option Addr) (c : Nat), v = .slice a g.length c ∧ g.length ≤ c ∧
 ∀ j u, g[j]? = some u → ∃ ad, a = some ad ∧ ∀ w, Own w0 H w → w.cell? (ad.add j) = some u
theorem RdW.mono {w0 : World} {H H' : Hp} {v : Value} {g : List Value} (h : RdW w0 H v g) (hl : H.le H') : RdW w0 H' v g := by
 obtain ⟨a, c, h1, h2, h3⟩ := h
 refine ⟨a, c, h1, h2, fun j u hj => ?_⟩
 obtain ⟨ad, e1, e2⟩ := h3 j u hj
 exact ⟨ad, e1, fun w hw => e2 w (hw.less hl)⟩
theorem Vec.rdw {w0 : World} {H : Hp} {el : TypeId} {v : Value} {n : Nat} {cs : List Value} (hV : Vec H el 1 v n cs) : RdW w0 H v cs := by
 have hl : cs.length = n := by have := hV.len; omega
 rcases hV with ⟨rfl, h0, rfl⟩ | ⟨b, cap, q, rfl, hq, he, ht, h5, h6, h7, h8⟩
 ·exact ⟨none, 0, rfl, by simp, fun j u hj => by simp at hj⟩
 ·refine ⟨_, cap, by rw [hl], by omega, fun j u hj => ⟨_, rfl, fun w hw => ?_⟩⟩
  have hj2 : q.cells[j]? = some u := by
   rw [← ht, List.getElem?_take] at hj
   split at hj
   ·exact hj
   ·cases hj
  have := hw.cell hq hj2
  rwa [Addr.add0, Nat.zero_add]
theorem CellsAt.rdw {w0 : World} {H : Hp} {pa : Option Addr} {c : Nat} {g : List Value} {f : Nat → Value} (h : CellsAt w0 pa g.length f) (hc : g.length ≤ c) (hf : ∀ j u, g[j]? = some u → f j = u) : RdW w0 H (.slice pa g.length c) g := by
 refine ⟨pa, c, rfl, hc, fun j u hj => ?_⟩
 have hj' : j < g.length := by
  rcases Nat.lt_or_ge j g.length with h | h
  ·exact h
  ·rw [List.getElem?_eq_none h] at hj; cases hj
 obtain ⟨a, rfl⟩ := h.1.resolve_left (by omega)
 refine ⟨a, rfl, fun w hw => ?_⟩
 have hv := h.2 j hj'
 have := (hw.below.cell (World.block_lt_of_cell? w0 _ hv)).trans hv
 rw [hf j u hj] at this
 simpa [adr] using this
theorem RdW.suf {w0 : World} {H : Hp} {v : Value} {g : List Value} {k : Nat} (h : RdW w0 H v g) (hk : k ≤ g.length) : RdW w0 H (sufV v k) (g.drop k) := by
 obtain ⟨a, c, rfl, h2, h3⟩ := h
 rcases a with _ | ad
 ·refine ⟨none, c - k, by simp [sufV], by simp; omega, fun j u hj => ?_⟩
  rw [List.getElem?_drop] at hj
  obtain ⟨_, e, _⟩ := h3 (k + j) u hj
  cases e
 ·refine ⟨_, c - k, by simp only [sufV, List.length_drop]; rfl, by simp; omega, fun j u hj => ?_⟩
  rw [List.getElem?_drop] at hj
  have hj' : k + j < g.length := by
   rcases Nat.lt_or_ge (k + j) g.length with h | h
   ·exact h
   ·rw [List.getElem?_eq_none h] at hj; cases hj
  obtain ⟨ad', e, e2⟩ := h3 (k + j) u hj
  cases e
  refine ⟨_, rfl, fun w hw => ?_⟩
  rw [if_neg (by omega), Addr.add_add]
  exact e2 w hw
theorem RdW.pre {w0 : World} {H : Hp} {v : Value} {g : List Value} {k : Nat} (h : RdW w0 H v g) (hk : k ≤ g.length) : RdW w0 H (preV v k) (g.take k) := by
 obtain ⟨a, c, rfl, h2, h3⟩ := h
 have hl : (g.take k).length = k := by simp; omega
 refine ⟨a, c, by rw [hl]; rfl, by omega, fun j u hj => ?_⟩
 rw [List.getElem?_take] at hj
 split at hj
 ·exact h3 j u hj
 ·cases hj
section
variable {P : Program} {w0 : World} {ρ : Operand → Value} {H H0 : Hp} {d : Option Tmp} {ty : TypeId} {pos : String} {af : Array Edge} {g : Option (Nat × Bool)} {x y : Operand} {v : Value} {l : List Value}
theorem q_lenW {t e : TypeId} (hR : RdW w0 H v l) (ht : P.underlying t = some (.slice e)) (hx : ρ x = v) : QS P w0 ρ ⟨d, .call { callee := .builtin .len, args := #[x], argTypes := #[t] }, ty, pos, af, g⟩ H (.int .i64 (l.length : Int)) := by
 obtain ⟨a, c, rfl, _, _⟩ := hR
 exact q_lenV ht hx
theorem q_indexW {t e : TypeId} {i : Operand} {k : IntKind} {n : Int} (hR : RdW w0 H v l) (ht : P.underlying t = some (.slice e)) (hs : sizeT P e = some 1) (hx : ρ x = v) (hi : ρ i = .int k n) (h0 : 0 ≤ n) (h1 : n < l.length) :
  QS P w0 ρ ⟨d, .indexAddr t x i, ty, pos, af, g⟩ H (vptr v n.toNat) := by
 obtain ⟨a, c, rfl, _, h3⟩ := hR
 obtain ⟨ad, rfl, _⟩ := h3 n.toNat (l[n.toNat]'(by omega)) (List.getElem?_eq_getElem _)
 exact QS.of_run fun w _ => by simp [execOp, Instr.indexAt, asIntOf, hx, hi, run_underlying ht, h0, h1, run_sizeT hs, vptr]
theorem q_loadW {t : TypeId} {j : Nat} {u : Value} (hR : RdW w0 H v l) (ht : scalT P t = true) (hx : ρ x = vptr v j) (hj : l[j]? = some u) : QS P w0 ρ ⟨d, .load t x, ty, pos, af, g⟩ H u := by
 obtain ⟨a, c, rfl, _, h3⟩ := hR
 obtain ⟨ad, rfl, h4⟩ := h3 j u hj
 exact QS.of_run fun w ho => by simp [execOp, Instr.loadAt, Instr.sureAddr, hx, vptr, loadVar, run_isAgg_scal ht, h4 w ho]
theorem q_loadWS {t : TypeId} {j : Nat} {ss : List (List UInt8)} (hR : RdW w0 H v (strs ss)) (ht : scalT P t = true) (hx : ρ x = vptr v j) (hj : j < ss.length) : QS P w0 ρ ⟨d, .load t x, ty, pos, af, g⟩ H (S (ss.getD j [])) := q_loadW hR ht hx (strs_get ss hj)
theorem q_sufW {t e : TypeId} {lo : Operand} {k : IntKind} {a : Int} (hR : RdW w0 H v l) (ht : P.underlying t = some (.slice e)) (hs : sizeT P e = some 1) (hx : ρ x = v) (ha : ρ lo = .int k a) (h0 : 0 ≤ a) (h1 : a ≤ l.length) :
  QS P w0 ρ ⟨d, .slice t x (some lo) none none, ty, pos, af, g⟩ H (sufV v a.toNat) := by
 obtain ⟨ad, c, rfl, h2, h3⟩ := hR
 rcases ad with _ | ad
 ·exact q_sliceV_lo_none ht hs hx ha h0 h1
 ·exact q_sliceV_lo_some ht hs hx ha h0 h1
end
theorem SeqD.ms {P : Program} {w0 : World} {n : Nat} {H : Hp} {ops : Array Oper} {Q : Post} {e : Env} {R : Value → Hp → Prop} {c0 k i : Nat} {op : Op} {ty : TypeId} {pos : String} {af : Array Edge} {l : List Oper} {D : Hp → Prop}
  (h : OpR P w0 (ev e) ⟨none, op, ty, pos, af, none⟩ H R) (hk : ∀ v H1, R v H1 → D H1 ∧ SeqR2 P w0 n ops Q H1 k l e) : SeqD P w0 n ops Q H c0 k i 0 (⟨none, op, ty, pos, af, none⟩ :: l) e D := ⟨rfl, rfl, R, h, hk⟩
end Go.Proofs.YtfpoldogcopmpaaGreatDoor.D
end
section
namespace Go.Proofs.YtfpoldogcopmpaaGreatDoor.D
open Go Go.RowKit
set_option linter.unusedVariables false
set_option linter.unusedSimpArgs false
section
variable {P : Program} {rs : Array ResultVar} {R : Value → Hp → Prop} {e : Env} {H H' : Hp} {t1 t2 t3 : Tmp} {v1 v2 v3 : Value}
theorem RetP.mktct {ct : TypeId} {b m sz : Nat} {el : TypeId} {cs : List Value} (hr : rs = #[.tmp t1, .cell t2 ct, .tmp t3]) (h1 : e t1 = v1) (hp : e t2 = .pointer (some ⟨b, 0, none⟩)) (h1' : e t3 = v3) (hb : H b = some ⟨cs, sz, el⟩) (hl : cs.length = m) (ht : aggT P ct m = true)
  (h2 : H'.le H) (h3 : R (.tuple #[v1, .agg cs.toArray, v3]) H') : RetP P rs R .ret e H := by
 subst hr; subst hl; exact RetP.mk [v1, .agg cs.toArray, v3] H' ⟨h1, ⟨b, _, hp, hb, .inl ⟨ht, rfl⟩⟩, h1', trivial⟩ h2 h3
end
theorem strs_drop (ss : List (List UInt8)) (n : Nat) : (strs ss).drop n = strs (ss.drop n) := by simp [strs, List.map_drop]
theorem RdW.sufS {w0 : World} {H : Hp} {v : Value} {ss : List (List UInt8)} {n : Nat} (h : RdW w0 H v (strs ss)) (hk : n ≤ ss.length) : RdW w0 H (sufV v n) (strs (ss.drop n)) := by
 have := h.suf (k := n) (by rw [strs_length]; exact hk)
 rwa [strs_drop] at this
section
variable {P : Program} {w0 : World} {ρ : Operand → Value} {H : Hp} {d : Option Tmp} {ty : TypeId} {pos : String} {af : Array Edge} {g : Option (Nat × Bool)} {x : Operand} {v : Value}
theorem q_lenWS {t e : TypeId} {ss : List (List UInt8)} (hR : RdW w0 H v (strs ss)) (ht : P.underlying t = some (.slice e)) (hx : ρ x = v) : QS P w0 ρ ⟨d, .call { callee := .builtin .len, args := #[x], argTypes := #[t] }, ty, pos, af, g⟩ H (.int .i64 (ss.length : Int)) := by
 have := q_lenW (d := d) (ty := ty) (pos := pos) (af := af) (g := g) hR ht hx
 rwa [strs_length] at this
theorem q_sufWS {t e : TypeId} {lo : Operand} {k : IntKind} {a : Int} {ss : List (List UInt8)} (hR : RdW w0 H v (strs ss)) (ht : P.underlying t = some (.slice e)) (hs : sizeT P e = some 1) (hx : ρ x = v) (ha : ρ lo = .int k a) (h0 : 0 ≤ a) (h1 : a ≤ ss.length) :
  QS P w0 ρ ⟨d, .slice t x (some lo) none none, ty, pos, af, g⟩ H (sufV v a.toNat) := q_sufW hR ht hs hx ha h0 (by rw [strs_length]; exact h1)
theorem q_indexWS {t e : TypeId} {i : Operand} {k : IntKind} {n : Int} {ss : List (List UInt8)} (hR : RdW w0 H v (strs ss)) (ht : P.underlying t = some (.slice e)) (hs : sizeT P e = some 1) (hx : ρ x = v) (hi : ρ i = .int k n) (h0 : 0 ≤ n) (h1 : n < ss.length) :
  QS P w0 ρ ⟨d, .indexAddr t x i, ty, pos, af, g⟩ H (vptr v n.toNat) := q_indexW hR ht hs hx hi h0 (by rw [strs_length]; exact h1)
end
end Go.Proofs.YtfpoldogcopmpaaGreatDoor.D
end
section
namespace Go.Proofs.YtfpoldogcopmpaaGreatDoor.D
open Go Go.RowKit
set_option linter.unusedVariables false
set_option linter.unusedSimpArgs false
/-- The lowest byte of a number. -/
def b8 (n : Int) : UInt8 := UInt8.ofNat (n % 256).toNat
theorem b8_toNat (n : Int) : (((b8 n).toNat : Nat) : Int) = n % 256 := by
 unfold b8
 rw [UInt8.toNat_ofNat', Nat.mod_eq_of_lt (by omega)]; omega
section
variable {P : Program} {w0 : World} {ρ : Operand → Value} {H : Hp} {d : Option Tmp} {ty : TypeId} {pos : String} {af : Array Edge} {g : Option (Nat × Bool)} {x : Operand}
theorem q_convB8 {s t : TypeId} {k : IntKind} {n : Int} (hs : (P.underlying s).isSome = true) (ht : P.underlying t = some (.int .u8)) (hx : ρ x = .int k n) : QS P w0 ρ ⟨d, .convert s t x, ty, pos, af, g⟩ H (BV (b8 n)) := by
 have := q_convInt (w0 := w0) (H := H) (d := d) (ty := ty) (pos := pos) (af := af) (g := g) hs ht hx
 rwa [wrap_u8, ← b8_toNat] at this
end
end Go.Proofs.YtfpoldogcopmpaaGreatDoor.D
end
section
namespace Go.Proofs.YtfpoldogcopmpaaGreatDoor
open Go Go.RowKit D
set_option linter.unusedVariables false
set_option linter.unusedSimpArgs false
set_option maxRecDepth 100000
set_option maxHeartbeats 1000000
def sizeS (suite : Int) : Int := if suite = 4865 then 16 else if suite = 4867 then 32 else 0
theorem sizeS_a : sizeS 4865 = 16 := rfl
theorem sizeS_b : sizeS 4867 = 32 := rfl
theorem sizeS_no {s : Int} (h : ¬ s = 4865) (h1 : ¬ s = 4867) : sizeS s = 0 := by rw [sizeS, if_neg h, if_neg h1]
def nbK (iv : List UInt8) (n : Int) : Nat → List UInt8
 | 0 => iv
 | j + 1 => (nbK iv n j).set (11 - j) ((nbK iv n j).getD (11 - j) 0 ^^^ b8 (n / 256 ^ j))
theorem nbK_succ (iv : List UInt8) (n : Int) (j : Nat) : nbK iv n (j + 1) = (nbK iv n j).set (11 - j) ((nbK iv n j).getD (11 - j) 0 ^^^ b8 (n / 256 ^ j)) := rfl
theorem nbK_length (iv : List UInt8) (n : Int) (j : Nat) : (nbK iv n j).length = iv.length := by
 induction j with
 | zero => rfl
 | succ j ih => rw [nbK_succ, List.length_set, ih]
theorem b8_none : b8 0 = 0 := by unfold b8; rfl
theorem nbK_stop (iv : List UInt8) {n : Int} (h0 : 0 ≤ n) {j : Nat} (h : n / 256 ^ j ≤ 0) (hiv : iv.length = 12) : ∀ d, j + d ≤ 8 → nbK iv n (j + d) = nbK iv n j := by
 intro d
 induction d with
 | zero => intro _; rfl
 | succ d ih =>
  intro hd
  have hz : n / 256 ^ (j + d) = 0 := by
   rw [Int.pow_add, ← Int.ediv_ediv_of_nonneg (Int.pow_nonneg (by decide))]
   have : 0 ≤ n / 256 ^ j := Int.ediv_nonneg h0 (Int.pow_nonneg (by decide))
   rw [show n / 256 ^ j = 0 from by omega, Int.zero_ediv]
  have hl := nbK_length iv n j
  rw [← Nat.add_assoc, nbK_succ, ih (by omega), hz, b8_none, UInt8.xor_zero]
  apply getD_ext (by rw [List.length_set])
  intro i hi
  rw [getD_set8]
  split
  ·rename_i g; rw [g.1]
  ·rfl
def nonceB (iv : List UInt8) (n : Int) : List UInt8 := nbK iv n 8
theorem nonceB_length (iv : List UInt8) (n : Int) : (nonceB iv n).length = iv.length := nbK_length _ _ _
def nonceP (iv : List UInt8) (n : Int) : List UInt8 × Int := if iv.length = 12 then (if n < 0 then ([], 1) else (nonceB iv n, 0)) else ([], 21)
theorem nonceP_key {iv : List UInt8} (n : Int) (h : ¬ iv.length = 12) : nonceP iv n = ([], 21) := if_neg h
theorem nonceP_arg {iv : List UInt8} {n : Int} (h : iv.length = 12) (h1 : n < 0) : nonceP iv n = ([], 1) := by rw [nonceP, if_pos h, if_pos h1]
theorem nonceP_ok {iv : List UInt8} {n : Int} (h : iv.length = 12) (h1 : ¬ n < 0) : nonceP iv n = (nonceB iv n, 0) := by rw [nonceP, if_pos h, if_neg h1]
def lleB (n : Nat) (k : Nat) : List UInt8 := (List.range k).map fun i => b8 ((n : Int) / 256 ^ i)
theorem lleB_length (n k : Nat) : (lleB n k).length = k := by simp [lleB]
theorem lleB_succ (n k : Nat) : lleB n (k + 1) = lleB n k ++ [b8 ((n : Int) / 256 ^ k)] := by simp [lleB, List.range_succ]
theorem lle_set (n : Nat) {k : Nat} (h : k < 8) : (lleB n k ++ zs (8 - k)).set k (b8 ((n : Int) / 256 ^ k)) = lleB n (k + 1) ++ zs (8 - (k + 1)) := by
 rw [zs_eq, zs_eq, List.set_append_right _ _ (by rw [lleB_length]; exact Nat.le_refl _), lleB_length, Nat.sub_self, lleB_succ, show 8 - k = (8 - (k + 1)) + 1 from by omega, List.replicate_succ]
 simp
theorem lle_shift (n : Int) {k : Nat} (h : k < 8) : n / 2 ^ min (8 * (k : Int)).toNat IntKind.i64.bits = n / 256 ^ k := by
 rw [show IntKind.i64.bits = 64 from rfl, show min (8 * (k : Int)).toNat 64 = 8 * k from by omega, show (256 : Int) ^ k = 2 ^ (8 * k) from by rw [Int.pow_mul]; rfl]
def sTag (key nonce beside sealed : List UInt8) : List UInt8 := (Po.tagP ((Ch.blockP key nonce 0).1.take 32) (flB beside ++ flB sealed ++ lleB beside.length 8 ++ lleB sealed.length 8)).1
theorem ch_block {key nonce : List UInt8} (hk : key.length = 32) (hn : nonce.length = 12) : (Ch.blockP key nonce 0).1.length = 64 := Ch.blockP_len (Ch.wrong_none hk hn (by decide))
theorem sTag_length {key nonce : List UInt8} (b s : List UInt8) (hk : key.length = 32) (hn : nonce.length = 12) : (sTag key nonce b s).length = 16 := by
 unfold sTag
 rw [Po.tagP_ok (by rw [List.length_take, ch_block hk hn]; rfl)]
 exact Po.tagB_length _
theorem sXor_ok {key nonce d : List UInt8} (hk : key.length = 32) (hn : nonce.length = 12) (hd : d.length ≤ 1048576) : (Ch.xorP key nonce 1 d).2 = 0 := by
 rw [Ch.xorP_val (Ch.wrong_none hk hn (by decide)) (by omega)]
theorem sXor_length {key nonce d : List UInt8} (hk : key.length = 32) (hn : nonce.length = 12) (hd : d.length ≤ 1048576) : (Ch.xorP key nonce 1 d).1.length = d.length := Ch.xorP_length (sXor_ok hk hn hd)
def sSeal (key nonce beside plain : List UInt8) : List UInt8 × Int :=
 if ¬ (key.length = 32 ∧ nonce.length = 12) then ([], 21) else if 1048576 < beside.length ∨ 1048576 < plain.length then ([], 13) else ((Ch.xorP key nonce 1 plain).1 ++ sTag key nonce beside (Ch.xorP key nonce 1 plain).1, 0)
theorem sSeal_key {key nonce beside plain : List UInt8} (h : ¬ (key.length = 32 ∧ nonce.length = 12)) : sSeal key nonce beside plain = ([], 21) := if_pos h
theorem sSeal_big {key nonce beside plain : List UInt8} (h : key.length = 32 ∧ nonce.length = 12) (h1 : 1048576 < beside.length ∨ 1048576 < plain.length) : sSeal key nonce beside plain = ([], 13) := by rw [sSeal, if_neg (fun g => g h), if_pos h1]
theorem sSeal_ok {key nonce beside plain : List UInt8} (h : key.length = 32 ∧ nonce.length = 12) (h1 : ¬ (1048576 < beside.length ∨ 1048576 < plain.length)) : sSeal key nonce beside plain = ((Ch.xorP key nonce 1 plain).1 ++ sTag key nonce beside (Ch.xorP key nonce 1 plain).1, 0) := by rw [sSeal, if_neg (fun g => g h), if_neg h1]
def sOpen (key nonce beside sealed : List UInt8) : List UInt8 × Int :=
 if ¬ (key.length = 32 ∧ nonce.length = 12) then ([], 21) else if sealed.length < 16 then ([], 20) else if 1048576 < beside.length ∨ 1048592 < sealed.length then ([], 13) else
 if sTag key nonce beside (sealed.take (sealed.length - 16)) = sealed.drop (sealed.length - 16) then ((Ch.xorP key nonce 1 (sealed.take (sealed.length - 16))).1, 0) else ([], 20)
theorem sOpen_key {key nonce beside sealed : List UInt8} (h : ¬ (key.length = 32 ∧ nonce.length = 12)) : sOpen key nonce beside sealed = ([], 21) := if_pos h
theorem sOpen_short {key nonce beside sealed : List UInt8} (h : key.length = 32 ∧ nonce.length = 12) (h0 : sealed.length < 16) : sOpen key nonce beside sealed = ([], 20) := by rw [sOpen, if_neg (fun g => g h), if_pos h0]
theorem sOpen_big {key nonce beside sealed : List UInt8} (h : key.length = 32 ∧ nonce.length = 12) (h0 : ¬ sealed.length < 16) (h1 : 1048576 < beside.length ∨ 1048592 < sealed.length) : sOpen key nonce beside sealed = ([], 13) := by rw [sOpen, if_neg (fun g => g h), if_neg h0, if_pos h1]
theorem sOpen_tag {key nonce beside sealed : List UInt8} (h : key.length = 32 ∧ nonce.length = 12) (h0 : ¬ sealed.length < 16) (h1 : ¬ (1048576 < beside.length ∨ 1048592 < sealed.length)) (h2 : ¬ sTag key nonce beside (sealed.take (sealed.length - 16)) = sealed.drop (sealed.length - 16)) : sOpen key nonce beside sealed = ([], 20) := by
 rw [sOpen, if_neg (fun g => g h), if_neg h0, if_neg h1, if_neg h2]
theorem sOpen_ok {key nonce beside sealed : List UInt8} (h : key.length = 32 ∧ nonce.length = 12) (h0 : ¬ sealed.length < 16) (h1 : ¬ (1048576 < beside.length ∨ 1048592 < sealed.length)) (h2 : sTag key nonce beside (sealed.take (sealed.length - 16)) = sealed.drop (sealed.length - 16)) : sOpen key nonce beside sealed = ((Ch.xorP key nonce 1 (sealed.take (sealed.length - 16))).1, 0) := by
 rw [sOpen, if_neg (fun g => g h), if_neg h0, if_neg h1, if_pos h2]
def slSeal (suite : Int) (key nonce beside plain : List UInt8) : List UInt8 × Int := if suite = 4865 then sealP key nonce beside plain else if suite = 4867 then sSeal key nonce beside plain else ([], 1)
theorem slSeal_a (key nonce beside plain : List UInt8) : slSeal 4865 key nonce beside plain = sealP key nonce beside plain := if_pos rfl
theorem slSeal_b (key nonce beside plain : List UInt8) : slSeal 4867 key nonce beside plain = sSeal key nonce beside plain := by rw [slSeal, if_neg (by decide), if_pos rfl]
theorem slSeal_no {suite : Int} (key nonce beside plain : List UInt8) (h : ¬ suite = 4865) (h1 : ¬ suite = 4867) : slSeal suite key nonce beside plain = ([], 1) := by rw [slSeal, if_neg h, if_neg h1]
def slOpen (suite : Int) (key nonce beside sealed : List UInt8) : List UInt8 × Int := if suite = 4865 then openP key nonce beside sealed else if suite = 4867 then sOpen key nonce beside sealed else ([], 1)
theorem slOpen_a (key nonce beside sealed : List UInt8) : slOpen 4865 key nonce beside sealed = openP key nonce beside sealed := if_pos rfl
theorem slOpen_b (key nonce beside sealed : List UInt8) : slOpen 4867 key nonce beside sealed = sOpen key nonce beside sealed := by rw [slOpen, if_neg (by decide), if_pos rfl]
theorem slOpen_no {suite : Int} (key nonce beside sealed : List UInt8) (h : ¬ suite = 4865) (h1 : ¬ suite = 4867) : slOpen suite key nonce beside sealed = ([], 1) := by rw [slOpen, if_neg h, if_neg h1]
theorem sSeal_len {key nonce b d : List UInt8} (h : key.length = 32 ∧ nonce.length = 12) (h1 : ¬ (1048576 < b.length ∨ 1048576 < d.length)) : (sSeal key nonce b d).1.length = d.length + 16 := by
 rw [sSeal_ok h h1, List.length_append, sXor_length h.1 h.2 (by omega), sTag_length _ _ h.1 h.2]
theorem sSeal_open {key nonce b d : List UInt8} (h : key.length = 32 ∧ nonce.length = 12) (h1 : ¬ (1048576 < b.length ∨ 1048576 < d.length)) : sOpen key nonce b (sSeal key nonce b d).1 = (d, 0) := by
 have hl := sSeal_len h h1
 have hs := sXor_length (d := d) h.1 h.2 (by omega)
 have e : (sSeal key nonce b d).1 = (Ch.xorP key nonce 1 d).1 ++ sTag key nonce b (Ch.xorP key nonce 1 d).1 := by rw [sSeal_ok h h1]
 have ht : (sSeal key nonce b d).1.take ((sSeal key nonce b d).1.length - 16) = (Ch.xorP key nonce 1 d).1 := by
  rw [hl, e, Nat.add_sub_cancel, List.take_append_of_le_length (by omega), List.take_of_length_le (by omega)]
 have hd : (sSeal key nonce b d).1.drop ((sSeal key nonce b d).1.length - 16) = sTag key nonce b (Ch.xorP key nonce 1 d).1 := by
  rw [hl, e, Nat.add_sub_cancel, List.drop_append_of_le_length (by omega), List.drop_eq_nil_of_le (by omega), List.nil_append]
 rw [sOpen_ok h (by omega) (by omega) (by rw [ht, hd]), ht, Ch.xorP_back (sXor_ok h.1 h.2 (by omega))]
theorem nshift (n : Int) (j : Nat) : n / 256 ^ j / 2 ^ 8 = n / 256 ^ (j + 1) := by
 rw [Int.pow_succ, Int.ediv_ediv_of_nonneg (Int.pow_nonneg (by decide))]; rfl
theorem nq_lt {n : Int} (h0 : 0 ≤ n) (h1 : n ≤ 9223372036854775807) {j : Nat} (hj : j ≤ 8) (h : 0 < n / 256 ^ j) : j < 8 := by
 rcases Nat.lt_or_ge j 8 with g | g
 ·exact g
 ·obtain rfl : j = 8 := by omega
  rw [Int.ediv_eq_zero_of_lt h0 (by rw [show (256 : Int) ^ 8 = 18446744073709551616 from by decide]; omega)] at h
  exact absurd h (by decide)
attribute [irreducible] sizeS nbK nonceB nonceP lleB sTag sSeal sOpen slSeal slOpen
theorem nbK_zero' (iv : List UInt8) (n : Int) : nbK iv n 0 = iv := by unfold nbK; rfl
theorem nbK_succ' (iv : List UInt8) (n : Int) (j : Nat) : nbK iv n (j + 1) = (nbK iv n j).set (11 - j) ((nbK iv n j).getD (11 - j) 0 ^^^ b8 (n / 256 ^ j)) := nbK_succ iv n j
theorem nonceB_def (iv : List UInt8) (n : Int) : nonceB iv n = nbK iv n 8 := by unfold nonceB; rfl
theorem lleB_zero' (n : Nat) : lleB n 0 = [] := by unfold lleB; rfl
theorem sTag_def (key nonce beside sealed : List UInt8) : sTag key nonce beside sealed = (Po.tagP ((Ch.blockP key nonce 0).1.take 32) (flB beside ++ flB sealed ++ lleB beside.length 8 ++ lleB sealed.length 8)).1 := by unfold sTag; rfl
end Go.Proofs.YtfpoldogcopmpaaGreatDoor
end
section
namespace Go.Proofs.YtfpoldogcopmpaaGreatDoor
open Go Go.RowKit D
set_option linter.unusedVariables false
set_option linter.unusedSimpArgs false
def isK (n : Int) : Bool := decide (20 ≤ n) && decide (n ≤ 23)
def headP (kind n : Int) : List UInt8 := toB [IntKind.u8.wrap kind, 3, 3, IntKind.u8.wrap (n / 256), IntKind.u8.wrap n]
def frameP (kind : Int) (body : List UInt8) : List UInt8 × Int :=
 if isK kind = false then ([], 1) else if 16640 < body.length then ([], 13) else (headP kind body.length ++ body, 0)
@[simp] theorem headP_length (kind n : Int) : (headP kind n).length = 5 := rfl
theorem frameP_kind {kind : Int} {body : List UInt8} (h : isK kind = false) : frameP kind body = ([], 1) := if_pos h
theorem frameP_big {kind : Int} {body : List UInt8} (h : isK kind = true) (h1 : 16640 < body.length) : frameP kind body = ([], 13) := by unfold frameP; rw [if_neg (by simp [h]), if_pos h1]
theorem frameP_ok {kind : Int} {body : List UInt8} (h : isK kind = true) (h1 : body.length ≤ 16640) : frameP kind body = (headP kind body.length ++ body, 0) := by unfold frameP; rw [if_neg (by simp [h]), if_neg (by omega)]
/-- Is a byte not what it must be there? -/
def badAt (s : List UInt8) (i : Nat) : Prop := (i = 0 ∧ isK (bt s 0) = false) ∨ (0 < i ∧ bt s i ≠ 3)
def badP (s : List UInt8) : Prop := ∃ i, i < s.length ∧ i < 3 ∧ badAt s i
open Classical in
noncomputable def sizeP (s : List UInt8) : Int × Int :=
 if badP s then (0, 11) else if s.length < 5 then (0, 33) else if 16640 < 256 * bt s 3 + bt s 4 then (0, 13) else if (s.length : Int) < 5 + (256 * bt s 3 + bt s 4) then (0, 33) else (256 * bt s 3 + bt s 4, 0)
theorem sizeP_bad {s : List UInt8} (h : badP s) : sizeP s = (0, 11) := if_pos h
theorem sizeP_short {s : List UInt8} (h : ¬ badP s) (h1 : s.length < 5) : sizeP s = (0, 33) := by unfold sizeP; rw [if_neg h, if_pos h1]
theorem sizeP_big {s : List UInt8} (h : ¬ badP s) (h1 : 5 ≤ s.length) (h2 : 16640 < 256 * bt s 3 + bt s 4) : sizeP s = (0, 13) := by unfold sizeP; rw [if_neg h, if_neg (by omega), if_pos h2]
theorem sizeP_wait {s : List UInt8} (h : ¬ badP s) (h1 : 5 ≤ s.length) (h2 : 256 * bt s 3 + bt s 4 ≤ 16640) (h3 : (s.length : Int) < 5 + (256 * bt s 3 + bt s 4)) : sizeP s = (0, 33) := by unfold sizeP; rw [if_neg h, if_neg (by omega), if_neg (by omega), if_pos h3]
theorem sizeP_ok {s : List UInt8} (h : ¬ badP s) (h1 : 5 ≤ s.length) (h2 : 256 * bt s 3 + bt s 4 ≤ 16640) (h3 : 5 + (256 * bt s 3 + bt s 4) ≤ (s.length : Int)) : sizeP s = (256 * bt s 3 + bt s 4, 0) := by unfold sizeP; rw [if_neg h, if_neg (by omega), if_neg (by omega), if_neg (by omega)]
theorem sizeP_zero {s : List UInt8} (h : (sizeP s).2 = 0) : ¬ badP s ∧ 5 ≤ s.length ∧ (sizeP s).1 = 256 * bt s 3 + bt s 4 ∧ 0 ≤ (sizeP s).1 ∧ (sizeP s).1 ≤ 16640 ∧ 5 + (sizeP s).1 ≤ (s.length : Int) := by
 have b3 := bt_range s 3
 have b4 := bt_range s 4
 by_cases h0 : badP s
 ·rw [sizeP_bad h0] at h; cases h
 ·by_cases h1 : s.length < 5
  ·rw [sizeP_short h0 h1] at h; cases h
  ·by_cases h2 : 16640 < 256 * bt s 3 + bt s 4
   ·rw [sizeP_big h0 (by omega) h2] at h; cases h
   ·by_cases h3 : (s.length : Int) < 5 + (256 * bt s 3 + bt s 4)
    ·rw [sizeP_wait h0 (by omega) (by omega) h3] at h; cases h
    ·rw [sizeP_ok h0 (by omega) (by omega) (by omega)]; exact ⟨h0, by omega, rfl, by omega, by omega, by omega⟩
/-- What the next record is, what is wrong; and the bytes and the fault behind it. -/
noncomputable def nextP (s : List UInt8) (e : Int) : (Int × List UInt8 × Int) × (List UInt8 × Int) :=
 if e ≠ 0 then ((0, [], e), (s, e)) else if (sizeP s).2 ≠ 0 then ((0, [], (sizeP s).2), (s, if (sizeP s).2 ≠ 33 then (sizeP s).2 else 0))
 else ((bt s 0, (s.take (5 + (sizeP s).1).toNat).drop 5, 0), (s.drop (5 + (sizeP s).1).toNat, 0))
theorem nextP_err {s : List UInt8} {e : Int} (h : e ≠ 0) : nextP s e = ((0, [], e), (s, e)) := if_pos h
theorem nextP_wrong {s : List UInt8} (h : (sizeP s).2 ≠ 0) (h1 : (sizeP s).2 ≠ 33) : nextP s 0 = ((0, [], (sizeP s).2), (s, (sizeP s).2)) := by unfold nextP; rw [if_neg (by simp), if_pos h, if_pos h1]
theorem nextP_busy {s : List UInt8} (h1 : (sizeP s).2 = 33) : nextP s 0 = ((0, [], 33), (s, 0)) := by unfold nextP; rw [if_neg (by simp), if_pos (by rw [h1]; decide), if_neg (by simp [h1]), h1]
theorem nextP_ok {s : List UInt8} (h : (sizeP s).2 = 0) : nextP s 0 = ((bt s 0, (s.take (5 + (sizeP s).1).toNat).drop 5, 0), (s.drop (5 + (sizeP s).1).toNat, 0)) := by unfold nextP; rw [if_neg (by simp), if_neg (by simp [h])]
def feedP (s : List UInt8) (e : Int) (d : List UInt8) : Int × List UInt8 :=
 if e ≠ 0 then (e, s) else if 1048576 < s.length + d.length then (13, s) else (0, s ++ d)
theorem feedP_err {s d : List UInt8} {e : Int} (h : e ≠ 0) : feedP s e d = (e, s) := if_pos h
theorem feedP_big {s d : List UInt8} (h : 1048576 < s.length + d.length) : feedP s 0 d = (13, s) := by unfold feedP; rw [if_neg (by simp), if_pos h]
theorem feedP_ok {s d : List UInt8} (h : s.length + d.length ≤ 1048576) : feedP s 0 d = (0, s ++ d) := by unfold feedP; rw [if_neg (by simp), if_neg (by omega)]
theorem badAt_of {s : List UInt8} {i : Nat} (h : ((i : Int) = 0 ∧ isK (bt s i) = false) ∨ ((0 : Int) < i ∧ ¬ bt s i = 3)) : badAt s i := by
 rcases h with ⟨h1, h2⟩ | ⟨h1, h2⟩
 ·obtain rfl : i = 0 := by omega
  exact .inl ⟨rfl, h2⟩
 ·exact .inr ⟨by omega, h2⟩
theorem badP_of {s : List UInt8} {i : Nat} (h : i < s.length) (h3 : i < 3) (hb : badAt s i) : badP s := ⟨i, h, h3, hb⟩
theorem badP_iff {s : List UInt8} : badP s ↔ ∃ i, i < s.length ∧ i < 3 ∧ badAt s i := Iff.rfl
theorem badP_of3 {s : List UInt8} (hl : 0 < s.length) (h : (isK (bt s 0) = false ∨ (1 < (s.length : Int) ∧ ¬ bt s 1 = 3)) ∨ (2 < (s.length : Int) ∧ ¬ bt s 2 = 3)) : badP s := by
 rcases h with (h | ⟨h1, h2⟩) | ⟨h1, h2⟩
 ·exact ⟨0, hl, by omega, .inl ⟨rfl, h⟩⟩
 ·exact ⟨1, by omega, by omega, .inr ⟨by omega, h2⟩⟩
 ·exact ⟨2, by omega, by omega, .inr ⟨by omega, h2⟩⟩
theorem badP_not3 {s : List UInt8} (h : (isK (bt s 0) = true ∧ (1 < (s.length : Int) → bt s 1 = 3)) ∧ (2 < (s.length : Int) → bt s 2 = 3)) : ¬ badP s := by
 rintro ⟨i, h1, h2, ⟨rfl, h3⟩ | ⟨h3, h4⟩⟩
 ·rw [h.1.1] at h3; cases h3
 ·rcases (by omega : i = 1 ∨ i = 2) with rfl | rfl
  ·exact h4 (h.1.2 (by omega))
  ·exact h4 (h.2 (by omega))
theorem wrap8_rem (n : Int) : IntKind.u8.wrap (n % 256) = IntKind.u8.wrap n := by simp [IntKind.wrap, IntKind.bits, IntKind.signed]
theorem wrap_u8 (x : Int) : IntKind.u8.wrap x = x % 256 := by simp [IntKind.wrap, IntKind.bits, IntKind.signed]
theorem wrap_i64 {x : Int} (h0 : -9223372036854775808 ≤ x) (h1 : x ≤ 9223372036854775807) : IntKind.i64.wrap x = x := by
 simp [IntKind.wrap, IntKind.bits, IntKind.signed]; omega
/-- Two bytes as one number. -/
theorem two_bytes {a b : Int} (ha : 0 ≤ a ∧ a ≤ 255) (hb : 0 ≤ b ∧ b ≤ 255) : ior .i64 (IntKind.i64.wrap (IntKind.i64.wrap a * 2 ^ 8)) (IntKind.i64.wrap b) = 256 * a + b := by
 obtain ⟨x, rfl⟩ := Int.eq_ofNat_of_zero_le ha.1
 obtain ⟨y, rfl⟩ := Int.eq_ofNat_of_zero_le hb.1
 rw [wrap_i64 (x := (x : Int)) (by omega) (by omega), wrap_i64 (x := (y : Int)) (by omega) (by omega), wrap_i64 (x := (x : Int) * 2 ^ 8) (by omega) (by omega)]
 unfold ior
 have e1 : BitVec.ofInt IntKind.i64.bits ((x : Int) * 2 ^ 8) = BitVec.ofNat 64 (x <<< 8) := by
  apply BitVec.eq_of_toNat_eq
  simp [IntKind.bits, Nat.shiftLeft_eq]
  omega
 have e2 : BitVec.ofInt IntKind.i64.bits (y : Int) = BitVec.ofNat 64 y := by
  apply BitVec.eq_of_toNat_eq
  simp [IntKind.bits]
 rw [e1, e2]
 have hx : x <<< 8 < 2 ^ 64 := by rw [Nat.shiftLeft_eq]; omega
 have hor : x <<< 8 ||| y = 256 * x + y := by
  rw [← Nat.shiftLeft_add_eq_or_of_lt (by omega : y < 2 ^ 8), Nat.shiftLeft_eq]; omega
 have : (BitVec.ofNat 64 (x <<< 8) ||| BitVec.ofNat 64 y).toNat = 256 * x + y := by
  rw [BitVec.toNat_or, BitVec.toNat_ofNat, BitVec.toNat_ofNat, Nat.mod_eq_of_lt hx, Nat.mod_eq_of_lt (by omega), hor]
 show IntKind.i64.wrap (((BitVec.ofNat 64 (x <<< 8) ||| BitVec.ofNat 64 y).toNat : Nat) : Int) = _
 rw [this, wrap_i64 (by omega) (by omega)]
 omega
attribute [irreducible] badP sizeP nextP feedP isK
end Go.Proofs.YtfpoldogcopmpaaGreatDoor
end
section
namespace Go.Proofs.YtfpoldogcopmpaaGreatDoor
open Go Go.RowKit D
set_option linter.unusedVariables false
set_option linter.unusedSimpArgs false
structure BoxS where
 suite : Int
 key : List UInt8
 iv : List UInt8
 n : Int
def bxCells (x : BoxS) : List Value := [.int .i64 x.suite, S x.key, S x.iv, .int .i64 x.n]
abbrev bxBlk (x : BoxS) : Blk := ⟨bxCells x, 4, 55⟩
def boxE (suite : Int) (key iv : List UInt8) : Int := if sizeS suite = 0 then 1 else if (key.length : Int) = sizeS suite ∧ iv.length = 12 then 0 else 21
theorem boxE_arg {suite : Int} {key iv : List UInt8} (h : sizeS suite = 0) : boxE suite key iv = 1 := if_pos h
theorem boxE_key {suite : Int} {key iv : List UInt8} (h : ¬ sizeS suite = 0) (h1 : ¬ ((key.length : Int) = sizeS suite ∧ iv.length = 12)) : boxE suite key iv = 21 := by rw [boxE, if_neg h, if_neg h1]
theorem boxE_ok {suite : Int} {key iv : List UInt8} (h : ¬ sizeS suite = 0) (h1 : (key.length : Int) = sizeS suite ∧ iv.length = 12) : boxE suite key iv = 0 := by rw [boxE, if_neg h, if_pos h1]
def bxNonce (x : BoxS) : List UInt8 × Int := if 65536 ≤ x.n then ([], 44) else nonceP x.iv x.n
theorem bxNonce_seq {x : BoxS} (h : 65536 ≤ x.n) : bxNonce x = ([], 44) := if_pos h
theorem bxNonce_go {x : BoxS} (h : ¬ 65536 ≤ x.n) : bxNonce x = nonceP x.iv x.n := if_neg h
def bxInner (kind : Int) (plain : List UInt8) (pad : Int) : List UInt8 := plain ++ toB [IntKind.u8.wrap kind] ++ List.replicate pad.toNat 0
theorem bxInner_length (kind : Int) (plain : List UInt8) {pad : Int} (h : 0 ≤ pad) : ((bxInner kind plain pad).length : Int) = plain.length + 1 + pad := by
 unfold bxInner; rw [List.length_append, List.length_append, List.length_replicate, toB_length]; simp; omega
def bxHead (kind : Int) (plain : List UInt8) (pad : Int) : List UInt8 := headP 23 (((bxInner kind plain pad).length : Int) + 16)
def bxSealed (x : BoxS) (kind : Int) (plain : List UInt8) (pad : Int) : List UInt8 × Int := slSeal x.suite x.key (bxNonce x).1 (bxHead kind plain pad) (bxInner kind plain pad)
def bxSeal (x : BoxS) (kind : Int) (plain : List UInt8) (pad : Int) : List UInt8 × Int :=
 if isK kind = false ∨ pad < 0 then ([], 1) else if 16384 < (plain.length : Int) ∨ 16600 - (plain.length : Int) < pad then ([], 13) else if ¬ (bxNonce x).2 = 0 then ([], (bxNonce x).2)
 else if ¬ (bxSealed x kind plain pad).2 = 0 then ([], (bxSealed x kind plain pad).2) else (bxHead kind plain pad ++ (bxSealed x kind plain pad).1, 0)
def bxAfter (x : BoxS) (kind : Int) (plain : List UInt8) (pad : Int) : BoxS := if (bxSeal x kind plain pad).2 = 0 then { x with n := x.n + 1 } else x
variable {x : BoxS} {kind : Int} {plain : List UInt8} {pad : Int}
theorem bx_arg (h : isK kind = false ∨ pad < 0) : bxSeal x kind plain pad = ([], 1) ∧ bxAfter x kind plain pad = x := by
 have e : bxSeal x kind plain pad = ([], 1) := if_pos h
 exact ⟨e, by rw [bxAfter, e, if_neg (by decide)]⟩
theorem bx_big (h : isK kind = true ∧ 0 ≤ pad) (h1 : 16384 < (plain.length : Int) ∨ 16600 - (plain.length : Int) < pad) : bxSeal x kind plain pad = ([], 13) ∧ bxAfter x kind plain pad = x := by
 have e : bxSeal x kind plain pad = ([], 13) := by rw [bxSeal, if_neg (fun g => by rcases g with g | g; (rw [h.1] at g; cases g); omega), if_pos h1]
 exact ⟨e, by rw [bxAfter, e, if_neg (by decide)]⟩
theorem bx_nonce (h : isK kind = true ∧ 0 ≤ pad) (h1 : ¬ (16384 < (plain.length : Int) ∨ 16600 - (plain.length : Int) < pad)) (h2 : ¬ (bxNonce x).2 = 0) : bxSeal x kind plain pad = ([], (bxNonce x).2) ∧ bxAfter x kind plain pad = x := by
 have e : bxSeal x kind plain pad = ([], (bxNonce x).2) := by rw [bxSeal, if_neg (fun g => by rcases g with g | g; (rw [h.1] at g; cases g); omega), if_neg h1, if_pos h2]
 exact ⟨e, by rw [bxAfter, e, if_neg h2]⟩
theorem bx_seal (h : isK kind = true ∧ 0 ≤ pad) (h1 : ¬ (16384 < (plain.length : Int) ∨ 16600 - (plain.length : Int) < pad)) (h2 : (bxNonce x).2 = 0) (h3 : ¬ (bxSealed x kind plain pad).2 = 0) : bxSeal x kind plain pad = ([], (bxSealed x kind plain pad).2) ∧ bxAfter x kind plain pad = x := by
 have e : bxSeal x kind plain pad = ([], (bxSealed x kind plain pad).2) := by rw [bxSeal, if_neg (fun g => by rcases g with g | g; (rw [h.1] at g; cases g); omega), if_neg h1, if_neg (fun g => g h2), if_pos h3]
 exact ⟨e, by rw [bxAfter, e, if_neg h3]⟩
theorem bx_ok (h : isK kind = true ∧ 0 ≤ pad) (h1 : ¬ (16384 < (plain.length : Int) ∨ 16600 - (plain.length : Int) < pad)) (h2 : (bxNonce x).2 = 0) (h3 : (bxSealed x kind plain pad).2 = 0) : bxSeal x kind plain pad = (bxHead kind plain pad ++ (bxSealed x kind plain pad).1, 0) ∧ bxAfter x kind plain pad = { x with n := x.n + 1 } := by
 have e : bxSeal x kind plain pad = (bxHead kind plain pad ++ (bxSealed x kind plain pad).1, 0) := by rw [bxSeal, if_neg (fun g => by rcases g with g | g; (rw [h.1] at g; cases g); omega), if_neg h1, if_neg (fun g => g h2), if_neg (fun g => g h3)]
 exact ⟨e, by rw [bxAfter, e, if_pos rfl]⟩
theorem bxHead_length (kind : Int) (plain : List UInt8) (pad : Int) : (bxHead kind plain pad).length = 5 := rfl
end Go.Proofs.YtfpoldogcopmpaaGreatDoor
end
section
namespace Go.Proofs.YtfpoldogcopmpaaGreatDoor
open Go Go.RowKit D
set_option linter.unusedVariables false
set_option linter.unusedSimpArgs false
set_option maxRecDepth 100000
set_option maxHeartbeats 1000000
theorem seal_len {key nonce b d : List UInt8} (h : key.length = 16 ∧ nonce.length = 12) (h1 : ¬ (1048576 < b.length ∨ 1048576 < d.length)) : (sealP key nonce b d).1.length = d.length + 16 := by
 rw [sealP_ok h h1, List.length_append, strmB_length', gtag_length']
theorem seal_open {key nonce b d : List UInt8} (h : key.length = 16 ∧ nonce.length = 12) (h1 : ¬ (1048576 < b.length ∨ 1048576 < d.length)) : openP key nonce b (sealP key nonce b d).1 = (d, 0) := by
 have hl := seal_len h h1
 have hs := strmB_length' key nonce d
 have e : (sealP key nonce b d).1 = strmB key nonce d ++ gtag key nonce b (strmB key nonce d) := by rw [sealP_ok h h1]
 have ht : (sealP key nonce b d).1.take ((sealP key nonce b d).1.length - 16) = strmB key nonce d := by
  rw [hl, e, Nat.add_sub_cancel, List.take_append_of_le_length (by omega), List.take_of_length_le (by omega)]
 have hd : (sealP key nonce b d).1.drop ((sealP key nonce b d).1.length - 16) = gtag key nonce b (strmB key nonce d) := by
  rw [hl, e, Nat.add_sub_cancel, List.drop_append_of_le_length (by omega), List.drop_eq_nil_of_le (by omega), List.nil_append]
 rw [openP_ok h (by omega) (by omega) (by rw [ht, hd]), ht, strm_back']
end Go.Proofs.YtfpoldogcopmpaaGreatDoor
end
section
namespace Go.Proofs.YtfpoldogcopmpaaGreatDoor
open Go Go.RowKit D
set_option linter.unusedVariables false
set_option linter.unusedSimpArgs false
set_option maxRecDepth 100000
set_option maxHeartbeats 1000000
theorem size_cases (suite : Int) : suite = 4865 ∨ suite = 4867 ∨ (¬ suite = 4865 ∧ ¬ suite = 4867) := by omega
/-- A suite, and a key and a nonce of its sizes. -/
def slOk (suite : Int) (key nonce : List UInt8) : Prop := ((suite = 4865 ∧ key.length = 16) ∨ (suite = 4867 ∧ key.length = 32)) ∧ nonce.length = 12
theorem sl_seal {suite : Int} {key nonce b d : List UInt8} (h : slOk suite key nonce) (h1 : ¬ (1048576 < b.length ∨ 1048576 < d.length)) : (slSeal suite key nonce b d).2 = 0 ∧ (slSeal suite key nonce b d).1.length = d.length + 16 ∧ slOpen suite key nonce b (slSeal suite key nonce b d).1 = (d, 0) := by
 obtain ⟨⟨rfl, hk⟩ | ⟨rfl, hk⟩, hn⟩ := h
 ·rw [slSeal_a, slOpen_a]
  exact ⟨by rw [sealP_ok ⟨hk, hn⟩ h1], seal_len ⟨hk, hn⟩ h1, seal_open ⟨hk, hn⟩ h1⟩
 ·rw [slSeal_b, slOpen_b]
  exact ⟨by rw [sSeal_ok ⟨hk, hn⟩ h1], sSeal_len ⟨hk, hn⟩ h1, sSeal_open ⟨hk, hn⟩ h1⟩
end Go.Proofs.YtfpoldogcopmpaaGreatDoor
end
section
namespace Go.Proofs.YtfpoldogcopmpaaGreatDoor
open Go Go.RowKit D
set_option linter.unusedVariables false
set_option linter.unusedSimpArgs false
def BoxOk (x : BoxS) : Prop := ((x.suite = 4865 ∧ x.key.length = 16) ∨ (x.suite = 4867 ∧ x.key.length = 32)) ∧ x.iv.length = 12 ∧ 0 ≤ x.n ∧ x.n ≤ 65536
theorem box_ok {suite : Int} {key iv : List UInt8} (h : boxE suite key iv = 0) : BoxOk ⟨suite, key, iv, 0⟩ := by
 have h0 : ¬ sizeS suite = 0 := fun g => by rw [boxE_arg g] at h; cases h
 have h1 : (key.length : Int) = sizeS suite ∧ iv.length = 12 := by
  by_cases g : (key.length : Int) = sizeS suite ∧ iv.length = 12
  ·exact g
  ·rw [boxE_key h0 g] at h; cases h
 rcases size_cases suite with rfl | rfl | ⟨g1, g2⟩
 ·rw [sizeS_a] at h1; exact ⟨.inl ⟨rfl, by show key.length = 16; omega⟩, h1.2, by show (0 : Int) ≤ 0; omega, by show (0 : Int) ≤ 65536; omega⟩
 ·rw [sizeS_b] at h1; exact ⟨.inr ⟨rfl, by show key.length = 32; omega⟩, h1.2, by show (0 : Int) ≤ 0; omega, by show (0 : Int) ≤ 65536; omega⟩
 ·exact absurd (sizeS_no g1 g2) h0
variable {x : BoxS} {kind : Int} {plain : List UInt8} {pad : Int}
theorem bxNonce_ok (h : BoxOk x) (hn : x.n < 65536) : bxNonce x = (nonceB x.iv x.n, 0) := by
 rw [bxNonce_go (by omega), nonceP_ok h.2.1 (by have := h.2.2.1; omega)]
theorem bx_slOk (h : BoxOk x) (hn : x.n < 65536) : slOk x.suite x.key (bxNonce x).1 :=
 ⟨h.1, by rw [bxNonce_ok h hn]; exact (nonceB_length _ _).trans h.2.1⟩
theorem bx_small (hp : 0 ≤ pad) (h1 : ¬ (16384 < (plain.length : Int) ∨ 16600 - (plain.length : Int) < pad)) : ¬ (1048576 < (bxHead kind plain pad).length ∨ 1048576 < (bxInner kind plain pad).length) := by
 have := bxInner_length kind plain hp
 rw [bxHead_length]; omega
theorem bx_full (h : BoxOk x) (hn : x.n < 65536) (hg : isK kind = true ∧ 0 ≤ pad) (h1 : ¬ (16384 < (plain.length : Int) ∨ 16600 - (plain.length : Int) < pad)) :
  bxSeal x kind plain pad = (bxHead kind plain pad ++ (bxSealed x kind plain pad).1, 0) ∧ bxAfter x kind plain pad = { x with n := x.n + 1 } ∧ ((bxSealed x kind plain pad).1.length : Int) = plain.length + pad + 17 ∧ ((bxSeal x kind plain pad).1.length : Int) = plain.length + pad + 22 := by
 obtain ⟨e1, e2, e3⟩ := sl_seal (bx_slOk h hn) (bx_small (kind := kind) hg.2 h1)
 have hnz : (bxNonce x).2 = 0 := by rw [bxNonce_ok h hn]
 obtain ⟨f1, f2⟩ := bx_ok (x := x) hg h1 hnz e1
 have hl := bxInner_length kind plain hg.2
 have l1 : ((bxSealed x kind plain pad).1.length : Int) = plain.length + pad + 17 := by
  have : (bxSealed x kind plain pad).1.length = (bxInner kind plain pad).length + 16 := e2
  omega
 refine ⟨f1, f2, l1, ?_⟩
 rw [f1, List.length_append, bxHead_length]; omega
theorem BoxOk.next (h : BoxOk x) (hn : x.n < 65536) : BoxOk { x with n := x.n + 1 } := ⟨h.1, h.2.1, by show 0 ≤ x.n + 1; have := h.2.2.1; omega, by show x.n + 1 ≤ 65536; omega⟩
end Go.Proofs.YtfpoldogcopmpaaGreatDoor
end
section
namespace Go.Proofs.YtfpoldogcopmpaaGreatDoor
open Go Go.RowKit D
set_option linter.unusedVariables false
set_option linter.unusedSimpArgs false
/-- Without the noughts at its end. -/
def trZ (l : List UInt8) : List UInt8 := Lib.trimRightB l 0
def bxRaw (x : BoxS) (body : List UInt8) : List UInt8 × Int := slOpen x.suite x.key (nonceB x.iv x.n) (headP 23 (body.length : Int)) body
def trN (l : List UInt8) : Int := ((trZ l).length : Int) - 1
def bxOpen (x : BoxS) (body : List UInt8) : Int × List UInt8 × Int :=
 if 65536 ≤ x.n then (0, [], 44) else if 16640 < body.length then (0, [], 20) else if ¬ (bxRaw x body).2 = 0 then (0, [], (bxRaw x body).2)
 else if trN (bxRaw x body).1 < 0 ∨ isK (bt (trZ (bxRaw x body).1) (trN (bxRaw x body).1).toNat) = false then (0, [], 11) else if 16384 < trN (bxRaw x body).1 then (0, [], 13)
 else (bt (trZ (bxRaw x body).1) (trN (bxRaw x body).1).toNat, (trZ (bxRaw x body).1).take (trN (bxRaw x body).1).toNat, 0)
def bxNext (x : BoxS) (body : List UInt8) : BoxS := if (bxOpen x body).2.2 = 0 then { x with n := x.n + 1 } else x
variable {x : BoxS} {body : List UInt8}
theorem bo_no {z : Int} (e : bxOpen x body = (0, [], z)) (h : ¬ z = 0) : bxOpen x body = (0, [], z) ∧ bxNext x body = x := ⟨e, by rw [bxNext, e, if_neg h]⟩
theorem bo_seq (h : ¬ x.n < 65536) : bxOpen x body = (0, [], 44) ∧ bxNext x body = x := bo_no (if_pos (by omega)) (by decide)
theorem bo_long (h : x.n < 65536) (h1 : 16640 < body.length) : bxOpen x body = (0, [], 20) ∧ bxNext x body = x := bo_no (by rw [bxOpen, if_neg (by omega), if_pos h1]) (by decide)
theorem bo_bad (h : x.n < 65536) (h1 : ¬ 16640 < body.length) (h2 : ¬ (bxRaw x body).2 = 0) : bxOpen x body = (0, [], (bxRaw x body).2) ∧ bxNext x body = x := bo_no (by rw [bxOpen, if_neg (by omega), if_neg h1, if_pos h2]) h2
theorem bo_none (h : x.n < 65536) (h1 : ¬ 16640 < body.length) (h2 : (bxRaw x body).2 = 0) (h3 : trN (bxRaw x body).1 < 0 ∨ isK (bt (trZ (bxRaw x body).1) (trN (bxRaw x body).1).toNat) = false) : bxOpen x body = (0, [], 11) ∧ bxNext x body = x :=
 bo_no (by rw [bxOpen, if_neg (by omega), if_neg h1, if_neg (fun g => g h2), if_pos h3]) (by decide)
theorem bo_big (h : x.n < 65536) (h1 : ¬ 16640 < body.length) (h2 : (bxRaw x body).2 = 0) (h3 : ¬ (trN (bxRaw x body).1 < 0 ∨ isK (bt (trZ (bxRaw x body).1) (trN (bxRaw x body).1).toNat) = false)) (h4 : 16384 < trN (bxRaw x body).1) : bxOpen x body = (0, [], 13) ∧ bxNext x body = x :=
 bo_no (by rw [bxOpen, if_neg (by omega), if_neg h1, if_neg (fun g => g h2), if_neg h3, if_pos h4]) (by decide)
theorem bo_ok (h : x.n < 65536) (h1 : ¬ 16640 < body.length) (h2 : (bxRaw x body).2 = 0) (h3 : ¬ (trN (bxRaw x body).1 < 0 ∨ isK (bt (trZ (bxRaw x body).1) (trN (bxRaw x body).1).toNat) = false)) (h4 : ¬ 16384 < trN (bxRaw x body).1) :
  bxOpen x body = (bt (trZ (bxRaw x body).1) (trN (bxRaw x body).1).toNat, (trZ (bxRaw x body).1).take (trN (bxRaw x body).1).toNat, 0) ∧ bxNext x body = { x with n := x.n + 1 } := by
 have e : bxOpen x body = (bt (trZ (bxRaw x body).1) (trN (bxRaw x body).1).toNat, (trZ (bxRaw x body).1).take (trN (bxRaw x body).1).toNat, 0) := by rw [bxOpen, if_neg (by omega), if_neg h1, if_neg (fun g => g h2), if_neg h3, if_neg h4]
 exact ⟨e, by rw [bxNext, e, if_pos rfl]⟩
theorem slOpen_len {suite : Int} {key nonce b d : List UInt8} (h : slOk suite key nonce) : (slOpen suite key nonce b d).1.length ≤ d.length := by
 obtain ⟨⟨rfl, hk⟩ | ⟨rfl, hk⟩, hn⟩ := h
 ·rw [slOpen_a]
  by_cases h0 : d.length < 16
  ·rw [openP_short ⟨hk, hn⟩ h0]; exact Nat.zero_le _
  ·by_cases h1 : 1048576 < b.length ∨ 1048592 < d.length
   ·rw [openP_big ⟨hk, hn⟩ h0 h1]; exact Nat.zero_le _
   ·by_cases h2 : gtag key nonce b (d.take (d.length - 16)) = d.drop (d.length - 16)
    ·rw [openP_ok ⟨hk, hn⟩ h0 h1 h2, strmB_length', List.length_take]; exact Nat.min_le_right _ _
    ·rw [openP_tag ⟨hk, hn⟩ h0 h1 h2]; exact Nat.zero_le _
 ·rw [slOpen_b]
  by_cases h0 : d.length < 16
  ·rw [sOpen_short ⟨hk, hn⟩ h0]; exact Nat.zero_le _
  ·by_cases h1 : 1048576 < b.length ∨ 1048592 < d.length
   ·rw [sOpen_big ⟨hk, hn⟩ h0 h1]; exact Nat.zero_le _
   ·by_cases h2 : sTag key nonce b (d.take (d.length - 16)) = d.drop (d.length - 16)
    ·rw [sOpen_ok ⟨hk, hn⟩ h0 h1 h2]
     have h3 := sXor_length (d := d.take (d.length - 16)) hk hn (by rw [List.length_take]; omega)
     rw [List.length_take] at h3
     exact Nat.le_trans (Nat.le_of_eq h3) (Nat.min_le_right _ _)
    ·rw [sOpen_tag ⟨hk, hn⟩ h0 h1 h2]; exact Nat.zero_le _
theorem trZ_length (l : List UInt8) : (trZ l).length ≤ l.length := by
 unfold trZ Lib.trimRightB
 rw [List.length_reverse]
 have := (List.dropWhile_sublist (l := l.reverse) (· == (0 : UInt8))).length_le
 rwa [List.length_reverse] at this
theorem bxRaw_length (h : BoxOk x) (hn : x.n < 65536) : (bxRaw x body).1.length ≤ body.length := by
 have := bx_slOk h hn
 rw [bxNonce_ok h hn] at this
 exact slOpen_len this
variable {kind : Int} {plain : List UInt8} {pad : Int}
end Go.Proofs.YtfpoldogcopmpaaGreatDoor
end
section
namespace Go.Proofs.YtfpoldogcopmpaaGreatDoor
open Go Go.RowKit D
set_option linter.unusedVariables false
set_option linter.unusedSimpArgs false
abbrev rbxBlk (x : BoxS) : Blk := ⟨bxCells x, 4, 40⟩
theorem trZ_stop {l : List UInt8} {n : Nat} (hn : n ≤ l.length) (h1 : ∀ j, n ≤ j → j < l.length → bt l j = 0) (h2 : 0 < n → ¬ bt l (n - 1) = 0) : trZ l = l.take n := by
 refine Lib.trimRightB_take l 0 n hn (fun j b hj hb => ?_) (fun b h0 hb => ?_)
 ·have hj2 : j < l.length := (List.getElem?_eq_some_iff.1 hb).1
  have := h1 j hj hj2
  unfold bt at this
  rw [List.getD_eq_getElem?_getD, hb] at this
  exact UInt8.toNat_inj.1 (by simpa using this)
 ·intro hb0
  refine h2 h0 ?_
  unfold bt
  rw [List.getD_eq_getElem?_getD, hb, hb0]; rfl
theorem tr_facts {l : List UInt8} {n : Nat} (hn : n ≤ l.length) (h1 : ∀ j, n ≤ j → j < l.length → bt l j = 0) (h2 : 0 < n → ¬ bt l (n - 1) = 0) : trN l = (n : Int) - 1 ∧ (0 < n → bt (trZ l) (trN l).toNat = bt l ((n : Int) - 1).toNat ∧ (trZ l).take (trN l).toNat = l.take ((n : Int) - 1).toNat) := by
 have hz := trZ_stop hn h1 h2
 have hN : trN l = (n : Int) - 1 := by unfold trN; rw [hz, List.length_take]; omega
 refine ⟨hN, fun h0 => ?_⟩
 rw [hN, hz]
 refine ⟨bt_take l (by omega), ?_⟩
 rw [List.take_take, Nat.min_eq_left (by omega)]
end Go.Proofs.YtfpoldogcopmpaaGreatDoor
end
