/-
  What package record's Frame and Reader compute, in plain Lean.
-/
import Derived.Test.YtfpoldogcopmpaaDoorD9
namespace Go.Proofs.YtfpoldogcopmpaaDoor
open Go Go.RowKit D
set_option linter.unusedVariables false
set_option linter.unusedSimpArgs false
def isK (n : Int) : Bool := decide (20 ≤ n) && decide (n ≤ 23)
def headP (kind n : Int) : List UInt8 := toB [IntKind.u8.wrap kind, 3, 3, IntKind.u8.wrap (n / 256), IntKind.u8.wrap n]
def frameP (kind : Int) (body : List UInt8) : List UInt8 × Int :=
  if isK kind = false then ([], 1) else if 16640 < body.length then ([], 13) else (headP kind body.length ++ body, 0)
@[simp] theorem headP_length (kind n : Int) : (headP kind n).length = 5 := rfl
theorem frameP_kind {kind : Int} {body : List UInt8} (h : isK kind = false) : frameP kind body = ([], 1) := if_pos h
theorem frameP_big {kind : Int} {body : List UInt8} (h : isK kind = true) (h1 : 16640 < body.length) : frameP kind body = ([], 13) := by unfold frameP; rw [if_neg (by simp [h]), if_pos h1]
theorem frameP_ok {kind : Int} {body : List UInt8} (h : isK kind = true) (h1 : body.length ≤ 16640) : frameP kind body = (headP kind body.length ++ body, 0) := by unfold frameP; rw [if_neg (by simp [h]), if_neg (by omega)]
/-- Is a byte not what it must be there? -/
def badAt (s : List UInt8) (i : Nat) : Prop := (i = 0 ∧ isK (bt s 0) = false) ∨ (0 < i ∧ bt s i ≠ 3)
def badP (s : List UInt8) : Prop := ∃ i, i < s.length ∧ i < 3 ∧ badAt s i
open Classical in
noncomputable def sizeP (s : List UInt8) : Int × Int :=
  if badP s then (0, 11) else if s.length < 5 then (0, 33) else if 16640 < 256 * bt s 3 + bt s 4 then (0, 13) else if (s.length : Int) < 5 + (256 * bt s 3 + bt s 4) then (0, 33) else (256 * bt s 3 + bt s 4, 0)
theorem sizeP_bad {s : List UInt8} (h : badP s) : sizeP s = (0, 11) := if_pos h
theorem sizeP_short {s : List UInt8} (h : ¬ badP s) (h1 : s.length < 5) : sizeP s = (0, 33) := by unfold sizeP; rw [if_neg h, if_pos h1]
theorem sizeP_big {s : List UInt8} (h : ¬ badP s) (h1 : 5 ≤ s.length) (h2 : 16640 < 256 * bt s 3 + bt s 4) : sizeP s = (0, 13) := by unfold sizeP; rw [if_neg h, if_neg (by omega), if_pos h2]
theorem sizeP_wait {s : List UInt8} (h : ¬ badP s) (h1 : 5 ≤ s.length) (h2 : 256 * bt s 3 + bt s 4 ≤ 16640) (h3 : (s.length : Int) < 5 + (256 * bt s 3 + bt s 4)) : sizeP s = (0, 33) := by unfold sizeP; rw [if_neg h, if_neg (by omega), if_neg (by omega), if_pos h3]
theorem sizeP_ok {s : List UInt8} (h : ¬ badP s) (h1 : 5 ≤ s.length) (h2 : 256 * bt s 3 + bt s 4 ≤ 16640) (h3 : 5 + (256 * bt s 3 + bt s 4) ≤ (s.length : Int)) : sizeP s = (256 * bt s 3 + bt s 4, 0) := by unfold sizeP; rw [if_neg h, if_neg (by omega), if_neg (by omega), if_neg (by omega)]
theorem sizeP_zero {s : List UInt8} (h : (sizeP s).2 = 0) : ¬ badP s ∧ 5 ≤ s.length ∧ (sizeP s).1 = 256 * bt s 3 + bt s 4 ∧ 0 ≤ (sizeP s).1 ∧ (sizeP s).1 ≤ 16640 ∧ 5 + (sizeP s).1 ≤ (s.length : Int) := by
  have b3 := bt_range s 3
  have b4 := bt_range s 4
  by_cases h0 : badP s
  · rw [sizeP_bad h0] at h; cases h
  · by_cases h1 : s.length < 5
    · rw [sizeP_short h0 h1] at h; cases h
    · by_cases h2 : 16640 < 256 * bt s 3 + bt s 4
      · rw [sizeP_big h0 (by omega) h2] at h; cases h
      · by_cases h3 : (s.length : Int) < 5 + (256 * bt s 3 + bt s 4)
        · rw [sizeP_wait h0 (by omega) (by omega) h3] at h; cases h
        · rw [sizeP_ok h0 (by omega) (by omega) (by omega)]; exact ⟨h0, by omega, rfl, by omega, by omega, by omega⟩
/-- What the next record is, what is wrong; and the bytes and the fault behind it. -/
noncomputable def nextP (s : List UInt8) (e : Int) : (Int × List UInt8 × Int) × (List UInt8 × Int) :=
  if e ≠ 0 then ((0, [], e), (s, e)) else if (sizeP s).2 ≠ 0 then ((0, [], (sizeP s).2), (s, if (sizeP s).2 ≠ 33 then (sizeP s).2 else 0))
  else ((bt s 0, (s.take (5 + (sizeP s).1).toNat).drop 5, 0), (s.drop (5 + (sizeP s).1).toNat, 0))
theorem nextP_err {s : List UInt8} {e : Int} (h : e ≠ 0) : nextP s e = ((0, [], e), (s, e)) := if_pos h
theorem nextP_wrong {s : List UInt8} (h : (sizeP s).2 ≠ 0) (h1 : (sizeP s).2 ≠ 33) : nextP s 0 = ((0, [], (sizeP s).2), (s, (sizeP s).2)) := by unfold nextP; rw [if_neg (by simp), if_pos h, if_pos h1]
theorem nextP_busy {s : List UInt8} (h1 : (sizeP s).2 = 33) : nextP s 0 = ((0, [], 33), (s, 0)) := by unfold nextP; rw [if_neg (by simp), if_pos (by rw [h1]; decide), if_neg (by simp [h1]), h1]
theorem nextP_ok {s : List UInt8} (h : (sizeP s).2 = 0) : nextP s 0 = ((bt s 0, (s.take (5 + (sizeP s).1).toNat).drop 5, 0), (s.drop (5 + (sizeP s).1).toNat, 0)) := by unfold nextP; rw [if_neg (by simp), if_neg (by simp [h])]
def feedP (s : List UInt8) (e : Int) (d : List UInt8) : Int × List UInt8 :=
  if e ≠ 0 then (e, s) else if 1048576 < s.length + d.length then (13, s) else (0, s ++ d)
theorem feedP_err {s d : List UInt8} {e : Int} (h : e ≠ 0) : feedP s e d = (e, s) := if_pos h
theorem feedP_big {s d : List UInt8} (h : 1048576 < s.length + d.length) : feedP s 0 d = (13, s) := by unfold feedP; rw [if_neg (by simp), if_pos h]
theorem feedP_ok {s d : List UInt8} (h : s.length + d.length ≤ 1048576) : feedP s 0 d = (0, s ++ d) := by unfold feedP; rw [if_neg (by simp), if_neg (by omega)]
theorem feedP_room {s d : List UInt8} {e : Int} (h : s.length ≤ 1048576) : (feedP s e d).2.length ≤ 1048576 := by
  unfold feedP; split
  · exact h
  · split
    · exact h
    · simp; omega
theorem nextP_room {s : List UInt8} {e : Int} (h : s.length ≤ 1048576) : (nextP s e).2.1.length ≤ 1048576 := by
  unfold nextP; split
  · exact h
  · split
    · exact h
    · simp; omega
theorem badAt_of {s : List UInt8} {i : Nat} (h : ((i : Int) = 0 ∧ isK (bt s i) = false) ∨ ((0 : Int) < i ∧ ¬ bt s i = 3)) : badAt s i := by
  rcases h with ⟨h1, h2⟩ | ⟨h1, h2⟩
  · obtain rfl : i = 0 := by omega
    exact .inl ⟨rfl, h2⟩
  · exact .inr ⟨by omega, h2⟩
theorem badP_of {s : List UInt8} {i : Nat} (h : i < s.length) (h3 : i < 3) (hb : badAt s i) : badP s := ⟨i, h, h3, hb⟩
theorem badP_iff {s : List UInt8} : badP s ↔ ∃ i, i < s.length ∧ i < 3 ∧ badAt s i := Iff.rfl
theorem badP_of3 {s : List UInt8} (hl : 0 < s.length) (h : (isK (bt s 0) = false ∨ (1 < (s.length : Int) ∧ ¬ bt s 1 = 3)) ∨ (2 < (s.length : Int) ∧ ¬ bt s 2 = 3)) : badP s := by
  rcases h with (h | ⟨h1, h2⟩) | ⟨h1, h2⟩
  · exact ⟨0, hl, by omega, .inl ⟨rfl, h⟩⟩
  · exact ⟨1, by omega, by omega, .inr ⟨by omega, h2⟩⟩
  · exact ⟨2, by omega, by omega, .inr ⟨by omega, h2⟩⟩
theorem badP_not3 {s : List UInt8} (h : (isK (bt s 0) = true ∧ (1 < (s.length : Int) → bt s 1 = 3)) ∧ (2 < (s.length : Int) → bt s 2 = 3)) : ¬ badP s := by
  rintro ⟨i, h1, h2, ⟨rfl, h3⟩ | ⟨h3, h4⟩⟩
  · rw [h.1.1] at h3; cases h3
  · rcases (by omega : i = 1 ∨ i = 2) with rfl | rfl
    · exact h4 (h.1.2 (by omega))
    · exact h4 (h.2 (by omega))
theorem wrap8_rem (n : Int) : IntKind.u8.wrap (n % 256) = IntKind.u8.wrap n := by simp [IntKind.wrap, IntKind.bits, IntKind.signed]
theorem wrap_u8 (x : Int) : IntKind.u8.wrap x = x % 256 := by simp [IntKind.wrap, IntKind.bits, IntKind.signed]
theorem wrap_i64 {x : Int} (h0 : -9223372036854775808 ≤ x) (h1 : x ≤ 9223372036854775807) : IntKind.i64.wrap x = x := by
  simp [IntKind.wrap, IntKind.bits, IntKind.signed]; omega
/-- Two bytes as one number. -/
theorem two_bytes {a b : Int} (ha : 0 ≤ a ∧ a ≤ 255) (hb : 0 ≤ b ∧ b ≤ 255) : ior .i64 (IntKind.i64.wrap (IntKind.i64.wrap a * 2 ^ 8)) (IntKind.i64.wrap b) = 256 * a + b := by
  obtain ⟨x, rfl⟩ := Int.eq_ofNat_of_zero_le ha.1
  obtain ⟨y, rfl⟩ := Int.eq_ofNat_of_zero_le hb.1
  rw [wrap_i64 (x := (x : Int)) (by omega) (by omega), wrap_i64 (x := (y : Int)) (by omega) (by omega), wrap_i64 (x := (x : Int) * 2 ^ 8) (by omega) (by omega)]
  unfold ior
  have e1 : BitVec.ofInt IntKind.i64.bits ((x : Int) * 2 ^ 8) = BitVec.ofNat 64 (x <<< 8) := by
    apply BitVec.eq_of_toNat_eq
    simp [IntKind.bits, Nat.shiftLeft_eq]
    omega
  have e2 : BitVec.ofInt IntKind.i64.bits (y : Int) = BitVec.ofNat 64 y := by
    apply BitVec.eq_of_toNat_eq
    simp [IntKind.bits]
  rw [e1, e2]
  have hx : x <<< 8 < 2 ^ 64 := by rw [Nat.shiftLeft_eq]; omega
  have hor : x <<< 8 ||| y = 256 * x + y := by
    rw [← Nat.shiftLeft_add_eq_or_of_lt (by omega : y < 2 ^ 8), Nat.shiftLeft_eq]; omega
  have : (BitVec.ofNat 64 (x <<< 8) ||| BitVec.ofNat 64 y).toNat = 256 * x + y := by
    rw [BitVec.toNat_or, BitVec.toNat_ofNat, BitVec.toNat_ofNat, Nat.mod_eq_of_lt hx, Nat.mod_eq_of_lt (by omega), hor]
  show IntKind.i64.wrap (((BitVec.ofNat 64 (x <<< 8) ||| BitVec.ofNat 64 y).toNat : Nat) : Int) = _
  rw [this, wrap_i64 (by omega) (by omega)]
  omega
attribute [irreducible] badP sizeP nextP feedP isK
end Go.Proofs.YtfpoldogcopmpaaDoor
