/-
  Names of numbers, in plain Lean: reading.
-/
import Derived.Test.YtbjdmomfcdfanaaDeSp5
namespace Go.Proofs.Ytbjdmomfcdfanaa
open Go Go.RowKit D
set_option linter.unusedVariables false
set_option linter.unusedSimpArgs false
set_option maxRecDepth 100000
set_option maxHeartbeats 1000000
/-- What was read: the numbers, the number that is under way, of how many bytes, and whether one was too great. -/
structure OS where
  l : List Int
  n : Int
  many : Nat
  big : Bool
def oB (s : OS) : Bool := s.big || decide (4 < s.many + 1)
def oN (s : OS) (c : Int) : Int := if oB s = true then s.n else 128 * s.n + c % 128
def oStep (s : OS) (c : Int) : OS := if c < 128 then ⟨s.l ++ [oN s c], 0, 0, oB s⟩ else ⟨s.l, oN s c, s.many + 1, oB s⟩
def oS (d : List UInt8) : Nat → OS
  | 0 => ⟨[], 0, 0, false⟩
  | i + 1 => oStep (oS d i) (bt d i)
theorem oS_zero (d : List UInt8) : oS d 0 = ⟨[], 0, 0, false⟩ := rfl
theorem oS_succ (d : List UInt8) (i : Nat) : oS d (i + 1) = oStep (oS d i) (bt d i) := rfl
theorem oS_inv (d : List UInt8) : ∀ i, 0 ≤ (oS d i).n ∧ (oS d i).n < 268435456 ∧ ((oS d i).big = false → (oS d i).many ≤ 4 ∧ (oS d i).n < 128 ^ (oS d i).many) := by
  intro i
  induction i with
  | zero => exact ⟨by show (0 : Int) ≤ 0; omega, by show (0 : Int) < _; omega, fun _ => ⟨by show 0 ≤ 4; omega, by show (0 : Int) < 1; omega⟩⟩
  | succ i ih =>
    obtain ⟨h1, h2, h3⟩ := ih
    have hb := bt_range d i
    rw [oS_succ]
    generalize oS d i = s at *
    unfold oStep
    split
    · exact ⟨by show (0 : Int) ≤ 0; omega, by show (0 : Int) < _; omega, fun _ => ⟨by show 0 ≤ 4; omega, by show (0 : Int) < 1; omega⟩⟩
    · unfold oN
      cases hB : oB s with
      | true => rw [if_pos rfl]; exact ⟨h1, h2, fun h => by cases h⟩
      | false =>
        rw [if_neg (by decide)]
        unfold oB at hB
        simp only [Bool.or_eq_false_iff, decide_eq_false_iff_not] at hB
        obtain ⟨g1, g2⟩ := h3 hB.1
        have hm : s.many + 1 ≤ 4 := by omega
        have e : (128 : Int) ^ (s.many + 1) = 128 * 128 ^ s.many := by rw [Int.pow_succ, Int.mul_comm]
        have e4 : (128 : Int) ^ (s.many + 1) ≤ 268435456 := by
          have : (128 : Nat) ^ (s.many + 1) ≤ 128 ^ 4 := Nat.pow_le_pow_right (by decide) hm
          have e : ((128 ^ (s.many + 1) : Nat) : Int) ≤ ((128 ^ 4 : Nat) : Int) := Int.ofNat_le.2 this
          simpa using e
        show 0 ≤ 128 * s.n + bt d i % 128 ∧ 128 * s.n + bt d i % 128 < 268435456 ∧ (false = false → s.many + 1 ≤ 4 ∧ 128 * s.n + bt d i % 128 < 128 ^ (s.many + 1))
        rw [e] at e4 ⊢
        generalize (128 : Int) ^ s.many = q at *
        exact ⟨by omega, by omega, fun _ => ⟨hm, by omega⟩⟩
theorem oS_nums (d : List UInt8) : ∀ i, ∀ x ∈ (oS d i).l, 0 ≤ x ∧ x < 34359738368 := by
  intro i
  induction i with
  | zero => intro x hx; cases hx
  | succ i ih =>
    have hi := oS_inv d i
    have hb := bt_range d i
    rw [oS_succ]
    generalize oS d i = s at *
    unfold oStep
    split
    · intro x hx
      rcases List.mem_append.1 hx with h | h
      · exact ih x h
      · have : x = oN s (bt d i) := by simpa using h
        rw [this]; unfold oN
        split <;> omega
    · exact ih
theorem oS_many (d : List UInt8) : ∀ i, (oS d i).many ≤ i ∧ (oS d i).l.length ≤ i := by
  intro i
  induction i with
  | zero => exact ⟨Nat.le_refl _, Nat.le_refl _⟩
  | succ i ih =>
    rw [oS_succ]
    generalize oS d i = s at *
    unfold oStep
    split
    · refine ⟨Nat.zero_le _, ?_⟩
      show (s.l ++ [oN s (bt d i)]).length ≤ i + 1
      rw [List.length_append]; show s.l.length + 1 ≤ i + 1; omega
    · exact ⟨by show s.many + 1 ≤ i + 1; omega, by show s.l.length ≤ i + 1; omega⟩
/-- A group begins with an empty one. -/
def oBad (d : List UInt8) (i : Nat) : Prop := (oS d i).many = 0 ∧ bt d i = 128
theorem oN_big {s : OS} (h : oB s = true) (c : Int) : oN s c = s.n := if_pos h
theorem oN_small {s : OS} (h : oB s = false) (c : Int) : oN s c = 128 * s.n + c % 128 := if_neg (by rw [h]; decide)
theorem oStep_low {s : OS} {c : Int} (h : c < 128) : oStep s c = ⟨s.l ++ [oN s c], 0, 0, oB s⟩ := if_pos h
theorem oStep_high {s : OS} {c : Int} (h : ¬ c < 128) : oStep s c = ⟨s.l, oN s c, s.many + 1, oB s⟩ := if_neg h
def oOut (l : List Int) : List Int := [min (l.getD 0 0 / 40) 2, l.getD 0 0 - 40 * min (l.getD 0 0 / 40) 2] ++ l.drop 1
open Classical in
noncomputable def readOidP (d : List UInt8) : List Int × Int :=
  if d = [] ∨ 128 ≤ bt d (d.length - 1) then ([], 10) else if ∃ i, i < d.length ∧ oBad d i then ([], 11) else
  if (oS d d.length).big = true ∨ 19 < (oS d d.length).l.length then ([], 13) else (oOut (oS d d.length).l, 0)
theorem readOidP_end {d : List UInt8} (h : d = [] ∨ 128 ≤ bt d (d.length - 1)) : readOidP d = ([], 10) := if_pos h
theorem readOidP_bytes {d : List UInt8} (h : ¬ (d = [] ∨ 128 ≤ bt d (d.length - 1))) {i : Nat} (hi : i < d.length) (hb : oBad d i) : readOidP d = ([], 11) := by
  unfold readOidP; rw [if_neg h, if_pos ⟨i, hi, hb⟩]
theorem readOidP_big {d : List UInt8} (h : ¬ (d = [] ∨ 128 ≤ bt d (d.length - 1))) (hb : ∀ i, i < d.length → ¬ oBad d i) (hg : (oS d d.length).big = true ∨ 19 < (oS d d.length).l.length) : readOidP d = ([], 13) := by
  unfold readOidP; rw [if_neg h, if_neg (fun ⟨i, h1, h2⟩ => hb i h1 h2), if_pos hg]
theorem readOidP_ok {d : List UInt8} (h : ¬ (d = [] ∨ 128 ≤ bt d (d.length - 1))) (hb : ∀ i, i < d.length → ¬ oBad d i) (hg : ¬ ((oS d d.length).big = true ∨ 19 < (oS d d.length).l.length)) : readOidP d = (oOut (oS d d.length).l, 0) := by
  unfold readOidP; rw [if_neg h, if_neg (fun ⟨i, h1, h2⟩ => hb i h1 h2), if_neg hg]
/-- Behind a byte that ends a group there is a number. -/
theorem oS_some {d : List UInt8} (h : ¬ (d = [] ∨ 128 ≤ bt d (d.length - 1))) : 0 < (oS d d.length).l.length := by
  have h0 : 0 < d.length := List.length_pos_iff.2 fun g => h (.inl g)
  obtain ⟨q, hq⟩ : ∃ q, d.length = q + 1 := ⟨d.length - 1, by omega⟩
  rw [hq, oS_succ, oStep_low (by have : ¬ 128 ≤ bt d (d.length - 1) := fun g => h (.inr g)
                                 rw [hq] at this; simpa using this)]
  show 0 < (_ ++ [_]).length
  rw [List.length_append]; exact Nat.succ_pos _
end Go.Proofs.Ytbjdmomfcdfanaa
