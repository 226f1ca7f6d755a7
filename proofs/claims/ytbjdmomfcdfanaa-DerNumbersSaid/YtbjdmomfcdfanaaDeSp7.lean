/-
  Names of numbers, in plain Lean: reading, group by group.
-/
import Derived.Test.YtbjdmomfcdfanaaDeSp6
namespace Go.Proofs.Ytbjdmomfcdfanaa
open Go Go.RowKit D
set_option linter.unusedVariables false
set_option linter.unusedSimpArgs false
set_option maxRecDepth 100000
set_option maxHeartbeats 1000000
/-- A group's number, of its lowest 28 bits. -/
def ndK (l : List UInt8) : Nat → Int
  | 0 => 0
  | i + 1 => 128 * ndK l i % 268435456 + bt l i % 128
theorem ndK_zero (l : List UInt8) : ndK l 0 = 0 := rfl
theorem ndK_succ (l : List UInt8) (i : Nat) : ndK l (i + 1) = 128 * ndK l i % 268435456 + bt l i % 128 := rfl
theorem ndK_range (l : List UInt8) (i : Nat) : 0 ≤ ndK l i ∧ ndK l i < 268435456 := by
  cases i with
  | zero => exact ⟨by show (0 : Int) ≤ 0; omega, by show (0 : Int) < _; omega⟩
  | succ i => have := bt_range l i; rw [ndK_succ]; omega
theorem oS_rest (d : List UInt8) : ∀ i, (oS d i).many = 0 → (oS d i).n = 0 := by
  intro i
  cases i with
  | zero => intro _; rfl
  | succ i =>
    rw [oS_succ]
    unfold oStep
    split
    · intro _; rfl
    · intro h; cases h
/-- Behind j bytes of a group that do not end it. -/
theorem oS_in {d : List UInt8} {p : Nat} (h0 : (oS d p).many = 0) : ∀ j, (∀ i, i < j → 128 ≤ bt d (p + i)) → (oS d (p + j)).l = (oS d p).l ∧ (oS d (p + j)).many = j ∧ (oS d (p + j)).big = ((oS d p).big || decide (4 < j)) ∧ ((oS d (p + j)).big = false → (oS d (p + j)).n = ndK (d.drop p) j ∧ (oS d (p + j)).n < 128 ^ j) := by
  intro j
  induction j with
  | zero => intro _; exact ⟨rfl, h0, by simp, fun _ => ⟨oS_rest d p h0, by show (oS d p).n < 1; rw [oS_rest d p h0]; omega⟩⟩
  | succ j ih =>
    intro h
    obtain ⟨g1, g2, g3, g4⟩ := ih (fun i hi => h i (by omega))
    have hh := h j (by omega)
    have hb := bt_range d (p + j)
    have hi := oS_inv d (p + j)
    rw [show p + (j + 1) = (p + j) + 1 from by omega, oS_succ, oStep_high (by omega)]
    refine ⟨g1, by show (oS d (p + j)).many + 1 = _; rw [g2], ?_, ?_⟩
    · show oB (oS d (p + j)) = _
      unfold oB; rw [g2, g3]
      cases (oS d p).big <;> simp <;> omega
    · intro hB
      have hB' : oB (oS d (p + j)) = false := hB
      show oN _ _ = _ ∧ oN _ _ < _
      rw [oN_small hB']
      unfold oB at hB'
      simp only [Bool.or_eq_false_iff, decide_eq_false_iff_not] at hB'
      obtain ⟨q1, q2⟩ := g4 hB'.1
      rw [ndK_succ, bt_skip, ← q1]
      have hj : j ≤ 3 := by omega
      have e : (128 : Int) ^ (j + 1) = 128 * 128 ^ j := by rw [Int.pow_succ, Int.mul_comm]
      have e4 : (128 : Int) ^ j ≤ 2097152 := by
        have : (128 : Nat) ^ j ≤ 128 ^ 3 := Nat.pow_le_pow_right (by decide) hj
        have e : ((128 ^ j : Nat) : Int) ≤ ((128 ^ 3 : Nat) : Int) := Int.ofNat_le.2 this
        simpa using e
      rw [e]
      generalize (128 : Int) ^ j = q at *
      exact ⟨by omega, by omega⟩
theorem oS_group {d : List UInt8} {p k : Nat} (h0 : (oS d p).many = 0) (hh : ∀ i, i < k → 128 ≤ bt d (p + i)) (hl : bt d (p + k) < 128) :
    (oS d (p + k + 1)).many = 0 ∧ (oS d (p + k + 1)).l.length = (oS d p).l.length + 1 ∧ (oS d (p + k + 1)).big = ((oS d p).big || decide (4 < k + 1)) ∧ ((oS d (p + k + 1)).big = false → (oS d (p + k + 1)).l = (oS d p).l ++ [ndK (d.drop p) (k + 1)]) := by
  obtain ⟨g1, g2, g3, g4⟩ := oS_in h0 k hh
  have hb := bt_range d (p + k)
  rw [oS_succ, oStep_low hl]
  refine ⟨rfl, ?_, ?_, ?_⟩
  · show ((oS d (p + k)).l ++ [_]).length = _; rw [List.length_append, g1]; rfl
  · show oB (oS d (p + k)) = _
    unfold oB; rw [g2, g3]
    cases (oS d p).big <;> simp <;> omega
  · intro hB
    have hB' : oB (oS d (p + k)) = false := hB
    show (oS d (p + k)).l ++ [oN _ _] = _
    rw [oN_small hB', g1]
    unfold oB at hB'
    simp only [Bool.or_eq_false_iff, decide_eq_false_iff_not] at hB'
    obtain ⟨q1, q2⟩ := g4 hB'.1
    have e4 : (128 : Int) ^ k ≤ 2097152 := by
      have : (128 : Nat) ^ k ≤ 128 ^ 3 := Nat.pow_le_pow_right (by decide) (by omega)
      have e : ((128 ^ k : Nat) : Int) ≤ ((128 ^ 3 : Nat) : Int) := Int.ofNat_le.2 this
      simpa using e
    have hi := oS_inv d (p + k)
    rw [ndK_succ, bt_skip, ← q1, Int.emod_eq_of_lt (a := 128 * (oS d (p + k)).n) (by omega) (by omega)]
theorem oS_nobad {d : List UInt8} {p k : Nat} (h0 : (oS d p).many = 0) (hh : ∀ i, i < k → 128 ≤ bt d (p + i)) (hb : ∀ j, j < p → ¬ oBad d j) (hp : ¬ oBad d p) : ∀ j, j < p + k + 1 → ¬ oBad d j := by
  intro j hj hbad
  by_cases h1 : j < p
  · exact hb j h1 hbad
  · by_cases h2 : j = p
    · exact hp (h2 ▸ hbad)
    · obtain ⟨q, rfl⟩ : ∃ q, j = p + (q + 1) := ⟨j - p - 1, by omega⟩
      have := (oS_in h0 (q + 1) (fun i hi => hh i (by omega))).2.1
      have h3 := hbad.1
      omega
theorem top_bit (c : UInt8) : ((c.toNat : Nat) : Int) / 2 ^ 7 = 1 ↔ 128 ≤ ((c.toNat : Nat) : Int) := by have := c.toNat_lt; omega
/-- A group ends somewhere. -/
theorem low_some {d : List UInt8} : ∀ (m p : Nat), p + m + 1 = d.length → bt d (p + m) < 128 → ∃ k, k ≤ m ∧ (∀ i, i < k → 128 ≤ bt d (p + i)) ∧ bt d (p + k) < 128 := by
  intro m
  induction m with
  | zero => intro p _ h; exact ⟨0, Nat.le_refl _, fun i hi => by omega, h⟩
  | succ m ih =>
    intro p h1 h2
    by_cases h3 : bt d p < 128
    · exact ⟨0, by omega, fun i hi => by omega, h3⟩
    · obtain ⟨k, g1, g2, g3⟩ := ih (p + 1) (by omega) (by rw [show p + 1 + m = p + (m + 1) from by omega]; exact h2)
      refine ⟨k + 1, by omega, fun i hi => ?_, by rw [show p + (k + 1) = p + 1 + k from by omega]; exact g3⟩
      rcases i with _ | i
      · rw [Nat.add_zero]; omega
      · rw [show p + (i + 1) = p + 1 + i from by omega]; exact g2 i (by omega)
/-- A step of n<<7 & 2^28-1 | b & 127. -/
theorem nd_step (l : List UInt8) (i : Nat) : ior .i64 (iand .i64 (IntKind.i64.wrap (ndK l i * 2 ^ 7)) 268435455) (bt l i % 128) = ndK l (i + 1) := by
  have h1 := ndK_range l i
  have h2 := bt_range l i
  rw [ndK_succ, wrap_i64_in (by omega) (by omega)]
  have h3 := mask_i64 28 (by decide) (x := ndK l i * 2 ^ 7) (by omega) (by omega) 268435455 (by decide)
  rw [h3]
  have e : (ndK l i * 2 ^ 7) % ((2 ^ 28 : Nat) : Int) = (((ndK l i % 2097152).toNat * 2 ^ 7 : Nat) : Int) := by
    have : ((2 ^ 28 : Nat) : Int) = 268435456 := by decide
    rw [this]; omega
  obtain ⟨b, hb⟩ := Int.eq_ofNat_of_zero_le (show 0 ≤ bt l i % 128 by omega)
  rw [e, hb, ior_i64 (by omega) (by omega), Nat.or_comm, or_add (by omega)]
  omega
theorem readOidP_len (d : List UInt8) : (readOidP d).1.length ≤ 21 := by
  by_cases h : d = [] ∨ 128 ≤ bt d (d.length - 1)
  · rw [readOidP_end h]; exact Nat.zero_le _
  · by_cases hb : ∃ i, i < d.length ∧ oBad d i
    · obtain ⟨i, h1, h2⟩ := hb
      rw [readOidP_bytes h h1 h2]; exact Nat.zero_le _
    · have hb' : ∀ i, i < d.length → ¬ oBad d i := fun i h1 h2 => hb ⟨i, h1, h2⟩
      by_cases hg : (oS d d.length).big = true ∨ 19 < (oS d d.length).l.length
      · rw [readOidP_big h hb' hg]; exact Nat.zero_le _
      · rw [readOidP_ok h hb' hg]
        show (oOut _).length ≤ 21
        unfold oOut
        have : (oS d d.length).l.length ≤ 19 := by
          rcases Nat.lt_or_ge 19 (oS d d.length).l.length with g | g
          · exact absurd (.inr g) hg
          · exact g
        simp; omega
theorem ints_ext {a b : List Int} (hl : a.length = b.length) (h : ∀ j, j < a.length → a.getD j 0 = b.getD j 0) : a = b := by
  apply List.ext_getElem hl
  intro i h1 h2
  have := h i h1
  rwa [List.getD_eq_getElem?_getD, List.getD_eq_getElem?_getD, List.getElem?_eq_getElem h1, List.getElem?_eq_getElem h2] at this
end Go.Proofs.Ytbjdmomfcdfanaa
