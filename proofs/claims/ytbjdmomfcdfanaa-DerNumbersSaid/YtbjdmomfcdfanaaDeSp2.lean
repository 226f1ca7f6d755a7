/-
  Things in things, and whole numbers, in plain Lean.
-/
import Derived.Test.YtbjdmomfcdfanaaDeSpec
namespace Go.Proofs.Ytbjdmomfcdfanaa
open Go Go.RowKit D
set_option linter.unusedVariables false
set_option linter.unusedSimpArgs false
set_option maxRecDepth 100000
set_option maxHeartbeats 1000000
theorem isTag_range {n : Int} (h : isTagB n = true) : 0 ≤ n ∧ n < 256 ∧ n % 32 ≠ 31 := by unfold isTagB at h; exact of_decide_eq_true h
/-- What is read is shorter. -/
theorem readP_less {d : List UInt8} (h : (readP d).2.2.2 = 0) : (readP d).2.2.1.length < d.length ∧ (readP d).2.1.length < d.length ∧ ∃ c : UInt8, (readP d).1 = ((c.toNat : Nat) : Int) := by
  by_cases h0 : d = []
  · rw [h0, readP_nil] at h; exact absurd h (by decide)
  · rcases h1 : isTagB (bt d 0) with _ | _
    · rw [readP_tag h0 h1] at h; exact absurd h (by decide)
    · by_cases h2 : (lenP d).2.2 = 0
      · have hr := lenP_range d
        by_cases h3 : (d.length : Int) < (lenP d).2.1 + (lenP d).1
        · rw [readP_end h0 h1 h2 h3] at h; exact absurd h (by decide)
        · rw [readP_ok h0 h1 h2 h3]
          have := hr.2.2.2.2 h2
          refine ⟨?_, ?_, d.getD 0 0, rfl⟩
          · show (List.drop _ _).length < _; rw [List.length_drop]; omega
          · show (List.drop _ (List.take _ _)).length < _; rw [List.length_drop, List.length_take]; omega
      · rw [readP_len h0 h1 h2] at h; exact absurd h h2
/-- Whether a tag is of what has things in it. -/
def hasB (c : Int) : Bool := decide (c / 32 % 2 = 1)
theorem and32 (c : UInt8) : iand .i64 ((c.toNat : Nat) : Int) 32 = if hasB ((c.toNat : Nat) : Int) = true then 32 else 0 := by
  have : ∀ n : Nat, n < 256 → iand .i64 ((n : Nat) : Int) 32 = if hasB ((n : Nat) : Int) = true then 32 else 0 := by decide +kernel
  exact this c.toNat c.toNat_lt
/-- Things, one behind the other; those in them are told by sub, if they may be there. -/
def chkL (sub : Option (List UInt8 → Int)) : Nat → List UInt8 → Int
  | 0, _ => 0
  | f + 1, d => if d = [] then 0 else if ¬ (readP d).2.2.2 = 0 then (readP d).2.2.2 else
    if hasB (readP d).1 = true then (match sub with | none => 14 | some g => if ¬ g (readP d).2.1 = 0 then g (readP d).2.1 else chkL sub f (readP d).2.2.1) else chkL sub f (readP d).2.2.1
theorem chkL_nil (sub : Option (List UInt8 → Int)) (f : Nat) : chkL sub f [] = 0 := by cases f <;> rfl
theorem chkL_err {sub : Option (List UInt8 → Int)} {f : Nat} {d : List UInt8} (h : ¬ d = []) (h1 : ¬ (readP d).2.2.2 = 0) : chkL sub (f + 1) d = (readP d).2.2.2 := by
  simp only [chkL, if_neg h, if_pos h1]
theorem chkL_flat {sub : Option (List UInt8 → Int)} {f : Nat} {d : List UInt8} (h : ¬ d = []) (h1 : (readP d).2.2.2 = 0) (h2 : hasB (readP d).1 = false) : chkL sub (f + 1) d = chkL sub f (readP d).2.2.1 := by
  simp only [chkL, if_neg h, if_neg (show ¬ ¬ (readP d).2.2.2 = 0 by simp [h1]), if_neg (show ¬ hasB (readP d).1 = true by rw [h2]; decide)]
theorem chkL_deep {f : Nat} {d : List UInt8} (h : ¬ d = []) (h1 : (readP d).2.2.2 = 0) (h2 : hasB (readP d).1 = true) : chkL none (f + 1) d = 14 := by
  simp only [chkL, if_neg h, if_neg (show ¬ ¬ (readP d).2.2.2 = 0 by simp [h1]), if_pos h2]
theorem chkL_bad {g : List UInt8 → Int} {f : Nat} {d : List UInt8} (h : ¬ d = []) (h1 : (readP d).2.2.2 = 0) (h2 : hasB (readP d).1 = true) (h3 : ¬ g (readP d).2.1 = 0) : chkL (some g) (f + 1) d = g (readP d).2.1 := by
  simp only [chkL, if_neg h, if_neg (show ¬ ¬ (readP d).2.2.2 = 0 by simp [h1]), if_pos h2, if_pos h3]
theorem chkL_good {g : List UInt8 → Int} {f : Nat} {d : List UInt8} (h : ¬ d = []) (h1 : (readP d).2.2.2 = 0) (h2 : hasB (readP d).1 = true) (h3 : g (readP d).2.1 = 0) : chkL (some g) (f + 1) d = chkL (some g) f (readP d).2.2.1 := by
  simp only [chkL, if_neg h, if_neg (show ¬ ¬ (readP d).2.2.2 = 0 by simp [h1]), if_pos h2, if_neg (show ¬ ¬ g (readP d).2.1 = 0 by simp [h3])]
/-- k depths are left. -/
def chk : Nat → List UInt8 → Int
  | 0 => fun d => chkL none d.length d
  | k + 1 => fun d => chkL (some (chk k)) d.length d
def subOf : Nat → Option (List UInt8 → Int)
  | 0 => none
  | k + 1 => some (chk k)
theorem chk_eq (k : Nat) (d : List UInt8) : chk k d = chkL (subOf k) d.length d := by cases k <;> rfl
/-- More steps change nothing. -/
theorem chkL_more (sub : Option (List UInt8 → Int)) : ∀ f f' d, d.length ≤ f → d.length ≤ f' → chkL sub f d = chkL sub f' d := by
  intro f
  induction f with
  | zero =>
    intro f' d h _
    have : d = [] := List.length_eq_zero_iff.1 (by omega)
    rw [this, chkL_nil, chkL_nil]
  | succ f ih =>
    intro f' d h h'
    rcases f' with _ | f'
    · have : d = [] := List.length_eq_zero_iff.1 (by omega)
      rw [this, chkL_nil, chkL_nil]
    · by_cases h0 : d = []
      · rw [h0, chkL_nil, chkL_nil]
      · by_cases h1 : (readP d).2.2.2 = 0
        · have hl := (readP_less h1).1
          have e := ih f' (readP d).2.2.1 (by omega) (by omega)
          rcases h2 : hasB (readP d).1 with _ | _
          · rw [chkL_flat h0 h1 h2, chkL_flat h0 h1 h2, e]
          · rcases sub with _ | g
            · rw [chkL_deep h0 h1 h2, chkL_deep h0 h1 h2]
            · by_cases h3 : g (readP d).2.1 = 0
              · rw [chkL_good h0 h1 h2 h3, chkL_good h0 h1 h2 h3, e]
              · rw [chkL_bad h0 h1 h2 h3, chkL_bad h0 h1 h2 h3]
        · rw [chkL_err h0 h1, chkL_err h0 h1]
def chkS (k : Nat) (d : List UInt8) : Int := chkL (subOf k) d.length d
theorem chkS_nil (k : Nat) : chkS k [] = 0 := chkL_nil _ _
theorem chkS_err {k : Nat} {d : List UInt8} (h : ¬ d = []) (h1 : ¬ (readP d).2.2.2 = 0) : chkS k d = (readP d).2.2.2 := by
  obtain ⟨f, hf⟩ : ∃ f, d.length = f + 1 := ⟨d.length - 1, by have := List.length_pos_iff.2 h; omega⟩
  rw [chkS, hf, chkL_err h h1]
theorem chkS_flat {k : Nat} {d : List UInt8} (h : ¬ d = []) (h1 : (readP d).2.2.2 = 0) (h2 : hasB (readP d).1 = false) : chkS k d = chkS k (readP d).2.2.1 := by
  obtain ⟨f, hf⟩ : ∃ f, d.length = f + 1 := ⟨d.length - 1, by have := List.length_pos_iff.2 h; omega⟩
  have hl := (readP_less h1).1
  rw [chkS, hf, chkL_flat h h1 h2, chkS, chkL_more _ f _ _ (by omega) (Nat.le_refl _)]
theorem chkS_deep {d : List UInt8} (h : ¬ d = []) (h1 : (readP d).2.2.2 = 0) (h2 : hasB (readP d).1 = true) : chkS 0 d = 14 := by
  obtain ⟨f, hf⟩ : ∃ f, d.length = f + 1 := ⟨d.length - 1, by have := List.length_pos_iff.2 h; omega⟩
  rw [chkS, hf]; exact chkL_deep h h1 h2
theorem chkS_bad {k : Nat} {d : List UInt8} (h : ¬ d = []) (h1 : (readP d).2.2.2 = 0) (h2 : hasB (readP d).1 = true) (h3 : ¬ chkS k (readP d).2.1 = 0) : chkS (k + 1) d = chkS k (readP d).2.1 := by
  obtain ⟨f, hf⟩ : ∃ f, d.length = f + 1 := ⟨d.length - 1, by have := List.length_pos_iff.2 h; omega⟩
  have e : ∀ x, chk k x = chkS k x := chk_eq k
  rw [chkS, hf, ← e]; exact chkL_bad h h1 h2 (by rw [e]; exact h3)
theorem chkS_good {k : Nat} {d : List UInt8} (h : ¬ d = []) (h1 : (readP d).2.2.2 = 0) (h2 : hasB (readP d).1 = true) (h3 : chkS k (readP d).2.1 = 0) : chkS (k + 1) d = chkS (k + 1) (readP d).2.2.1 := by
  obtain ⟨f, hf⟩ : ∃ f, d.length = f + 1 := ⟨d.length - 1, by have := List.length_pos_iff.2 h; omega⟩
  have e : ∀ x, chk k x = chkS k x := chk_eq k
  have hl := (readP_less h1).1
  rw [chkS, hf]
  refine (chkL_good h h1 h2 (by rw [e]; exact h3)).trans ?_
  rw [chkS]; exact chkL_more _ f _ _ (by omega) (Nat.le_refl _)
/-! whole numbers -/
def spareB (l : List UInt8) : Bool := decide (1 < l.length) && ((decide (bt l 0 = 0) && decide (bt l 1 < 128)) || (decide (bt l 0 = 255) && decide (128 ≤ bt l 1)))
theorem spareB_len {l : List UInt8} (h : spareB l = true) : 1 < l.length := by unfold spareB at h; simp at h; exact h.1
theorem spare_eq (l : List UInt8) : (decide ((1 : Int) < (l.length : Int)) && ((decide (bt l 0 = 0) && decide (bt l 1 < 128)) || (decide (bt l 0 = 255) && decide (128 ≤ bt l 1)))) = spareB l := by
  unfold spareB; rw [show decide ((1 : Int) < (l.length : Int)) = decide (1 < l.length) from decide_eq_decide.2 (by omega)]
theorem shr7_0 (l : List UInt8) (i : Nat) : decide (bt l i / 2 ^ 7 = 0) = decide (bt l i < 128) := by
  have := bt_range l i
  exact decide_eq_decide.2 ⟨fun h => by omega, fun h => by omega⟩
theorem shr7_1 (l : List UInt8) (i : Nat) : decide (bt l i / 2 ^ 7 = 1) = decide (128 ≤ bt l i) := by
  have := bt_range l i
  exact decide_eq_decide.2 ⟨fun h => by omega, fun h => by omega⟩
/-- Without the first bytes that can be left out. -/
def trim : Nat → List UInt8 → List UInt8
  | 0, l => l
  | f + 1, l => if spareB l = true then trim f (l.drop 1) else l
theorem trim_no {l : List UInt8} (h : spareB l = false) : ∀ f, trim f l = l := by
  intro f; cases f
  · rfl
  · rw [trim, if_neg (by rw [h]; decide)]
theorem trim_yes {l : List UInt8} {f : Nat} (h : spareB l = true) : trim (f + 1) l = trim f (l.drop 1) := by rw [trim, if_pos h]
theorem trim_more : ∀ (f f' : Nat) (l : List UInt8), l.length ≤ f → l.length ≤ f' → trim f l = trim f' l := by
  intro f
  induction f with
  | zero =>
    intro f' l h h'
    have h0 : spareB l = false := by
      cases hs : spareB l with
      | false => rfl
      | true => have := spareB_len hs; omega
    rw [trim_no h0, trim_no h0]
  | succ f ih =>
    intro f' l h h'
    cases hs : spareB l with
    | false => rw [trim_no hs, trim_no hs]
    | true =>
      have hl := spareB_len hs
      obtain ⟨q, rfl⟩ : ∃ q, f' = q + 1 := ⟨f' - 1, by omega⟩
      rw [trim_yes hs, trim_yes hs]
      exact ih q _ (by simp; omega) (by simp; omega)
def trimP (l : List UInt8) : List UInt8 := trim l.length l
theorem trimP_no {l : List UInt8} (h : spareB l = false) : trimP l = l := trim_no h _
theorem trimP_yes {l : List UInt8} (h : spareB l = true) : trimP l = trimP (l.drop 1) := by
  have hl := spareB_len h
  obtain ⟨q, hq⟩ : ∃ q, l.length = q + 1 := ⟨l.length - 1, by omega⟩
  rw [trimP, hq, trim_yes h, trimP]
  exact trim_more _ _ _ (by simp; omega) (Nat.le_refl _)
/-- The eight bytes of a number, the first is the greatest. -/
def i64L (n : Int) (k : Nat) : List UInt8 := (List.range k).map fun i => b8 (n / 2 ^ (56 - 8 * i))
theorem i64L_zero (n : Int) : i64L n 0 = [] := rfl
theorem i64L_succ (n : Int) (k : Nat) : i64L n (k + 1) = i64L n k ++ [b8 (n / 2 ^ (56 - 8 * k))] := by simp [i64L, List.range_succ]
theorem i64L_length (n : Int) (k : Nat) : (i64L n k).length = k := by simp [i64L]
theorem i64L_set (n : Int) {k : Nat} (h : k < 8) : (i64L n k ++ List.replicate (8 - k) 0).set k (b8 (n / 2 ^ (56 - 8 * k))) = i64L n (k + 1) ++ List.replicate (8 - (k + 1)) 0 := by
  rw [List.set_append_right _ _ (by rw [i64L_length]; exact Nat.le_refl _), i64L_length, Nat.sub_self, i64L_succ, show 8 - k = (8 - (k + 1)) + 1 from by omega, List.replicate_succ]
  simp
def intP (n : Int) : List UInt8 := (writeP 2 (trimP (i64L n 8))).1
/-- Bytes as a number with a sign. -/
def sgI (l : List UInt8) : Nat → Int
  | 0 => if 128 ≤ bt l 0 then -1 else 0
  | i + 1 => 256 * sgI l i + bt l i
theorem sgI_neg {l : List UInt8} (h : 128 ≤ bt l 0) : sgI l 0 = -1 := if_pos h
theorem sgI_pos {l : List UInt8} (h : ¬ 128 ≤ bt l 0) : sgI l 0 = 0 := if_neg h
theorem sgI_succ (l : List UInt8) (i : Nat) : sgI l (i + 1) = 256 * sgI l i + bt l i := rfl
theorem sgI_one (l : List UInt8) : sgI l 1 = (bt l 0 + 128) % 256 - 128 := by
  have := bt_range l 0
  rw [sgI_succ]
  by_cases h : 128 ≤ bt l 0
  · rw [sgI_neg h]; omega
  · rw [sgI_pos h]; omega
theorem sgI_range (l : List UInt8) : ∀ i, i ≤ 7 → -36028797018963968 ≤ sgI l i ∧ sgI l i < 36028797018963968 := by
  have h : ∀ i : Nat, -(128 * 256 ^ i) ≤ sgI l (i + 1) ∧ sgI l (i + 1) < 128 * 256 ^ i := by
    intro i
    induction i with
    | zero => rw [sgI_one]; have := bt_range l 0; simp; omega
    | succ i ih =>
      have := bt_range l (i + 1)
      rw [sgI_succ, Int.pow_succ]
      generalize (256 : Int) ^ i = q at *
      omega
  intro i hi
  rcases i with _ | i
  · by_cases h0 : 128 ≤ bt l 0
    · rw [sgI_neg h0]; decide
    · rw [sgI_pos h0]; decide
  · have h2 : (256 : Int) ^ i ≤ 256 ^ 6 := by
      have : (256 : Nat) ^ i ≤ 256 ^ 6 := Nat.pow_le_pow_right (by decide) (by omega)
      have e : ((256 ^ i : Nat) : Int) ≤ ((256 ^ 6 : Nat) : Int) := Int.ofNat_le.2 this
      simpa using e
    have := h i
    have e6 : (256 : Int) ^ 6 = 281474976710656 := by decide
    omega
theorem i8_first (l : List UInt8) : IntKind.i64.wrap (IntKind.i8.wrap (bt l 0)) = sgI l 1 := by
  have h := bt_range l 0
  have e : IntKind.i8.wrap (bt l 0) = (bt l 0 + 128) % 256 - 128 := by simp [IntKind.wrap, IntKind.bits, IntKind.signed]; omega
  rw [sgI_one, e, wrap_i64_in (by omega) (by omega)]
theorem i64L_up {n : Int} {i : Nat} (h : i < 8) : n / 2 ^ min ((56 : Int) - 8 * (i : Int)).toNat IntKind.i64.bits = n / 2 ^ (56 - 8 * i) := by
  rw [show min ((56 : Int) - 8 * (i : Int)).toNat IntKind.i64.bits = 56 - 8 * i from by show min _ 64 = _; omega]
theorem i64L_down {n : Int} {i : Nat} (h : i < 8) : n / 2 ^ min ((8 : Int) * (7 - (i : Int))).toNat IntKind.i64.bits = n / 2 ^ (56 - 8 * i) := by
  rw [show min ((8 : Int) * (7 - (i : Int))).toNat IntKind.i64.bits = 56 - 8 * i from by show min _ 64 = _; omega]
def readIntP (l : List UInt8) : Int × Int := if l = [] then (0, 10) else if spareB l = true then (0, 11) else if 8 < l.length then (0, 13) else (sgI l l.length, 0)
theorem readIntP_nil : readIntP [] = (0, 10) := rfl
theorem readIntP_spare {l : List UInt8} (h : ¬ l = []) (h1 : spareB l = true) : readIntP l = (0, 11) := by rw [readIntP, if_neg h, if_pos h1]
theorem readIntP_big {l : List UInt8} (h : ¬ l = []) (h1 : spareB l = false) (h2 : 8 < l.length) : readIntP l = (0, 13) := by rw [readIntP, if_neg h, if_neg (by rw [h1]; decide), if_pos h2]
theorem readIntP_ok {l : List UInt8} (h : ¬ l = []) (h1 : spareB l = false) (h2 : ¬ 8 < l.length) : readIntP l = (sgI l l.length, 0) := by rw [readIntP, if_neg h, if_neg (by rw [h1]; decide), if_neg h2]
attribute [irreducible] spareB i64L hasB sgI trimP chkS
end Go.Proofs.Ytbjdmomfcdfanaa
