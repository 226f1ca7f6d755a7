/-
  What package der and the document's answer compute, in plain Lean.
-/
import Derived.Test.YtbjdmomfcdfanaaDT
namespace Go.Proofs.Ytbjdmomfcdfanaa
open Go Go.RowKit D
set_option linter.unusedVariables false
set_option linter.unusedSimpArgs false
set_option maxRecDepth 100000
set_option maxHeartbeats 1000000
/-- The lowest byte of a number. -/
def b8 (n : Int) : UInt8 := UInt8.ofNat (n % 256).toNat
theorem b8_toNat (n : Int) : (((b8 n).toNat : Nat) : Int) = n % 256 := by
  unfold b8
  rw [UInt8.toNat_ofNat', Nat.mod_eq_of_lt (by omega)]; omega
theorem b8_mod (n : Int) : b8 (n % 256) = b8 n := by unfold b8; rw [Int.emod_emod_of_dvd n (by decide)]
theorem b8_bt (l : List UInt8) (i : Nat) : b8 (bt l i) = l.getD i 0 := by
  unfold b8 bt
  have := (l.getD i 0).toNat_lt
  apply UInt8.toNat_inj.1
  rw [UInt8.toNat_ofNat', show ((((l.getD i 0).toNat : Nat) : Int) % 256).toNat = (l.getD i 0).toNat from by omega, Nat.mod_eq_of_lt (by omega)]
section
variable {P : Program} {w0 : World} {ρ : Operand → Value} {H : Hp} {d : Option Tmp} {ty : TypeId} {pos : String} {af : Array Edge} {g : Option (Nat × Bool)} {x : Operand}
theorem q_convB8 {s t : TypeId} {k : IntKind} {n : Int} (hs : (P.underlying s).isSome = true) (ht : P.underlying t = some (.int .u8)) (hx : ρ x = .int k n) : QS P w0 ρ ⟨d, .convert s t x, ty, pos, af, g⟩ H (BV (b8 n)) := by
  have := q_convInt (w0 := w0) (H := H) (d := d) (ty := ty) (pos := pos) (af := af) (g := g) hs ht hx
  rwa [wrap_u8, ← b8_toNat] at this
end
/-! tags -/
def isTagB (n : Int) : Bool := decide (0 ≤ n ∧ n < 256 ∧ n % 32 ≠ 31)
theorem and31 {n : Int} (h0 : 0 ≤ n) (h1 : n < 256) : iand .i64 n 31 = n % 32 := by
  have := mask_i64 5 (by decide) h0 (by omega) 31 (by decide)
  simpa using this
theorem and31_eq (n : Int) : ((decide (0 ≤ n) && decide (n < 256)) && decide (¬ iand .i64 n 31 = 31)) = isTagB n := by
  unfold isTagB
  by_cases h : 0 ≤ n ∧ n < 256
  · rw [and31 h.1 h.2]; simp [h]
  · have : ¬ (0 ≤ n ∧ n < 256 ∧ n % 32 ≠ 31) := fun g => h ⟨g.1, g.2.1⟩
    rw [decide_eq_false this]
    by_cases h0 : 0 ≤ n
    · have h1 : ¬ n < 256 := fun g => h ⟨h0, g⟩
      rw [decide_eq_false h1]; simp
    · rw [decide_eq_false h0]; simp
theorem rem31_eq (n : Int) : ((decide (0 ≤ n) && decide (n ≤ 255)) && decide (¬ n.tmod 32 = 31)) = isTagB n := by
  unfold isTagB
  rw [show decide (n ≤ 255) = decide (n < 256) from decide_eq_decide.2 (by omega)]
  by_cases h : 0 ≤ n
  · rw [Int.tmod_eq_emod_of_nonneg h]; simp [Bool.and_assoc]
  · rw [decide_eq_false h, decide_eq_false (fun g : 0 ≤ n ∧ n < 256 ∧ n % 32 ≠ 31 => h g.1)]; simp
/-! what is written -/
def headL (tag : Int) (n : Nat) : List UInt8 := if n < 128 then [b8 tag, b8 n] else if n < 256 then [b8 tag, 129, b8 n] else [b8 tag, 130, b8 ((n : Int) / 256), b8 n]
def writeP (tag : Int) (body : List UInt8) : List UInt8 × Int := if isTagB tag = true then (if body.length < 65536 then (headL tag body.length ++ body, 0) else ([], 13)) else ([], 1)
theorem writeP_tag {tag : Int} (body : List UInt8) (h : isTagB tag = false) : writeP tag body = ([], 1) := by rw [writeP, if_neg (by rw [h]; decide)]
theorem writeP_big {tag : Int} {body : List UInt8} (h : isTagB tag = true) (h1 : ¬ body.length < 65536) : writeP tag body = ([], 13) := by rw [writeP, if_pos h, if_neg h1]
theorem writeP_ok {tag : Int} {body : List UInt8} (h : isTagB tag = true) (h1 : body.length < 65536) : writeP tag body = (headL tag body.length ++ body, 0) := by rw [writeP, if_pos h, if_pos h1]
theorem headL_1 (tag : Int) {n : Nat} (h : n < 128) : headL tag n = [b8 tag, b8 n] := if_pos h
theorem headL_2 (tag : Int) {n : Nat} (h : ¬ n < 128) (h2 : n < 256) : headL tag n = [b8 tag, 129, b8 n] := by rw [headL, if_neg h, if_pos h2]
theorem headL_3 (tag : Int) {n : Nat} (h : ¬ n < 128) (h2 : ¬ n < 256) : headL tag n = [b8 tag, 130, b8 ((n : Int) / 256), b8 n] := by rw [headL, if_neg h, if_neg h2]
/-! what is read -/
def lenP (d : List UInt8) : Int × Int × Int :=
  if d.length < 2 then (0, 0, 10) else
  if bt d 1 < 128 then (bt d 1, 2, 0) else
  if bt d 1 = 128 ∨ 130 < bt d 1 then (0, 0, 11) else
  if (d.length : Int) < 2 + (bt d 1 - 128) then (0, 0, 10) else
  if bt d 1 = 129 then (if bt d 2 < 128 then (0, 0, 11) else (bt d 2, 3, 0)) else
  if 256 * bt d 2 + bt d 3 < 256 then (0, 0, 11) else (256 * bt d 2 + bt d 3, 4, 0)
def readP (d : List UInt8) : Int × List UInt8 × List UInt8 × Int :=
  if d = [] then (0, [], [], 10) else
  if isTagB (bt d 0) = false then (0, [], [], 11) else
  if ¬ (lenP d).2.2 = 0 then (0, [], [], (lenP d).2.2) else
  if (d.length : Int) < (lenP d).2.1 + (lenP d).1 then (0, [], [], 10) else
  (bt d 0, (d.take ((lenP d).2.1 + (lenP d).1).toNat).drop (lenP d).2.1.toNat, d.drop ((lenP d).2.1 + (lenP d).1).toNat, 0)
theorem readP_nil : readP [] = (0, [], [], 10) := rfl
theorem readP_tag {d : List UInt8} (h : ¬ d = []) (h1 : isTagB (bt d 0) = false) : readP d = (0, [], [], 11) := by rw [readP, if_neg h, if_pos h1]
theorem readP_len {d : List UInt8} (h : ¬ d = []) (h1 : isTagB (bt d 0) = true) (h2 : ¬ (lenP d).2.2 = 0) : readP d = (0, [], [], (lenP d).2.2) := by rw [readP, if_neg h, if_neg (by rw [h1]; decide), if_pos h2]
theorem readP_end {d : List UInt8} (h : ¬ d = []) (h1 : isTagB (bt d 0) = true) (h2 : (lenP d).2.2 = 0) (h3 : (d.length : Int) < (lenP d).2.1 + (lenP d).1) : readP d = (0, [], [], 10) := by
  rw [readP, if_neg h, if_neg (by rw [h1]; decide), if_neg (by simp [h2]), if_pos h3]
theorem readP_ok {d : List UInt8} (h : ¬ d = []) (h1 : isTagB (bt d 0) = true) (h2 : (lenP d).2.2 = 0) (h3 : ¬ (d.length : Int) < (lenP d).2.1 + (lenP d).1) :
    readP d = (bt d 0, (d.take ((lenP d).2.1 + (lenP d).1).toNat).drop (lenP d).2.1.toNat, d.drop ((lenP d).2.1 + (lenP d).1).toNat, 0) := by
  rw [readP, if_neg h, if_neg (by rw [h1]; decide), if_neg (by simp [h2]), if_neg h3]
theorem lenP_short {d : List UInt8} (h : d.length < 2) : lenP d = (0, 0, 10) := if_pos h
theorem lenP_one {d : List UInt8} (h : ¬ d.length < 2) (h1 : bt d 1 < 128) : lenP d = (bt d 1, 2, 0) := by rw [lenP, if_neg h, if_pos h1]
theorem lenP_odd {d : List UInt8} (h : ¬ d.length < 2) (h1 : ¬ bt d 1 < 128) (h2 : bt d 1 = 128 ∨ 130 < bt d 1) : lenP d = (0, 0, 11) := by rw [lenP, if_neg h, if_neg h1, if_pos h2]
theorem lenP_cut {d : List UInt8} (h : ¬ d.length < 2) (h1 : ¬ bt d 1 < 128) (h2 : ¬ (bt d 1 = 128 ∨ 130 < bt d 1)) (h3 : (d.length : Int) < 2 + (bt d 1 - 128)) : lenP d = (0, 0, 10) := by rw [lenP, if_neg h, if_neg h1, if_neg h2, if_pos h3]
theorem lenP_two {d : List UInt8} (h : ¬ d.length < 2) (h1 : ¬ bt d 1 < 128) (h2 : ¬ (bt d 1 = 128 ∨ 130 < bt d 1)) (h3 : ¬ (d.length : Int) < 2 + (bt d 1 - 128)) (h4 : bt d 1 = 129) :
    lenP d = if bt d 2 < 128 then (0, 0, 11) else (bt d 2, 3, 0) := by rw [lenP, if_neg h, if_neg h1, if_neg h2, if_neg h3, if_pos h4]
theorem lenP_three {d : List UInt8} (h : ¬ d.length < 2) (h1 : ¬ bt d 1 < 128) (h2 : ¬ (bt d 1 = 128 ∨ 130 < bt d 1)) (h3 : ¬ (d.length : Int) < 2 + (bt d 1 - 128)) (h4 : ¬ bt d 1 = 129) :
    lenP d = if 256 * bt d 2 + bt d 3 < 256 then (0, 0, 11) else (256 * bt d 2 + bt d 3, 4, 0) := by rw [lenP, if_neg h, if_neg h1, if_neg h2, if_neg h3, if_neg h4]
theorem lenP_range (d : List UInt8) : 0 ≤ (lenP d).1 ∧ (lenP d).1 < 65536 ∧ 0 ≤ (lenP d).2.1 ∧ (lenP d).2.1 ≤ 4 ∧ ((lenP d).2.2 = 0 → 2 ≤ (lenP d).2.1 ∧ (lenP d).2.1 ≤ d.length) := by
  have b1 := bt_range d 1
  have b2 := bt_range d 2
  have b3 := bt_range d 3
  unfold lenP
  repeat' split
  all_goals simp <;> omega
/-- Bytes as a number, the first is the greatest. -/
def beI (l : List UInt8) : Nat → Int
  | 0 => 0
  | i + 1 => 256 * beI l i + bt l i
theorem beI_zero (l : List UInt8) : beI l 0 = 0 := rfl
theorem beI_succ (l : List UInt8) (i : Nat) : beI l (i + 1) = 256 * beI l i + bt l i := rfl
theorem beI_range (l : List UInt8) : ∀ i, i ≤ 6 → 0 ≤ beI l i ∧ beI l i < 281474976710656 := by
  intro i hi
  have h : ∀ i : Nat, 0 ≤ beI l i ∧ beI l i < 256 ^ i := by
    intro i
    induction i with
    | zero => exact ⟨Int.le_refl _, by show (0 : Int) < 1; decide⟩
    | succ i ih =>
      have := bt_range l i
      rw [beI_succ, Int.pow_succ]
      generalize (256 : Int) ^ i = q at *
      omega
  have h2 : (256 : Int) ^ i ≤ 256 ^ 6 := by
    have : (256 : Nat) ^ i ≤ 256 ^ 6 := Nat.pow_le_pow_right (by decide) hi
    have e : ((256 ^ i : Nat) : Int) ≤ ((256 ^ 6 : Nat) : Int) := Int.ofNat_le.2 this
    simpa using e
  have := h i
  omega
theorem and3 {n : Int} (h0 : 128 < n) (h1 : n ≤ 130) : iand .i64 n 3 = n - 128 := by
  have := mask_i64 2 (by decide) (x := n) (by omega) (by omega) 3 (by decide)
  rw [this]; simp; omega
theorem bt_skip (d : List UInt8) (k i : Nat) : bt (d.drop k) i = bt d (k + i) := bt_drop d k i
theorem lenP_rest {d : List UInt8} (h : ¬ d.length < 2) (h1 : ¬ bt d 1 < 128) (h2 : ¬ (bt d 1 = 128 ∨ 130 < bt d 1)) (h3 : ¬ (d.length : Int) < 2 + (bt d 1 - 128)) :
    lenP d = if beI (d.drop 2) (bt d 1 - 128).toNat < 128 ∨ (2 + (bt d 1 - 128) = 4 ∧ beI (d.drop 2) (bt d 1 - 128).toNat < 256) then (0, 0, 11) else (beI (d.drop 2) (bt d 1 - 128).toNat, 2 + (bt d 1 - 128), 0) := by
  have b2 := bt_range d 2
  have b3 := bt_range d 3
  by_cases h4 : bt d 1 = 129
  · rw [lenP_two h h1 h2 h3 h4, h4, show ((129 : Int) - 128).toNat = 1 from rfl, show beI (d.drop 2) 1 = bt d 2 from by rw [beI_succ, beI_zero, bt_skip]; show 256 * 0 + bt d 2 = _; omega]
    by_cases h5 : bt d 2 < 128
    · rw [if_pos h5, if_pos (.inl h5)]
    · rw [if_neg h5, if_neg (by omega)]; rfl
  · have h5 : bt d 1 = 130 := by omega
    rw [lenP_three h h1 h2 h3 h4, h5, show ((130 : Int) - 128).toNat = 2 from rfl, show beI (d.drop 2) 2 = 256 * bt d 2 + bt d 3 from by rw [beI_succ, beI_succ, beI_zero, bt_skip, bt_skip]; show 256 * (256 * 0 + bt d 2) + bt d 3 = _; omega]
    by_cases h6 : 256 * bt d 2 + bt d 3 < 256
    · rw [if_pos h6, if_pos (by omega)]
    · rw [if_neg h6, if_neg (by omega)]; rfl
/-- A step of n<<8 | b. -/
theorem shl_or {n b : Int} (h0 : 0 ≤ b) (h1 : b < 256) (h2 : -36028797018963968 ≤ n) (h3 : n < 36028797018963968) : ior .i64 (IntKind.i64.wrap (n * 2 ^ 8)) b = 256 * n + b := by
  rw [wrap_i64_in (by omega) (by omega)]
  unfold ior
  obtain ⟨m, rfl⟩ := Int.eq_ofNat_of_zero_le h0
  rw [BitVec.toNat_or, show IntKind.i64.bits = 64 from rfl, bv_nat 64 m (by omega)]
  have e : (BitVec.ofInt 64 (n * 2 ^ 8)).toNat = (n % 72057594037927936).toNat * 2 ^ 8 := by
    rw [BitVec.toNat_ofInt]
    have : (n * 2 ^ 8) % ((2 ^ 64 : Nat) : Int) = (n % 72057594037927936) * 2 ^ 8 := by omega
    rw [this]; omega
  rw [e, Nat.or_comm, or_add (by omega)]
  have w : ∀ x : Int, IntKind.i64.wrap x = (x + 9223372036854775808) % 18446744073709551616 - 9223372036854775808 := by
    intro x; simp [IntKind.wrap, IntKind.bits, IntKind.signed]; omega
  rw [w]; omega
attribute [irreducible] b8 isTagB headL beI
end Go.Proofs.Ytbjdmomfcdfanaa
