/-
  Whole numbers of a kind: bits. No condition.
-/
import Derived.Test.YtfiojlmccflplaaDS
namespace Go.Proofs.Ytfiojlmccflplaa.D
open Go Go.RowKit
set_option linter.unusedVariables false
set_option linter.unusedSimpArgs false
theorem wrap_u8 (x : Int) : IntKind.u8.wrap x = x % 256 := by simp [IntKind.wrap, IntKind.bits, IntKind.signed]
theorem wrap_u32 (x : Int) : IntKind.u32.wrap x = x % 4294967296 := by simp [IntKind.wrap, IntKind.bits, IntKind.signed]
theorem wrap_u64 (x : Int) : IntKind.u64.wrap x = x % 18446744073709551616 := by simp [IntKind.wrap, IntKind.bits, IntKind.signed]
theorem wrap_u64_in {x : Int} (h : 0 ≤ x) (h1 : x < 18446744073709551616) : IntKind.u64.wrap x = x := by rw [wrap_u64]; omega
theorem wrap_u8_in {x : Int} (h : 0 ≤ x) (h1 : x < 256) : IntKind.u8.wrap x = x := by rw [wrap_u8]; omega
theorem wrap_i64_in {x : Int} (h : -9223372036854775808 ≤ x) (h1 : x ≤ 9223372036854775807) : IntKind.i64.wrap x = x := IntWalk.i64_in x ⟨h, h1⟩
theorem rng_bt (l : List UInt8) (i : Nat) : -9223372036854775808 ≤ bt l i ∧ bt l i ≤ 9223372036854775807 := by have := bt_range l i; omega
theorem bv_nat (w x : Nat) (h : x < 2 ^ w) : (BitVec.ofInt w (x : Int)).toNat = x := by
  rw [BitVec.toNat_ofInt]
  have : ((x : Int) % ((2 ^ w : Nat) : Int)).toNat = x := by
    rw [← Int.natCast_emod, Int.toNat_natCast, Nat.mod_eq_of_lt h]
  simpa using this
section
variable {x y : Nat}
theorem iand_u64 (hx : x < 2 ^ 64) (hy : y < 2 ^ 64) : iand .u64 x y = ((x &&& y : Nat) : Int) := by
  unfold iand
  rw [BitVec.toNat_and, show IntKind.u64.bits = 64 from rfl, bv_nat 64 x hx, bv_nat 64 y hy]
  have := Nat.and_lt_two_pow x hy
  exact wrap_u64_in (by omega) (by omega)
theorem ior_u64 (hx : x < 2 ^ 64) (hy : y < 2 ^ 64) : ior .u64 x y = ((x ||| y : Nat) : Int) := by
  unfold ior
  rw [BitVec.toNat_or, show IntKind.u64.bits = 64 from rfl, bv_nat 64 x hx, bv_nat 64 y hy]
  have := Nat.or_lt_two_pow hx hy
  exact wrap_u64_in (by omega) (by omega)
theorem ixor_u64 (hx : x < 2 ^ 64) (hy : y < 2 ^ 64) : ixor .u64 x y = ((x ^^^ y : Nat) : Int) := by
  unfold ixor
  rw [BitVec.toNat_xor, show IntKind.u64.bits = 64 from rfl, bv_nat 64 x hx, bv_nat 64 y hy]
  have := Nat.xor_lt_two_pow hx hy
  exact wrap_u64_in (by omega) (by omega)
theorem iand_u8 (hx : x < 2 ^ 8) (hy : y < 2 ^ 8) : iand .u8 x y = ((x &&& y : Nat) : Int) := by
  unfold iand
  rw [BitVec.toNat_and, show IntKind.u8.bits = 8 from rfl, bv_nat 8 x hx, bv_nat 8 y hy]
  have := Nat.and_lt_two_pow x hy
  exact wrap_u8_in (by omega) (by omega)
theorem ior_u8 (hx : x < 2 ^ 8) (hy : y < 2 ^ 8) : ior .u8 x y = ((x ||| y : Nat) : Int) := by
  unfold ior
  rw [BitVec.toNat_or, show IntKind.u8.bits = 8 from rfl, bv_nat 8 x hx, bv_nat 8 y hy]
  have := Nat.or_lt_two_pow hx hy
  exact wrap_u8_in (by omega) (by omega)
theorem ixor_u8 (hx : x < 2 ^ 8) (hy : y < 2 ^ 8) : ixor .u8 x y = ((x ^^^ y : Nat) : Int) := by
  unfold ixor
  rw [BitVec.toNat_xor, show IntKind.u8.bits = 8 from rfl, bv_nat 8 x hx, bv_nat 8 y hy]
  have := Nat.xor_lt_two_pow hx hy
  exact wrap_u8_in (by omega) (by omega)
theorem iand_i64 (hx : x < 2 ^ 63) (hy : y < 2 ^ 63) : iand .i64 x y = ((x &&& y : Nat) : Int) := by
  unfold iand
  rw [BitVec.toNat_and, show IntKind.i64.bits = 64 from rfl, bv_nat 64 x (by omega), bv_nat 64 y (by omega)]
  have := Nat.and_lt_two_pow x hy
  exact wrap_i64_in (by omega) (by omega)
theorem ior_i64 (hx : x < 2 ^ 63) (hy : y < 2 ^ 63) : ior .i64 x y = ((x ||| y : Nat) : Int) := by
  unfold ior
  rw [BitVec.toNat_or, show IntKind.i64.bits = 64 from rfl, bv_nat 64 x (by omega), bv_nat 64 y (by omega)]
  have := Nat.or_lt_two_pow hx hy
  exact wrap_i64_in (by omega) (by omega)
theorem ixor_i64 (hx : x < 2 ^ 63) (hy : y < 2 ^ 63) : ixor .i64 x y = ((x ^^^ y : Nat) : Int) := by
  unfold ixor
  rw [BitVec.toNat_xor, show IntKind.i64.bits = 64 from rfl, bv_nat 64 x (by omega), bv_nat 64 y (by omega)]
  have := Nat.xor_lt_two_pow hx hy
  exact wrap_i64_in (by omega) (by omega)
end
/-- The lowest b bits. -/
theorem mask_u64 {x : Int} (b : Nat) (hb : b ≤ 63) (h : 0 ≤ x) (h1 : x < 18446744073709551616) (m : Int) (hm : m = ((2 ^ b - 1 : Nat) : Int)) : iand .u64 x m = x % ((2 ^ b : Nat) : Int) := by
  obtain ⟨n, rfl⟩ := Int.eq_ofNat_of_zero_le h
  have h2 : (2 : Nat) ^ b ≤ 2 ^ 63 := Nat.pow_le_pow_right (by decide) hb
  rw [hm, iand_u64 (by omega) (by omega), Nat.and_two_pow_sub_one_eq_mod, Int.natCast_emod]
theorem mask_u8 {x : Int} (b : Nat) (hb : b ≤ 8) (h : 0 ≤ x) (h1 : x < 256) (m : Int) (hm : m = ((2 ^ b - 1 : Nat) : Int)) : iand .u8 x m = x % ((2 ^ b : Nat) : Int) := by
  obtain ⟨n, rfl⟩ := Int.eq_ofNat_of_zero_le h
  have h2 : (2 : Nat) ^ b ≤ 2 ^ 8 := Nat.pow_le_pow_right (by decide) hb
  rw [hm, iand_u8 (by omega) (by omega), Nat.and_two_pow_sub_one_eq_mod, Int.natCast_emod]
theorem mask_i64 {x : Int} (b : Nat) (hb : b ≤ 62) (h : 0 ≤ x) (h1 : x < 9223372036854775808) (m : Int) (hm : m = ((2 ^ b - 1 : Nat) : Int)) : iand .i64 x m = x % ((2 ^ b : Nat) : Int) := by
  obtain ⟨n, rfl⟩ := Int.eq_ofNat_of_zero_le h
  have h2 : (2 : Nat) ^ b ≤ 2 ^ 62 := Nat.pow_le_pow_right (by decide) hb
  rw [hm, iand_i64 (by omega) (by omega), Nat.and_two_pow_sub_one_eq_mod, Int.natCast_emod]
/-- Bits that lie apart add up. -/
theorem or_add {a b i : Nat} (h : b < 2 ^ i) : (b ||| a * 2 ^ i) = b + a * 2 ^ i := by
  rw [Nat.or_comm, Nat.mul_comm, ← Nat.two_pow_add_eq_or_of_lt h, Nat.add_comm]
def enumN (k : IntKind) : Nat → List Int → List (Nat × Value)
  | _, [] => []
  | i, x :: xs => (i, .int k x) :: enumN k (i + 1) xs
section
variable {P : Program} {w0 : World} {ρ : Operand → Value} {H : Hp} {d : Option Tmp} {ty : TypeId} {pos : String} {af : Array Edge} {g : Option (Nat × Bool)} {xt yt : TypeId} {x y : Operand} {k k' : IntKind} {a b : Int}
/-- Shifts by a known number. -/
theorem q_shlL (m : Nat) (hx : ρ x = .int k a) (hy : ρ y = .int k' b) (hb : 0 ≤ b) (hm : min b.toNat k.bits = m) : QS P w0 ρ ⟨d, .binOp .shl xt x y yt, ty, pos, af, g⟩ H (.int k (k.wrap (a * 2 ^ m))) := by
  subst hm; exact q_shl hx hy hb
theorem q_shrL (m : Nat) (hx : ρ x = .int k a) (hy : ρ y = .int k' b) (hb : 0 ≤ b) (hm : min b.toNat k.bits = m) : QS P w0 ρ ⟨d, .binOp .shr xt x y yt, ty, pos, af, g⟩ H (.int k (a / 2 ^ m)) := by
  subst hm; exact q_shr hx hy hb
theorem q_sliceArr_lo {t e : TypeId} {m sz : Nat} {x lo : Operand} {b o : Nat} {k : IntKind} {a : Int} (ht : P.underlying t = some (.array m e)) (hs : sizeT P e = some sz) (hx : ρ x = .pointer (some ⟨b, o, none⟩))
    (ha : ρ lo = .int k a) (h0 : 0 ≤ a) (h1 : a < m) :
    QS P w0 ρ ⟨d, .slice t x (some lo) none none, ty, pos, af, g⟩ H (.slice (some ⟨b, o + a.toNat * sz, none⟩) (m - a.toNat) (m - a.toNat)) :=
  QS.of_run fun w _ => by
    have : ¬ m = a.toNat := by omega
    simp [execOp, Instr.sliceAt, run_underlying ht, hx, ha, Instr.sureAddr, Instr.sliceBounds, run_sizeT hs,
      run_sliceBound' k a m _ w h0 (by omega), this, Addr.add0]
/-- A part of a block as a string. -/
theorem q_stringAt {s t e : TypeId} {x : Operand} {b o n c sz : Nat} {el : TypeId} {xs : List Int} (hs : P.underlying s = some (.slice e)) (he : P.underlying e = some (.int .u8)) (ht : P.underlying t = some .string)
    (hx : ρ x = .slice (some ⟨b, o, none⟩) n c) (hb : H b = some ⟨nums .u8 xs, sz, el⟩) (hn : o + n ≤ xs.length) :
    QS P w0 ρ ⟨d, .convert s t x, ty, pos, af, g⟩ H (S (toB ((xs.drop o).take n))) :=
  q_string hs he ht hx hb (by simp; omega) fun i v hi => by
    rw [← nums_take, ← nums_drop, List.getElem?_take] at hi
    split at hi
    · rw [List.getElem?_drop] at hi; exact hi
    · cases hi
/-- An array built of numbers in order. -/
theorem q_buildN {t : TypeId} {ps : List (Nat × Operand)} (xs : List Int) (hp : (ps.map fun p => (p.1, ρ p.2)) = enumN k 0 xs) (h : P.built t (enumN k 0 xs) = some (nums k xs).toArray) : QS P w0 ρ ⟨d, .build t ps.toArray, ty, pos, af, g⟩ H (.agg (nums k xs).toArray) := q_build hp h
theorem q_convI64 {s t : TypeId} (hs : (P.underlying s).isSome = true) (ht : P.underlying t = some (.int .i64)) (hx : ρ x = .int k a) (h : -9223372036854775808 ≤ a ∧ a ≤ 9223372036854775807) :
    QS P w0 ρ ⟨d, .convert s t x, ty, pos, af, g⟩ H (.int .i64 a) := by
  have := q_convInt (w0 := w0) (H := H) (d := d) (ty := ty) (pos := pos) (af := af) (g := g) hs ht hx
  rwa [wrap_i64_in h.1 h.2] at this
end
end Go.Proofs.Ytfiojlmccflplaa.D
