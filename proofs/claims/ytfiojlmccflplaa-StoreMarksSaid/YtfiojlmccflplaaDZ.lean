/-
  A walk's rules: a whole number's lowest byte. No condition.
-/
import Derived.Test.YtfiojlmccflplaaDY
namespace Go.Proofs.Ytfiojlmccflplaa.D
open Go Go.RowKit
set_option linter.unusedVariables false
set_option linter.unusedSimpArgs false
/-- The lowest byte of a number. -/
def b8 (n : Int) : UInt8 := UInt8.ofNat (n % 256).toNat
theorem b8_toNat (n : Int) : (((b8 n).toNat : Nat) : Int) = n % 256 := by
  unfold b8
  rw [UInt8.toNat_ofNat', Nat.mod_eq_of_lt (by omega)]; omega
theorem b8_mod (n : Int) : b8 (n % 256) = b8 n := by unfold b8; rw [Int.emod_emod_of_dvd n (by decide)]
section
variable {P : Program} {w0 : World} {ρ : Operand → Value} {H : Hp} {d : Option Tmp} {ty : TypeId} {pos : String} {af : Array Edge} {g : Option (Nat × Bool)} {x : Operand}
theorem q_convB8 {s t : TypeId} {k : IntKind} {n : Int} (hs : (P.underlying s).isSome = true) (ht : P.underlying t = some (.int .u8)) (hx : ρ x = .int k n) : QS P w0 ρ ⟨d, .convert s t x, ty, pos, af, g⟩ H (BV (b8 n)) := by
  have := q_convInt (w0 := w0) (H := H) (d := d) (ty := ty) (pos := pos) (af := af) (g := g) hs ht hx
  rwa [wrap_u8, ← b8_toNat] at this
theorem q_compl {t : TypeId} {k : IntKind} {n : Int} (hk : k.signed = false) (hx : ρ x = .int k n) : QS P w0 ρ ⟨d, .unOp .xor t x, ty, pos, af, g⟩ H (.int k (ixor k k.max n)) :=
  QS.of_run fun w ho => by simp [execOp, hx, Op.unary, Op.intBits, ixor, hk]
end
theorem part_of {l cs : List Value} {j : Nat} (h : (l.drop j).take cs.length = cs) : ∀ (i : Nat) (v : Value), cs[i]? = some v → l[j + i]? = some v := by
  intro i v hv
  rw [← h, List.getElem?_take] at hv
  split at hv
  · rw [List.getElem?_drop] at hv; exact hv
  · cases hv
end Go.Proofs.Ytfiojlmccflplaa.D
