/-
  A walk's rules: operations on whole numbers. No condition.
-/
import Derived.Test.YtfiojlmccflplaaD0
import Derived.Lib.ConvBytes
namespace Go.Proofs.Ytfiojlmccflplaa.D
open Go Go.RowKit
set_option linter.unusedVariables false
set_option linter.unusedSimpArgs false
section
variable {P : Program} {w0 : World} {ρ : Operand → Value} {H : Hp} {d : Option Tmp} {ty : TypeId} {pos : String} {af : Array Edge} {g : Option (Nat × Bool)}

theorem QS.of_run {o : Oper} {v : Value} (h : ∀ w, Own w0 H w → (execOp ρ o).run P w = .ok (.value v) w) : QS P w0 ρ o H v :=
  fun w ho => by rw [h w ho]; exact ⟨H, ho, rfl, rfl⟩
theorem OpR.of_run {o : Oper} {R : Value → Hp → Prop} (h : ∀ w, Own w0 H w → ∃ v w' H', (execOp ρ o).run P w = .ok (.value v) w' ∧ Own w0 H' w' ∧ R v H') : OpR P w0 ρ o H R :=
  fun w ho => by obtain ⟨v, w', H', h1, h2, h3⟩ := h w ho; rw [h1]; exact ⟨H', h2, h3⟩

theorem q_move {x : Operand} {v : Value} (hx : ρ x = v) : QS P w0 ρ ⟨d, .move x, ty, pos, af, g⟩ H v := QS.of_run fun w _ => by subst hx; rfl
theorem q_assign {x : Operand} {v : Value} (hx : ρ x = v) : QS P w0 ρ ⟨d, .assign x, ty, pos, af, g⟩ H v := QS.of_run fun w _ => by subst hx; rfl
theorem q_pickT {c a b : Operand} {v : Value} (hc : ρ c = .bool true) (hv : ρ a = v) : QS P w0 ρ ⟨d, .pick c a b, ty, pos, af, g⟩ H v :=
  QS.of_run fun w _ => by subst hv; simp [execOp, hc, asBool]
theorem q_pickF {c a b : Operand} {v : Value} (hc : ρ c = .bool false) (hv : ρ b = v) : QS P w0 ρ ⟨d, .pick c a b, ty, pos, af, g⟩ H v :=
  QS.of_run fun w _ => by subst hv; simp [execOp, hc, asBool]

section ints
variable {xt yt : TypeId} {x y : Operand} {k k' : IntKind} {a b : Int}
theorem eqGuard_int (op : BinOp) (w : World) : (eqGuard op xt x y (.int k a) (.int k' b)).run P w = .ok () w := by
  unfold eqGuard; split <;> rfl
theorem q_int {op : BinOp} {v : Value} (hx : ρ x = .int k a) (hy : ρ y = .int k' b) (hv : ∀ w, (binOp op xt (.int k a) (.int k' b)).run P w = .ok v w) :
    QS P w0 ρ ⟨d, .binOp op xt x y yt, ty, pos, af, g⟩ H v :=
  QS.of_run fun w _ => by simp only [execOp, hx, hy, Sem.run_bind, eqGuard_int, Result.andThen_ok, hv, Sem.run_pure]
theorem q_add (hx : ρ x = .int k a) (hy : ρ y = .int k b) : QS P w0 ρ ⟨d, .binOp .add xt x y yt, ty, pos, af, g⟩ H (.int k (k.wrap (a + b))) :=
  q_int hx hy fun w => by simp [binOp, Op.intArith]
theorem q_sub (hx : ρ x = .int k a) (hy : ρ y = .int k b) : QS P w0 ρ ⟨d, .binOp .sub xt x y yt, ty, pos, af, g⟩ H (.int k (k.wrap (a - b))) :=
  q_int hx hy fun w => by simp [binOp, Op.intArith]
theorem q_mul (hx : ρ x = .int k a) (hy : ρ y = .int k b) : QS P w0 ρ ⟨d, .binOp .mul xt x y yt, ty, pos, af, g⟩ H (.int k (k.wrap (a * b))) :=
  q_int hx hy fun w => by simp [binOp, Op.intArith]
theorem q_addI {a b : Int} (hx : ρ x = .int .i64 a) (hy : ρ y = .int .i64 b) (h : -9223372036854775808 ≤ a + b ∧ a + b ≤ 9223372036854775807) : QS P w0 ρ ⟨d, .binOp .add xt x y yt, ty, pos, af, g⟩ H (.int .i64 (a + b)) := by
  have := q_add (P := P) (w0 := w0) (H := H) (d := d) (ty := ty) (pos := pos) (af := af) (g := g) (xt := xt) (yt := yt) hx hy
  rwa [IntWalk.i64_in _ h] at this
theorem q_subI {a b : Int} (hx : ρ x = .int .i64 a) (hy : ρ y = .int .i64 b) (h : -9223372036854775808 ≤ a - b ∧ a - b ≤ 9223372036854775807) : QS P w0 ρ ⟨d, .binOp .sub xt x y yt, ty, pos, af, g⟩ H (.int .i64 (a - b)) := by
  have := q_sub (P := P) (w0 := w0) (H := H) (d := d) (ty := ty) (pos := pos) (af := af) (g := g) (xt := xt) (yt := yt) hx hy
  rwa [IntWalk.i64_in _ h] at this
theorem q_mulI {a b : Int} (hx : ρ x = .int .i64 a) (hy : ρ y = .int .i64 b) (h : -9223372036854775808 ≤ a * b ∧ a * b ≤ 9223372036854775807) : QS P w0 ρ ⟨d, .binOp .mul xt x y yt, ty, pos, af, g⟩ H (.int .i64 (a * b)) := by
  have := q_mul (P := P) (w0 := w0) (H := H) (d := d) (ty := ty) (pos := pos) (af := af) (g := g) (xt := xt) (yt := yt) hx hy
  rwa [IntWalk.i64_in _ h] at this
/-- Division and rest of what is not below nought. -/
theorem q_quoI {a b : Int} (hx : ρ x = .int .i64 a) (hy : ρ y = .int .i64 b) (h : 0 ≤ a ∧ a ≤ 9223372036854775807 ∧ 1 ≤ b) : QS P w0 ρ ⟨d, .binOp .quo xt x y yt, ty, pos, af, g⟩ H (.int .i64 (a / b)) :=
  q_int hx hy fun w => by
    have hb : b ≠ 0 := by omega
    simp [binOp, Op.intDiv, hb, IntWalk.i64_quo a b h]
theorem q_remI {a b : Int} (hx : ρ x = .int .i64 a) (hy : ρ y = .int .i64 b) (h : 0 ≤ a ∧ 1 ≤ b) : QS P w0 ρ ⟨d, .binOp .rem xt x y yt, ty, pos, af, g⟩ H (.int .i64 (a % b)) :=
  q_int hx hy fun w => by
    have hb : b ≠ 0 := by omega
    simp [binOp, Op.intDiv, hb, IntWalk.rem_in a b h.1]
def iand (k : IntKind) (a b : Int) : Int := k.wrap ((BitVec.ofInt k.bits a &&& BitVec.ofInt k.bits b).toNat : Int)
def ior (k : IntKind) (a b : Int) : Int := k.wrap ((BitVec.ofInt k.bits a ||| BitVec.ofInt k.bits b).toNat : Int)
def ixor (k : IntKind) (a b : Int) : Int := k.wrap ((BitVec.ofInt k.bits a ^^^ BitVec.ofInt k.bits b).toNat : Int)
theorem q_and (hx : ρ x = .int k a) (hy : ρ y = .int k b) : QS P w0 ρ ⟨d, .binOp .and xt x y yt, ty, pos, af, g⟩ H (.int k (iand k a b)) :=
  q_int hx hy fun w => by simp [binOp, Op.intBits, iand]
theorem q_or (hx : ρ x = .int k a) (hy : ρ y = .int k b) : QS P w0 ρ ⟨d, .binOp .or xt x y yt, ty, pos, af, g⟩ H (.int k (ior k a b)) :=
  q_int hx hy fun w => by simp [binOp, Op.intBits, ior]
theorem q_xor (hx : ρ x = .int k a) (hy : ρ y = .int k b) : QS P w0 ρ ⟨d, .binOp .xor xt x y yt, ty, pos, af, g⟩ H (.int k (ixor k a b)) :=
  q_int hx hy fun w => by simp [binOp, Op.intBits, ixor]
theorem q_shl (hx : ρ x = .int k a) (hy : ρ y = .int k' b) (hb : 0 ≤ b) : QS P w0 ρ ⟨d, .binOp .shl xt x y yt, ty, pos, af, g⟩ H (.int k (k.wrap (a * 2 ^ min b.toNat k.bits))) :=
  q_int hx hy fun w => by simp [binOp, Op.shift, Int.not_lt.2 hb]
theorem q_shr (hx : ρ x = .int k a) (hy : ρ y = .int k' b) (hb : 0 ≤ b) : QS P w0 ρ ⟨d, .binOp .shr xt x y yt, ty, pos, af, g⟩ H (.int k (a / 2 ^ min b.toNat k.bits)) :=
  q_int hx hy fun w => by
    simp only [binOp, Op.shift, if_neg (Int.not_lt.2 hb)]
    rw [Int.fdiv_eq_ediv_of_nonneg _ (Int.le_of_lt (Int.pow_pos (by decide)))]; rfl
theorem q_quo (hx : ρ x = .int k a) (hy : ρ y = .int k b) (hb : b ≠ 0) : QS P w0 ρ ⟨d, .binOp .quo xt x y yt, ty, pos, af, g⟩ H (.int k (k.wrap (a.tdiv b))) :=
  q_int hx hy fun w => by simp [binOp, Op.intDiv, hb]
theorem q_rem (hx : ρ x = .int k a) (hy : ρ y = .int k b) (hb : b ≠ 0) : QS P w0 ρ ⟨d, .binOp .rem xt x y yt, ty, pos, af, g⟩ H (.int k (a.tmod b)) :=
  q_int hx hy fun w => by simp [binOp, Op.intDiv, hb]
theorem q_eql (hx : ρ x = .int k a) (hy : ρ y = .int k b) : QS P w0 ρ ⟨d, .binOp .eql xt x y yt, ty, pos, af, g⟩ H (.bool (decide (a = b))) :=
  q_int hx hy fun w => by simp [binOp, Op.intCmp]; rfl
theorem q_neq (hx : ρ x = .int k a) (hy : ρ y = .int k b) : QS P w0 ρ ⟨d, .binOp .neq xt x y yt, ty, pos, af, g⟩ H (.bool (decide (a ≠ b))) :=
  q_int hx hy fun w => by simp [binOp, Op.intCmp, bne]; rfl
theorem q_lss (hx : ρ x = .int k a) (hy : ρ y = .int k b) : QS P w0 ρ ⟨d, .binOp .lss xt x y yt, ty, pos, af, g⟩ H (.bool (decide (a < b))) :=
  q_int hx hy fun w => by simp [binOp, Op.intCmp]
theorem q_leq (hx : ρ x = .int k a) (hy : ρ y = .int k b) : QS P w0 ρ ⟨d, .binOp .leq xt x y yt, ty, pos, af, g⟩ H (.bool (decide (a ≤ b))) :=
  q_int hx hy fun w => by simp [binOp, Op.intCmp]
theorem q_gtr (hx : ρ x = .int k a) (hy : ρ y = .int k b) : QS P w0 ρ ⟨d, .binOp .gtr xt x y yt, ty, pos, af, g⟩ H (.bool (decide (b < a))) :=
  q_int hx hy fun w => by simp [binOp, Op.intCmp]
theorem q_geq (hx : ρ x = .int k a) (hy : ρ y = .int k b) : QS P w0 ρ ⟨d, .binOp .geq xt x y yt, ty, pos, af, g⟩ H (.bool (decide (b ≤ a))) :=
  q_int hx hy fun w => by simp [binOp, Op.intCmp]
end ints
end
end Go.Proofs.Ytfiojlmccflplaa.D
