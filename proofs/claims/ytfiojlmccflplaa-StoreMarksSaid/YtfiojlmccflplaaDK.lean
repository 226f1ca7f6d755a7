/-
  A walk's rules: structs of a number and a text held against each other. No condition.
-/
import Derived.Test.YtfiojlmccflplaaDU
import Derived.Test.YtfiojlmccflplaaProg
import Derived.Laws.StructEq
namespace Go.Proofs.Ytfiojlmccflplaa.D
open Go Go.RowKit
set_option linter.unusedVariables false
set_option linter.unusedSimpArgs false
section
variable {P : Program} {w0 : World} {ρ : Operand → Value} {d : Option Tmp} {ty : TypeId} {pos : String} {af : Array Edge} {g : Option (Nat × Bool)} {H : Hp}
theorem str_beq (s t : List UInt8) : ((str s).toList == (str t).toList) = decide (s = t) := by
  have h : ∀ l : List UInt8, (str l).toList = l := fun l => by rw [ByteArray.toList_eq]; simp [str]
  rw [h, h]
  by_cases e : s = t
  · subst e; simp
  · simp [e]
theorem equal_rec {t : TypeId} {f1 f2 : Field} (hS : P.underlying t = some (.struct #[f1, f2])) (hp : P.stoodInHeld t = false) (n1 : (f1.name != "_") = true) (n2 : (f2.name != "_") = true) (o1 : f1.offset = 0) (o2 : f2.offset = 1)
    (s1 : scalT P f1.type = true) (s2 : scalT P f2.type = true) (u1 : P.underlying f1.type = some (.int .i64)) (u2 : P.underlying f2.type = some .string) (a b : Int) (s r : List UInt8) (w : World) :
    (Op.equalIn 10000 t (.agg #[.int .i64 a, S s]) (.agg #[.int .i64 b, S r])).run P w = .ok (decide (a = b) && decide (s = r)) w := by
  have hF : P.fieldsOf t = #[f1, f2] := by unfold Program.fieldsOf; rw [hS]
  rw [show (10000 : Nat) = 9999 + 1 from rfl, run_equalIn_agg w 9999 t _ _ (by rw [hF]; exact hS) hp, hF]
  have h1 : f1.name ≠ "_" := by simpa using n1
  have h2 : f2.name ≠ "_" := by simpa using n2
  have p1 : ∀ (x : Int) (z : List UInt8), (part f1.type #[.int .i64 x, S z] f1.offset).run P w = .ok (.int .i64 x) w := fun x z => by simp [part, run_isAgg_scal s1, o1]
  have p2 : ∀ (x : Int) (z : List UInt8), (part f2.type #[.int .i64 x, S z] f2.offset).run P w = .ok (S z) w := fun x z => by simp [part, run_isAgg_scal s2, o2]
  have e1 : (Op.equalIn 9999 f1.type (.int .i64 a) (.int .i64 b)).run P w = .ok (a == b) w := run_equalIn_int (P := P) w 9998 f1.type .i64 .i64 a b u1
  have e2 : (Op.equalIn 9999 f2.type (S s) (S r)).run P w = .ok (decide (s = r)) w := by
    have := run_equalIn_string (P := P) w 9998 f2.type (str s) (str r) u2
    rw [str_beq] at this
    exact this
  simp only [Op.eqFields, h1, h2, ne_eq, not_false_eq_true, if_true, Sem.run_bind, p1, p2, Result.andThen_ok, e1, e2]
  by_cases hab : a = b
  · subst hab
    by_cases hsr : s = r
    · subst hsr; simp [p2, e2]
    · simp [p2, e2, hsr]
  · have : (a == b) = false := by simpa using hab
    simp [this, hab]
theorem q_neqRec {xt yt : TypeId} {x y : Operand} {f1 f2 : Field} {a b : Int} {s r : List UInt8} (hS : P.underlying xt = some (.struct #[f1, f2])) (hp : P.stoodInHeld xt = false) (n1 : (f1.name != "_") = true) (n2 : (f2.name != "_") = true) (o1 : f1.offset = 0) (o2 : f2.offset = 1)
    (s1 : scalT P f1.type = true) (s2 : scalT P f2.type = true) (u1 : P.underlying f1.type = some (.int .i64)) (u2 : P.underlying f2.type = some .string) (hm : P.eqGuardType P.depth xt = false)
    (hx : ρ x = .agg #[.int .i64 a, S s]) (hy : ρ y = .agg #[.int .i64 b, S r]) : QS P w0 ρ ⟨d, .binOp .neq xt x y yt, ty, pos, af, g⟩ H (.bool (!(decide (a = b) && decide (s = r)))) :=
  QS.of_run fun w _ => by
    simp only [execOp, hx, hy, Sem.run_bind, run_eqGuard_agg w .neq xt x y _ _ hm, Result.andThen_ok, run_neq_struct, equal_rec hS hp n1 n2 o1 o2 s1 s2 u1 u2, Sem.run_pure]
end
theorem q_neqRecord {w0 : World} {ρ : Operand → Value} {d : Option Tmp} {ty yt : TypeId} {pos : String} {af : Array Edge} {g : Option (Nat × Bool)} {H : Hp} {x y : Operand} {a b : Int} {s r : List UInt8} (hx : ρ x = .agg #[.int .i64 a, S s]) (hy : ρ y = .agg #[.int .i64 b, S r]) :
    QS Try.prog w0 ρ ⟨d, .binOp .neq 44 x y yt, ty, pos, af, g⟩ H (.bool (!(decide (a = b) && decide (s = r)))) :=
  q_neqRec Try.underlying44 (by kernel_rfl) (by rfl) (by rfl) rfl rfl (by kernel_rfl) (by kernel_rfl) Try.underlying3 Try.underlying9 (by kernel_rfl) hx hy
end Go.Proofs.Ytfiojlmccflplaa.D
