/-
  A walk's rules: operations that yield the same in every world. No condition.
-/
import Derived.Test.YtfiojlmccflplaaDG
namespace Go.Proofs.Ytfiojlmccflplaa.D
open Go Go.RowKit
set_option linter.unusedVariables false
set_option linter.unusedSimpArgs false
section
variable {P : Program} {ρ : Operand → Value} {d : Option Tmp} {ty : TypeId} {pos : String} {af : Array Edge} {g : Option (Nat × Bool)}
theorem v_indexS {t : TypeId} {x i : Operand} {l : List UInt8} {k : IntKind} {n : Int} (ht : P.underlying t = some .string) (hx : ρ x = S l) (hi : ρ i = .int k n) (h0 : 0 ≤ n) (h1 : n < l.length) :
    QV P ρ ⟨d, .index t x i, ty, pos, af, g⟩ (.int .u8 (bt l n.toNat)) :=
  fun w => by
    have hlt : n.toNat < l.length := by omega
    simp only [execOp, hx, hi, Sem.run_bind, run_index_string w t (str l) k n ht]
    rw [dif_pos ⟨h0, by rw [str_size]; exact h1⟩]
    simp only [Result.andThen_ok, Sem.run_pure, bt]
    have : (str l)[n.toNat]'(by rw [str_size]; exact hlt) = l.getD n.toNat 0 := by
      simp only [List.getD_eq_getElem?_getD, List.getElem?_eq_getElem hlt, Option.getD_some]; rfl
    rw [this]
theorem v_sliceS {t : TypeId} {x lo hi : Operand} {l : List UInt8} {k k' : IntKind} {a b : Int} (ht : P.underlying t = some .string) (hx : ρ x = S l) (ha : ρ lo = .int k a) (hb : ρ hi = .int k' b)
    (h0 : 0 ≤ a) (h1 : a ≤ b) (h2 : b ≤ l.length) : QV P ρ ⟨d, .slice t x (some lo) (some hi) none, ty, pos, af, g⟩ (S ((l.take b.toNat).drop a.toNat)) :=
  fun w => by
    simp [execOp, Instr.sliceAt, run_underlying ht, hx, ha, hb, Instr.slice, Instr.sliceBounds,
      run_sliceBound' k' b (str l).size _ w (by omega) (by rw [str_size]; omega), run_sliceBound' k a b.toNat _ w h0 (by omega), str_extract]
theorem v_sliceS_hi {t : TypeId} {x hi : Operand} {l : List UInt8} {k' : IntKind} {b : Int} (ht : P.underlying t = some .string) (hx : ρ x = S l) (hb : ρ hi = .int k' b)
    (h0 : 0 ≤ b) (h2 : b ≤ l.length) : QV P ρ ⟨d, .slice t x none (some hi) none, ty, pos, af, g⟩ (S (l.take b.toNat)) :=
  fun w => by
    simp [execOp, Instr.sliceAt, run_underlying ht, hx, hb, Instr.slice, Instr.sliceBounds,
      run_sliceBound' k' b (str l).size _ w h0 (by rw [str_size]; omega), str_extract]
theorem v_sliceS_lo {t : TypeId} {x lo : Operand} {l : List UInt8} {k : IntKind} {a : Int} (ht : P.underlying t = some .string) (hx : ρ x = S l) (ha : ρ lo = .int k a)
    (h0 : 0 ≤ a) (h1 : a ≤ l.length) : QV P ρ ⟨d, .slice t x (some lo) none none, ty, pos, af, g⟩ (S (l.drop a.toNat)) :=
  fun w => by
    have : l.take (str l).size = l := by rw [str_size]; exact List.take_length
    simp [execOp, Instr.sliceAt, run_underlying ht, hx, ha, Instr.slice, Instr.sliceBounds,
      run_sliceBound' k a (str l).size _ w h0 (by rw [str_size]; omega), str_extract, this]
theorem v_lenS {t : TypeId} {x : Operand} {l : List UInt8} (ht : P.underlying t = some .string) (hx : ρ x = S l) :
    QV P ρ ⟨d, .call { callee := .builtin .len, args := #[x], argTypes := #[t] }, ty, pos, af, g⟩ (.int .i64 l.length) :=
  fun w => by simp [execOp, resolve, invoke, builtin, hx, Builtin.len_, run_underlying ht, goInt, str_size]
theorem v_nilCheck {x : Operand} {a : Addr} (hx : ρ x = .pointer (some a)) : QV P ρ ⟨d, .nilCheck x, ty, pos, af, g⟩ (.pointer (some a)) :=
  fun w => by simp [execOp, hx]
theorem v_fieldAddr {t : TypeId} {fs : Array Field} {f : Field} {m sz : Nat} {x : Operand} {b o : Nat} (ht : P.underlying t = some (.struct fs)) (hf : fs[m]? = some f) (hs : sizeT P f.type = some (sz + 1))
    (hx : ρ x = .pointer (some ⟨b, o, none⟩)) : QV P ρ ⟨d, .fieldAddr t x m, ty, pos, af, g⟩ (.pointer (some ⟨b, o + f.offset, none⟩)) :=
  fun w => by simp [execOp, Instr.fieldAt, hx, run_underlying ht, hf, Instr.sureAddr, fieldPlace, run_sizeT hs, Addr.add0]
theorem v_extract {x : Operand} {vs : Array Value} {m : Nat} {v : Value} (hx : ρ x = .tuple vs) (hv : vs[m]? = some v) : QV P ρ ⟨d, .extract x m, ty, pos, af, g⟩ v :=
  fun w => by simp [execOp, Instr.extract, hx, hv]
theorem v_func {fn : Fn} {fs cs : List Operand} {fv cv : List Value} (h1 : fs.map ρ = fv) (h2 : cs.map ρ = cv) : QV P ρ ⟨d, .makeFunc fn fs.toArray cs.toArray, ty, pos, af, g⟩ (.func fn fv.toArray cv.toArray) :=
  fun w => by subst h1; subst h2; simp [execOp, Instr.makeFunc]
theorem v_build {t : TypeId} {ps : List (Nat × Operand)} {vs : List (Nat × Value)} {cells : Array Value} (hp : (ps.map fun p => (p.1, ρ p.2)) = vs) (h : P.built t vs = some cells) : QV P ρ ⟨d, .build t ps.toArray, ty, pos, af, g⟩ (.agg cells) :=
  fun w => by
    have h2 : P.built t (ps.toArray.map fun (p : Nat × Operand) => (p.1, ρ p.2)).toList = some cells := by simpa [hp] using h
    have := run_build (P := P) w t (ps.toArray.map fun (p : Nat × Operand) => (p.1, ρ p.2)) cells h2
    simp only [execOp, Sem.run_bind]
    rw [show (ps.toArray.map fun (x : Nat × Operand) => match x with | (i, x) => (i, ρ x)) = (ps.toArray.map fun (p : Nat × Operand) => (p.1, ρ p.2)) from rfl]
    rw [this]; rfl
theorem v_eql {xt yt : TypeId} {x y : Operand} {k : IntKind} {a b : Int} (hx : ρ x = .int k a) (hy : ρ y = .int k b) : QV P ρ ⟨d, .binOp .eql xt x y yt, ty, pos, af, g⟩ (.bool (decide (a = b))) := v_int hx hy fun w => by simp [binOp, Op.intCmp]; rfl
theorem v_neq {xt yt : TypeId} {x y : Operand} {k : IntKind} {a b : Int} (hx : ρ x = .int k a) (hy : ρ y = .int k b) : QV P ρ ⟨d, .binOp .neq xt x y yt, ty, pos, af, g⟩ (.bool (decide (a ≠ b))) := v_int hx hy fun w => by simp [binOp, Op.intCmp, bne]; rfl
theorem v_lss {xt yt : TypeId} {x y : Operand} {k : IntKind} {a b : Int} (hx : ρ x = .int k a) (hy : ρ y = .int k b) : QV P ρ ⟨d, .binOp .lss xt x y yt, ty, pos, af, g⟩ (.bool (decide (a < b))) := v_int hx hy fun w => by simp [binOp, Op.intCmp]
theorem v_geq {xt yt : TypeId} {x y : Operand} {k : IntKind} {a b : Int} (hx : ρ x = .int k a) (hy : ρ y = .int k b) : QV P ρ ⟨d, .binOp .geq xt x y yt, ty, pos, af, g⟩ (.bool (decide (b ≤ a))) := v_int hx hy fun w => by simp [binOp, Op.intCmp]
end
end Go.Proofs.Ytfiojlmccflplaa.D
