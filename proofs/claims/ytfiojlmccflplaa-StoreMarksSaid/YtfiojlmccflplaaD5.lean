/-
  A walk's rules: strings as lists of bytes, calls, contracts. No condition.
-/
import Derived.Test.YtfiojlmccflplaaD4
import Derived.WalkSpells
import Derived.WalkLawsBesides
namespace Go.Proofs.Ytfiojlmccflplaa.D
open Go Go.RowKit
set_option linter.unusedVariables false
set_option linter.unusedSimpArgs false

/-! ### strings as lists of bytes -/
def str (l : List UInt8) : ByteArray := ⟨⟨l⟩⟩
abbrev S (l : List UInt8) : Value := .string (str l)
theorem str_size (l : List UInt8) : (str l).size = l.length := rfl
theorem str_of (s : ByteArray) : str s.data.toList = s := rfl
theorem str_inj {a b : List UInt8} : str a = str b ↔ a = b := ⟨fun h => by injection h with h; injection h, fun h => h ▸ rfl⟩
theorem str_append (a b : List UInt8) : str a ++ str b = str (a ++ b) := by
  apply ByteArray.ext
  simp [str, ByteArray.data_append]
theorem str_extract (l : List UInt8) (a b : Nat) : (str l).extract a b = str ((l.take b).drop a) := by
  apply ByteArray.ext
  simp [str, ByteArray.data_extract]
  rw [List.drop_take]
theorem str_toList (l : List UInt8) : (str l).toList = l := by
  rw [ByteArray.toList_eq]; rfl
theorem beq_dec (a b : List UInt8) : (a == b) = decide (a = b) := by
  by_cases h : a = b <;> simp [h]
/-- A byte as the number that Go reads. -/
def bt (l : List UInt8) (i : Nat) : Int := ((l.getD i 0).toNat : Int)
theorem bt_range (l : List UInt8) (i : Nat) : 0 ≤ bt l i ∧ bt l i ≤ 255 := by
  unfold bt
  have := (l.getD i 0).toNat_lt
  omega

section
variable {P : Program} {w0 : World} {ρ : Operand → Value} {H : Hp} {d : Option Tmp} {ty : TypeId} {pos : String} {af : Array Edge} {g : Option (Nat × Bool)}

theorem eqGuard_str (op : BinOp) (t : TypeId) (x y : Operand) (a b : ByteArray) (w : World) : (eqGuard op t x y (.string a) (.string b)).run P w = .ok () w := by
  unfold eqGuard; split <;> rfl
theorem q_str {op : BinOp} {xt yt : TypeId} {x y : Operand} {a b : List UInt8} {v : Value} (hx : ρ x = S a) (hy : ρ y = S b) (hv : ∀ w, (Op.stringOp op (str a) (str b)).run P w = .ok v w) (ho : op ≠ .shl ∧ op ≠ .shr) :
    QS P w0 ρ ⟨d, .binOp op xt x y yt, ty, pos, af, g⟩ H v :=
  QS.of_run fun w _ => by
    have : binOp op xt (S a) (S b) = Op.stringOp op (str a) (str b) := by cases op <;> rfl
    simp only [execOp, hx, hy, Sem.run_bind, eqGuard_str, Result.andThen_ok, this, hv, Sem.run_pure]
theorem q_cat {xt yt : TypeId} {x y : Operand} {a b : List UInt8} (hx : ρ x = S a) (hy : ρ y = S b) (hl : a.length + b.length ≤ 9223372036854775807) :
    QS P w0 ρ ⟨d, .binOp .add xt x y yt, ty, pos, af, g⟩ H (S (a ++ b)) :=
  q_str hx hy (fun w => by
    have : ¬ (((str a).size + (str b).size : Nat) : Int) > IntKind.i64.max := by
      rw [str_size, str_size]; simp only [IntKind.max, IntKind.signed, IntKind.bits, if_true]; omega
    simp only [Op.stringOp, if_neg this, Sem.run_pure, str_append]) ⟨by simp, by simp⟩
theorem q_eqS {xt yt : TypeId} {x y : Operand} {a b : List UInt8} (hx : ρ x = S a) (hy : ρ y = S b) :
    QS P w0 ρ ⟨d, .binOp .eql xt x y yt, ty, pos, af, g⟩ H (.bool (decide (a = b))) :=
  q_str hx hy (fun w => by simp only [Op.stringOp, Sem.run_pure, str_toList, beq_dec]) ⟨by simp, by simp⟩
theorem q_neS {xt yt : TypeId} {x y : Operand} {a b : List UInt8} (hx : ρ x = S a) (hy : ρ y = S b) :
    QS P w0 ρ ⟨d, .binOp .neq xt x y yt, ty, pos, af, g⟩ H (.bool (decide (a ≠ b))) :=
  q_str hx hy (fun w => by simp only [Op.stringOp, Sem.run_pure, str_toList, decide_not, beq_dec]) ⟨by simp, by simp⟩

theorem q_indexS {t : TypeId} {x i : Operand} {l : List UInt8} {k : IntKind} {n : Int} (ht : P.underlying t = some .string) (hx : ρ x = S l) (hi : ρ i = .int k n) (h0 : 0 ≤ n) (h1 : n < l.length) :
    QS P w0 ρ ⟨d, .index t x i, ty, pos, af, g⟩ H (.int .u8 (bt l n.toNat)) :=
  QS.of_run fun w _ => by
    have hlt : n.toNat < l.length := by omega
    simp only [execOp, hx, hi, Sem.run_bind, run_index_string w t (str l) k n ht]
    rw [dif_pos ⟨h0, by rw [str_size]; exact h1⟩]
    simp only [Result.andThen_ok, Sem.run_pure, bt]
    have : (str l)[n.toNat]'(by rw [str_size]; exact hlt) = l.getD n.toNat 0 := by
      simp only [List.getD_eq_getElem?_getD, List.getElem?_eq_getElem hlt, Option.getD_some]; rfl
    rw [this]
theorem run_sliceBound' (k : IntKind) (i : Int) (y : Nat) (code : BoundsCode) (w : World) (h0 : 0 ≤ i) (h1 : i ≤ y) : (Instr.sliceBound (.int k i) y code).run P w = .ok i.toNat w := by
  simp [Instr.sliceBound, asIntOf, h0, h1]
theorem q_sliceS {t : TypeId} {x lo hi : Operand} {l : List UInt8} {k k' : IntKind} {a b : Int} (ht : P.underlying t = some .string) (hx : ρ x = S l) (ha : ρ lo = .int k a) (hb : ρ hi = .int k' b)
    (h0 : 0 ≤ a) (h1 : a ≤ b) (h2 : b ≤ l.length) : QS P w0 ρ ⟨d, .slice t x (some lo) (some hi) none, ty, pos, af, g⟩ H (S ((l.take b.toNat).drop a.toNat)) :=
  QS.of_run fun w _ => by
    simp [execOp, Instr.sliceAt, run_underlying ht, hx, ha, hb, Instr.slice, Instr.sliceBounds,
      run_sliceBound' k' b (str l).size _ w (by omega) (by rw [str_size]; omega), run_sliceBound' k a b.toNat _ w h0 (by omega), str_extract]
theorem q_sliceS_hi {t : TypeId} {x hi : Operand} {l : List UInt8} {k' : IntKind} {b : Int} (ht : P.underlying t = some .string) (hx : ρ x = S l) (hb : ρ hi = .int k' b)
    (h0 : 0 ≤ b) (h2 : b ≤ l.length) : QS P w0 ρ ⟨d, .slice t x none (some hi) none, ty, pos, af, g⟩ H (S (l.take b.toNat)) :=
  QS.of_run fun w _ => by
    simp [execOp, Instr.sliceAt, run_underlying ht, hx, hb, Instr.slice, Instr.sliceBounds,
      run_sliceBound' k' b (str l).size _ w h0 (by rw [str_size]; omega), str_extract]
theorem q_sliceS_lo {t : TypeId} {x lo : Operand} {l : List UInt8} {k : IntKind} {a : Int} (ht : P.underlying t = some .string) (hx : ρ x = S l) (ha : ρ lo = .int k a)
    (h0 : 0 ≤ a) (h1 : a ≤ l.length) : QS P w0 ρ ⟨d, .slice t x (some lo) none none, ty, pos, af, g⟩ H (S (l.drop a.toNat)) :=
  QS.of_run fun w _ => by
    have : l.take (str l).size = l := by rw [str_size]; exact List.take_length
    simp [execOp, Instr.sliceAt, run_underlying ht, hx, ha, Instr.slice, Instr.sliceBounds,
      run_sliceBound' k a (str l).size _ w h0 (by rw [str_size]; omega), str_extract, this]

/-! ### builtins that read no memory -/
theorem q_lenS {t : TypeId} {x : Operand} {l : List UInt8} (ht : P.underlying t = some .string) (hx : ρ x = S l) :
    QS P w0 ρ ⟨d, .call { callee := .builtin .len, args := #[x], argTypes := #[t] }, ty, pos, af, g⟩ H (.int .i64 l.length) :=
  QS.of_run fun w _ => by simp [execOp, resolve, invoke, builtin, hx, Builtin.len_, run_underlying ht, goInt, str_size]
theorem q_lenV {t e : TypeId} {x : Operand} {a : Option Addr} {n c : Nat} (ht : P.underlying t = some (.slice e)) (hx : ρ x = .slice a n c) :
    QS P w0 ρ ⟨d, .call { callee := .builtin .len, args := #[x], argTypes := #[t] }, ty, pos, af, g⟩ H (.int .i64 n) :=
  QS.of_run fun w _ => by simp [execOp, resolve, invoke, builtin, hx, Builtin.len_, run_underlying ht, goInt]

/-! ### conversions, addresses, parts -/
theorem q_convInt {s t : TypeId} {x : Operand} {k k' : IntKind} {n : Int} (hs : (P.underlying s).isSome = true) (ht : P.underlying t = some (.int k')) (hx : ρ x = .int k n) :
    QS P w0 ρ ⟨d, .convert s t x, ty, pos, af, g⟩ H (.int k' (k'.wrap n)) :=
  QS.of_run fun w _ => by
    obtain ⟨u, hu⟩ := Option.isSome_iff_exists.1 hs
    have : (convert s t (.int k n)).run P w = .ok (.int k' (k'.wrap n)) w := by
      unfold convert
      simp only [Sem.run_bind, run_underlying hu, run_underlying ht, Result.andThen_ok]
      cases u <;> rfl
    simp [execOp, hx, this]
theorem q_nilCheck {x : Operand} {a : Addr} (hx : ρ x = .pointer (some a)) : QS P w0 ρ ⟨d, .nilCheck x, ty, pos, af, g⟩ H (.pointer (some a)) :=
  QS.of_run fun w _ => by simp [execOp, hx]
theorem q_indexAddrA {t e : TypeId} {m sz : Nat} {x i : Operand} {b o : Nat} {k : IntKind} {n : Int} (ht : P.underlying t = some (.array m e)) (hs : sizeT P e = some sz)
    (hx : ρ x = .pointer (some ⟨b, o, none⟩)) (hi : ρ i = .int k n) (h0 : 0 ≤ n) (h1 : n < m) : QS P w0 ρ ⟨d, .indexAddr t x i, ty, pos, af, g⟩ H (.pointer (some ⟨b, o + n.toNat * sz, none⟩)) :=
  QS.of_run fun w _ => by simp [execOp, Instr.indexAt, asIntOf, Instr.sureAddr, hx, hi, run_underlying ht, h0, h1, run_sizeT hs, Addr.add0]
theorem q_indexAddrV {t e : TypeId} {m c sz : Nat} {x i : Operand} {b o : Nat} {k : IntKind} {n : Int} (ht : P.underlying t = some (.slice e)) (hs : sizeT P e = some sz)
    (hx : ρ x = .slice (some ⟨b, o, none⟩) m c) (hi : ρ i = .int k n) (h0 : 0 ≤ n) (h1 : n < m) : QS P w0 ρ ⟨d, .indexAddr t x i, ty, pos, af, g⟩ H (.pointer (some ⟨b, o + n.toNat * sz, none⟩)) :=
  QS.of_run fun w _ => by simp [execOp, Instr.indexAt, asIntOf, hx, hi, run_underlying ht, h0, h1, run_sizeT hs, Addr.add0]
theorem q_indexAddrA0 {t e : TypeId} {m : Nat} {x i : Operand} {b : Nat} {k : IntKind} {n : Int} (ht : P.underlying t = some (.array m e)) (hs : sizeT P e = some 1)
    (hx : ρ x = .pointer (some ⟨b, 0, none⟩)) (hi : ρ i = .int k n) (h0 : 0 ≤ n) (h1 : n < m) : QS P w0 ρ ⟨d, .indexAddr t x i, ty, pos, af, g⟩ H (.pointer (some ⟨b, n.toNat, none⟩)) := by
  have := q_indexAddrA (P := P) (w0 := w0) (H := H) (d := d) (ty := ty) (pos := pos) (af := af) (g := g) ht hs hx hi h0 h1
  simpa using this
theorem q_indexAddrV0 {t e : TypeId} {m c : Nat} {x i : Operand} {b : Nat} {k : IntKind} {n : Int} (ht : P.underlying t = some (.slice e)) (hs : sizeT P e = some 1)
    (hx : ρ x = .slice (some ⟨b, 0, none⟩) m c) (hi : ρ i = .int k n) (h0 : 0 ≤ n) (h1 : n < m) : QS P w0 ρ ⟨d, .indexAddr t x i, ty, pos, af, g⟩ H (.pointer (some ⟨b, n.toNat, none⟩)) := by
  have := q_indexAddrV (P := P) (w0 := w0) (H := H) (d := d) (ty := ty) (pos := pos) (af := af) (g := g) ht hs hx hi h0 h1
  simpa using this
theorem q_fieldAddr {t : TypeId} {fs : Array Field} {f : Field} {m sz : Nat} {x : Operand} {b o : Nat} (ht : P.underlying t = some (.struct fs)) (hf : fs[m]? = some f) (hs : sizeT P f.type = some (sz + 1))
    (hx : ρ x = .pointer (some ⟨b, o, none⟩)) : QS P w0 ρ ⟨d, .fieldAddr t x m, ty, pos, af, g⟩ H (.pointer (some ⟨b, o + f.offset, none⟩)) :=
  QS.of_run fun w _ => by simp [execOp, Instr.fieldAt, hx, run_underlying ht, hf, Instr.sureAddr, fieldPlace, run_sizeT hs, Addr.add0]
theorem q_extract {x : Operand} {vs : Array Value} {m : Nat} {v : Value} (hx : ρ x = .tuple vs) (hv : vs[m]? = some v) : QS P w0 ρ ⟨d, .extract x m, ty, pos, af, g⟩ H v :=
  QS.of_run fun w _ => by simp [execOp, Instr.extract, hx, hv]
theorem q_field {t : TypeId} {fs : Array Field} {f : Field} {m : Nat} {x : Operand} {cs : Array Value} {v : Value} (ht : P.underlying t = some (.struct fs)) (hf : fs[m]? = some f) (hs : scalT P f.type = true)
    (hx : ρ x = .agg cs) (hv : cs[f.offset]? = some v) : QS P w0 ρ ⟨d, .field t x m, ty, pos, af, g⟩ H v :=
  QS.of_run fun w _ => by simp [execOp, Instr.field, run_underlying ht, hf, hx, asAgg, part, run_isAgg_scal hs, hv]
theorem q_indexA {t e : TypeId} {m : Nat} {x i : Operand} {cs : Array Value} {k : IntKind} {n : Int} {v : Value} (ht : P.underlying t = some (.array m e)) (hs : scalT P e = true) (hz : sizeT P e = some 1)
    (hx : ρ x = .agg cs) (hi : ρ i = .int k n) (h0 : 0 ≤ n) (h1 : n < m) (hv : cs[n.toNat]? = some v) : QS P w0 ρ ⟨d, .index t x i, ty, pos, af, g⟩ H v :=
  QS.of_run fun w _ => by simp [execOp, Instr.index, asIntOf, run_underlying ht, hx, hi, h0, h1, run_sizeT hz, part, run_isAgg_scal hs, hv]
theorem q_sliceArr {t e : TypeId} {m sz : Nat} {x lo hi : Operand} {b o : Nat} {k k' : IntKind} {a c : Int} (ht : P.underlying t = some (.array m e)) (hs : sizeT P e = some sz) (hx : ρ x = .pointer (some ⟨b, o, none⟩))
    (ha : ρ lo = .int k a) (hc : ρ hi = .int k' c) (h0 : 0 ≤ a) (h1 : a ≤ c) (h2 : c ≤ m) (h3 : a < m) :
    QS P w0 ρ ⟨d, .slice t x (some lo) (some hi) none, ty, pos, af, g⟩ H (.slice (some ⟨b, o + a.toNat * sz, none⟩) (c.toNat - a.toNat) (m - a.toNat)) :=
  QS.of_run fun w _ => by
    have : ¬ m = a.toNat := by omega
    simp [execOp, Instr.sliceAt, run_underlying ht, hx, ha, hc, Instr.sureAddr, Instr.sliceBounds, run_sizeT hs,
      run_sliceBound' k' c m _ w (by omega) h2, run_sliceBound' k a c.toNat _ w h0 (by omega), this, Addr.add0]
theorem q_sliceArr_all {t e : TypeId} {m sz : Nat} {x : Operand} {b o : Nat} (ht : P.underlying t = some (.array m e)) (hs : sizeT P e = some sz) (hx : ρ x = .pointer (some ⟨b, o, none⟩)) :
    QS P w0 ρ ⟨d, .slice t x none none none, ty, pos, af, g⟩ H (.slice (some ⟨b, o, none⟩) m m) :=
  QS.of_run fun w _ => by
    simp [execOp, Instr.sliceAt, run_underlying ht, hx, Instr.sureAddr, Instr.sliceBounds, run_sizeT hs, Addr.add0]
theorem q_sliceArr_hi {t e : TypeId} {m sz : Nat} {x hi : Operand} {b o : Nat} {k' : IntKind} {c : Int} (ht : P.underlying t = some (.array m e)) (hs : sizeT P e = some sz) (hx : ρ x = .pointer (some ⟨b, o, none⟩))
    (hc : ρ hi = .int k' c) (h1 : 0 ≤ c) (h2 : c ≤ m) :
    QS P w0 ρ ⟨d, .slice t x none (some hi) none, ty, pos, af, g⟩ H (.slice (some ⟨b, o, none⟩) c.toNat m) :=
  QS.of_run fun w _ => by
    simp [execOp, Instr.sliceAt, run_underlying ht, hx, hc, Instr.sureAddr, Instr.sliceBounds, run_sizeT hs,
      run_sliceBound' k' c m _ w (by omega) h2, Addr.add0]

/-! ### calls -/
def bodied (fn : Func) : Bool := fn.body.isSome && !(fn.name == "runtime.NumGoroutine")
theorem o_callV {f : FuncId} {fn : Func} {x : Operand} {xs : List Operand} {ats : Array TypeId} {first cap : Array Value} {args : List Value} {as_ : Array Value} {R : Value → Hp → Prop} (hf : P.funcs[f]? = some fn) (hb : bodied fn = true)
    (hx : ρ x = .func (.func f) first cap) (ha : xs.map ρ = args) (has : first ++ args.toArray ++ cap = as_) (h : Con P w0 f as_ H R) : OpR P w0 ρ ⟨d, .call { callee := .value x, args := xs.toArray, argTypes := ats }, ty, pos, af, g⟩ H R := by
  intro w ho
  have hb' : fn.body.isSome = true ∧ (fn.name == "runtime.NumGoroutine") = false := by simpa [bodied] using hb
  have : (execOp ρ ⟨d, .call { callee := .value x, args := xs.toArray, argTypes := ats }, ty, pos, af, g⟩).run P w = .ok (.enter f as_) w := by
    subst ha; subst has
    simp only [execOp, resolve, hx, Deferred.ofValue, Sem.run_bind, Sem.run_pure, Result.andThen_ok, invoke, callFunc, run_program, hf, hb'.2, List.map_toArray]
    cases hbd : fn.body with
    | none => rw [hbd] at hb'; simp at hb'
    | some c => simp
  rw [this]
  exact Calls.mono (h w ho) fun _ _ hh => hh
theorem o_call {f : FuncId} {fn : Func} {xs : List Operand} {ats : Array TypeId} {args : List Value} {R : Value → Hp → Prop} (hρ : ρ (.func f) = .func (.func f) #[] #[]) (hf : P.funcs[f]? = some fn) (hb : bodied fn = true)
    (ha : xs.map ρ = args) (h : Con P w0 f args.toArray H R) : OpR P w0 ρ ⟨d, .call { callee := .value (.func f), args := xs.toArray, argTypes := ats }, ty, pos, af, g⟩ H R :=
  o_callV hf hb hρ ha (by simp) h

/-! ### a function's contract -/
def initE (args : Array Value) : Env := fun t => args.getD t undef
/-- The values of the results: a slot's, or what lies in a block. -/
def ResL (P : Program) (e : Env) (H : Hp) : List ResultVar → List Value → Prop
  | [], [] => True
  | .tmp t :: r, v :: vs => e t = v ∧ ResL P e H r vs
  | .cell p t :: r, v :: vs => (∃ b o, e p = .pointer (some ⟨b, 0, none⟩) ∧ H b = some o ∧ ((aggT P t o.cells.length = true ∧ v = .agg o.cells.toArray) ∨ (scalT P t = true ∧ o.cells[0]? = some v))) ∧ ResL P e H r vs
  | _, _ => False
def tupV : List Value → Value
  | [v] => v
  | vs => .tuple vs.toArray
/-- At the end: the results, and what is owned then, of which some may be forgotten. -/
def RetP (P : Program) (rs : Array ResultVar) (R : Value → Hp → Prop) : Post
  | .normal, e, H | .ret, e, H => ∃ vs H', ResL P e H rs.toList vs ∧ H'.le H ∧ R (tupV vs) H'
  | _, _, _ => False
theorem RetP.mk {rs : Array ResultVar} {R : Value → Hp → Prop} {e : Env} {H : Hp} (vs : List Value) (H' : Hp) (h1 : ResL P e H rs.toList vs) (h2 : H'.le H) (h3 : R (tupV vs) H') : RetP P rs R .ret e H := ⟨vs, H', h1, h2, h3⟩
section
variable {rs : Array ResultVar} {R : Value → Hp → Prop} {e : Env} {H H' : Hp} {t1 t2 t3 : Tmp} {v1 v2 v3 : Value}
theorem RetP.mk0 (hr : rs = #[]) (h2 : H'.le H) (h3 : R (.tuple #[]) H') : RetP P rs R .ret e H := by subst hr; exact RetP.mk [] H' trivial h2 h3
theorem RetP.end0 (hr : rs = #[]) (h2 : H'.le H) (h3 : R (.tuple #[]) H') : RetP P rs R .normal e H := by subst hr; exact ⟨[], H', trivial, h2, h3⟩
theorem RetP.mk1 (hr : rs = #[.tmp t1]) (h1 : e t1 = v1) (h2 : H'.le H) (h3 : R v1 H') : RetP P rs R .ret e H := by subst hr; exact RetP.mk [v1] H' ⟨h1, trivial⟩ h2 h3
theorem RetP.mk2 (hr : rs = #[.tmp t1, .tmp t2]) (h1 : e t1 = v1) (h1' : e t2 = v2) (h2 : H'.le H) (h3 : R (.tuple #[v1, v2]) H') : RetP P rs R .ret e H := by subst hr; exact RetP.mk [v1, v2] H' ⟨h1, h1', trivial⟩ h2 h3
theorem RetP.mk3 (hr : rs = #[.tmp t1, .tmp t2, .tmp t3]) (h1 : e t1 = v1) (h1' : e t2 = v2) (h1'' : e t3 = v3) (h2 : H'.le H) (h3 : R (.tuple #[v1, v2, v3]) H') : RetP P rs R .ret e H := by subst hr; exact RetP.mk [v1, v2, v3] H' ⟨h1, h1', h1'', trivial⟩ h2 h3
theorem RetP.mkc {ct : TypeId} {b m sz : Nat} {el : TypeId} {cs : List Value} (hr : rs = #[.cell t1 ct]) (h1 : e t1 = .pointer (some ⟨b, 0, none⟩)) (hb : H b = some ⟨cs, sz, el⟩) (hl : cs.length = m) (ht : aggT P ct m = true) (h2 : H'.le H) (h3 : R (.agg cs.toArray) H') : RetP P rs R .ret e H := by
  subst hr; subst hl; exact RetP.mk [.agg cs.toArray] H' ⟨⟨b, _, h1, hb, .inl ⟨ht, rfl⟩⟩, trivial⟩ h2 h3
end
theorem RetP.end {rs : Array ResultVar} {R : Value → Hp → Prop} {e : Env} {H : Hp} (vs : List Value) (H' : Hp) (h1 : ResL P e H rs.toList vs) (h2 : H'.le H) (h3 : R (tupV vs) H') : RetP P rs R .normal e H := ⟨vs, H', h1, h2, h3⟩

theorem ResL.run {n : Nat} {e : Env} {a : Act} (hf : Fr n e a) {w : World} (ho : Own w0 H w) : ∀ {rs : List ResultVar} {vs : List Value}, ResL P e H rs vs →
      (rs.mapM (m := Sem) fun | .tmp t => pure (a.tmps.getD t undef) | .cell b t => do loadVar t (← asAddr (a.tmps.getD b undef))).run P w = .ok vs w := by
  intro rs
  induction rs with
  | nil => intro vs h; cases vs with
    | nil => simp
    | cons => exact h.elim
  | cons r rs ih =>
    intro vs h
    cases vs with
    | nil => cases r <;> exact h.elim
    | cons v vs =>
      cases r with
      | tmp t =>
        obtain ⟨h1, h2⟩ := h
        simp only [List.mapM_cons, Sem.run_bind, Sem.run_pure, Result.andThen_ok, ih h2]
        rw [hf.get, h1]
      | cell p t =>
        obtain ⟨⟨b, o, hp, hb, hv⟩, h2⟩ := h
        have hp' : a.tmps.getD p undef = .pointer (some ⟨b, 0, none⟩) := by rw [hf.get, hp]
        have hl : (do loadVar t (← asAddr (a.tmps.getD p undef)) : Sem Value).run P w = .ok v w := by
          rw [hp']
          rcases hv with ⟨ht, rfl⟩ | ⟨ht, hv⟩
          · simp [asAddr, loadVar, run_isAgg_agg ht, aggT_size ht, run_loadCells_own (j := 0) (cs := o.cells) ho hb rfl (fun i v h => by simpa using h)]
          · simp [asAddr, loadVar, run_isAgg_scal ht, ho.cell hb hv]
        simp only [List.mapM_cons]
        rw [Sem.run_bind, hl, Result.andThen_ok, Sem.run_bind, ih h2]
        rfl
theorem ResL.results {n : Nat} {e : Env} {a : Act} (hf : Fr n e a) {w : World} (ho : Own w0 H w) {fn : Func} {vs : List Value} (h : ResL P e H fn.results.toList vs) : (results fn a.tmps).run P w = .ok (tupV vs) w := by
  have hk := h.run hf ho
  have hm : (fn.results.mapM (m := Sem) fun | .tmp t => pure (a.tmps.getD t undef) | .cell b t => do loadVar t (← asAddr (a.tmps.getD b undef))).run P w = .ok vs.toArray w := by
    rw [Array.mapM_eq_mapM_toList]
    simp only [Sem.run_map, hk, Result.andThen_ok]
  unfold Go.results
  simp only [Sem.run_bind]
  refine Eq.trans (congrArg (fun r => Result.andThen r fun (vs : Array Value) w' => (pure (if h : vs.size = 1 then vs[0] else Value.tuple vs) : Sem Value).run P w') hm) ?_
  simp only [Result.andThen_ok, Sem.run_pure]
  match vs with
  | [] => simp [tupV]
  | [u] => simp [tupV]
  | u :: u' :: vs => simp [tupV]

theorem Con.intro {f : FuncId} {fn : Func} {c : Code} {args : Array Value} {R : Value → Hp → Prop} (hf : P.funcs[f]? = some fn) (hb : fn.body = some c) (hl : Nat.ble args.size fn.ntmps = true)
    (h : AW P w0 fn.ntmps c (RetP P fn.results R) (initE args) H) : Con P w0 f args H R := by
  have hl := Nat.le_of_ble_eq_true hl
  intro w ho
  refine calls_of_wp hf hb (wp_mono (h ⟨args ++ Array.replicate (fn.ntmps - args.size) undef, []⟩ w ⟨by simp; omega, fun t => ?_, rfl⟩ ho) ?_)
  · simp only [initE, Array.getD_eq_getD_getElem?, Array.getElem?_append]
    split
    · rfl
    · rename_i hh
      simp only [Array.getElem?_replicate]
      rw [Array.getElem?_eq_none (by omega)]
      split <;> rfl
  · rintro x a w ⟨_, e, H', h1, h2, h3⟩
    cases x with
    | normal => obtain ⟨vs, H'', hv, hle, hr⟩ := h3; exact ⟨h1.defers, _, hv.results h1 h2, _, H'', rfl, h2.drop hle, hr⟩
    | ret => obtain ⟨vs, H'', hv, hle, hr⟩ := h3; exact ⟨h1.defers, _, hv.results h1 h2, _, H'', rfl, h2.drop hle, hr⟩
    | _ => exact h3.elim

/-! ### a region that draws, step by step -/
def SeqK (P : Program) (w0 : World) (n : Nat) (ops : Array Oper) (Q : Post) (H : Hp) : Nat → List Oper → Env → Prop
  | 0, l, e => OpsW P w0 n ops Q l e H
  | k + 1, o :: l, e => ∃ v, QG P w0 n ops H e o v ∧ SeqK P w0 n ops Q H k l (putE e o.dst v)
  | _ + 1, [], _ => False
variable {n : Nat} {ops : Array Oper} {Q : Post} {e : Env}
theorem SeqK.seqQ : ∀ (k : Nat) (l : List Oper) (e : Env), SeqK P w0 n ops Q H k l e → SeqQ P w0 n ops H (l.take k) e fun e' => OpsW P w0 n ops Q (l.drop k) e' H := by
  intro k
  induction k with
  | zero => intro l e h; simp only [List.take_zero, List.drop_zero]; exact h
  | succ k ih =>
    intro l e h
    cases l with
    | nil => exact h.elim
    | cons o l => obtain ⟨v, h1, h2⟩ := h; exact ⟨v, h1, ih l _ h2⟩
theorem AW.drawK {id : Nat} {l : List Oper} {Q : Post} {e : Env} (F : List Nat) (k : Nat) (hm : P.follows .mixedOrders = true) (hok : drawOk l.toArray F k l.length = true) (h : SeqK P w0 n l.toArray Q H k l e) : AW P w0 n (.region id l.toArray true) Q e H :=
  AW.draw F k hm hok (SeqK.seqQ k l e h)
/-- Likewise, with a constant's move from behind carried out first. -/
def SeqC (P : Program) (w0 : World) (n : Nat) (ops : Array Oper) (Q : Post) (H : Hp) (k0 f : Nat) (t : Tmp) (c : Value) : Nat → List Oper → Env → Prop
  | 0, l, e => OpsW P w0 n ops Q (tl f k0 l) (upd e t c) H
  | k + 1, o :: l, e => ∃ v, QG P w0 n ops H e o v ∧ SeqC P w0 n ops Q H k0 f t c k l (putE e o.dst v)
  | _ + 1, [], _ => False
theorem SeqC.seqQ {k0 f : Nat} {t : Tmp} {c : Value} : ∀ (k : Nat) (l : List Oper) (e : Env), SeqC P w0 n ops Q H k0 f t c k l e → SeqQ P w0 n ops H (l.take k) e fun e' => OpsW P w0 n ops Q (tl f k0 (l.drop k)) (upd e' t c) H := by
  intro k
  induction k with
  | zero => intro l e h; simp only [List.take_zero, List.drop_zero]; exact h
  | succ k ih =>
    intro l e h
    cases l with
    | nil => exact h.elim
    | cons o l => obtain ⟨v, h1, h2⟩ := h; exact ⟨v, h1, ih l _ h2⟩
theorem AW.drawF {id : Nat} {l : List Oper} {Q : Post} {e : Env} (F : List Nat) (k f : Nat) (t : Tmp) (c : Value) {x : Operand} {ty : TypeId} {pos : String} {af : Array Edge} (hm : P.follows .mixedOrders = true) (hok : drawOk l.toArray F k f = true)
    (hf : l[f]? = some ⟨some t, .move x, ty, pos, af, none⟩) (hx : D.ev e x = c) (hd : Nat.blt t n = true) (hfl : Nat.blt f l.length = true) (h : SeqC P w0 n l.toArray Q H k f t c k l e) : AW P w0 n (.region id l.toArray true) Q e H :=
  AW.drawC F k f hm hok (fun _ => ⟨hf, dst_lt hd, hx⟩) (by rw [hfl]; exact SeqC.seqQ k l e h)
/-! A region that draws, with one operation among the first that changes what is owned. -/
def StepE (P : Program) (w0 : World) (n : Nat) (ops : Array Oper) (H H1 : Hp) (c i : Nat) (e : Env) (o : Oper) (v : Value) : Prop :=
  bif Nat.beq i c then QE P w0 n ops H H1 e o v else (reach ops 16 i c = false → QG P w0 n ops H e o v) ∧ (reach ops 16 c i = false → QG P w0 n ops H1 e o v)
def SeqE (P : Program) (w0 : World) (n : Nat) (ops : Array Oper) (Q : Post) (H H1 : Hp) (c : Nat) : Nat → Nat → List Oper → Env → Prop
  | _, 0, l, e => OpsW P w0 n ops Q l e H1
  | i, k + 1, o :: l, e => ∃ v, StepE P w0 n ops H H1 c i e o v ∧ SeqE P w0 n ops Q H H1 c (i + 1) k l (putE e o.dst v)
  | _, _ + 1, [], _ => False
theorem SeqE.vals {H1 : Hp} {c : Nat} : ∀ (k i : Nat) (l : List Oper) (e : Env), SeqE P w0 n ops Q H H1 c i k l e →
    ∃ vals : Nat → Value, (∀ j o, j < k → l[j]? = some o → StepE P w0 n ops H H1 c (i + j) (envAt l vals e j) o (vals j)) ∧ OpsW P w0 n ops Q (l.drop k) (envAt l vals e k) H1 := by
  intro k
  induction k with
  | zero => intro i l e h; exact ⟨fun _ => undef, fun j o hj => by omega, by simpa [envAt, SeqE] using h⟩
  | succ k ih =>
    intro i l e h
    cases l with
    | nil => exact h.elim
    | cons o l =>
      obtain ⟨v, h1, h2⟩ := h
      obtain ⟨vals, h3, h4⟩ := ih (i + 1) l _ h2
      refine ⟨fun j => match j with | 0 => v | j + 1 => vals j, ?_, ?_⟩
      · intro j o' hj ho
        cases j with
        | zero => simp at ho; subst ho; exact h1
        | succ j =>
          simp at ho
          rw [envAt_shift]
          have := h3 j o' (by omega) ho
          rw [show i + 1 + j = i + (j + 1) from by omega] at this
          exact this
      · rw [envAt_shift]; simpa using h4
theorem AW.drawM {id : Nat} {l : List Oper} {Q : Post} {e : Env} (F : List Nat) (k c : Nat) {H1 : Hp} (hm : P.follows .mixedOrders = true) (hok : drawOk l.toArray F k l.length = true)
    (hck : Nat.blt c k = true) (hcF : F.contains c = false) (h : SeqE P w0 n l.toArray Q H H1 c 0 k l e) : AW P w0 n (.region id l.toArray true) Q e H := by
  obtain ⟨vals, h1, h2⟩ := SeqE.vals k 0 l e h
  have hok' := DrawOk.of hok
  have hk : k ≤ l.length := by simpa using hok'.le
  have hck' : c < k := by simpa [Nat.blt, Nat.succ_le_iff] using hck
  have hb : Nat.blt l.length l.length = false := by
    cases hh : Nat.blt l.length l.length with
    | false => rfl
    | true => exfalso; simp [Nat.blt] at hh; omega
  refine AW.drawE F k l.length c (H1 := H1) (t := 0) (x := .const undef) (cv := undef) (ty := 0) (pos := "") (af := #[]) hm hok (fun h => by omega) (.inl hck') ?_ (.inl (by omega)) (vals := vals) ?_ ?_ ?_
  · intro i hi e
    subst e
    have : F.contains i = true := by simpa using hi
    rw [hcF] at this; cases this
  · intro i o hi hic hoo
    have := h1 i o hi hoo
    have hbe : Nat.beq i c = false := by
      cases hh : Nat.beq i c with
      | false => rfl
      | true => exact absurd (Nat.eq_of_beq_eq_true hh) hic
    rw [Nat.zero_add, StepE, hbe, cond_false] at this
    exact ⟨this.1, fun _ => this.2⟩
  · intro o hc hoo
    have := h1 c o hc hoo
    rw [Nat.zero_add, StepE, Nat.beq_refl, cond_true] at this
    exact this
  · rw [hb, hck, cond_false, cond_true, tl_none (by simp; omega)]
    exact h2
section
variable {H1 : Hp} {c i : Nat} {t : Tmp} {op : Op} {l : List Oper} {v : Value} {k : Nat}
theorem SeqE.done (h : OpsW P w0 n ops Q l e H1) : SeqE P w0 n ops Q H H1 c i 0 l e := h
theorem SeqE.q (hi : Nat.beq i c = false) (hd : Nat.blt t n = true) (h : QS P w0 (ev e) ⟨some t, op, ty, pos, af, none⟩ H v) (h1 : QS P w0 (ev e) ⟨some t, op, ty, pos, af, none⟩ H1 v) (hk : SeqE P w0 n ops Q H H1 c (i + 1) k l (upd e t v)) :
    SeqE P w0 n ops Q H H1 c i (k + 1) (⟨some t, op, ty, pos, af, none⟩ :: l) e := ⟨v, by rw [StepE, hi, cond_false]; exact ⟨fun _ => ⟨dst_lt hd, .inl ⟨rfl, h⟩⟩, fun _ => ⟨dst_lt hd, .inl ⟨rfl, h1⟩⟩⟩, hk⟩
theorem SeqE.b (hi : Nat.beq i c = false) (hr : reach ops 16 c i = true) (hd : Nat.blt t n = true) (h : QS P w0 (ev e) ⟨some t, op, ty, pos, af, none⟩ H v) (hk : SeqE P w0 n ops Q H H1 c (i + 1) k l (upd e t v)) :
    SeqE P w0 n ops Q H H1 c i (k + 1) (⟨some t, op, ty, pos, af, none⟩ :: l) e := ⟨v, by rw [StepE, hi, cond_false]; exact ⟨fun _ => ⟨dst_lt hd, .inl ⟨rfl, h⟩⟩, fun h => by rw [hr] at h; cases h⟩, hk⟩
theorem SeqE.a (hi : Nat.beq i c = false) (hr : reach ops 16 i c = true) (hd : Nat.blt t n = true) (h1 : QS P w0 (ev e) ⟨some t, op, ty, pos, af, none⟩ H1 v) (hk : SeqE P w0 n ops Q H H1 c (i + 1) k l (upd e t v)) :
    SeqE P w0 n ops Q H H1 c i (k + 1) (⟨some t, op, ty, pos, af, none⟩ :: l) e := ⟨v, by rw [StepE, hi, cond_false]; exact ⟨fun h => (by rw [hr] at h; cases h), fun _ => ⟨dst_lt hd, .inl ⟨rfl, h1⟩⟩⟩, hk⟩
theorem SeqE.x (hi : Nat.beq i c = true) (hd : Nat.blt t n = true) (h : OpR P w0 (ev e) ⟨some t, op, ty, pos, af, none⟩ H fun u H' => u = v ∧ H' = H1) (hk : SeqE P w0 n ops Q H H1 c (i + 1) k l (upd e t v)) :
    SeqE P w0 n ops Q H H1 c i (k + 1) (⟨some t, op, ty, pos, af, none⟩ :: l) e := ⟨v, by rw [StepE, hi, cond_true]; exact ⟨dst_lt hd, rfl, h⟩, hk⟩
end
theorem SeqC.done {k0 f : Nat} {t : Tmp} {c : Value} {l : List Oper} (h : OpsW P w0 n ops Q (tl f k0 l) (upd e t c) H) : SeqC P w0 n ops Q H k0 f t c 0 l e := h
theorem SeqC.q {k0 f : Nat} {t0 : Tmp} {c : Value} {t : Tmp} {op : Op} {l : List Oper} {v : Value} {k : Nat} (hd : Nat.blt t n = true) (h : QS P w0 (ev e) ⟨some t, op, ty, pos, af, none⟩ H v) (hk : SeqC P w0 n ops Q H k0 f t0 c k l (upd e t v)) :
    SeqC P w0 n ops Q H k0 f t0 c (k + 1) (⟨some t, op, ty, pos, af, none⟩ :: l) e := ⟨v, ⟨dst_lt hd, .inl ⟨rfl, h⟩⟩, hk⟩
theorem SeqK.done {l : List Oper} (h : OpsW P w0 n ops Q l e H) : SeqK P w0 n ops Q H 0 l e := h
variable {t : Tmp} {op : Op} {l : List Oper} {v : Value} {j k : Nat} {b : Bool}
theorem SeqK.q (hd : Nat.blt t n = true) (h : QS P w0 (ev e) ⟨some t, op, ty, pos, af, none⟩ H v) (hk : SeqK P w0 n ops Q H k l (upd e t v)) :
    SeqK P w0 n ops Q H (k + 1) (⟨some t, op, ty, pos, af, none⟩ :: l) e := ⟨v, ⟨dst_lt hd, .inl ⟨rfl, h⟩⟩, hk⟩
theorem SeqK.qw (hg : yieldE ops e j = some b) (hd : Nat.blt t n = true) (h : QS P w0 (ev e) ⟨some t, op, ty, pos, af, some (j, b)⟩ H v) (hk : SeqK P w0 n ops Q H k l (upd e t v)) :
    SeqK P w0 n ops Q H (k + 1) (⟨some t, op, ty, pos, af, some (j, b)⟩ :: l) e := ⟨v, ⟨dst_lt hd, .inl ⟨by simp [Region.wanted, hg], h⟩⟩, hk⟩
theorem SeqK.p (hg : yieldE ops e j = some !b) (hd : Nat.blt t n = true) (hk : SeqK P w0 n ops Q H k l (upd e t undef)) :
    SeqK P w0 n ops Q H (k + 1) (⟨some t, op, ty, pos, af, some (j, b)⟩ :: l) e := ⟨undef, ⟨dst_lt hd, .inr ⟨by simp [Region.wanted, hg], rfl⟩⟩, hk⟩
theorem SeqK.pu (hg : yieldE ops e j = none) (hd : Nat.blt t n = true) (hk : SeqK P w0 n ops Q H k l (upd e t undef)) :
    SeqK P w0 n ops Q H (k + 1) (⟨some t, op, ty, pos, af, some (j, b)⟩ :: l) e := ⟨undef, ⟨dst_lt hd, .inr ⟨by simp [Region.wanted, hg], rfl⟩⟩, hk⟩
end
end Go.Proofs.Ytfiojlmccflplaa.D
