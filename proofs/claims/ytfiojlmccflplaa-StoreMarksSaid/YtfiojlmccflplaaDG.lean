/-
  A drawn region, step by step: an operation that yields its value in every world is taken first; else the only one that may come up. No condition.
-/
import Derived.Test.YtfiojlmccflplaaDW
namespace Go.Proofs.Ytfiojlmccflplaa.D
open Go Go.RowKit
set_option linter.unusedVariables false
set_option linter.unusedSimpArgs false
section
variable {P : Program} {w0 : World} {n : Nat} {ops : Array Oper} {Q : Post} {H : Hp} {e : Env} {b : Array Bool} {fuel : Nat}
def AnyW (P : Program) (w0 : World) (n : Nat) (ops : Array Oper) (Q : Post) (fuel : Nat) (b : Array Bool) (e : Env) (H : Hp) : Prop :=
  ∀ a w, Fr n e a → Own w0 H w → wpAny P .any ops (lift w0 n Q) fuel b a w
theorem AW.steps {id : Nat} (hm : P.follows .mixedOrders = true) (m : Nat) (hs : ops.size = m) (h : AnyW P w0 n ops Q m (Array.replicate m false) e H) : AW P w0 n (.region id ops true) Q e H := by
  intro a w hf ho
  refine wp_region_any hm ?_
  rw [hs]
  exact h a _ hf ho.drew
/-- In every world. -/
def QV (P : Program) (ρ : Operand → Value) (o : Oper) (v : Value) : Prop := ∀ w, (execOp ρ o).run P w = .ok (.value v) w
theorem AnyW.first {o : Oper} {v : Value} (i : Nat) (hi : ops[i]? = some o) (hsel : Region.noSelect ops = true) (hf : Region.free .any ops b i = true) (hr : (Region.ready .any ops b).contains i = true) (hg : o.guard = none) (hd : dstOk n o.dst = true)
    (h : QV P (D.ev e) o v) (hk : AnyW P w0 n ops Q fuel (b.setIfInBounds i true) (putE e o.dst v) H) : AnyW P w0 n ops Q (fuel + 1) b e H := by
  intro a w hfr ho
  have he : a.eval = D.ev e := funext hfr.ev
  refine wpAny_take hi hsel hf hr (fun c a w h => h.1.elim) (.inl ⟨by simp [Region.wanted, hg], fun w => by rw [he]; exact h w⟩) ?_
  exact hk _ _ (hfr.put hd v) ho
theorem AnyW.only {o : Oper} {R : Value → Hp → Prop} (i : Nat) (hi : ops[i]? = some o) (hr : Region.ready .any ops b = [i]) (hg : o.guard = none) (hd : dstOk n o.dst = true)
    (h : OpR P w0 (D.ev e) o H R) (hk : ∀ v H', R v H' → AnyW P w0 n ops Q fuel (b.setIfInBounds i true) (putE e o.dst v) H') : AnyW P w0 n ops Q (fuel + 1) b e H := by
  intro a w hfr ho
  refine ⟨fun g => absurd (hr.symm.trans g) (by simp), fun j hj => ?_⟩
  rw [hr] at hj
  obtain rfl : j = i := by simpa using hj
  unfold wpOp
  rw [hi]
  simp only [show Region.wanted o (yielded ops a.tmps) = true from by simp [Region.wanted, hg], if_true]
  exact .inl (Res.wp (ops := ops) (Q := Q) hfr ho h fun v H' w' hv ho' => hk v H' hv _ _ (hfr.put hd v) ho')
theorem AnyW.onlyQ {o : Oper} {v : Value} (i : Nat) (hi : ops[i]? = some o) (hr : Region.ready .any ops b = [i]) (hg : o.guard = none) (hd : dstOk n o.dst = true)
    (h : QS P w0 (D.ev e) o H v) (hk : AnyW P w0 n ops Q fuel (b.setIfInBounds i true) (putE e o.dst v) H) : AnyW P w0 n ops Q (fuel + 1) b e H :=
  AnyW.only i hi hr hg hd h (by rintro _ _ ⟨rfl, rfl⟩; exact hk)
/-- Two may come up. -/
theorem AnyW.two {o1 o2 : Oper} {R1 R2 : Value → Hp → Prop} (i j : Nat) (hi : ops[i]? = some o1) (hj : ops[j]? = some o2) (hr : Region.ready .any ops b = [i, j]) (g1 : o1.guard = none) (g2 : o2.guard = none) (d1 : dstOk n o1.dst = true) (d2 : dstOk n o2.dst = true)
    (h1 : OpR P w0 (D.ev e) o1 H R1) (h2 : OpR P w0 (D.ev e) o2 H R2) (k1 : ∀ v H', R1 v H' → AnyW P w0 n ops Q fuel (b.setIfInBounds i true) (putE e o1.dst v) H') (k2 : ∀ v H', R2 v H' → AnyW P w0 n ops Q fuel (b.setIfInBounds j true) (putE e o2.dst v) H') :
    AnyW P w0 n ops Q (fuel + 1) b e H := by
  intro a w hfr ho
  refine ⟨fun g => absurd (hr.symm.trans g) (by simp), fun q hq => ?_⟩
  rw [hr] at hq
  rcases List.mem_cons.1 hq with rfl | hq
  · unfold wpOp
    rw [hi]
    simp only [show Region.wanted o1 (yielded ops a.tmps) = true from by simp [Region.wanted, g1], if_true]
    exact .inl (Res.wp (ops := ops) (Q := Q) hfr ho h1 fun v H' w' hv ho' => k1 v H' hv _ _ (hfr.put d1 v) ho')
  · obtain rfl : q = j := by simpa using hq
    unfold wpOp
    rw [hj]
    simp only [show Region.wanted o2 (yielded ops a.tmps) = true from by simp [Region.wanted, g2], if_true]
    exact .inl (Res.wp (ops := ops) (Q := Q) hfr ho h2 fun v H' w' hv ho' => k2 v H' hv _ _ (hfr.put d2 v) ho')
theorem AnyW.done (hr : Region.ready .any ops b = []) (h : Q .normal e H) : AnyW P w0 n ops Q 0 b e H := fun a w hf ho => ⟨hr, trivial, e, H, hf, ho, h⟩
variable {ρ : Operand → Value} {d : Option Tmp} {ty : TypeId} {pos : String} {af : Array Edge} {g : Option (Nat × Bool)}
theorem v_move {x : Operand} {v : Value} (hx : ρ x = v) : QV P ρ ⟨d, .move x, ty, pos, af, g⟩ v := fun w => by subst hx; rfl
theorem v_int {xt yt : TypeId} {x y : Operand} {k k' : IntKind} {a b : Int} {op : BinOp} {v : Value} (hx : ρ x = .int k a) (hy : ρ y = .int k' b) (hv : ∀ w, (binOp op xt (.int k a) (.int k' b)).run P w = .ok v w) :
    QV P ρ ⟨d, .binOp op xt x y yt, ty, pos, af, g⟩ v := fun w => by simp only [execOp, hx, hy, Sem.run_bind, eqGuard_int, Result.andThen_ok, hv, Sem.run_pure]
theorem v_addI {xt yt : TypeId} {x y : Operand} {a b : Int} (hx : ρ x = .int .i64 a) (hy : ρ y = .int .i64 b) (h : -9223372036854775808 ≤ a + b ∧ a + b ≤ 9223372036854775807) : QV P ρ ⟨d, .binOp .add xt x y yt, ty, pos, af, g⟩ (.int .i64 (a + b)) :=
  v_int hx hy fun w => by simp [binOp, Op.intArith, IntWalk.i64_in _ h]
theorem v_subI {xt yt : TypeId} {x y : Operand} {a b : Int} (hx : ρ x = .int .i64 a) (hy : ρ y = .int .i64 b) (h : -9223372036854775808 ≤ a - b ∧ a - b ≤ 9223372036854775807) : QV P ρ ⟨d, .binOp .sub xt x y yt, ty, pos, af, g⟩ (.int .i64 (a - b)) :=
  v_int hx hy fun w => by simp [binOp, Op.intArith, IntWalk.i64_in _ h]
theorem v_mulI {xt yt : TypeId} {x y : Operand} {a b : Int} (hx : ρ x = .int .i64 a) (hy : ρ y = .int .i64 b) (h : -9223372036854775808 ≤ a * b ∧ a * b ≤ 9223372036854775807) : QV P ρ ⟨d, .binOp .mul xt x y yt, ty, pos, af, g⟩ (.int .i64 (a * b)) :=
  v_int hx hy fun w => by simp [binOp, Op.intArith, IntWalk.i64_in _ h]
theorem v_sliceV_lo_some {t e : TypeId} {m cp : Nat} {x lo : Operand} {ad : Addr} {k : IntKind} {a : Int} (ht : P.underlying t = some (.slice e)) (hs : sizeT P e = some 1) (hx : ρ x = .slice (some ad) m cp)
    (ha : ρ lo = .int k a) (h0 : 0 ≤ a) (h1 : a ≤ m) : QV P ρ ⟨d, .slice t x (some lo) none none, ty, pos, af, g⟩ (.slice (some (if cp = a.toNat then ad else ad.add a.toNat)) (m - a.toNat) (cp - a.toNat)) :=
  fun w => by
    simp only [execOp, Instr.sliceAt, hx, ha, Sem.run_bind, run_underlying ht, Result.andThen_ok, Option.map_some, Option.map_none, Instr.slice, Instr.sliceBounds, Sem.run_pure,
      run_sliceBound' k a m _ w h0 (by omega), run_sizeT hs, Nat.mul_one]
    split <;> rfl
theorem v_sliceV_lo_none {t e : TypeId} {m cp : Nat} {x lo : Operand} {k : IntKind} {a : Int} (ht : P.underlying t = some (.slice e)) (hs : sizeT P e = some 1) (hx : ρ x = .slice none m cp)
    (ha : ρ lo = .int k a) (h0 : 0 ≤ a) (h1 : a ≤ m) : QV P ρ ⟨d, .slice t x (some lo) none none, ty, pos, af, g⟩ (.slice none (m - a.toNat) (cp - a.toNat)) :=
  fun w => by
    simp only [execOp, Instr.sliceAt, hx, ha, Sem.run_bind, run_underlying ht, Result.andThen_ok, Option.map_some, Option.map_none, Instr.slice, Instr.sliceBounds, Sem.run_pure,
      run_sliceBound' k a m _ w h0 (by omega), run_sizeT hs]
    split <;> rfl
theorem v_sufR {t e : TypeId} {x lo : Operand} {v : Value} {l : List UInt8} {k : IntKind} {a : Int} (hR : Rds H v l) (ht : P.underlying t = some (.slice e)) (hs : sizeT P e = some 1) (hx : ρ x = v) (ha : ρ lo = .int k a) (h0 : 0 ≤ a) (h1 : a ≤ l.length) :
    QV P ρ ⟨d, .slice t x (some lo) none none, ty, pos, af, g⟩ (sufV v a.toNat) := by
  obtain ⟨ad, c, rfl, h2, h3⟩ := hR
  rcases ad with _ | ⟨b, o, r⟩
  · exact v_sliceV_lo_none ht hs hx ha h0 h1
  · exact v_sliceV_lo_some ht hs hx ha h0 h1
theorem v_sufW {t e : TypeId} {x lo : Operand} {v : Value} {l : List Value} {k : IntKind} {a : Int} (hR : RdW w0 H v l) (ht : P.underlying t = some (.slice e)) (hs : sizeT P e = some 1) (hx : ρ x = v) (ha : ρ lo = .int k a) (h0 : 0 ≤ a) (h1 : a ≤ l.length) :
    QV P ρ ⟨d, .slice t x (some lo) none none, ty, pos, af, g⟩ (sufV v a.toNat) := by
  obtain ⟨ad, c, rfl, h2, h3⟩ := hR
  rcases ad with _ | ad
  · exact v_sliceV_lo_none ht hs hx ha h0 h1
  · exact v_sliceV_lo_some ht hs hx ha h0 h1
theorem v_indexV1 {t e : TypeId} {m : Nat} {x i : Operand} {v : Value} {cs : List Value} {k : IntKind} {n : Int} (hV : Vec H e 1 v m cs) (ht : P.underlying t = some (.slice e)) (hs : sizeT P e = some 1) (hx : ρ x = v) (hi : ρ i = .int k n) (h0 : 0 ≤ n) (h1 : n < m) :
    QV P ρ ⟨d, .indexAddr t x i, ty, pos, af, g⟩ (vptr v n.toNat) := by
  obtain ⟨b, cap, q, rfl, _⟩ := hV.opened (by omega)
  intro w
  simp [execOp, Instr.indexAt, asIntOf, hx, hi, run_underlying ht, h0, h1, run_sizeT hs, vptr]
end
end Go.Proofs.Ytfiojlmccflplaa.D
