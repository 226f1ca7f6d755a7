/-
  A drawn region, step by step, where guards say yes. No condition.
-/
import Derived.Test.YtfiojlmccflplaaDN
namespace Go.Proofs.Ytfiojlmccflplaa.D
open Go Go.RowKit
set_option linter.unusedVariables false
set_option linter.unusedSimpArgs false
section
variable {P : Program} {w0 : World} {n : Nat} {ops : Array Oper} {Q : Post} {H : Hp} {e : Env} {b : Array Bool} {fuel : Nat}
theorem wanted_of {o : Oper} {a : Act} (hfr : Fr n e a) (hg : Region.wanted o (yieldE ops e) = true) : Region.wanted o (yielded ops a.tmps) = true := by
  rw [show yielded ops a.tmps = yieldE ops e from funext (hfr.yielded ops)]; exact hg
theorem AnyW.firstG {o : Oper} {v : Value} (i : Nat) (hi : ops[i]? = some o) (hsel : Region.noSelect ops = true) (hf : Region.free .any ops b i = true) (hr : (Region.ready .any ops b).contains i = true) (hg : Region.wanted o (yieldE ops e) = true) (hd : dstOk n o.dst = true)
    (h : QV P (D.ev e) o v) (hk : AnyW P w0 n ops Q fuel (b.setIfInBounds i true) (putE e o.dst v) H) : AnyW P w0 n ops Q (fuel + 1) b e H := by
  intro a w hfr ho
  have he : a.eval = D.ev e := funext hfr.ev
  refine wpAny_take hi hsel hf hr (fun c a w h => h.1.elim) (.inl ⟨wanted_of hfr hg, fun w => by rw [he]; exact h w⟩) ?_
  exact hk _ _ (hfr.put hd v) ho
theorem AnyW.onlyG {o : Oper} {R : Value → Hp → Prop} (i : Nat) (hi : ops[i]? = some o) (hr : Region.ready .any ops b = [i]) (hg : Region.wanted o (yieldE ops e) = true) (hd : dstOk n o.dst = true)
    (h : OpR P w0 (D.ev e) o H R) (hk : ∀ v H', R v H' → AnyW P w0 n ops Q fuel (b.setIfInBounds i true) (putE e o.dst v) H') : AnyW P w0 n ops Q (fuel + 1) b e H := by
  intro a w hfr ho
  refine ⟨fun g => absurd (hr.symm.trans g) (by simp), fun j hj => ?_⟩
  rw [hr] at hj
  obtain rfl : j = i := by simpa using hj
  unfold wpOp
  rw [hi]
  simp only [wanted_of hfr hg, if_true]
  exact .inl (Res.wp (ops := ops) (Q := Q) hfr ho h fun v H' w' hv ho' => hk v H' hv _ _ (hfr.put hd v) ho')
theorem AnyW.onlyQG {o : Oper} {v : Value} (i : Nat) (hi : ops[i]? = some o) (hr : Region.ready .any ops b = [i]) (hg : Region.wanted o (yieldE ops e) = true) (hd : dstOk n o.dst = true)
    (h : QS P w0 (D.ev e) o H v) (hk : AnyW P w0 n ops Q fuel (b.setIfInBounds i true) (putE e o.dst v) H) : AnyW P w0 n ops Q (fuel + 1) b e H :=
  AnyW.onlyG i hi hr hg hd h (by rintro _ _ ⟨rfl, rfl⟩; exact hk)
theorem AnyW.twoG {o1 o2 : Oper} {R1 R2 : Value → Hp → Prop} (i j : Nat) (hi : ops[i]? = some o1) (hj : ops[j]? = some o2) (hr : Region.ready .any ops b = [i, j]) (g1 : Region.wanted o1 (yieldE ops e) = true) (g2 : Region.wanted o2 (yieldE ops e) = true) (d1 : dstOk n o1.dst = true) (d2 : dstOk n o2.dst = true)
    (h1 : OpR P w0 (D.ev e) o1 H R1) (h2 : OpR P w0 (D.ev e) o2 H R2) (k1 : ∀ v H', R1 v H' → AnyW P w0 n ops Q fuel (b.setIfInBounds i true) (putE e o1.dst v) H') (k2 : ∀ v H', R2 v H' → AnyW P w0 n ops Q fuel (b.setIfInBounds j true) (putE e o2.dst v) H') :
    AnyW P w0 n ops Q (fuel + 1) b e H := by
  intro a w hfr ho
  refine ⟨fun g => absurd (hr.symm.trans g) (by simp), fun q hq => ?_⟩
  rw [hr] at hq
  rcases List.mem_cons.1 hq with rfl | hq
  · unfold wpOp
    rw [hi]
    simp only [wanted_of hfr g1, if_true]
    exact .inl (Res.wp (ops := ops) (Q := Q) hfr ho h1 fun v H' w' hv ho' => k1 v H' hv _ _ (hfr.put d1 v) ho')
  · obtain rfl : q = j := by simpa using hq
    unfold wpOp
    rw [hj]
    simp only [wanted_of hfr g2, if_true]
    exact .inl (Res.wp (ops := ops) (Q := Q) hfr ho h2 fun v H' w' hv ho' => k2 v H' hv _ _ (hfr.put d2 v) ho')
end
end Go.Proofs.Ytfiojlmccflplaa.D
