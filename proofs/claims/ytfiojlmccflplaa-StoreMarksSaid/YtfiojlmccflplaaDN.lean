/-
  A walk's rules: results of which the first lies in memory; three operations that may come up; pieces in any order. No condition.
-/
import Derived.Test.YtfiojlmccflplaaDH
import Derived.Test.YtfiojlmccflplaaDS
import Derived.Test.YtfiojlmccflplaaDY
import Derived.Test.YtfiojlmccflplaaDU
namespace Go.Proofs.Ytfiojlmccflplaa.D
open Go Go.RowKit
set_option linter.unusedVariables false
set_option linter.unusedSimpArgs false
section
variable {P : Program} {rs : Array ResultVar} {R : Value → Hp → Prop} {e : Env} {H H' : Hp} {t1 t2 t3 t4 : Tmp} {v1 v2 v3 v4 : Value} {ct : TypeId} {b m sz : Nat} {el : Tag} {cs : List Value}
theorem RetP.mkc1 (hr : rs = #[.cell t1 ct, .tmp t2]) (hp : e t1 = .pointer (some ⟨b, 0, none⟩)) (h2 : e t2 = v2) (hb : H b = some ⟨cs, sz, el⟩) (hl : cs.length = m) (ht : aggT P ct m = true)
    (hle : H'.le H) (h3 : R (.tuple #[.agg cs.toArray, v2]) H') : RetP P rs R .ret e H := by
  subst hr; subst hl; exact RetP.mk [.agg cs.toArray, v2] H' ⟨⟨b, _, hp, hb, .inl ⟨ht, rfl⟩⟩, h2, trivial⟩ hle h3
theorem RetP.mkc3 (hr : rs = #[.cell t1 ct, .tmp t2, .tmp t3, .tmp t4]) (hp : e t1 = .pointer (some ⟨b, 0, none⟩)) (h2 : e t2 = v2) (h3' : e t3 = v3) (h4 : e t4 = v4) (hb : H b = some ⟨cs, sz, el⟩) (hl : cs.length = m) (ht : aggT P ct m = true)
    (hle : H'.le H) (h3 : R (.tuple #[.agg cs.toArray, v2, v3, v4]) H') : RetP P rs R .ret e H := by
  subst hr; subst hl; exact RetP.mk [.agg cs.toArray, v2, v3, v4] H' ⟨⟨b, _, hp, hb, .inl ⟨ht, rfl⟩⟩, h2, h3', h4, trivial⟩ hle h3
end
section
variable {P : Program} {w0 : World} {n : Nat} {ops : Array Oper} {Q : Post} {H : Hp} {e : Env} {b : Array Bool} {fuel : Nat}
theorem AnyW.three {o1 o2 o3 : Oper} {R1 R2 R3 : Value → Hp → Prop} (i j k : Nat) (hi : ops[i]? = some o1) (hj : ops[j]? = some o2) (hk : ops[k]? = some o3) (hr : Region.ready .any ops b = [i, j, k]) (g1 : o1.guard = none) (g2 : o2.guard = none) (g3 : o3.guard = none) (d1 : dstOk n o1.dst = true) (d2 : dstOk n o2.dst = true) (d3 : dstOk n o3.dst = true)
    (h1 : OpR P w0 (D.ev e) o1 H R1) (h2 : OpR P w0 (D.ev e) o2 H R2) (h3 : OpR P w0 (D.ev e) o3 H R3) (k1 : ∀ v H', R1 v H' → AnyW P w0 n ops Q fuel (b.setIfInBounds i true) (putE e o1.dst v) H') (k2 : ∀ v H', R2 v H' → AnyW P w0 n ops Q fuel (b.setIfInBounds j true) (putE e o2.dst v) H')
    (k3 : ∀ v H', R3 v H' → AnyW P w0 n ops Q fuel (b.setIfInBounds k true) (putE e o3.dst v) H') : AnyW P w0 n ops Q (fuel + 1) b e H := by
  intro a w hfr ho
  refine ⟨fun g => absurd (hr.symm.trans g) (by simp), fun q hq => ?_⟩
  rw [hr] at hq
  have hw : ∀ {o : Oper}, o.guard = none → Region.wanted o (yielded ops a.tmps) = true := fun g => by simp [Region.wanted, g]
  rcases List.mem_cons.1 hq with rfl | hq
  · unfold wpOp
    rw [hi]
    simp only [hw g1, if_true]
    exact .inl (Res.wp (ops := ops) (Q := Q) hfr ho h1 fun v H' w' hv ho' => k1 v H' hv _ _ (hfr.put d1 v) ho')
  · rcases List.mem_cons.1 hq with rfl | hq
    · unfold wpOp
      rw [hj]
      simp only [hw g2, if_true]
      exact .inl (Res.wp (ops := ops) (Q := Q) hfr ho h2 fun v H' w' hv ho' => k2 v H' hv _ _ (hfr.put d2 v) ho')
    · obtain rfl : q = k := by simpa using hq
      unfold wpOp
      rw [hk]
      simp only [hw g3, if_true]
      exact .inl (Res.wp (ops := ops) (Q := Q) hfr ho h3 fun v H' w' hv ho' => k3 v H' hv _ _ (hfr.put d3 v) ho')
end
section
variable {H0 H : Hp} {L L' : List Chunk} {c : Chunk}
theorem Sep.under {d : Chunk} {K K' : List Chunk} (h : Sep H0 (d :: K) H) (f : ∀ {G : Hp}, Sep H0 K G → Sep H0 K' G) : Sep H0 (d :: K') H := by
  obtain ⟨g1, g2, a, l1, l2, hd, hk⟩ := h
  exact ⟨g1, g2, a, l1, l2, hd, f hk⟩
/-- A piece goes back to its place. -/
theorem Sep.back (hD : Del L c L') : ∀ {H : Hp}, Sep H0 (c :: L') H → Sep H0 L H := by
  induction hD with
  | z => intro H h; exact h
  | s _ ih => intro H h; exact Sep.under (Sep.bring del1 h) ih
end
section
variable {H0 H H' : Hp} {L : List Chunk} {c0 c1 c2 : Chunk}
/-- Some pieces alone, the others in the frame. -/
theorem Sep.parted {K : List Chunk} (h : Sep H0 (K ++ L) H) : ∃ Hf : Hp, H0.le Hf ∧ Sep Hf K H ∧ Sep H0 L Hf ∧ ∀ (K' : List Chunk) (H' : Hp), Sep Hf K' H' → Sep H0 (K' ++ L) H' := by
  obtain ⟨h1, h2, a, l1, l2, hK, hL⟩ := Sep.split h
  refine ⟨h2, hL.le, ?_, hL, fun K' H' hK' => hL.join hK'⟩
  have := Sep.beside (L := []) hK a l1 l2 (Hp.le_refl h2)
  rwa [List.append_nil] at this
theorem Sep.part1 (h : Sep H0 (c0 :: L) H) : ∃ Hf : Hp, H0.le Hf ∧ Sep Hf [c0] H ∧ Sep H0 L Hf ∧ ∀ (K' : List Chunk) (H' : Hp), Sep Hf K' H' → Sep H0 (K' ++ L) H' := Sep.parted (K := [c0]) h
theorem Sep.part2 (h : Sep H0 (c0 :: c1 :: L) H) : ∃ Hf : Hp, H0.le Hf ∧ Sep Hf [c0, c1] H ∧ Sep H0 L Hf ∧ ∀ (K' : List Chunk) (H' : Hp), Sep Hf K' H' → Sep H0 (K' ++ L) H' := Sep.parted (K := [c0, c1]) h
theorem Sep.part3 (h : Sep H0 (c0 :: c1 :: c2 :: L) H) : ∃ Hf : Hp, H0.le Hf ∧ Sep Hf [c0, c1, c2] H ∧ Sep H0 L Hf ∧ ∀ (K' : List Chunk) (H' : Hp), Sep Hf K' H' → Sep H0 (K' ++ L) H' := Sep.parted (K := [c0, c1, c2]) h
/-- Pieces in one. -/
theorem Sep.packed {K : List Chunk} (h : Sep H0 (K ++ L) H) : Sep H0 (.pred (fun g => Sep emp K g) :: L) H :=
  Sep.close _ h fun h1 hK => ⟨h1, Hp.le_refl _, hK⟩
theorem Sep.pack {K : List Chunk} {A : Hp → Prop} (h : Sep H0 (K ++ L) H) (hA : ∀ g, Sep emp K g → A g) : Sep H0 (.pred A :: L) H :=
  Sep.close _ h fun h1 hK => ⟨h1, Hp.le_refl _, hA h1 hK⟩
end
section
variable {P : Program} {w0 : World} {ρ : Operand → Value} {d : Option Tmp} {ty : TypeId} {pos : String} {af : Array Edge} {g : Option (Nat × Bool)} {H : Hp} {α : Type} {cells : α → List Value} {sz : Nat}
/-- A part of a struct out of a slice of structs. -/
theorem q_loadVR2 {t el : TypeId} {m j k n : Nat} {x : Operand} {v : Value} {l : List α} {r : α} {cs : List Value} (hV : Vec H el sz v m (rowsV cells l)) (hc : ∀ r, (cells r).length = sz) (ht : aggT P t n = true) (hx : ρ x = vptr v (j * sz + k)) (hr : l[j]? = some r)
    (hk : k + n ≤ sz) (hcs : cs = ((cells r).drop k).take n) (hn : cs.length = n) (hm : 0 < m) : QS P w0 ρ ⟨d, .load t x, ty, pos, af, g⟩ H (.agg cs.toArray) := by
  obtain ⟨b, cap, q, rfl, hq, _, _, _, _, _, _, hcs2⟩ := hV.opened hm
  rw [vptr_at] at hx
  refine q_loadA ht hx hq hn fun i u hu => ?_
  rw [hcs, List.getElem?_take] at hu
  split at hu
  · rw [List.getElem?_drop] at hu
    have := hcs2 _ _ (rowsV_get hc hr hu)
    rwa [← Nat.add_assoc] at this
  · cases hu
end
end Go.Proofs.Ytfiojlmccflplaa.D
