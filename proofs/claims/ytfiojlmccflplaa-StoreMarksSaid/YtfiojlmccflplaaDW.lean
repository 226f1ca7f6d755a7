/-
  Slices that are read only, wherever they lie: in memory that was there before, or in own blocks. No condition.
-/
import Derived.Test.YtfiojlmccflplaaDT
import Derived.Test.YtfiojlmccflplaaDQ
namespace Go.Proofs.Ytfiojlmccflplaa.D
open Go Go.RowKit
set_option linter.unusedVariables false
set_option linter.unusedSimpArgs false
theorem Own.less {w0 w : World} {H H' : Hp} (h : Own w0 H' w) (hl : H.le H') : Own w0 H w := ⟨h.below, fun b o hb => h.fits b o (hl b o hb)⟩
theorem Addr.add_add (a : Addr) (i j : Nat) : (a.add i).add j = a.add (i + j) := by
  rcases i with _ | i
  · rw [Nat.zero_add]; rfl
  · rcases j with _ | j
    · rfl
    · show ({ a with off := a.off + (i + 1) + (j + 1), spot := none } : Addr) = { a with off := a.off + (i + 1 + (j + 1)), spot := none }
      rw [Nat.add_assoc]
/-- A slice whose cells, of one each, read as these. -/
def RdW (w0 : World) (H : Hp) (v : Value) (g : List Value) : Prop := ∃ (a : Option Addr) (c : Nat), v = .slice a g.length c ∧ g.length ≤ c ∧
  ∀ j u, g[j]? = some u → ∃ ad, a = some ad ∧ ∀ w, Own w0 H w → w.cell? (ad.add j) = some u
theorem RdW.mono {w0 : World} {H H' : Hp} {v : Value} {g : List Value} (h : RdW w0 H v g) (hl : H.le H') : RdW w0 H' v g := by
  obtain ⟨a, c, h1, h2, h3⟩ := h
  refine ⟨a, c, h1, h2, fun j u hj => ?_⟩
  obtain ⟨ad, e1, e2⟩ := h3 j u hj
  exact ⟨ad, e1, fun w hw => e2 w (hw.less hl)⟩
theorem Vec.rdw {w0 : World} {H : Hp} {el : TypeId} {v : Value} {n : Nat} {cs : List Value} (hV : Vec H el 1 v n cs) : RdW w0 H v cs := by
  have hl : cs.length = n := by have := hV.len; omega
  rcases hV with ⟨rfl, h0, rfl⟩ | ⟨b, cap, q, rfl, hq, he, ht, h5, h6, h7, h8⟩
  · exact ⟨none, 0, rfl, by simp, fun j u hj => by simp at hj⟩
  · refine ⟨_, cap, by rw [hl], by omega, fun j u hj => ⟨_, rfl, fun w hw => ?_⟩⟩
    have hj2 : q.cells[j]? = some u := by
      rw [← ht, List.getElem?_take] at hj
      split at hj
      · exact hj
      · cases hj
    have := hw.cell hq hj2
    rwa [Addr.add0, Nat.zero_add]
theorem CellsAt.rdw {w0 : World} {H : Hp} {pa : Option Addr} {c : Nat} {g : List Value} {f : Nat → Value} (h : CellsAt w0 pa g.length f) (hc : g.length ≤ c) (hf : ∀ j u, g[j]? = some u → f j = u) : RdW w0 H (.slice pa g.length c) g := by
  refine ⟨pa, c, rfl, hc, fun j u hj => ?_⟩
  have hj' : j < g.length := by
    rcases Nat.lt_or_ge j g.length with h | h
    · exact h
    · rw [List.getElem?_eq_none h] at hj; cases hj
  obtain ⟨a, rfl⟩ := h.1.resolve_left (by omega)
  refine ⟨a, rfl, fun w hw => ?_⟩
  have hv := h.2 j hj'
  have := (hw.below.cell (World.block_lt_of_cell? w0 _ hv)).trans hv
  rw [hf j u hj] at this
  simpa [adr] using this
theorem RdW.suf {w0 : World} {H : Hp} {v : Value} {g : List Value} {k : Nat} (h : RdW w0 H v g) (hk : k ≤ g.length) : RdW w0 H (sufV v k) (g.drop k) := by
  obtain ⟨a, c, rfl, h2, h3⟩ := h
  rcases a with _ | ad
  · refine ⟨none, c - k, by simp [sufV], by simp; omega, fun j u hj => ?_⟩
    rw [List.getElem?_drop] at hj
    obtain ⟨_, e, _⟩ := h3 (k + j) u hj
    cases e
  · refine ⟨_, c - k, by simp only [sufV, List.length_drop]; rfl, by simp; omega, fun j u hj => ?_⟩
    rw [List.getElem?_drop] at hj
    have hj' : k + j < g.length := by
      rcases Nat.lt_or_ge (k + j) g.length with h | h
      · exact h
      · rw [List.getElem?_eq_none h] at hj; cases hj
    obtain ⟨ad', e, e2⟩ := h3 (k + j) u hj
    cases e
    refine ⟨_, rfl, fun w hw => ?_⟩
    rw [if_neg (by omega), Addr.add_add]
    exact e2 w hw
theorem RdW.pre {w0 : World} {H : Hp} {v : Value} {g : List Value} {k : Nat} (h : RdW w0 H v g) (hk : k ≤ g.length) : RdW w0 H (preV v k) (g.take k) := by
  obtain ⟨a, c, rfl, h2, h3⟩ := h
  have hl : (g.take k).length = k := by simp; omega
  refine ⟨a, c, by rw [hl]; rfl, by omega, fun j u hj => ?_⟩
  rw [List.getElem?_take] at hj
  split at hj
  · exact h3 j u hj
  · cases hj
section
variable {P : Program} {w0 : World} {ρ : Operand → Value} {H H0 : Hp} {d : Option Tmp} {ty : TypeId} {pos : String} {af : Array Edge} {g : Option (Nat × Bool)} {x y : Operand} {v : Value} {l : List Value}
theorem q_lenW {t e : TypeId} (hR : RdW w0 H v l) (ht : P.underlying t = some (.slice e)) (hx : ρ x = v) : QS P w0 ρ ⟨d, .call { callee := .builtin .len, args := #[x], argTypes := #[t] }, ty, pos, af, g⟩ H (.int .i64 (l.length : Int)) := by
  obtain ⟨a, c, rfl, _, _⟩ := hR
  exact q_lenV ht hx
theorem q_lenWN {t e : TypeId} {k : IntKind} {xs : List Int} (hR : RdW w0 H v (nums k xs)) (ht : P.underlying t = some (.slice e)) (hx : ρ x = v) : QS P w0 ρ ⟨d, .call { callee := .builtin .len, args := #[x], argTypes := #[t] }, ty, pos, af, g⟩ H (.int .i64 (xs.length : Int)) := by
  have := q_lenW (d := d) (ty := ty) (pos := pos) (af := af) (g := g) hR ht hx
  rwa [nums_length] at this
theorem q_indexW {t e : TypeId} {i : Operand} {k : IntKind} {n : Int} (hR : RdW w0 H v l) (ht : P.underlying t = some (.slice e)) (hs : sizeT P e = some 1) (hx : ρ x = v) (hi : ρ i = .int k n) (h0 : 0 ≤ n) (h1 : n < l.length) :
    QS P w0 ρ ⟨d, .indexAddr t x i, ty, pos, af, g⟩ H (vptr v n.toNat) := by
  obtain ⟨a, c, rfl, _, h3⟩ := hR
  obtain ⟨ad, rfl, _⟩ := h3 n.toNat (l[n.toNat]'(by omega)) (List.getElem?_eq_getElem _)
  exact QS.of_run fun w _ => by simp [execOp, Instr.indexAt, asIntOf, hx, hi, run_underlying ht, h0, h1, run_sizeT hs, vptr]
theorem q_loadW {t : TypeId} {j : Nat} {u : Value} (hR : RdW w0 H v l) (ht : scalT P t = true) (hx : ρ x = vptr v j) (hj : l[j]? = some u) : QS P w0 ρ ⟨d, .load t x, ty, pos, af, g⟩ H u := by
  obtain ⟨a, c, rfl, _, h3⟩ := hR
  obtain ⟨ad, rfl, h4⟩ := h3 j u hj
  exact QS.of_run fun w ho => by simp [execOp, Instr.loadAt, Instr.sureAddr, hx, vptr, loadVar, run_isAgg_scal ht, h4 w ho]
theorem q_loadWN {t : TypeId} {j : Nat} {k : IntKind} {xs : List Int} (hR : RdW w0 H v (nums k xs)) (ht : scalT P t = true) (hx : ρ x = vptr v j) (hj : j < xs.length) : QS P w0 ρ ⟨d, .load t x, ty, pos, af, g⟩ H (.int k (xs.getD j 0)) := q_loadW hR ht hx (nums_get k xs hj)
theorem q_loadWS {t : TypeId} {j : Nat} {ss : List (List UInt8)} (hR : RdW w0 H v (strs ss)) (ht : scalT P t = true) (hx : ρ x = vptr v j) (hj : j < ss.length) : QS P w0 ρ ⟨d, .load t x, ty, pos, af, g⟩ H (S (ss.getD j [])) := q_loadW hR ht hx (strs_get ss hj)
theorem q_loadWB {t : TypeId} {j : Nat} {bs : List UInt8} (hR : RdW w0 H v (nums .u8 (ofB bs))) (ht : scalT P t = true) (hx : ρ x = vptr v j) (hj : j < bs.length) : QS P w0 ρ ⟨d, .load t x, ty, pos, af, g⟩ H (BV (bs.getD j 0)) := by
  have := q_loadWN (w0 := w0) (d := d) (ty := ty) (pos := pos) (af := af) (g := g) hR ht hx (by rw [ofB_length]; exact hj)
  rwa [ofB_getD] at this
theorem q_sufW {t e : TypeId} {lo : Operand} {k : IntKind} {a : Int} (hR : RdW w0 H v l) (ht : P.underlying t = some (.slice e)) (hs : sizeT P e = some 1) (hx : ρ x = v) (ha : ρ lo = .int k a) (h0 : 0 ≤ a) (h1 : a ≤ l.length) :
    QS P w0 ρ ⟨d, .slice t x (some lo) none none, ty, pos, af, g⟩ H (sufV v a.toNat) := by
  obtain ⟨ad, c, rfl, h2, h3⟩ := hR
  rcases ad with _ | ad
  · exact q_sliceV_lo_none ht hs hx ha h0 h1
  · exact q_sliceV_lo_some ht hs hx ha h0 h1
theorem q_preW {t e : TypeId} {hi : Operand} {k : IntKind} {a : Int} (hR : RdW w0 H v l) (ht : P.underlying t = some (.slice e)) (hs : sizeT P e = some 1) (hx : ρ x = v) (ha : ρ hi = .int k a) (h0 : 0 ≤ a) (h1 : a ≤ l.length) :
    QS P w0 ρ ⟨d, .slice t x none (some hi) none, ty, pos, af, g⟩ H (preV v a.toNat) := by
  obtain ⟨ad, c, rfl, h2, h3⟩ := hR
  exact q_sliceV_hi ht hs hx ha h0 (by omega)
end
theorem SeqD.ms {P : Program} {w0 : World} {n : Nat} {H : Hp} {ops : Array Oper} {Q : Post} {e : Env} {R : Value → Hp → Prop} {c0 k i : Nat} {op : Op} {ty : TypeId} {pos : String} {af : Array Edge} {l : List Oper} {D : Hp → Prop}
    (h : OpR P w0 (ev e) ⟨none, op, ty, pos, af, none⟩ H R) (hk : ∀ v H1, R v H1 → D H1 ∧ SeqR2 P w0 n ops Q H1 k l e) : SeqD P w0 n ops Q H c0 k i 0 (⟨none, op, ty, pos, af, none⟩ :: l) e D := ⟨rfl, rfl, R, h, hk⟩
theorem nums_drop' (k : IntKind) (xs : List Int) (n : Nat) : (nums k xs).drop n = nums k (xs.drop n) := by simp [nums, List.map_drop]
theorem nums_take' (k : IntKind) (xs : List Int) (n : Nat) : (nums k xs).take n = nums k (xs.take n) := by simp [nums, List.map_take]
theorem RdW.sufN {w0 : World} {H : Hp} {v : Value} {k : IntKind} {xs : List Int} {n : Nat} (h : RdW w0 H v (nums k xs)) (hk : n ≤ xs.length) : RdW w0 H (sufV v n) (nums k (xs.drop n)) := by
  rw [← nums_drop']; exact h.suf (by rw [nums_length]; exact hk)
theorem RdW.preN {w0 : World} {H : Hp} {v : Value} {k : IntKind} {xs : List Int} {n : Nat} (h : RdW w0 H v (nums k xs)) (hk : n ≤ xs.length) : RdW w0 H (preV v n) (nums k (xs.take n)) := by
  rw [← nums_take']; exact h.pre (by rw [nums_length]; exact hk)
end Go.Proofs.Ytfiojlmccflplaa.D
