/-
  A walk's rules: the heap and single cells. No condition.
-/
import Derived.Test.YtfiojlmccflplaaD1
namespace Go.Proofs.Ytfiojlmccflplaa.D
open Go Go.RowKit
set_option linter.unusedVariables false
set_option linter.unusedSimpArgs false
section
variable {P : Program} {w0 : World} {ρ : Operand → Value} {H : Hp} {d : Option Tmp} {ty : TypeId} {pos : String} {af : Array Edge} {g : Option (Nat × Bool)}

/-! ### what is owned -/
theorem Own.cell {w : World} {b j : Nat} {o : Blk} {v : Value} (h : Own w0 H w) (hb : H b = some o) (hv : o.cells[j]? = some v) : w.cell? ⟨b, j, none⟩ = some v := by
  rcases (h.fits b o hb).2 with ⟨e, c, fr, he, hc, _, _, _, hcs⟩ | ⟨h1, _⟩
  · simp [World.cell?, hc, hcs j v hv]
  · rw [h1] at hv; simp at hv
theorem Own.frozen {w : World} {b j : Nat} {o : Blk} (h : Own w0 H w) (hb : H b = some o) (hj : j < o.size) : w.frozen? ⟨b, j, none⟩ = false := by
  rcases (h.fits b o hb).2 with ⟨e, c, fr, he, hc, _, _, hfr, _⟩ | ⟨_, h1, _⟩
  · have := hfr j hj
    simp only [World.frozen?, hc]
    simpa using this
  · omega
theorem Own.len {w : World} {b : Nat} {o : Blk} (h : Own w0 H w) (hb : H b = some o) : o.cells.length ≤ o.size := by
  rcases (h.fits b o hb).2 with ⟨e, c, fr, _, _, _, hl, _⟩ | ⟨h1, h2, _⟩
  · exact hl
  · rw [h1, h2]; exact Nat.le_refl _
theorem Own.lt {w : World} {b : Nat} {o : Blk} (h : Own w0 H w) (hb : H b = some o) : b < w.heap.size := by
  rcases (h.fits b o hb).2 with ⟨e, c, fr, _, hc, _⟩ | ⟨_, _, es, l, k, _, hc, _⟩
  · exact (Array.getElem?_eq_some_iff.1 hc).1
  · exact (Array.getElem?_eq_some_iff.1 hc).1
theorem Own.fresh {w : World} (h : Own w0 H w) : H w.heap.size = none := by
  cases hb : H w.heap.size with
  | none => rfl
  | some o => exact absurd (h.lt hb) (Nat.lt_irrefl _)
theorem Own.drew {w : World} (h : Own w0 H w) : Own w0 H w.drew := ⟨h.below.drew, fun b o hb => h.fits b o hb⟩
theorem Own.of_heap {w w' : World} (h : Own w0 H w) (h1 : w'.heap = w.heap) (h2 : w'.os = w.os) (h3 : w'.tape = w.tape) (h4 : w'.output = w.output) : Own w0 H w' :=
  ⟨⟨h2.trans h.below.os, h3.trans h.below.tape, h4.trans h.below.output, by rw [h1]; exact h.below.size, fun k hk => by rw [h1]; exact h.below.block k hk⟩,
   fun b o hb => by have := h.fits b o hb; unfold Fits at *; rw [h1]; exact this⟩

theorem Hp.set_self {H : Hp} {b : Nat} {o : Blk} : (H.set b o) b = some o := by simp [Hp.set]
theorem Hp.set_ne {H : Hp} {b c : Nat} {o : Blk} (h : c ≠ b) : (H.set b o) c = H c := by simp [Hp.set, h]
theorem Hp.set_old {H : Hp} {b c : Nat} {o q : Blk} (hb : H b = none) (hc : H c = some q) : (H.set b o) c = some q := by
  rw [Hp.set_ne]; exact hc
  intro e; subst e; rw [hb] at hc; cases hc
theorem Hp.le_refl (H : Hp) : H.le H := fun _ _ h => h
theorem Hp.le_set {H H' : Hp} {b : Nat} {o : Blk} (hb : H b = none) (h : H.le H') : H.le (H'.set b o) := fun c q hc => by
  by_cases e : c = b
  · subst e; rw [hb] at hc; cases hc
  · rw [Hp.set_ne e]; exact h c q hc
theorem Hp.le_none {H H' : Hp} {b : Nat} (h : H.le H') (hb : H' b = none) : H b = none := by
  cases e : H b with
  | none => rfl
  | some o => rw [h b o e] at hb; cases hb

theorem Fits.of_eq {w w' : World} {b : Nat} {o : Blk} (h : Fits w b o) (hw : w'.heap[b]? = w.heap[b]?) : Fits w' b o := by
  unfold Fits at *; rw [hw]; exact h

theorem Own.alloc {w : World} (h : Own w0 H w) (cs : List Value) (cs' : Array Value) (hcs : cs'.toList = cs) (e : TypeId) (fr : Nat × Nat) (hfr : fr = (0, 0) ∨ cs.length ≤ fr.1) :
    Own w0 (H.set w.heap.size ⟨cs, cs.length, e⟩) (w.alloc (.cells cs' e fr)) := by
  subst hcs
  refine ⟨h.below.alloc h.below.size _, fun b o hb => ?_⟩
  by_cases hbe : b = w.heap.size
  · subst hbe
    rw [Hp.set_self] at hb
    obtain rfl := Option.some.inj hb
    refine ⟨h.below.size, .inl ⟨e, cs', fr, rfl, heap_alloc_new w _, by simp, by simp, ?_, ?_⟩⟩
    · intro j hj
      simp at hj hfr
      rcases hfr with rfl | hfr
      · simp
      · omega
    · intro j v hv; simpa using hv
  · rw [Hp.set_ne hbe] at hb
    have := h.fits b o hb
    exact ⟨this.1, this.2.of_eq (Below.heap_alloc w _ b (h.lt hb))⟩

theorem setCell_at (w : World) (b j : Nat) (v : Value) {c : Array Value} {e : TypeId} {fr : Nat × Nat} (h : w.heap[b]? = some (.cells c e fr)) :
    (w.setCell ⟨b, j, none⟩ v).heap[b]? = some (.cells (c.setIfInBounds j v) e fr) := by
  simp [World.setCell, Array.getElem?_modify, h]

theorem Own.setCell {w : World} {b j : Nat} {o : Blk} (h : Own w0 H w) (hb : H b = some o) (v : Value) :
    Own w0 (H.set b { o with cells := o.cells.set j v }) (w.setCell ⟨b, j, none⟩ v) := by
  have hbb := h.fits b o hb
  refine ⟨h.below.setCell hbb.1 v, fun b' o' hb' => ?_⟩
  by_cases hbe : b' = b
  · subst hbe
    rw [Hp.set_self] at hb'
    obtain rfl := Option.some.inj hb'
    obtain ⟨hle, ⟨e, c, fr, he, hc, hs, hl, hfr, hcs⟩ | ⟨m1, m2, es, l, k, m3, m4, m5⟩⟩ := hbb
    rotate_left
    · exact ⟨hle, .inr ⟨by simp [m1], m2, es, l, k, m3, by simp [World.setCell, Array.getElem?_modify, m4], m5⟩⟩
    refine ⟨hle, .inl ⟨e, c.setIfInBounds j v, fr, he, setCell_at w b' j v hc, by simpa using hs, by simpa using hl, hfr, ?_⟩⟩
    intro i u hu
    simp only [List.getElem?_set] at hu
    by_cases hij : j = i
    · subst hij
      simp at hu
      obtain ⟨hlt, rfl⟩ := hu
      have : j < c.size := by omega
      simp [this]
    · simp [hij] at hu
      rw [Array.getElem?_setIfInBounds_ne hij]
      exact hcs i u hu
  · rw [Hp.set_ne hbe] at hb'
    have := h.fits b' o' hb'
    exact ⟨this.1, this.2.of_eq (heap_setCell_other w ⟨b, j, none⟩ b' v hbe)⟩

/-- Cells o.cells[j ..] := vs. -/
def put (cs : List Value) (j : Nat) : List Value → List Value
  | [] => cs
  | v :: vs => put (cs.set j v) (j + 1) vs
theorem put_length (vs : List Value) : ∀ (cs : List Value) (j : Nat), (put cs j vs).length = cs.length := by
  induction vs with
  | nil => intros; rfl
  | cons v vs ih => intro cs j; simp [put, ih]

theorem Addr.add0 (b o j : Nat) : (⟨b, o, none⟩ : Addr).add j = ⟨b, o + j, none⟩ := by unfold Addr.add; split <;> simp_all

theorem Own.storeCells (vs : List Value) : ∀ {w : World} {H : Hp} {b j i : Nat} {o : Blk} (h : Own w0 H w) (hb : H b = some o) (hl : j + i + vs.length ≤ o.cells.length) (h1 : ∀ v ∈ vs, v.oneCell' = true),
    ∃ w', (storeCells ⟨b, j, none⟩ vs i).run P w = .ok () w' ∧ Own w0 (H.set b { o with cells := put o.cells (j + i) vs }) w' := by
  induction vs with
  | nil =>
    intro w H b j i o h hb _ _
    refine ⟨w, rfl, ⟨h.below, fun b' o' hb' => ?_⟩⟩
    by_cases e : b' = b
    · subst e
      rw [Hp.set_self] at hb'
      obtain rfl := Option.some.inj hb'
      exact h.fits b' o hb
    · rw [Hp.set_ne e] at hb'
      exact h.fits b' o' hb'
  | cons v vs ih =>
    intro w H b j i o h hb hl h1
    simp only [List.length_cons] at hl
    have hlt : j + i < o.cells.length := by omega
    have hc := h.cell (j := j + i) hb (List.getElem?_eq_getElem hlt)
    have hsz := h.len hb
    have hf := h.frozen (j := j + i) hb (by omega)
    have h2 := h.setCell (j := j + i) hb v
    have hl2 : j + (i + 1) + vs.length ≤ (o.cells.set (j + i) v).length := by simp; omega
    obtain ⟨w', hr, ho⟩ := ih (i := i + 1) (o := { o with cells := o.cells.set (j + i) v }) h2 Hp.set_self hl2 (fun u hu => h1 u (List.mem_cons_of_mem _ hu))
    refine ⟨w', ?_, ?_⟩
    · simp only [Go.storeCells, Sem.run_bind, Addr.add0, run_store P w _ v .plain (h1 v (List.mem_cons_self ..)), hc, hf]
      simpa using hr
    · refine ⟨ho.below, fun b' o' hb' => ?_⟩
      refine ho.fits b' o' ?_
      by_cases e : b' = b
      · subst e; rw [Hp.set_self] at hb' ⊢; simpa [put, Nat.add_assoc] using hb'
      · rw [Hp.set_ne e] at hb' ⊢; rw [Hp.set_ne e]; exact hb'

/-! ### types -/
def scalT (P : Program) (t : TypeId) : Bool := match P.underlying t with
  | some (.struct _) | some (.array _ _) | none => false
  | some _ => true
def aggT (P : Program) (t : TypeId) (n : Nat) : Bool := (match P.underlying t with
  | some (.struct _) | some (.array _ _) => true
  | _ => false) && ((P.info? t).map (·.size) == some n)
theorem run_isAgg_scal {t : TypeId} (h : scalT P t = true) (w : World) : (isAgg t).run P w = .ok false w := by
  unfold scalT at h
  cases hu : P.underlying t with
  | none => simp [hu] at h
  | some u => cases u <;> simp [hu] at h <;> simp [isAgg, run_underlying hu]
theorem aggT_size {t : TypeId} {n : Nat} (h : aggT P t n = true) (w : World) : (sizeOf t).run P w = .ok n w := by
  unfold aggT at h
  simp only [Bool.and_eq_true, beq_iff_eq] at h
  cases hi : P.info? t with
  | none => simp [hi] at h
  | some i => simp [hi] at h; simp [sizeOf, typeInfo, hi, h.2]
theorem run_isAgg_agg {t : TypeId} {n : Nat} (h : aggT P t n = true) (w : World) : (isAgg t).run P w = .ok true w := by
  unfold aggT at h
  simp only [Bool.and_eq_true] at h
  cases hu : P.underlying t with
  | none => simp [hu] at h
  | some u => cases u <;> simp [hu] at h <;> simp [isAgg, run_underlying hu]
def sizeT (P : Program) (t : TypeId) : Option Nat := (P.info? t).map (·.size)
theorem run_sizeT {t : TypeId} {n : Nat} (h : sizeT P t = some n) (w : World) : (sizeOf t).run P w = .ok n w := by
  unfold sizeT at h
  cases hi : P.info? t with
  | none => simp [hi] at h
  | some i => simp [hi] at h; simp [sizeOf, typeInfo, hi, h]

/-! ### reading and writing -/
theorem q_load {t : TypeId} {x : Operand} {b j : Nat} {o : Blk} {v : Value} (ht : scalT P t = true) (hx : ρ x = .pointer (some ⟨b, j, none⟩)) (hb : H b = some o) (hv : o.cells[j]? = some v) :
    QS P w0 ρ ⟨d, .load t x, ty, pos, af, g⟩ H v :=
  QS.of_run fun w ho => by simp [execOp, Instr.loadAt, Instr.sureAddr, hx, loadVar, run_isAgg_scal ht, ho.cell hb hv]
theorem q_loadOut {t : TypeId} {x : Operand} {b j : Nat} {v : Value} (ht : scalT P t = true) (hx : ρ x = .pointer (some ⟨b, j, none⟩)) (hv : w0.cell? ⟨b, j, none⟩ = some v) :
    QS P w0 ρ ⟨d, .load t x, ty, pos, af, g⟩ H v :=
  QS.of_run fun w ho => by
    have : w.cell? ⟨b, j, none⟩ = some v := (ho.below.cell (World.block_lt_of_cell? w0 _ hv)).trans hv
    simp [execOp, Instr.loadAt, Instr.sureAddr, hx, loadVar, run_isAgg_scal ht, this]
theorem run_loadCells_own {w : World} {b j n : Nat} {o : Blk} {cs : List Value} (h : Own w0 H w) (hb : H b = some o) (hcs : cs.length = n) (hv : ∀ (i : Nat) v, cs[i]? = some v → o.cells[j + i]? = some v) :
    (loadCells ⟨b, j, none⟩ n).run P w = .ok cs.toArray w := by
  subst hcs
  exact run_loadCells_list w ⟨b, j, none⟩ cs fun i v hi => by rw [Addr.add0]; exact h.cell hb (hv i v hi)
theorem q_loadA {t : TypeId} {n : Nat} {x : Operand} {b j : Nat} {o : Blk} {cs : List Value} (ht : aggT P t n = true) (hx : ρ x = .pointer (some ⟨b, j, none⟩)) (hb : H b = some o)
    (hcs : cs.length = n) (hv : ∀ (i : Nat) v, cs[i]? = some v → o.cells[j + i]? = some v) : QS P w0 ρ ⟨d, .load t x, ty, pos, af, g⟩ H (.agg cs.toArray) :=
  QS.of_run fun w ho => by simp [execOp, Instr.loadAt, Instr.sureAddr, hx, loadVar, run_isAgg_agg ht, aggT_size ht, run_loadCells_own ho hb hcs hv]
theorem q_loadA0 {t : TypeId} {n : Nat} {x : Operand} {b : Nat} {o : Blk} (ht : aggT P t n = true) (hx : ρ x = .pointer (some ⟨b, 0, none⟩)) (hb : H b = some o)
    (hcs : o.cells.length = n) : QS P w0 ρ ⟨d, .load t x, ty, pos, af, g⟩ H (.agg o.cells.toArray) :=
  q_loadA ht hx hb hcs (by simp)

theorem o_store {t : TypeId} {x y : Operand} {b j : Nat} {o : Blk} {v : Value} (ht : sizeT P t = some 1) (hx : ρ x = .pointer (some ⟨b, j, none⟩)) (hy : ρ y = v) (hv : v.oneCell' = true) (hb : H b = some o) (hj : j < o.cells.length) :
    OpR P w0 ρ ⟨d, .store t x y, ty, pos, af, g⟩ H (fun u H' => u = undef ∧ H' = H.set b { o with cells := o.cells.set j v }) := by
  intro w ho
  have hc := ho.cell (j := j) hb (List.getElem?_eq_getElem hj)
  have hsz := ho.len hb
  have hf := ho.frozen (j := j) hb (by omega)
  have hcells : v.cells = #[v] := by cases v <;> simp_all [Value.oneCell', Value.cells]
  have hst := run_store P w ⟨b, j, none⟩ v .plain hv
  have : (execOp ρ ⟨d, .store t x y, ty, pos, af, g⟩).run P w = .ok .skip (w.setCell ⟨b, j, none⟩ v) := by
    simp [execOp, Instr.storeAt, Instr.sureAddr, hx, hy, storeVar, hcells, run_sizeT ht, Go.storeCells, Addr.add0, hst, hc, hf]
  rw [this]
  exact ⟨_, ho.setCell hb v, rfl, rfl⟩
theorem o_storeA {t : TypeId} {n : Nat} {x y : Operand} {b j : Nat} {o : Blk} {cs : List Value} (ht : sizeT P t = some n) (hx : ρ x = .pointer (some ⟨b, j, none⟩)) (hy : ρ y = .agg cs.toArray) (hn : cs.length = n)
    (h1 : ∀ v ∈ cs, v.oneCell' = true) (hb : H b = some o) (hj : j + n ≤ o.cells.length) :
    OpR P w0 ρ ⟨d, .store t x y, ty, pos, af, g⟩ H (fun u H' => u = undef ∧ H' = H.set b { o with cells := put o.cells j cs }) := by
  intro w ho
  obtain ⟨w', hr, ho'⟩ := ho.storeCells (P := P) (i := 0) (j := j) cs hb (by omega) h1
  have : (execOp ρ ⟨d, .store t x y, ty, pos, af, g⟩).run P w = .ok .skip w' := by
    simp [execOp, Instr.storeAt, Instr.sureAddr, hx, hy, storeVar, Value.cells, run_sizeT ht, hn, hr]
  rw [this]
  exact ⟨_, ho', rfl, rfl⟩

/-! ### making -/
abbrev Made (H : Hp) (cs : List Value) (e : TypeId) (u : Value) (H' : Hp) : Prop := ∃ b, H b = none ∧ u = .pointer (some ⟨b, 0, none⟩) ∧ H' = H.set b ⟨cs, cs.length, e⟩
theorem o_box {t : TypeId} {x : Operand} {v : Value} {cs : List Value} (hx : ρ x = v) (hc : v.cells.toList = cs) :
    OpR P w0 ρ ⟨d, .box t x, ty, pos, af, g⟩ H (Made H cs t) := by
  intro w ho
  have : (execOp ρ ⟨d, .box t x, ty, pos, af, g⟩).run P w = .ok (.value (.pointer (some ⟨w.heap.size, 0, none⟩))) (w.alloc (.cells v.cells t (0, 0))) := by
    simp [execOp, Instr.box, hx, newVar, newRow]
  rw [this]
  exact ⟨_, ho.alloc cs _ hc t (0, 0) (.inl rfl), w.heap.size, ho.fresh, rfl, rfl⟩
def zeroT (P : Program) (t : TypeId) : Option Value := (P.info? t).bind (·.zero)
theorem run_zeroT {t : TypeId} {z : Value} (h : zeroT P t = some z) (w : World) : (zeroValue t).run P w = .ok z w := by
  unfold zeroT at h
  cases hi : P.info? t with
  | none => simp [hi] at h
  | some i => simp [hi] at h; simp [zeroValue, typeInfo, hi, h]
theorem o_alloc {t : TypeId} {z : Value} {cs : List Value} (hz : zeroT P t = some z) (hc : z.cells.toList = cs) :
    OpR P w0 ρ ⟨d, .alloc t, ty, pos, af, g⟩ H (Made H cs t) := by
  intro w ho
  have : (execOp ρ ⟨d, .alloc t, ty, pos, af, g⟩).run P w = .ok (.value (.pointer (some ⟨w.heap.size, 0, none⟩))) (w.alloc (.cells z.cells t (0, 0))) := by
    simp [execOp, Instr.alloc, run_zeroT hz, newVar, newRow]
  rw [this]
  exact ⟨_, ho.alloc cs _ hc t (0, 0) (.inl rfl), w.heap.size, ho.fresh, rfl, rfl⟩
end
end Go.Proofs.Ytfiojlmccflplaa.D
