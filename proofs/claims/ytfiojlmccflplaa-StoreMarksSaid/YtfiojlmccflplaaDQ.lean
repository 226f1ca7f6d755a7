/-
  Arguments that lie in memory: slices of any elements, structs in them; and the rules that read them. No condition.
-/
import Derived.Test.YtfiojlmccflplaaDR
import Derived.Test.YtfiojlmccflplaaDS
import Derived.DataElems
import Derived.OpenShut
namespace Go.Proofs.Ytfiojlmccflplaa.D
open Go Go.RowKit Go.ChangeShapes Go.WideShapes Go.ChangeAt Go.ChangeMaps
set_option linter.unusedVariables false
set_option linter.unusedSimpArgs false
/-- Elements of sz cells each, that were there before the call. -/
def RowsAt (w0 : World) (pa : Option Addr) (m sz : Nat) (g : Nat → List Value) : Prop :=
  (m = 0 ∨ ∃ a, pa = some a) ∧ ∀ j, j < m → (g j).length = sz ∧ ∀ (i : Nat) v, (g j)[i]? = some v → w0.cell? (adr pa (j * sz + i)) = some v
theorem adr_add (a : Addr) (m n : Nat) : (adr (some a) m).add n = adr (some a) (m + n) := Addr.add_add a m n
section
variable {H : Type} {enc : TypeId × Value → H} {P : Program} {W : World}
/-- Cells read as a value of a type. -/
def Trd (enc : TypeId × Value → H) (P : Program) (W : World) (base : Nat) (sp : Nat → Bool) (hd : Bool) (t : TypeId) (cs : List Value) : Prop := ∃ n y, DataW.trod enc P W base sp hd n t cs = some y
variable {base : Nat} {sp : Nat → Bool} {hd : Bool} {t e : TypeId} {cs : List Value}
theorem Trd.str (h : Trd enc P W base sp hd t cs) (ht : P.underlying t = some .string) : ∃ l : List UInt8, cs = [S l] ∧ l.length ≤ maxLen := by
  obtain ⟨n, y, h⟩ := h
  obtain ⟨s, rfl, _, hs⟩ := DataW.trod_string ht h
  exact ⟨s.data.toList, by rw [S, str_of], hs⟩
theorem Trd.i64 (h : Trd enc P W base sp hd t cs) (ht : P.underlying t = some (.int .i64)) : ∃ n : Int, cs = [.int .i64 n] ∧ -9223372036854775808 ≤ n ∧ n ≤ 9223372036854775807 := by
  obtain ⟨n, y, h⟩ := h
  obtain ⟨z, rfl, _, hz⟩ := DataW.trod_int ht h
  exact ⟨z, rfl, wf_i64 hz⟩
theorem Trd.u8 (h : Trd enc P W base sp hd t cs) (ht : P.underlying t = some (.int .u8)) : ∃ n : Int, cs = [.int .u8 n] ∧ 0 ≤ n ∧ n ≤ 255 := by
  obtain ⟨n, y, h⟩ := h
  obtain ⟨z, rfl, _, hz⟩ := DataW.trod_int ht h
  exact ⟨z, rfl, wf_u8 hz⟩
theorem Trd.bool (h : Trd enc P W base sp hd t cs) (ht : P.underlying t = some .bool) : ∃ b : Bool, cs = [.bool b] := by
  obtain ⟨n, y, h⟩ := h
  obtain ⟨b, rfl, _⟩ := DataW.trod_bool ht h
  exact ⟨b, rfl⟩
theorem Trd.struct {fs : Array Field} (h : Trd enc P W base sp hd t cs) (ht : P.underlying t = some (.struct fs)) :
    cs.length = P.cellsOf t ∧ ∀ (i : Nat) (f : Field), fs[i]? = some f → Trd enc P W base sp hd f.type ((cs.drop f.offset).take (P.cellsOf f.type)) := by
  obtain ⟨n, y, h⟩ := h
  obtain ⟨xs, m, _, _, hl, hlen, hff⟩ := DataW.trod_struct ht h
  refine ⟨hl, fun i f hi => ?_⟩
  have hi' : i < xs.length := by
    have := (Array.getElem?_eq_some_iff.1 hi).1
    simpa [hlen] using this
  exact ⟨m, _, (hff i f (by simpa using hi)).trans (List.getElem?_eq_getElem hi')⟩
theorem Trd.part {fs : Array Field} (h : Trd enc P W base sp hd t cs) (ht : P.underlying t = some (.struct fs)) (i o sz : Nat) (ft : TypeId) (hf : (fs[i]?).map (fun f => (f.offset, f.type)) = some (o, ft)) (hc : P.cellsOf ft = sz) :
    Trd enc P W base sp hd ft ((cs.drop o).take sz) := by
  cases hi : fs[i]? with
  | none => rw [hi] at hf; cases hf
  | some f =>
    rw [hi] at hf
    simp at hf
    obtain ⟨rfl, rfl⟩ := hf
    subst hc
    exact (h.struct ht).2 i f hi
theorem Trd.array {n : Nat} (h : Trd enc P W base sp hd t cs) (ht : P.underlying t = some (.array n e)) :
    cs.length = P.cellsOf t ∧ ∀ i, i < n → Trd enc P W base sp hd e ((cs.drop (i * P.cellsOf e)).take (P.cellsOf e)) := by
  obtain ⟨k, y, h⟩ := h
  obtain ⟨xs, m, _, _, hl, hlen, hff⟩ := DataW.trod_array ht h
  exact ⟨hl, fun i hi => ⟨m, _, (hff i hi).trans (List.getElem?_eq_getElem (by omega))⟩⟩
theorem Trd.slice (h : Trd enc P W base sp hd t cs) (ht : P.underlying t = some (.slice e)) :
    ∃ (pa : Option Addr) (len cap : Nat) (g : Nat → List Value), cs = [.slice pa len cap] ∧ len ≤ maxLen ∧ RowsAt W pa len (P.cellsOf e) g ∧ ∀ j, j < len → Trd enc P W base sp hd e (g j) := by
  obtain ⟨n, y, h⟩ := h
  rcases DataW.trod_slice ht h with ⟨rfl, _⟩ | ⟨a, len, cap, elems, rest, m, _, rfl, _, _, hlc, hcm, hel, hx, _⟩
  · exact ⟨none, 0, 0, fun _ => [], rfl, by simp, ⟨.inl rfl, fun j hj => by omega⟩, fun j hj => by omega⟩
  · have each : ∀ i, i < len → ∃ ec, W.cells? base (a.add (i * P.cellsOf e)) (P.cellsOf e) = some ec ∧ Trd enc P W base sp hd e ec := fun i hi => by
      have h1 := hx i hi
      rw [List.getElem?_eq_getElem (by omega)] at h1
      obtain ⟨ec, h2, h3⟩ := Option.bind_eq_some_iff.1 h1
      exact ⟨ec, h2, m, _, h3⟩
    have hch : ∀ i, ∃ ec, i < len → W.cells? base (a.add (i * P.cellsOf e)) (P.cellsOf e) = some ec ∧ Trd enc P W base sp hd e ec := fun i => by
      by_cases hi : i < len
      · obtain ⟨ec, h⟩ := each i hi; exact ⟨ec, fun _ => h⟩
      · exact ⟨[], fun h => absurd h hi⟩
    refine ⟨some a, len, cap, fun i => Classical.choose (hch i), rfl, by omega, ⟨.inr ⟨a, rfl⟩, fun j hj => ?_⟩, fun j hj => (Classical.choose_spec (hch j) hj).2⟩
    have hc := (Classical.choose_spec (hch j) hj).1
    have hs := World.cells?_some hc
    refine ⟨hs.2.1, fun i v hi => ?_⟩
    show W.cell? ((some a).getD ⟨0, 0, none⟩ |>.add (j * P.cellsOf e + i)) = some v
    rw [← hi, Option.getD_some, ← Addr.add_add]
    exact hs.2.2 i (Nat.lt_of_lt_of_eq (List.getElem?_eq_some_iff.1 hi).1 hs.2.1)
theorem Trd.of {v : Value} {d : DataW H} {ps : List MemPlace} (h : DataW.Trod enc P W base sp hd t v d ps) : Trd enc P W base sp hd t v.cells.toList := by
  obtain ⟨n, h⟩ := h
  exact ⟨n, _, h⟩
/-- A struct argument: its cells. -/
theorem open_structT {r : Reach} {b0 : Nat} {fs : Array Field} {v : Value} {d : DataW H} {ps : List MemPlace} (ht : P.underlying t = some (.struct fs)) (hval : Value.okWide P W r b0 t v) (h : DataW.Trod enc P W base sp hd t v d ps) :
    ∃ cs : List Value, v = .agg cs.toArray ∧ Trd enc P W base sp hd t cs := by
  obtain ⟨cs, rfl, hsz⟩ := okWide_struct ht hval
  exact ⟨cs.toList, by simp, Trd.of h⟩
theorem open_sliceT {r : Reach} {b0 : Nat} {v : Value} {d : DataW H} {ps : List MemPlace} (ht : P.underlying t = some (.slice e)) (hval : Value.okWide P W r b0 t v) (h : DataW.Trod enc P W base sp hd t v d ps) :
    ∃ (pa : Option Addr) (len cap : Nat) (g : Nat → List Value), v = .slice pa len cap ∧ len ≤ maxLen ∧ RowsAt W pa len (P.cellsOf e) g ∧ ∀ j, j < len → Trd enc P W base sp hd e (g j) := by
  obtain ⟨a, len, cap, rfl⟩ := okWide_slice ht hval
  obtain ⟨pa, l, c, g, h1, h2, h3, h4⟩ := (Trd.of h).slice ht
  simp [Value.cells] at h1
  obtain ⟨rfl, rfl, rfl⟩ := h1
  exact ⟨a, len, cap, g, rfl, h2, h3, h4⟩
theorem Trd.ints {n : Nat} {k : IntKind} (h : Trd enc P W base sp hd t cs) (ht : P.underlying t = some (.array n e)) (he : P.underlying e = some (.int k)) (hc : P.cellsOf e = 1) (hs : P.cellsOf t = n) :
    ∃ xs : List Int, cs = nums k xs ∧ xs.length = n ∧ ∀ x ∈ xs, (Lit.int k x).wf = true := by
  obtain ⟨hl, hx⟩ := h.array ht
  rw [hs] at hl
  have each : ∀ i, ∃ x, i < n → cs[i]? = some (.int k x) ∧ (Lit.int k x).wf = true := fun i => by
    by_cases hi : i < n
    · obtain ⟨m, y, h1⟩ := hx i hi
      obtain ⟨x, h2, _, h3⟩ := DataW.trod_int he h1
      rw [hc, Nat.mul_one] at h2
      refine ⟨x, fun _ => ⟨?_, h3⟩⟩
      have := congrArg (·[0]?) h2
      simpa [List.getElem?_take] using this
    · exact ⟨0, fun h => absurd h hi⟩
  refine ⟨(List.range n).map fun i => Classical.choose (each i), ?_, by simp, ?_⟩
  · apply List.ext_getElem?
    intro i
    by_cases hi : i < n
    · rw [((Classical.choose_spec (each i)) hi).1]; simp [nums, hi]
    · rw [List.getElem?_eq_none (by omega), List.getElem?_eq_none (by simp [nums_length]; omega)]
  · intro x hx
    simp only [List.mem_map, List.mem_range] at hx
    obtain ⟨i, hi, rfl⟩ := hx
    exact ((Classical.choose_spec (each i)) hi).2
/-- An array argument of numbers. -/
theorem open_arrI {r : Reach} {b0 n : Nat} {k : IntKind} {v : Value} {d : DataW H} {ps : List MemPlace} (ht : P.underlying t = some (.array n e)) (he : P.underlying e = some (.int k)) (hc : P.cellsOf e = 1) (hs : P.cellsOf t = n) (hval : Value.okWide P W r b0 t v) (h : DataW.Trod enc P W base sp hd t v d ps) :
    ∃ xs : List Int, v = .agg (nums k xs).toArray ∧ xs.length = n ∧ ∀ x ∈ xs, (Lit.int k x).wf = true := by
  have hv : ∃ cs, v = .agg cs := by
    simp only [Value.okWide, ht] at hval
    obtain ⟨cs, h1, _⟩ := hval
    exact ⟨cs, h1⟩
  obtain ⟨cs, rfl⟩ := hv
  obtain ⟨xs, h1, h2, h3⟩ := (Trd.of h).ints ht he hc hs
  have h4 : cs.toList = nums k xs := h1
  exact ⟨xs, by rw [← h4], h2, h3⟩
theorem RowsAt.congr {pa : Option Addr} {m sz : Nat} {g g' : Nat → List Value} (h : RowsAt W pa m sz g) (he : ∀ j, j < m → g j = g' j) : RowsAt W pa m sz g' :=
  ⟨h.1, fun j hj => by rw [← he j hj]; exact h.2 j hj⟩
/-- Rows of a struct, element by element. -/
theorem rows_of {α : Type} {pa : Option Addr} {m sz : Nat} {g : Nat → List Value} (cells : α → List Value) (ok : α → Prop) (hR : RowsAt W pa m sz g) (x0 : α) (h : ∀ j, j < m → ∃ x : α, g j = cells x ∧ ok x) :
    ∃ o : Nat → α, RowsAt W pa m sz (fun j => cells (o j)) ∧ ∀ j, j < m → ok (o j) := by
  have hch : ∀ j, ∃ x : α, j < m → g j = cells x ∧ ok x := fun j => by
    by_cases hj : j < m
    · obtain ⟨x, hx⟩ := h j hj; exact ⟨x, fun _ => hx⟩
    · exact ⟨x0, fun h => absurd h hj⟩
  refine ⟨fun j => Classical.choose (hch j), RowsAt.congr hR (fun j hj => ((Classical.choose_spec (hch j)) hj).1), fun j hj => ((Classical.choose_spec (hch j)) hj).2⟩
end
section
variable {P : Program} {w0 : World} {ρ : Operand → Value} {H : Hp} {d : Option Tmp} {ty : TypeId} {pos : String} {af : Array Edge} {g : Option (Nat × Bool)}
theorem q_indexAddrR {t e : TypeId} {m c sz : Nat} {x i : Operand} {pa : Option Addr} {k : IntKind} {n : Int} {f : Nat → List Value} (ht : P.underlying t = some (.slice e)) (hs : sizeT P e = some sz)
    (hx : ρ x = .slice pa m c) (hi : ρ i = .int k n) (h0 : 0 ≤ n) (h1 : n < m) (hA : RowsAt w0 pa m sz f) : QS P w0 ρ ⟨d, .indexAddr t x i, ty, pos, af, g⟩ H (.pointer (some (adr pa (n.toNat * sz)))) := by
  obtain ⟨a, rfl⟩ := hA.1.resolve_left (by omega)
  exact QS.of_run fun w _ => by simp [execOp, Instr.indexAt, asIntOf, hx, hi, run_underlying ht, h0, h1, run_sizeT hs, adr]
theorem q_loadR {t : TypeId} {sz m : Nat} {x : Operand} {pa : Option Addr} {j : Nat} {f : Nat → List Value} (ht : aggT P t sz = true) (hx : ρ x = .pointer (some (adr pa (j * sz)))) (hA : RowsAt w0 pa m sz f) (hj : j < m) :
    QS P w0 ρ ⟨d, .load t x, ty, pos, af, g⟩ H (.agg (f j).toArray) := by
  obtain ⟨a, rfl⟩ := hA.1.resolve_left (by omega)
  obtain ⟨hl, hc⟩ := hA.2 j hj
  exact QS.of_run fun w ho => by
    have : (loadCells (adr (some a) (j * sz)) sz).run P w = .ok (f j).toArray w := by
      rw [← hl]
      exact run_loadCells_list w _ (f j) fun i v hi => by
        have h3 := hc i v hi
        have : adr (some a) (j * (f j).length + i) = (adr (some a) (j * (f j).length)).add i := (adr_add a _ i).symm
        rw [← hl] at h3
        rw [this] at h3
        exact (ho.below.cell (World.block_lt_of_cell? w0 _ h3)).trans h3
    simp [execOp, Instr.loadAt, Instr.sureAddr, hx, loadVar, run_isAgg_agg ht, aggT_size ht, this]
/-- A part of an element. -/
theorem q_fieldAddrR {t : TypeId} {fs : Array Field} {f : Field} {m sz j : Nat} {x : Operand} {pa : Option Addr} (ht : P.underlying t = some (.struct fs)) (hf : fs[m]? = some f) (hs : sizeT P f.type = some (sz + 1))
    (ha : ∃ a, pa = some a) (hx : ρ x = .pointer (some (adr pa j))) : QS P w0 ρ ⟨d, .fieldAddr t x m, ty, pos, af, g⟩ H (.pointer (some (adr pa (j + f.offset)))) := by
  obtain ⟨a, rfl⟩ := ha
  exact QS.of_run fun w _ => by
    rw [← adr_add]
    simp [execOp, Instr.fieldAt, hx, run_underlying ht, hf, Instr.sureAddr, fieldPlace, run_sizeT hs]
theorem q_loadRF {t : TypeId} {x : Operand} {pa : Option Addr} {m sz j i : Nat} {f : Nat → List Value} {v : Value} (ht : scalT P t = true) (hx : ρ x = .pointer (some (adr pa (j * sz + i)))) (hA : RowsAt w0 pa m sz f) (hj : j < m) (hv : (f j)[i]? = some v) :
    QS P w0 ρ ⟨d, .load t x, ty, pos, af, g⟩ H v := by
  have hc := (hA.2 j hj).2 i v hv
  exact QS.of_run fun w ho => by
    have h2 : w.cell? (adr pa (j * sz + i)) = some v := (ho.below.cell (World.block_lt_of_cell? w0 _ hc)).trans hc
    simp [execOp, Instr.loadAt, Instr.sureAddr, hx, loadVar, run_isAgg_scal ht, h2]
end
end Go.Proofs.Ytfiojlmccflplaa.D
