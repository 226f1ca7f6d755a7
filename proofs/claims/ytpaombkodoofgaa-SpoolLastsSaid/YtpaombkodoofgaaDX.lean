/-
  Arguments: a list of whole numbers, however it lies.
-/
import Derived.Test.YtpaombkodoofgaaDW
import Derived.Test.YtpaombkodoofgaaDR
namespace Go.Proofs.Ytpaombkodoofgaa.D
open Go Go.RowKit Go.ChangeShapes Go.WideShapes Go.ChangeAt
set_option linter.unusedVariables false
set_option linter.unusedSimpArgs false
section
variable {Hh : Type} {enc : TypeId × Value → Hh} {P : Program} {W : World}
theorem open_intsW {r : Reach} {b0 base : Nat} {sp : Nat → Bool} {hd : Bool} {t e : TypeId} {v : Value} {d : DataW Hh} {ps : List MemPlace} (ht : P.underlying t = some (.slice e)) (he : P.underlying e = some (.int .i64)) (hc : P.cellsOf e = 1)
    (hval : Value.okWide P W r b0 t v) (h : DataW.Trod enc P W base sp hd t v d ps) :
    ∃ (xs : List Int), (∀ H : Hp, RdW W H v (nums .i64 xs)) ∧ xs.length ≤ maxLen ∧ ∀ j, -9223372036854775808 ≤ xs.getD j 0 ∧ xs.getD j 0 ≤ 9223372036854775807 := by
  obtain ⟨a, len, cap, rfl⟩ := okWide_slice ht hval
  obtain ⟨fuel, hf⟩ := h
  rcases open_ints ht he hc hf with ⟨h1, _⟩ | ⟨a', len', cap', zs, h1, hcap, hl, hm, hzl, _, hx, hw⟩
  · simp [Value.cells] at h1
    obtain ⟨rfl, rfl, rfl⟩ := h1
    exact ⟨[], fun H => ⟨none, 0, rfl, by simp [nums], fun j u hj => by simp [nums] at hj⟩, by simp, fun j => by simp⟩
  · simp [Value.cells] at h1
    obtain ⟨rfl, rfl, rfl⟩ := h1
    have hlm : len ≤ zs.length := by rw [hzl]; split <;> omega
    have hlt : (zs.take len).length = len := by simp; omega
    have hg : ∀ j, j < len → (zs.take len).getD j 0 = zs.getD j 0 := fun j hj => by simp [List.getElem?_take, hj]
    refine ⟨zs.take len, fun H => ?_, by simp; omega, fun j => ?_⟩
    · have hA : CellsAt W (some a') (nums .i64 (zs.take len)).length (fun j => .int .i64 (zs.getD j 0)) := ⟨.inr ⟨a', rfl⟩, fun j hj => hx j (by rw [nums_length] at hj; omega)⟩
      have := hA.rdw (H := H) (c := cap) (g := nums .i64 (zs.take len)) (by rw [nums_length]; omega) (fun j u hj => by
        have hj' : j < len := by
          rcases Nat.lt_or_ge j len with h | h
          · exact h
          · rw [List.getElem?_eq_none (by rw [nums_length]; omega)] at hj; cases hj
        rw [nums_get .i64 _ (by omega), hg j hj'] at hj
        cases hj; rfl)
      rwa [nums_length, hlt] at this
    · by_cases hj : j < len
      · rw [hg j hj]
        refine wf_i64 (hw _ ?_)
        rw [List.getD_eq_getElem?_getD, List.getElem?_eq_getElem (by omega)]
        simp
      · rw [List.getD_eq_getElem?_getD, List.getElem?_eq_none (by simp; omega)]; simp
end
end Go.Proofs.Ytpaombkodoofgaa.D
