/-
  Of chapter 24: a mark is how many messages a sender has. No condition: whatever the input.
-/
import Derived.Test.YtfiojlmccflplaaRows
import Derived.Test.YtfiojlmccflplaaWm
import Derived.Test.YtfiojlmccflplaaDR
namespace Go.Proofs.Ytfiojlmccflplaa
open Go Go.RowKit Go.ChangeShapes Go.WideShapes Go.ChangeAt D
set_option linter.unusedVariables false
set_option maxRecDepth 100000
theorem own : ownKnob Try.prog.godebug = none := by kernel_rfl
theorem laidOut : laidOutB Try.prog = true := by kernel_rfl

theorem len5 {α : Type} {l : List α} (h : l.length = 5) : ∃ a b c d e, l = [a, b, c, d, e] := by
  match l, h with
  | [a, b, c, d, e], _ => exact ⟨a, b, c, d, e, rfl⟩

theorem storeMarks_lifted (os : Os) (started : os.Started) (H : Type) (enc : TypeId × Value → H) :
    ReturnsInHanded {} Try.checked os 5 .any (Rows.storeMarksSpec.pre6 enc Try.prog Try.f5 Rows.storeMarksRow.domain false) (Rows.storeMarksSpec.post enc Try.prog Try.f5 false true false false) := by
  refine lifted (C := Try.checked) own started (by kernel_rfl) Try.func5
    (ChangeSpec.witness6 (enc := enc) (C := Try.checked) false ⟨#[], #[.slice none 0 0], []⟩ 8 (by kernel_rfl) (by kernel_rfl) (by kernel_rfl) (by kernel_rfl)) laidOut (by kernel_rfl) rfl (by kernel_rfl) Try.underlying4 ?_ ?_
  · intro ds h
    obtain ⟨d0, rfl⟩ := len1 h
    exact ⟨rfl, rfl, rfl⟩
  · intro W base args ds gs before hval0 hW _
    have hval : ∀ (j : Nat) t v, Try.f5.params[j]? = some t → args[j]? = some v → Value.okWide Try.prog W .any base t v := hval0
    obtain ⟨p_, q_, hA0, hV, rfl, _, _⟩ := hW
    have hA : DataW.TrodAll enc Try.prog W 0 (fun _ => true) true Try.f5.params.toList args.toList ds p_ := hA0
    rw [Try.params5] at hA hval
    obtain ⟨v0, d0, rfl, rfl, h0⟩ := trodAll_one hA
    obtain ⟨rx, mx, cx, gx, rfl, hmx, hrx, htx⟩ := open_sliceT Try.underlying31 (hval 0 _ v0 rfl rfl) h0
    have hops : ∀ j, j < mx → ∃ x : OpT, gx j = opCells5 x ∧ (-9223372036854775808 ≤ x.n ∧ x.n ≤ 9223372036854775807) ∧ (-9223372036854775808 ≤ x.who ∧ x.who ≤ 9223372036854775807) := fun j hj => by
      have hU := Try.underlying40
      have hl := ((htx j hj).struct hU).1
      rw [show Try.prog.cellsOf 40 = 5 by kernel_rfl] at hl
      obtain ⟨x0, x1, x2, x3, x4, hx⟩ := len5 hl
      have hT := htx j hj
      rw [hx] at hT ⊢
      obtain ⟨a0, h0, _, _⟩ := (hT.part hU 0 0 1 3 rfl (by kernel_rfl)).i64 Try.underlying3
      obtain ⟨a1, h1, lo1, hi1⟩ := (hT.part hU 1 1 1 3 rfl (by kernel_rfl)).i64 Try.underlying3
      obtain ⟨a2, h2, lo2, hi2⟩ := (hT.part hU 2 2 1 3 rfl (by kernel_rfl)).i64 Try.underlying3
      obtain ⟨a3, h3, _⟩ := (hT.part hU 3 3 1 9 rfl (by kernel_rfl)).str Try.underlying9
      obtain ⟨a4, h4⟩ := (hT.part hU 4 4 1 4 rfl (by kernel_rfl)).bool Try.underlying4
      simp at h0 h1 h2 h3 h4
      exact ⟨⟨a0, a1, a2, a3, a4⟩, by rw [h0, h1, h2, h3, h4]; rfl, ⟨lo2, hi2⟩, lo1, hi1⟩
    obtain ⟨ox, hRx, hOx⟩ := rows_of opCells5 _ (by rw [show Try.prog.cellsOf 40 = 5 by kernel_rfl] at hrx; exact hrx) ⟨0, 0, 0, [], false⟩ hops
    exact (marks_con ox hRx hmx (fun j hj => (hOx j hj).1)).mono fun v H' h => h.1

theorem storeMarks_holds : Rows.StoreMarksSaid :=
  OpenClaim.holds_of_wide 5 Try.f5 rfl rfl rfl rfl rfl rfl rfl ⟨rfl, rfl, rfl, rfl, rfl⟩ rfl rfl rfl rfl rfl (by kernel_rfl) Try.func5 (by kernel_rfl)
    (of_decide_eq_true (by kernel_rfl)) (by unfold Func.isWrapper; first | (rw [if_pos (by decide +kernel)]; kernel_rfl) | (rw [if_neg (by decide +kernel)]; exact ⟨rfl, rfl⟩))
    (fun os started H enc _ => storeMarks_lifted os started H enc)
end Go.Proofs.Ytfiojlmccflplaa
