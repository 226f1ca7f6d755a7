/-
  Of chapter 23: a nil spool has nothing; there are never more messages than there is room for. No condition: whatever the input.
-/
import Derived.Test.YtpaombkodoofgaaRows
import Derived.Test.YtpaombkodoofgaaSw
import Derived.Test.YtpaombkodoofgaaDR
namespace Go.Proofs.Ytpaombkodoofgaa
open Go Go.RowKit Go.ChangeShapes Go.WideShapes Go.ChangeAt D
set_option linter.unusedVariables false
set_option maxRecDepth 100000
theorem own : ownKnob Try.prog.godebug = none := by kernel_rfl
theorem laidOut : laidOutB Try.prog = true := by kernel_rfl

theorem spoolNil_lifted (os : Os) (started : os.Started) (H : Type) (enc : TypeId × Value → H) :
    ReturnsInHanded {} Try.checked os 3 .any (Rows.spoolNilSpec.pre6 enc Try.prog Try.f3 Rows.spoolNilRow.domain false) (Rows.spoolNilSpec.post enc Try.prog Try.f3 false true false false) := by
  refine lifted (C := Try.checked) own started (by kernel_rfl) Try.func3
    (ChangeSpec.witness6 (enc := enc) (C := Try.checked) false ⟨#[], #[.string ⟨#[]⟩, .int .i64 0], []⟩ 8 (by kernel_rfl) (by kernel_rfl) (by kernel_rfl) (by kernel_rfl)) laidOut (by kernel_rfl) rfl (by kernel_rfl) Try.underlying4 ?_ ?_
  · intro ds h
    obtain ⟨d0, d1, rfl⟩ := len2 h
    exact ⟨rfl, rfl, rfl⟩
  · intro W base args ds gs before hval0 hW _
    have hval : ∀ (j : Nat) t v, Try.f3.params[j]? = some t → args[j]? = some v → Value.okWide Try.prog W .any base t v := hval0
    obtain ⟨p_, q_, hA0, hV, rfl, _, _⟩ := hW
    have hA : DataW.TrodAll enc Try.prog W 0 (fun _ => true) true Try.f3.params.toList args.toList ds p_ := hA0
    rw [Try.params3] at hA hval
    obtain ⟨v0, v1, d0, d1, p0_, p1_, rfl, rfl, rfl, h0, h1⟩ := trodAll_two hA
    obtain ⟨s, rfl, hl_s, rfl⟩ := open_str Try.underlying9 (hval 0 _ v0 rfl rfl) h0
    obtain ⟨n, rfl, lo_n, hi_n⟩ := open_i64 Try.underlying3 (hval 1 _ v1 rfl rfl) h1
    exact (spnil_con s n).mono fun v H' h => h.1

theorem spoolNil_holds : Rows.SpoolNilSaid :=
  OpenClaim.holds_of_wide 3 Try.f3 rfl rfl rfl rfl rfl rfl rfl ⟨rfl, rfl, rfl, rfl, rfl⟩ rfl rfl rfl rfl rfl (by kernel_rfl) Try.func3 (by kernel_rfl)
    (of_decide_eq_true (by kernel_rfl)) (by unfold Func.isWrapper; first | (rw [if_pos (by decide +kernel)]; kernel_rfl) | (rw [if_neg (by decide +kernel)]; exact ⟨rfl, rfl⟩))
    (fun os started H enc _ => spoolNil_lifted os started H enc)

theorem spoolRoom_lifted (os : Os) (started : os.Started) (H : Type) (enc : TypeId × Value → H) :
    ReturnsInHanded {} Try.checked os 4 .any (Rows.spoolRoomSpec.pre6 enc Try.prog Try.f4 Rows.spoolRoomRow.domain false) (Rows.spoolRoomSpec.post enc Try.prog Try.f4 false true false false) := by
  refine lifted (C := Try.checked) own started (by kernel_rfl) Try.func4
    (ChangeSpec.witness6 (enc := enc) (C := Try.checked) false ⟨#[], #[.int .i64 0, .slice none 0 0], []⟩ 8 (by kernel_rfl) (by kernel_rfl) (by kernel_rfl) (by kernel_rfl)) laidOut (by kernel_rfl) rfl (by kernel_rfl) Try.underlying4 ?_ ?_
  · intro ds h
    obtain ⟨d0, d1, rfl⟩ := len2 h
    exact ⟨rfl, rfl, rfl⟩
  · intro W base args ds gs before hval0 hW _
    have hval : ∀ (j : Nat) t v, Try.f4.params[j]? = some t → args[j]? = some v → Value.okWide Try.prog W .any base t v := hval0
    obtain ⟨p_, q_, hA0, hV, rfl, _, _⟩ := hW
    have hA : DataW.TrodAll enc Try.prog W 0 (fun _ => true) true Try.f4.params.toList args.toList ds p_ := hA0
    rw [Try.params4] at hA hval
    obtain ⟨v0, v1, d0, d1, p0_, p1_, rfl, rfl, rfl, h0, h1⟩ := trodAll_two hA
    obtain ⟨n, rfl, lo_n, hi_n⟩ := open_i64 Try.underlying3 (hval 0 _ v0 rfl rfl) h0
    obtain ⟨rx, mx, cx, gx, rfl, hmx, hrx, htx⟩ := open_sliceT Try.underlying35 (hval 1 _ v1 rfl rfl) h1
    have hops : ∀ j, j < mx → ∃ x : OpS, gx j = opCells x ∧ (-9223372036854775808 ≤ x.n ∧ x.n ≤ 9223372036854775807) := fun j hj => by
      have hU := Try.underlying40
      have hl := ((htx j hj).struct hU).1
      rw [show Try.prog.cellsOf 40 = 4 by kernel_rfl] at hl
      obtain ⟨x0, x1, x2, x3, hx⟩ := len4 hl
      have hT := htx j hj
      rw [hx] at hT ⊢
      obtain ⟨a0, h0, _, _⟩ := (hT.part hU 0 0 1 3 rfl (by kernel_rfl)).i64 Try.underlying3
      obtain ⟨a1, h1, _⟩ := (hT.part hU 1 1 1 9 rfl (by kernel_rfl)).str Try.underlying9
      obtain ⟨a2, h2, lo2, hi2⟩ := (hT.part hU 2 2 1 3 rfl (by kernel_rfl)).i64 Try.underlying3
      obtain ⟨a3, h3⟩ := (hT.part hU 3 3 1 4 rfl (by kernel_rfl)).bool Try.underlying4
      simp at h0 h1 h2 h3
      exact ⟨⟨a0, a1, a2, a3⟩, by rw [h0, h1, h2, h3]; rfl, lo2, hi2⟩
    obtain ⟨ox, hRx, hOx⟩ := rows_of opCells _ (by rw [show Try.prog.cellsOf 40 = 4 by kernel_rfl] at hrx; exact hrx) ⟨0, [], 0, false⟩ hops
    exact (room_con n ox hRx hmx).mono fun v H' h => h.1

theorem spoolRoom_holds : Rows.SpoolRoomSaid :=
  OpenClaim.holds_of_wide 4 Try.f4 rfl rfl rfl rfl rfl rfl rfl ⟨rfl, rfl, rfl, rfl, rfl⟩ rfl rfl rfl rfl rfl (by kernel_rfl) Try.func4 (by kernel_rfl)
    (of_decide_eq_true (by kernel_rfl)) (by unfold Func.isWrapper; first | (rw [if_pos (by decide +kernel)]; kernel_rfl) | (rw [if_neg (by decide +kernel)]; exact ⟨rfl, rfl⟩))
    (fun os started H enc _ => spoolRoom_lifted os started H enc)
end Go.Proofs.Ytpaombkodoofgaa
