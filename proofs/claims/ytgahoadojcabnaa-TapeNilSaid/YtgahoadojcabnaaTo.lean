/-
  The statements of chapter 22: a tape does, call by call, what the document's does; what was synced is there behind any crash; a Cut lets the first bytes stay; a nil tape has nothing. No condition: whatever the input.
-/
import Derived.Test.YtgahoadojcabnaaRows
import Derived.Test.YtgahoadojcabnaaTm
import Derived.Test.YtgahoadojcabnaaDR
namespace Go.Proofs.Ytgahoadojcabnaa
open Go Go.RowKit Go.ChangeShapes Go.WideShapes Go.ChangeAt D
set_option linter.unusedVariables false
set_option maxRecDepth 100000
theorem own : ownKnob Try.prog.godebug = none := by kernel_rfl
theorem laidOut : laidOutB Try.prog = true := by kernel_rfl

theorem tapeLasts_lifted (os : Os) (started : os.Started) (H : Type) (enc : TypeId × Value → H) :
    ReturnsInHanded {} Try.checked os 3 .any (Rows.tapeLastsSpec.pre6 enc Try.prog Try.f3 Rows.tapeLastsRow.domain false) (Rows.tapeLastsSpec.post enc Try.prog Try.f3 false true false false) := by
  refine lifted (C := Try.checked) own started (by kernel_rfl) Try.func3
    (ChangeSpec.witness6 (enc := enc) (C := Try.checked) false ⟨#[], #[.string ⟨#[]⟩, .slice none 0 0, .agg #[.int .i64 0, .int .i64 0]], []⟩ 8 (by kernel_rfl) (by kernel_rfl) (by kernel_rfl) (by kernel_rfl)) laidOut (by kernel_rfl) rfl (by kernel_rfl) Try.underlying4 ?_ ?_
  · intro ds h
    obtain ⟨d0, d1, d2, rfl⟩ := len3 h
    exact ⟨rfl, rfl, rfl⟩
  · intro W base args ds gs before hval0 hW _
    have hval : ∀ (j : Nat) t v, Try.f3.params[j]? = some t → args[j]? = some v → Value.okWide Try.prog W .any base t v := hval0
    obtain ⟨p_, q_, hA0, hV, rfl, _, _⟩ := hW
    have hA : DataW.TrodAll enc Try.prog W 0 (fun _ => true) true Try.f3.params.toList args.toList ds p_ := hA0
    rw [Try.params3] at hA hval
    obtain ⟨v0, v1, v2, d0, d1, d2, p0_, p1_, p2_, rfl, rfl, rfl, h0, h1, h2⟩ := trodAll_three hA
    obtain ⟨f, rfl, hl_f, rfl⟩ := open_str Try.underlying9 (hval 0 _ v0 rfl rfl) h0
    obtain ⟨pa, ca, a, rfl, hpa, hma, hla⟩ := open_strsO Try.underlying22 Try.underlying9 (by kernel_rfl) (hval 1 _ v1 rfl rfl) h1
    obtain ⟨xsc, rfl, hxc, hwc⟩ := open_arrI (n := 2) Try.underlying23 Try.underlying3 (by kernel_rfl) (by kernel_rfl) (hval 2 _ v2 rfl rfl) h2
    obtain ⟨c0, c1, rfl⟩ := len2 hxc
    have hw0c := wf_i64 (hwc c0 (by simp))
    exact (lasts_con f a c0 c1 hpa hw0c.2).mono fun v H' h => h.1

theorem tapeLasts_holds : Rows.TapeLastsSaid :=
  OpenClaim.holds_of_wide 3 Try.f3 rfl rfl rfl rfl rfl rfl rfl ⟨rfl, rfl, rfl, rfl, rfl⟩ rfl rfl rfl rfl rfl (by kernel_rfl) Try.func3 (by kernel_rfl)
    (of_decide_eq_true (by kernel_rfl)) (by unfold Func.isWrapper; first | (rw [if_pos (by decide +kernel)]; kernel_rfl) | (rw [if_neg (by decide +kernel)]; exact ⟨rfl, rfl⟩))
    (fun os started H enc _ => tapeLasts_lifted os started H enc)

theorem tapeCut_lifted (os : Os) (started : os.Started) (H : Type) (enc : TypeId × Value → H) :
    ReturnsInHanded {} Try.checked os 4 .any (Rows.tapeCutSpec.pre6 enc Try.prog Try.f4 Rows.tapeCutRow.domain false) (Rows.tapeCutSpec.post enc Try.prog Try.f4 false true false false) := by
  refine lifted (C := Try.checked) own started (by kernel_rfl) Try.func4
    (ChangeSpec.witness6 (enc := enc) (C := Try.checked) false ⟨#[], #[.string ⟨#[]⟩, .int .i64 0], []⟩ 8 (by kernel_rfl) (by kernel_rfl) (by kernel_rfl) (by kernel_rfl)) laidOut (by kernel_rfl) rfl (by kernel_rfl) Try.underlying4 ?_ ?_
  · intro ds h
    obtain ⟨d0, d1, rfl⟩ := len2 h
    exact ⟨rfl, rfl, rfl⟩
  · intro W base args ds gs before hval0 hW _
    have hval : ∀ (j : Nat) t v, Try.f4.params[j]? = some t → args[j]? = some v → Value.okWide Try.prog W .any base t v := hval0
    obtain ⟨p_, q_, hA0, hV, rfl, _, _⟩ := hW
    have hA : DataW.TrodAll enc Try.prog W 0 (fun _ => true) true Try.f4.params.toList args.toList ds p_ := hA0
    rw [Try.params4] at hA hval
    obtain ⟨v0, v1, d0, d1, p0_, p1_, rfl, rfl, rfl, h0, h1⟩ := trodAll_two hA
    obtain ⟨s, rfl, hl_s, rfl⟩ := open_str Try.underlying9 (hval 0 _ v0 rfl rfl) h0
    obtain ⟨n, rfl, lo_n, hi_n⟩ := open_i64 Try.underlying3 (hval 1 _ v1 rfl rfl) h1
    exact (cut_con s n).mono fun v H' h => h.1

theorem tapeCut_holds : Rows.TapeCutSaid :=
  OpenClaim.holds_of_wide 4 Try.f4 rfl rfl rfl rfl rfl rfl rfl ⟨rfl, rfl, rfl, rfl, rfl⟩ rfl rfl rfl rfl rfl (by kernel_rfl) Try.func4 (by kernel_rfl)
    (of_decide_eq_true (by kernel_rfl)) (by unfold Func.isWrapper; first | (rw [if_pos (by decide +kernel)]; kernel_rfl) | (rw [if_neg (by decide +kernel)]; exact ⟨rfl, rfl⟩))
    (fun os started H enc _ => tapeCut_lifted os started H enc)

theorem tapePlays_lifted (os : Os) (started : os.Started) (H : Type) (enc : TypeId × Value → H) :
    ReturnsInHanded {} Try.checked os 5 .any (Rows.tapePlaysSpec.pre6 enc Try.prog Try.f5 Rows.tapePlaysRow.domain false) (Rows.tapePlaysSpec.post enc Try.prog Try.f5 false true false false) := by
  refine lifted (C := Try.checked) own started (by kernel_rfl) Try.func5
    (ChangeSpec.witness6 (enc := enc) (C := Try.checked) false ⟨#[], #[.int .i64 0, .slice none 0 0], []⟩ 8 (by kernel_rfl) (by kernel_rfl) (by kernel_rfl) (by kernel_rfl)) laidOut (by kernel_rfl) rfl (by kernel_rfl) Try.underlying4 ?_ ?_
  · intro ds h
    obtain ⟨d0, d1, rfl⟩ := len2 h
    exact ⟨rfl, rfl, rfl⟩
  · intro W base args ds gs before hval0 hW _
    have hval : ∀ (j : Nat) t v, Try.f5.params[j]? = some t → args[j]? = some v → Value.okWide Try.prog W .any base t v := hval0
    obtain ⟨p_, q_, hA0, hV, rfl, _, _⟩ := hW
    have hA : DataW.TrodAll enc Try.prog W 0 (fun _ => true) true Try.f5.params.toList args.toList ds p_ := hA0
    rw [Try.params5] at hA hval
    obtain ⟨v0, v1, d0, d1, p0_, p1_, rfl, rfl, rfl, h0, h1⟩ := trodAll_two hA
    obtain ⟨n, rfl, lo_n, hi_n⟩ := open_i64 Try.underlying3 (hval 0 _ v0 rfl rfl) h0
    obtain ⟨rx, mx, cx, gx, rfl, hmx, hrx, htx⟩ := open_sliceT Try.underlying38 (hval 1 _ v1 rfl rfl) h1
    have hops : ∀ j, j < mx → ∃ x : OpS, gx j = opCells x ∧ (-9223372036854775808 ≤ x.n ∧ x.n ≤ 9223372036854775807) := fun j hj => by
      have hU := Try.underlying43
      have hl := ((htx j hj).struct hU).1
      rw [show Try.prog.cellsOf 43 = 4 by kernel_rfl] at hl
      obtain ⟨x0, x1, x2, x3, hx⟩ := len4 hl
      have hT := htx j hj
      rw [hx] at hT ⊢
      obtain ⟨a0, h0, _, _⟩ := (hT.part hU 0 0 1 3 rfl (by kernel_rfl)).i64 Try.underlying3
      obtain ⟨a1, h1, _⟩ := (hT.part hU 1 1 1 9 rfl (by kernel_rfl)).str Try.underlying9
      obtain ⟨a2, h2, lo2, hi2⟩ := (hT.part hU 2 2 1 3 rfl (by kernel_rfl)).i64 Try.underlying3
      obtain ⟨a3, h3⟩ := (hT.part hU 3 3 1 4 rfl (by kernel_rfl)).bool Try.underlying4
      simp at h0 h1 h2 h3
      exact ⟨⟨a0, a1, a2, a3⟩, by rw [h0, h1, h2, h3]; rfl, lo2, hi2⟩
    obtain ⟨ox, hRx, hOx⟩ := rows_of opCells _ (by rw [show Try.prog.cellsOf 43 = 4 by kernel_rfl] at hrx; exact hrx) ⟨0, [], 0, false⟩ hops
    exact (plays_con n ox hRx hmx hOx).mono fun v H' h => h.1

theorem tapePlays_holds : Rows.TapePlaysSaid :=
  OpenClaim.holds_of_wide 5 Try.f5 rfl rfl rfl rfl rfl rfl rfl ⟨rfl, rfl, rfl, rfl, rfl⟩ rfl rfl rfl rfl rfl (by kernel_rfl) Try.func5 (by kernel_rfl)
    (of_decide_eq_true (by kernel_rfl)) (by unfold Func.isWrapper; first | (rw [if_pos (by decide +kernel)]; kernel_rfl) | (rw [if_neg (by decide +kernel)]; exact ⟨rfl, rfl⟩))
    (fun os started H enc _ => tapePlays_lifted os started H enc)

theorem tapeNil_lifted (os : Os) (started : os.Started) (H : Type) (enc : TypeId × Value → H) :
    ReturnsInHanded {} Try.checked os 6 .any (Rows.tapeNilSpec.pre6 enc Try.prog Try.f6 Rows.tapeNilRow.domain false) (Rows.tapeNilSpec.post enc Try.prog Try.f6 false true false false) := by
  refine lifted (C := Try.checked) own started (by kernel_rfl) Try.func6
    (ChangeSpec.witness6 (enc := enc) (C := Try.checked) false ⟨#[], #[.string ⟨#[]⟩, .int .i64 0], []⟩ 8 (by kernel_rfl) (by kernel_rfl) (by kernel_rfl) (by kernel_rfl)) laidOut (by kernel_rfl) rfl (by kernel_rfl) Try.underlying4 ?_ ?_
  · intro ds h
    obtain ⟨d0, d1, rfl⟩ := len2 h
    exact ⟨rfl, rfl, rfl⟩
  · intro W base args ds gs before hval0 hW _
    have hval : ∀ (j : Nat) t v, Try.f6.params[j]? = some t → args[j]? = some v → Value.okWide Try.prog W .any base t v := hval0
    obtain ⟨p_, q_, hA0, hV, rfl, _, _⟩ := hW
    have hA : DataW.TrodAll enc Try.prog W 0 (fun _ => true) true Try.f6.params.toList args.toList ds p_ := hA0
    rw [Try.params6] at hA hval
    obtain ⟨v0, v1, d0, d1, p0_, p1_, rfl, rfl, rfl, h0, h1⟩ := trodAll_two hA
    obtain ⟨s, rfl, hl_s, rfl⟩ := open_str Try.underlying9 (hval 0 _ v0 rfl rfl) h0
    obtain ⟨n, rfl, lo_n, hi_n⟩ := open_i64 Try.underlying3 (hval 1 _ v1 rfl rfl) h1
    exact (nil_con s n).mono fun v H' h => h.1

theorem tapeNil_holds : Rows.TapeNilSaid :=
  OpenClaim.holds_of_wide 6 Try.f6 rfl rfl rfl rfl rfl rfl rfl ⟨rfl, rfl, rfl, rfl, rfl⟩ rfl rfl rfl rfl rfl (by kernel_rfl) Try.func6 (by kernel_rfl)
    (of_decide_eq_true (by kernel_rfl)) (by unfold Func.isWrapper; first | (rw [if_pos (by decide +kernel)]; kernel_rfl) | (rw [if_neg (by decide +kernel)]; exact ⟨rfl, rfl⟩))
    (fun os started H enc _ => tapeNil_lifted os started H enc)
end Go.Proofs.Ytgahoadojcabnaa
