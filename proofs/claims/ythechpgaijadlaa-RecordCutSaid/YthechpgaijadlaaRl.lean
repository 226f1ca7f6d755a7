/-
  The statements of chapter 15 that need no seal: a record's frame, and the records read from pieces, are what the document says; however bytes are cut, the same records are read. No condition: whatever the input.
-/
import Derived.Test.YthechpgaijadlaaRows
import Derived.Test.YthechpgaijadlaaRt
import Derived.Test.YthechpgaijadlaaDR
namespace Go.Proofs.Ythechpgaijadlaa
open Go Go.RowKit Go.ChangeShapes Go.WideShapes Go.ChangeAt D
set_option linter.unusedVariables false
set_option maxRecDepth 100000
theorem own : ownKnob Try.prog.godebug = none := by kernel_rfl
theorem laidOut : laidOutB Try.prog = true := by kernel_rfl

theorem recordFrames_lifted (os : Os) (started : os.Started) (H : Type) (enc : TypeId × Value → H) :
    ReturnsInHanded {} Try.checked os 3 .any (Rows.recordFramesSpec.pre6 enc Try.prog Try.f3 Rows.recordFramesRow.domain false) (Rows.recordFramesSpec.post enc Try.prog Try.f3 false true false false) := by
  refine lifted (C := Try.checked) own started (by kernel_rfl) Try.func3
    (ChangeSpec.witness6 (enc := enc) (C := Try.checked) false ⟨#[], #[.int .i64 0, .string ⟨#[]⟩], []⟩ 8 (by kernel_rfl) (by kernel_rfl) (by kernel_rfl) (by kernel_rfl)) laidOut (by kernel_rfl) rfl (by kernel_rfl) Try.underlying4 ?_ ?_
  · intro ds h
    obtain ⟨d0, d1, rfl⟩ := len2 h
    exact ⟨rfl, rfl, rfl⟩
  · intro W base args ds gs before hval0 hW _
    have hval : ∀ (j : Nat) t v, Try.f3.params[j]? = some t → args[j]? = some v → Value.okWide Try.prog W .any base t v := hval0
    obtain ⟨p_, q_, hA0, hV, rfl, _, _⟩ := hW
    have hA : DataW.TrodAll enc Try.prog W 0 (fun _ => true) true Try.f3.params.toList args.toList ds p_ := hA0
    rw [Try.params3] at hA hval
    obtain ⟨v0, v1, d0, d1, p0_, p1_, rfl, rfl, rfl, h0, h1⟩ := trodAll_two hA
    obtain ⟨kind, rfl, lo_kind, hi_kind⟩ := open_i64 Try.underlying3 (hval 0 _ v0 rfl rfl) h0
    obtain ⟨body, rfl, hl_body, rfl⟩ := open_str Try.underlying9 (hval 1 _ v1 rfl rfl) h1
    exact (frames_con kind body).mono fun v H' h => h.1

theorem recordFrames_holds : Rows.RecordFramesSaid :=
  OpenClaim.holds_of_wide 3 Try.f3 rfl rfl rfl rfl rfl rfl rfl ⟨rfl, rfl, rfl, rfl, rfl⟩ rfl rfl rfl rfl rfl (by kernel_rfl) Try.func3 (by kernel_rfl)
    (of_decide_eq_true (by kernel_rfl)) (by unfold Func.isWrapper; first | (rw [if_pos (by decide +kernel)]; kernel_rfl) | (rw [if_neg (by decide +kernel)]; exact ⟨rfl, rfl⟩))
    (fun os started H enc _ => recordFrames_lifted os started H enc)

theorem recordReads_lifted (os : Os) (started : os.Started) (H : Type) (enc : TypeId × Value → H) :
    ReturnsInHanded {} Try.checked os 4 .any (Rows.recordReadsSpec.pre6 enc Try.prog Try.f4 Rows.recordReadsRow.domain false) (Rows.recordReadsSpec.post enc Try.prog Try.f4 false true false false) := by
  refine lifted (C := Try.checked) own started (by kernel_rfl) Try.func4
    (ChangeSpec.witness6 (enc := enc) (C := Try.checked) false ⟨#[], #[.slice none 0 0, .slice none 0 0], []⟩ 8 (by kernel_rfl) (by kernel_rfl) (by kernel_rfl) (by kernel_rfl)) laidOut (by kernel_rfl) rfl (by kernel_rfl) Try.underlying4 ?_ ?_
  · intro ds h
    obtain ⟨d0, d1, rfl⟩ := len2 h
    exact ⟨rfl, rfl, rfl⟩
  · intro W base args ds gs before hval0 hW _
    have hval : ∀ (j : Nat) t v, Try.f4.params[j]? = some t → args[j]? = some v → Value.okWide Try.prog W .any base t v := hval0
    obtain ⟨p_, q_, hA0, hV, rfl, _, _⟩ := hW
    have hA : DataW.TrodAll enc Try.prog W 0 (fun _ => true) true Try.f4.params.toList args.toList ds p_ := hA0
    rw [Try.params4] at hA hval
    obtain ⟨v0, v1, d0, d1, p0_, p1_, rfl, rfl, rfl, h0, h1⟩ := trodAll_two hA
    obtain ⟨pa, ca, a, rfl, hpa, hma, hla⟩ := open_strsO Try.underlying27 Try.underlying9 (by kernel_rfl) (hval 0 _ v0 rfl rfl) h0
    obtain ⟨pb, cb, b, rfl, hpb, hmb, hzb⟩ := open_bytesO Try.underlying28 Try.underlying5 (by kernel_rfl) (hval 1 _ v1 rfl rfl) h1
    exact (reads_con a b hpa hpb hzb hma).mono fun v H' h => h.1

theorem recordReads_holds : Rows.RecordReadsSaid :=
  OpenClaim.holds_of_wide 4 Try.f4 rfl rfl rfl rfl rfl rfl rfl ⟨rfl, rfl, rfl, rfl, rfl⟩ rfl rfl rfl rfl rfl (by kernel_rfl) Try.func4 (by kernel_rfl)
    (of_decide_eq_true (by kernel_rfl)) (by unfold Func.isWrapper; first | (rw [if_pos (by decide +kernel)]; kernel_rfl) | (rw [if_neg (by decide +kernel)]; exact ⟨rfl, rfl⟩))
    (fun os started H enc _ => recordReads_lifted os started H enc)

theorem recordCut_lifted (os : Os) (started : os.Started) (H : Type) (enc : TypeId × Value → H) :
    ReturnsInHanded {} Try.checked os 5 .any (Rows.recordCutSpec.pre6 enc Try.prog Try.f5 Rows.recordCutRow.domain false) (Rows.recordCutSpec.post enc Try.prog Try.f5 false true false false) := by
  refine lifted (C := Try.checked) own started (by kernel_rfl) Try.func5
    (ChangeSpec.witness6 (enc := enc) (C := Try.checked) false ⟨#[], #[.slice none 0 0, .slice none 0 0], []⟩ 8 (by kernel_rfl) (by kernel_rfl) (by kernel_rfl) (by kernel_rfl)) laidOut (by kernel_rfl) rfl (by kernel_rfl) Try.underlying4 ?_ ?_
  · intro ds h
    obtain ⟨d0, d1, rfl⟩ := len2 h
    exact ⟨rfl, rfl, rfl⟩
  · intro W base args ds gs before hval0 hW _
    have hval : ∀ (j : Nat) t v, Try.f5.params[j]? = some t → args[j]? = some v → Value.okWide Try.prog W .any base t v := hval0
    obtain ⟨p_, q_, hA0, hV, rfl, _, _⟩ := hW
    have hA : DataW.TrodAll enc Try.prog W 0 (fun _ => true) true Try.f5.params.toList args.toList ds p_ := hA0
    rw [Try.params5] at hA hval
    obtain ⟨v0, v1, d0, d1, p0_, p1_, rfl, rfl, rfl, h0, h1⟩ := trodAll_two hA
    obtain ⟨pa, ca, a, rfl, hpa, hma, hla⟩ := open_strsO Try.underlying27 Try.underlying9 (by kernel_rfl) (hval 0 _ v0 rfl rfl) h0
    obtain ⟨pb, cb, b, rfl, hpb, hmb, hzb⟩ := open_bytesO Try.underlying28 Try.underlying5 (by kernel_rfl) (hval 1 _ v1 rfl rfl) h1
    exact (cut_con a b hpa hpb hzb hmb).mono fun v H' h => h.1

theorem recordCut_holds : Rows.RecordCutSaid :=
  OpenClaim.holds_of_wide 5 Try.f5 rfl rfl rfl rfl rfl rfl rfl ⟨rfl, rfl, rfl, rfl, rfl⟩ rfl rfl rfl rfl rfl (by kernel_rfl) Try.func5 (by kernel_rfl)
    (of_decide_eq_true (by kernel_rfl)) (by unfold Func.isWrapper; first | (rw [if_pos (by decide +kernel)]; kernel_rfl) | (rw [if_neg (by decide +kernel)]; exact ⟨rfl, rfl⟩))
    (fun os started H enc _ => recordCut_lifted os started H enc)
end Go.Proofs.Ythechpgaijadlaa
