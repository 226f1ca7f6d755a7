/-
  Of chapter 24: a nil store has nothing; where a chain comes to a head, or is broken. No condition: whatever the input.
-/
import Derived.Test.YtfiojlmccflplaaRows
import Derived.Test.YtfiojlmccflplaaWa
import Derived.Test.YtfiojlmccflplaaDR
namespace Go.Proofs.Ytfiojlmccflplaa
open Go Go.RowKit Go.ChangeShapes Go.WideShapes Go.ChangeAt D
set_option linter.unusedVariables false
set_option maxRecDepth 100000
theorem own : ownKnob Try.prog.godebug = none := by kernel_rfl
theorem laidOut : laidOutB Try.prog = true := by kernel_rfl

theorem storeNil_lifted (os : Os) (started : os.Started) (H : Type) (enc : TypeId × Value → H) :
    ReturnsInHanded {} Try.checked os 6 .any (Rows.storeNilSpec.pre6 enc Try.prog Try.f6 Rows.storeNilRow.domain false) (Rows.storeNilSpec.post enc Try.prog Try.f6 false true false false) := by
  refine lifted (C := Try.checked) own started (by kernel_rfl) Try.func6
    (ChangeSpec.witness6 (enc := enc) (C := Try.checked) false ⟨#[], #[.string ⟨#[]⟩, .int .i64 0], []⟩ 8 (by kernel_rfl) (by kernel_rfl) (by kernel_rfl) (by kernel_rfl)) laidOut (by kernel_rfl) rfl (by kernel_rfl) Try.underlying4 ?_ ?_
  · intro ds h
    obtain ⟨d0, d1, rfl⟩ := len2 h
    exact ⟨rfl, rfl, rfl⟩
  · intro W base args ds gs before hval0 hW _
    have hval : ∀ (j : Nat) t v, Try.f6.params[j]? = some t → args[j]? = some v → Value.okWide Try.prog W .any base t v := hval0
    obtain ⟨p_, q_, hA0, hV, rfl, _, _⟩ := hW
    have hA : DataW.TrodAll enc Try.prog W 0 (fun _ => true) true Try.f6.params.toList args.toList ds p_ := hA0
    rw [Try.params6] at hA hval
    obtain ⟨v0, v1, d0, d1, p0_, p1_, rfl, rfl, rfl, h0, h1⟩ := trodAll_two hA
    obtain ⟨s, rfl, hl_s, rfl⟩ := open_str Try.underlying9 (hval 0 _ v0 rfl rfl) h0
    obtain ⟨n, rfl, lo_n, hi_n⟩ := open_i64 Try.underlying3 (hval 1 _ v1 rfl rfl) h1
    exact (stnil_con s n).mono fun v H' h => h.1

theorem storeNil_holds : Rows.StoreNilSaid :=
  OpenClaim.holds_of_wide 6 Try.f6 rfl rfl rfl rfl rfl rfl rfl ⟨rfl, rfl, rfl, rfl, rfl⟩ rfl rfl rfl rfl rfl (by kernel_rfl) Try.func6 (by kernel_rfl)
    (of_decide_eq_true (by kernel_rfl)) (by unfold Func.isWrapper; first | (rw [if_pos (by decide +kernel)]; kernel_rfl) | (rw [if_neg (by decide +kernel)]; exact ⟨rfl, rfl⟩))
    (fun os started H enc _ => storeNil_lifted os started H enc)

theorem storeVerifies_lifted (os : Os) (started : os.Started) (H : Type) (enc : TypeId × Value → H) :
    ReturnsInHanded {} Try.checked os 3 .any (Rows.storeVerifiesSpec.pre6 enc Try.prog Try.f3 Rows.storeVerifiesRow.domain false) (Rows.storeVerifiesSpec.post enc Try.prog Try.f3 false true false false) := by
  refine lifted (C := Try.checked) own started (by kernel_rfl) Try.func3
    (ChangeSpec.witness6 (enc := enc) (C := Try.checked) false ⟨#[], #[.string ⟨#[]⟩, .string ⟨#[]⟩], []⟩ 8 (by kernel_rfl) (by kernel_rfl) (by kernel_rfl) (by kernel_rfl)) laidOut (by kernel_rfl) rfl (by kernel_rfl) Try.underlying4 ?_ ?_
  · intro ds h
    obtain ⟨d0, d1, rfl⟩ := len2 h
    exact ⟨rfl, rfl, rfl⟩
  · intro W base args ds gs before hval0 hW _
    have hval : ∀ (j : Nat) t v, Try.f3.params[j]? = some t → args[j]? = some v → Value.okWide Try.prog W .any base t v := hval0
    obtain ⟨p_, q_, hA0, hV, rfl, _, _⟩ := hW
    have hA : DataW.TrodAll enc Try.prog W 0 (fun _ => true) true Try.f3.params.toList args.toList ds p_ := hA0
    rw [Try.params3] at hA hval
    obtain ⟨v0, v1, d0, d1, p0_, p1_, rfl, rfl, rfl, h0, h1⟩ := trodAll_two hA
    obtain ⟨s, rfl, hl_s, rfl⟩ := open_str Try.underlying9 (hval 0 _ v0 rfl rfl) h0
    obtain ⟨x, rfl, hl_x, rfl⟩ := open_str Try.underlying9 (hval 1 _ v1 rfl rfl) h1
    exact (verifies_con s x).mono fun v H' h => h.1

theorem storeVerifies_holds : Rows.StoreVerifiesSaid :=
  OpenClaim.holds_of_wide 3 Try.f3 rfl rfl rfl rfl rfl rfl rfl ⟨rfl, rfl, rfl, rfl, rfl⟩ rfl rfl rfl rfl rfl (by kernel_rfl) Try.func3 (by kernel_rfl)
    (of_decide_eq_true (by kernel_rfl)) (by unfold Func.isWrapper; first | (rw [if_pos (by decide +kernel)]; kernel_rfl) | (rw [if_neg (by decide +kernel)]; exact ⟨rfl, rfl⟩))
    (fun os started H enc _ => storeVerifies_lifted os started H enc)
end Go.Proofs.Ytfiojlmccflplaa
