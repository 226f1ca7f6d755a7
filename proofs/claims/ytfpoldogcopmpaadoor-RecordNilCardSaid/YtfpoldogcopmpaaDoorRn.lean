/-
  The statement about a nil reader and a nil box, and its tied card. No condition: whatever the input.
-/
import Derived.Test.YtfpoldogcopmpaaDoorRows
import Derived.Test.YtfpoldogcopmpaaDoorCards
import Derived.Test.YtfpoldogcopmpaaDoorTie
import Derived.Test.YtfpoldogcopmpaaDoorDL
import Derived.Test.YtfpoldogcopmpaaDoorRq
import Derived.Test.YtfpoldogcopmpaaDoorDR
namespace Go.Proofs.YtfpoldogcopmpaaDoor
open Go Go.RowKit Go.ChangeShapes Go.WideShapes Go.ChangeAt D
set_option linter.unusedVariables false
set_option maxRecDepth 100000
theorem own : ownKnob Tryd.prog.godebug = none := by kernel_rfl
theorem laidOut : laidOutB Tryd.prog = true := by kernel_rfl

theorem recordNil_lifted (os : Os) (started : os.Started) (H : Type) (enc : TypeId × Value → H) :
    ReturnsInHanded {} Tryd.checked os 3 .any (fun w args => (Rows.recordNilSpec.pre enc Tryd.prog Tryd.f3 Rows.recordNilRow.domain false w args ∧ laidMetH Tryd.prog Rows.recordNilRow.laid w) ∧ sizedMet enc Tryd.prog Tryd.f3 (OpenSpec.ofChange Rows.recordNilSpec) false w args) (Rows.recordNilSpec.post enc Tryd.prog Tryd.f3 false true false false) := by
  refine liftedL (C := Tryd.checked) (laid := Rows.recordNilRow.laid) own started (by kernel_rfl) Tryd.func3
    (ChangeSpec.witness_shaped (enc := enc) (C := Tryd.checked) (os := os) (X := fun w _ => laidMetH Tryd.prog Rows.recordNilRow.laid w) false (World.laidAll Tryd.prog os Rows.recordNilRow.laid) #[.string ⟨#[]⟩, .int .i64 0] 8 (World.laidAll_os _ _ _)
      (World.shaped_of_ZipB (by kernel_rfl) (by kernel_rfl)) (by kernel_rfl) (by kernel_rfl) (by kernel_rfl)
      (by rw [MakeChecks.laidMetH_plain _ _ _ (by kernel_rfl)]; exact laidMet_laidAll _ (by kernel_rfl) (by kernel_rfl))) laidOut (by kernel_rfl) rfl (by kernel_rfl) Tryd.underlying4 ?_ ?_
  · intro ds h
    obtain ⟨d0, d1, rfl⟩ := len2 h
    exact ⟨rfl, rfl, rfl⟩
  · intro W base args ds gs before hval0 hW _ hL
    have hval : ∀ (j : Nat) t v, Tryd.f3.params[j]? = some t → args[j]? = some v → Value.okWide Tryd.prog W .any base t v := hval0
    obtain ⟨p_, q_, hA0, hV, rfl, _, _⟩ := hW
    have hA : DataW.TrodAll enc Tryd.prog W 0 (fun _ => true) true Tryd.f3.params.toList args.toList ds p_ := hA0
    rw [Tryd.params3] at hA hval
    obtain ⟨v0, v1, d0, d1, p0_, p1_, rfl, rfl, rfl, h0, h1⟩ := trodAll_two hA
    obtain ⟨s, rfl, hl_s, rfl⟩ := open_str Tryd.underlying9 (hval 0 _ v0 rfl rfl) h0
    obtain ⟨n, rfl, lo_n, hi_n⟩ := open_i64 Tryd.underlying3 (hval 1 _ v1 rfl rfl) h1
    exact (nil_con s n).mono fun v H' h => h.1

theorem recordNil_holds : Rows.RecordNilSaid :=
  OpenClaim.holds_of_wide 3 Tryd.f3 rfl rfl rfl rfl rfl rfl rfl ⟨rfl, rfl, rfl, rfl, rfl⟩ rfl rfl rfl rfl rfl (by kernel_rfl) Tryd.func3 (by kernel_rfl)
    (of_decide_eq_true (by kernel_rfl)) (by unfold Func.isWrapper; first | (rw [if_pos (by decide +kernel)]; kernel_rfl) | (rw [if_neg (by decide +kernel)]; exact ⟨rfl, rfl⟩))
    (fun os started H enc _ => recordNil_lifted os started H enc)

theorem recordNil_card : Rows.RecordNilCardSaid :=
  Claim7.holds_tied_plain_at .later [] _ _ _ _ recordNil_holds (fun _ h => by cases h) (by kernel_rfl) (fun _ h => by cases h) recordNil_row_tie rfl ⟨rfl, rfl⟩ (by kernel_rfl) rfl
    (fun f fn hf hfn => by
      obtain rfl : f = 3 := Option.some.inj ((show Tryd.prog.funcNamed "cresset/cressetlaw15.RecordNil" = some 3 by kernel_rfl).symm.trans hf) |>.symm
      obtain rfl : fn = Tryd.f3 := (Option.some.inj (Tryd.func3.symm.trans hfn)).symm
      exact ⟨by kernel_rfl, fun j t ht => by
        have hall : (Tryd.f3.params.toList.all fun u => !Tryd.prog.wantsStandIn u) = true := by kernel_rfl
        have hm : t ∈ Tryd.f3.params.toList := Array.mem_toList_iff.2 (Array.mem_of_getElem? ht)
        exact (show Tryd.prog.wantsStandIn t = false by simpa using List.all_eq_true.1 hall t hm)⟩)
    (by kernel_rfl)
end Go.Proofs.YtfpoldogcopmpaaDoor
