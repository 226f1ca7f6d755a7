/-
  The statements of chapter 21: a message as a frame, the messages read from pieces, however bytes are cut. No condition: whatever the input.
-/
import Derived.Test.YtcmhdfbeepanlaaDoorRows
import Derived.Test.YtcmhdfbeepanlaaDoorCards
import Derived.Test.YtcmhdfbeepanlaaDoorTie
import Derived.Test.YtcmhdfbeepanlaaDoorDL
import Derived.LaidSub
import Derived.Test.YtcmhdfbeepanlaaDoorOl
import Derived.Test.YtcmhdfbeepanlaaDoorDR
namespace Go.Proofs.YtcmhdfbeepanlaaDoor
open Go Go.RowKit Go.ChangeShapes Go.WideShapes Go.ChangeAt D
set_option linter.unusedVariables false
set_option maxRecDepth 100000
theorem own : ownKnob Tryd.prog.godebug = none := by kernel_rfl
theorem laidOut : laidOutB Tryd.prog = true := by kernel_rfl

theorem tab_met {W : World} (hL : laidMetH Tryd.prog Rows.octetsFramesRow.laid W) : Lib.TabIs Tryd.prog W "internal/strconv.uint64pow10" .u64 Lib.pow10Tab := by
  rw [MakeChecks.laidMetH_plain _ _ _ (by kernel_rfl)] at hL
  have h2 := laidMet.filter (fun x => x.1 == "internal/strconv.uint64pow10") hL
  obtain ⟨g, hg⟩ : ∃ g, Tryd.prog.globalNamed "internal/strconv.uint64pow10" = some g := Option.isSome_iff_exists.1 (by kernel_rfl)
  have hb : ((Tryd.prog.globalNamed "internal/strconv.uint64pow10").bind fun g => (Tryd.prog.globals[g]?).map (·.type)) = some 73 := by kernel_rfl
  rw [hg] at hb
  exact Lib.tabIs_of_head hg hb Tryd.underlying73 Tryd.underlying53 (by kernel_rfl) (by kernel_rfl) h2

theorem octetsFrames_lifted (os : Os) (started : os.Started) (H : Type) (enc : TypeId × Value → H) :
    ReturnsInHanded {} Tryd.checked os 3 .any (fun w args => (Rows.octetsFramesSpec.pre enc Tryd.prog Tryd.f3 Rows.octetsFramesRow.domain false w args ∧ laidMetH Tryd.prog Rows.octetsFramesRow.laid w) ∧ sizedMet enc Tryd.prog Tryd.f3 (OpenSpec.ofChange Rows.octetsFramesSpec) false w args) (Rows.octetsFramesSpec.post enc Tryd.prog Tryd.f3 false true false false) := by
  refine liftedL (C := Tryd.checked) (laid := Rows.octetsFramesRow.laid) own started (by kernel_rfl) Tryd.func3
    (ChangeSpec.witness_shaped (enc := enc) (C := Tryd.checked) (os := os) (X := fun w _ => laidMetH Tryd.prog Rows.octetsFramesRow.laid w) false (World.laidAll Tryd.prog os Rows.octetsFramesRow.laid) #[.string ⟨#[]⟩] 8 (World.laidAll_os _ _ _)
      (World.shaped_of_ZipB (by kernel_rfl) (by kernel_rfl)) (by kernel_rfl) (by kernel_rfl) (by kernel_rfl)
      (by rw [MakeChecks.laidMetH_plain _ _ _ (by kernel_rfl)]; exact laidMet_laidAll _ (by kernel_rfl) (by kernel_rfl))) laidOut (by kernel_rfl) rfl (by kernel_rfl) Tryd.underlying4 ?_ ?_
  · intro ds h
    obtain ⟨d0, rfl⟩ := len1 h
    exact ⟨rfl, rfl, rfl⟩
  · intro W base args ds gs before hval0 hW _ hL
    have hval : ∀ (j : Nat) t v, Tryd.f3.params[j]? = some t → args[j]? = some v → Value.okWide Tryd.prog W .any base t v := hval0
    obtain ⟨p_, q_, hA0, hV, rfl, _, _⟩ := hW
    have hA : DataW.TrodAll enc Tryd.prog W 0 (fun _ => true) true Tryd.f3.params.toList args.toList ds p_ := hA0
    rw [Tryd.params3] at hA hval
    obtain ⟨v0, d0, rfl, rfl, h0⟩ := trodAll_one hA
    obtain ⟨s, rfl, hl_s, rfl⟩ := open_str Tryd.underlying9 (hval 0 _ v0 rfl rfl) h0
    exact (frames_con (tab_met hL) s).mono fun v H' h => h.1

theorem octetsFrames_holds : Rows.OctetsFramesSaid :=
  OpenClaim.holds_of_wide 3 Tryd.f3 rfl rfl rfl rfl rfl rfl rfl ⟨rfl, rfl, rfl, rfl, rfl⟩ rfl rfl rfl rfl rfl (by kernel_rfl) Tryd.func3 (by kernel_rfl)
    (of_decide_eq_true (by kernel_rfl)) (by unfold Func.isWrapper; first | (rw [if_pos (by decide +kernel)]; kernel_rfl) | (rw [if_neg (by decide +kernel)]; exact ⟨rfl, rfl⟩))
    (fun os started H enc _ => octetsFrames_lifted os started H enc)

theorem octetsFrames_card : Rows.OctetsFramesCardSaid :=
  Claim7.holds_tied_plain_at .later [] _ _ _ _ octetsFrames_holds (fun _ h => by cases h) (by kernel_rfl) (fun _ h => by cases h) octetsFrames_row_tie rfl ⟨rfl, rfl⟩ (by kernel_rfl) rfl
    (fun f fn hf hfn => by
      obtain rfl : f = 3 := Option.some.inj ((show Tryd.prog.funcNamed "cresset/cressetlaw21.OctetsFrames" = some 3 by kernel_rfl).symm.trans hf) |>.symm
      obtain rfl : fn = Tryd.f3 := (Option.some.inj (Tryd.func3.symm.trans hfn)).symm
      exact ⟨by kernel_rfl, fun j t ht => by
        have hall : (Tryd.f3.params.toList.all fun u => !Tryd.prog.wantsStandIn u) = true := by kernel_rfl
        have hm : t ∈ Tryd.f3.params.toList := Array.mem_toList_iff.2 (Array.mem_of_getElem? ht)
        exact (show Tryd.prog.wantsStandIn t = false by simpa using List.all_eq_true.1 hall t hm)⟩)
    (by kernel_rfl)

theorem octetsReads_lifted (os : Os) (started : os.Started) (H : Type) (enc : TypeId × Value → H) :
    ReturnsInHanded {} Tryd.checked os 4 .any (fun w args => (Rows.octetsReadsSpec.pre enc Tryd.prog Tryd.f4 Rows.octetsReadsRow.domain false w args ∧ laidMetH Tryd.prog Rows.octetsReadsRow.laid w) ∧ sizedMet enc Tryd.prog Tryd.f4 (OpenSpec.ofChange Rows.octetsReadsSpec) false w args) (Rows.octetsReadsSpec.post enc Tryd.prog Tryd.f4 false true false false) := by
  refine liftedL (C := Tryd.checked) (laid := Rows.octetsReadsRow.laid) own started (by kernel_rfl) Tryd.func4
    (ChangeSpec.witness_shaped (enc := enc) (C := Tryd.checked) (os := os) (X := fun w _ => laidMetH Tryd.prog Rows.octetsReadsRow.laid w) false (World.laidAll Tryd.prog os Rows.octetsReadsRow.laid) #[.slice none 0 0, .slice none 0 0] 8 (World.laidAll_os _ _ _)
      (World.shaped_of_ZipB (by kernel_rfl) (by kernel_rfl)) (by kernel_rfl) (by kernel_rfl) (by kernel_rfl)
      (by rw [MakeChecks.laidMetH_plain _ _ _ (by kernel_rfl)]; exact laidMet_laidAll _ (by kernel_rfl) (by kernel_rfl))) laidOut (by kernel_rfl) rfl (by kernel_rfl) Tryd.underlying4 ?_ ?_
  · intro ds h
    obtain ⟨d0, d1, rfl⟩ := len2 h
    exact ⟨rfl, rfl, rfl⟩
  · intro W base args ds gs before hval0 hW _ hL
    have hval : ∀ (j : Nat) t v, Tryd.f4.params[j]? = some t → args[j]? = some v → Value.okWide Tryd.prog W .any base t v := hval0
    obtain ⟨p_, q_, hA0, hV, rfl, _, _⟩ := hW
    have hA : DataW.TrodAll enc Tryd.prog W 0 (fun _ => true) true Tryd.f4.params.toList args.toList ds p_ := hA0
    rw [Tryd.params4] at hA hval
    obtain ⟨v0, v1, d0, d1, p0_, p1_, rfl, rfl, rfl, h0, h1⟩ := trodAll_two hA
    obtain ⟨pa, ca, a, rfl, hpa, hma, hla⟩ := open_strsO Tryd.underlying27 Tryd.underlying9 (by kernel_rfl) (hval 0 _ v0 rfl rfl) h0
    obtain ⟨pb, cb, b, rfl, hpb, hmb, hzb⟩ := open_bytesO Tryd.underlying28 Tryd.underlying5 (by kernel_rfl) (hval 1 _ v1 rfl rfl) h1
    exact (reads_con (tab_met hL) a b hpa hpb hzb hma).mono fun v H' h => h.1

theorem octetsReads_holds : Rows.OctetsReadsSaid :=
  OpenClaim.holds_of_wide 4 Tryd.f4 rfl rfl rfl rfl rfl rfl rfl ⟨rfl, rfl, rfl, rfl, rfl⟩ rfl rfl rfl rfl rfl (by kernel_rfl) Tryd.func4 (by kernel_rfl)
    (of_decide_eq_true (by kernel_rfl)) (by unfold Func.isWrapper; first | (rw [if_pos (by decide +kernel)]; kernel_rfl) | (rw [if_neg (by decide +kernel)]; exact ⟨rfl, rfl⟩))
    (fun os started H enc _ => octetsReads_lifted os started H enc)

theorem octetsReads_card : Rows.OctetsReadsCardSaid :=
  Claim7.holds_tied_plain_at .later [] _ _ _ _ octetsReads_holds (fun _ h => by cases h) (by kernel_rfl) (fun _ h => by cases h) octetsReads_row_tie rfl ⟨rfl, rfl⟩ (by kernel_rfl) rfl
    (fun f fn hf hfn => by
      obtain rfl : f = 4 := Option.some.inj ((show Tryd.prog.funcNamed "cresset/cressetlaw21.OctetsReads" = some 4 by kernel_rfl).symm.trans hf) |>.symm
      obtain rfl : fn = Tryd.f4 := (Option.some.inj (Tryd.func4.symm.trans hfn)).symm
      exact ⟨by kernel_rfl, fun j t ht => by
        have hall : (Tryd.f4.params.toList.all fun u => !Tryd.prog.wantsStandIn u) = true := by kernel_rfl
        have hm : t ∈ Tryd.f4.params.toList := Array.mem_toList_iff.2 (Array.mem_of_getElem? ht)
        exact (show Tryd.prog.wantsStandIn t = false by simpa using List.all_eq_true.1 hall t hm)⟩)
    (by kernel_rfl)

theorem octetsCut_lifted (os : Os) (started : os.Started) (H : Type) (enc : TypeId × Value → H) :
    ReturnsInHanded {} Tryd.checked os 5 .any (fun w args => (Rows.octetsCutSpec.pre enc Tryd.prog Tryd.f5 Rows.octetsCutRow.domain false w args ∧ laidMetH Tryd.prog Rows.octetsCutRow.laid w) ∧ sizedMet enc Tryd.prog Tryd.f5 (OpenSpec.ofChange Rows.octetsCutSpec) false w args) (Rows.octetsCutSpec.post enc Tryd.prog Tryd.f5 false true false false) := by
  refine liftedL (C := Tryd.checked) (laid := Rows.octetsCutRow.laid) own started (by kernel_rfl) Tryd.func5
    (ChangeSpec.witness_shaped (enc := enc) (C := Tryd.checked) (os := os) (X := fun w _ => laidMetH Tryd.prog Rows.octetsCutRow.laid w) false (World.laidAll Tryd.prog os Rows.octetsCutRow.laid) #[.slice none 0 0, .slice none 0 0] 8 (World.laidAll_os _ _ _)
      (World.shaped_of_ZipB (by kernel_rfl) (by kernel_rfl)) (by kernel_rfl) (by kernel_rfl) (by kernel_rfl)
      (by rw [MakeChecks.laidMetH_plain _ _ _ (by kernel_rfl)]; exact laidMet_laidAll _ (by kernel_rfl) (by kernel_rfl))) laidOut (by kernel_rfl) rfl (by kernel_rfl) Tryd.underlying4 ?_ ?_
  · intro ds h
    obtain ⟨d0, d1, rfl⟩ := len2 h
    exact ⟨rfl, rfl, rfl⟩
  · intro W base args ds gs before hval0 hW _ hL
    have hval : ∀ (j : Nat) t v, Tryd.f5.params[j]? = some t → args[j]? = some v → Value.okWide Tryd.prog W .any base t v := hval0
    obtain ⟨p_, q_, hA0, hV, rfl, _, _⟩ := hW
    have hA : DataW.TrodAll enc Tryd.prog W 0 (fun _ => true) true Tryd.f5.params.toList args.toList ds p_ := hA0
    rw [Tryd.params5] at hA hval
    obtain ⟨v0, v1, d0, d1, p0_, p1_, rfl, rfl, rfl, h0, h1⟩ := trodAll_two hA
    obtain ⟨pa, ca, a, rfl, hpa, hma, hla⟩ := open_strsO Tryd.underlying27 Tryd.underlying9 (by kernel_rfl) (hval 0 _ v0 rfl rfl) h0
    obtain ⟨pb, cb, b, rfl, hpb, hmb, hzb⟩ := open_bytesO Tryd.underlying28 Tryd.underlying5 (by kernel_rfl) (hval 1 _ v1 rfl rfl) h1
    exact (cut_con (tab_met hL) a b hpa hpb hzb hmb).mono fun v H' h => h.1

theorem octetsCut_holds : Rows.OctetsCutSaid :=
  OpenClaim.holds_of_wide 5 Tryd.f5 rfl rfl rfl rfl rfl rfl rfl ⟨rfl, rfl, rfl, rfl, rfl⟩ rfl rfl rfl rfl rfl (by kernel_rfl) Tryd.func5 (by kernel_rfl)
    (of_decide_eq_true (by kernel_rfl)) (by unfold Func.isWrapper; first | (rw [if_pos (by decide +kernel)]; kernel_rfl) | (rw [if_neg (by decide +kernel)]; exact ⟨rfl, rfl⟩))
    (fun os started H enc _ => octetsCut_lifted os started H enc)

theorem octetsCut_card : Rows.OctetsCutCardSaid :=
  Claim7.holds_tied_plain_at .later [] _ _ _ _ octetsCut_holds (fun _ h => by cases h) (by kernel_rfl) (fun _ h => by cases h) octetsCut_row_tie rfl ⟨rfl, rfl⟩ (by kernel_rfl) rfl
    (fun f fn hf hfn => by
      obtain rfl : f = 5 := Option.some.inj ((show Tryd.prog.funcNamed "cresset/cressetlaw21.OctetsCut" = some 5 by kernel_rfl).symm.trans hf) |>.symm
      obtain rfl : fn = Tryd.f5 := (Option.some.inj (Tryd.func5.symm.trans hfn)).symm
      exact ⟨by kernel_rfl, fun j t ht => by
        have hall : (Tryd.f5.params.toList.all fun u => !Tryd.prog.wantsStandIn u) = true := by kernel_rfl
        have hm : t ∈ Tryd.f5.params.toList := Array.mem_toList_iff.2 (Array.mem_of_getElem? ht)
        exact (show Tryd.prog.wantsStandIn t = false by simpa using List.all_eq_true.1 hall t hm)⟩)
    (by kernel_rfl)

theorem octetsNil_lifted (os : Os) (started : os.Started) (H : Type) (enc : TypeId × Value → H) :
    ReturnsInHanded {} Tryd.checked os 6 .any (fun w args => (Rows.octetsNilSpec.pre enc Tryd.prog Tryd.f6 Rows.octetsNilRow.domain false w args ∧ laidMetH Tryd.prog Rows.octetsNilRow.laid w) ∧ sizedMet enc Tryd.prog Tryd.f6 (OpenSpec.ofChange Rows.octetsNilSpec) false w args) (Rows.octetsNilSpec.post enc Tryd.prog Tryd.f6 false true false false) := by
  refine liftedL (C := Tryd.checked) (laid := Rows.octetsNilRow.laid) own started (by kernel_rfl) Tryd.func6
    (ChangeSpec.witness_shaped (enc := enc) (C := Tryd.checked) (os := os) (X := fun w _ => laidMetH Tryd.prog Rows.octetsNilRow.laid w) false (World.laidAll Tryd.prog os Rows.octetsNilRow.laid) #[.string ⟨#[]⟩] 8 (World.laidAll_os _ _ _)
      (World.shaped_of_ZipB (by kernel_rfl) (by kernel_rfl)) (by kernel_rfl) (by kernel_rfl) (by kernel_rfl)
      (by rw [MakeChecks.laidMetH_plain _ _ _ (by kernel_rfl)]; exact laidMet_laidAll _ (by kernel_rfl) (by kernel_rfl))) laidOut (by kernel_rfl) rfl (by kernel_rfl) Tryd.underlying4 ?_ ?_
  · intro ds h
    obtain ⟨d0, rfl⟩ := len1 h
    exact ⟨rfl, rfl, rfl⟩
  · intro W base args ds gs before hval0 hW _ hL
    have hval : ∀ (j : Nat) t v, Tryd.f6.params[j]? = some t → args[j]? = some v → Value.okWide Tryd.prog W .any base t v := hval0
    obtain ⟨p_, q_, hA0, hV, rfl, _, _⟩ := hW
    have hA : DataW.TrodAll enc Tryd.prog W 0 (fun _ => true) true Tryd.f6.params.toList args.toList ds p_ := hA0
    rw [Tryd.params6] at hA hval
    obtain ⟨v0, d0, rfl, rfl, h0⟩ := trodAll_one hA
    obtain ⟨s, rfl, hl_s, rfl⟩ := open_str Tryd.underlying9 (hval 0 _ v0 rfl rfl) h0
    exact (nil_con (tab_met hL) s).mono fun v H' h => h.1

theorem octetsNil_holds : Rows.OctetsNilSaid :=
  OpenClaim.holds_of_wide 6 Tryd.f6 rfl rfl rfl rfl rfl rfl rfl ⟨rfl, rfl, rfl, rfl, rfl⟩ rfl rfl rfl rfl rfl (by kernel_rfl) Tryd.func6 (by kernel_rfl)
    (of_decide_eq_true (by kernel_rfl)) (by unfold Func.isWrapper; first | (rw [if_pos (by decide +kernel)]; kernel_rfl) | (rw [if_neg (by decide +kernel)]; exact ⟨rfl, rfl⟩))
    (fun os started H enc _ => octetsNil_lifted os started H enc)

theorem octetsNil_card : Rows.OctetsNilCardSaid :=
  Claim7.holds_tied_plain_at .later [] _ _ _ _ octetsNil_holds (fun _ h => by cases h) (by kernel_rfl) (fun _ h => by cases h) octetsNil_row_tie rfl ⟨rfl, rfl⟩ (by kernel_rfl) rfl
    (fun f fn hf hfn => by
      obtain rfl : f = 6 := Option.some.inj ((show Tryd.prog.funcNamed "cresset/cressetlaw21.OctetsNil" = some 6 by kernel_rfl).symm.trans hf) |>.symm
      obtain rfl : fn = Tryd.f6 := (Option.some.inj (Tryd.func6.symm.trans hfn)).symm
      exact ⟨by kernel_rfl, fun j t ht => by
        have hall : (Tryd.f6.params.toList.all fun u => !Tryd.prog.wantsStandIn u) = true := by kernel_rfl
        have hm : t ∈ Tryd.f6.params.toList := Array.mem_toList_iff.2 (Array.mem_of_getElem? ht)
        exact (show Tryd.prog.wantsStandIn t = false by simpa using List.all_eq_true.1 hall t hm)⟩)
    (by kernel_rfl)

theorem octetsOne_lifted (os : Os) (started : os.Started) (H : Type) (enc : TypeId × Value → H) :
    ReturnsInHanded {} Tryd.checked os 7 .any (fun w args => (Rows.octetsOneSpec.pre enc Tryd.prog Tryd.f7 Rows.octetsOneRow.domain false w args ∧ laidMetH Tryd.prog Rows.octetsOneRow.laid w) ∧ sizedMet enc Tryd.prog Tryd.f7 (OpenSpec.ofChange Rows.octetsOneSpec) false w args) (Rows.octetsOneSpec.post enc Tryd.prog Tryd.f7 false true false false) := by
  refine liftedL (C := Tryd.checked) (laid := Rows.octetsOneRow.laid) own started (by kernel_rfl) Tryd.func7
    (ChangeSpec.witness_shaped (enc := enc) (C := Tryd.checked) (os := os) (X := fun w _ => laidMetH Tryd.prog Rows.octetsOneRow.laid w) false (World.laidAll Tryd.prog os Rows.octetsOneRow.laid) #[.string ⟨#[]⟩, .string ⟨#[]⟩] 8 (World.laidAll_os _ _ _)
      (World.shaped_of_ZipB (by kernel_rfl) (by kernel_rfl)) (by kernel_rfl) (by kernel_rfl) (by kernel_rfl)
      (by rw [MakeChecks.laidMetH_plain _ _ _ (by kernel_rfl)]; exact laidMet_laidAll _ (by kernel_rfl) (by kernel_rfl))) laidOut (by kernel_rfl) rfl (by kernel_rfl) Tryd.underlying4 ?_ ?_
  · intro ds h
    obtain ⟨d0, d1, rfl⟩ := len2 h
    exact ⟨rfl, rfl, rfl⟩
  · intro W base args ds gs before hval0 hW _ hL
    have hval : ∀ (j : Nat) t v, Tryd.f7.params[j]? = some t → args[j]? = some v → Value.okWide Tryd.prog W .any base t v := hval0
    obtain ⟨p_, q_, hA0, hV, rfl, _, _⟩ := hW
    have hA : DataW.TrodAll enc Tryd.prog W 0 (fun _ => true) true Tryd.f7.params.toList args.toList ds p_ := hA0
    rw [Tryd.params7] at hA hval
    obtain ⟨v0, v1, d0, d1, p0_, p1_, rfl, rfl, rfl, h0, h1⟩ := trodAll_two hA
    obtain ⟨s, rfl, hl_s, rfl⟩ := open_str Tryd.underlying9 (hval 0 _ v0 rfl rfl) h0
    obtain ⟨r, rfl, hl_r, rfl⟩ := open_str Tryd.underlying9 (hval 1 _ v1 rfl rfl) h1
    exact (one_con (tab_met hL) s r).mono fun v H' h => h.1

theorem octetsOne_holds : Rows.OctetsOneSaid :=
  OpenClaim.holds_of_wide 7 Tryd.f7 rfl rfl rfl rfl rfl rfl rfl ⟨rfl, rfl, rfl, rfl, rfl⟩ rfl rfl rfl rfl rfl (by kernel_rfl) Tryd.func7 (by kernel_rfl)
    (of_decide_eq_true (by kernel_rfl)) (by unfold Func.isWrapper; first | (rw [if_pos (by decide +kernel)]; kernel_rfl) | (rw [if_neg (by decide +kernel)]; exact ⟨rfl, rfl⟩))
    (fun os started H enc _ => octetsOne_lifted os started H enc)

theorem octetsOne_card : Rows.OctetsOneCardSaid :=
  Claim7.holds_tied_plain_at .later [] _ _ _ _ octetsOne_holds (fun _ h => by cases h) (by kernel_rfl) (fun _ h => by cases h) octetsOne_row_tie rfl ⟨rfl, rfl⟩ (by kernel_rfl) rfl
    (fun f fn hf hfn => by
      obtain rfl : f = 7 := Option.some.inj ((show Tryd.prog.funcNamed "cresset/cressetlaw21.OctetsOne" = some 7 by kernel_rfl).symm.trans hf) |>.symm
      obtain rfl : fn = Tryd.f7 := (Option.some.inj (Tryd.func7.symm.trans hfn)).symm
      exact ⟨by kernel_rfl, fun j t ht => by
        have hall : (Tryd.f7.params.toList.all fun u => !Tryd.prog.wantsStandIn u) = true := by kernel_rfl
        have hm : t ∈ Tryd.f7.params.toList := Array.mem_toList_iff.2 (Array.mem_of_getElem? ht)
        exact (show Tryd.prog.wantsStandIn t = false by simpa using List.all_eq_true.1 hall t hm)⟩)
    (by kernel_rfl)
end Go.Proofs.YtcmhdfbeepanlaaDoor
