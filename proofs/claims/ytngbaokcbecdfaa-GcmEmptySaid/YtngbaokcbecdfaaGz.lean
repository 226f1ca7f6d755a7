/-
  The statements of chapter 06: the digest of blocks, what is sealed and what is opened are what the document says; what was sealed is opened, and is not with another byte in its tag; the product adds. No condition: whatever the input.
-/
import Derived.Test.YtngbaokcbecdfaaRows
import Derived.Test.YtngbaokcbecdfaaGw
import Derived.Test.YtngbaokcbecdfaaDQ
import Derived.Test.YtngbaokcbecdfaaDR
namespace Go.Proofs.Ytngbaokcbecdfaa
open Go Go.RowKit Go.ChangeShapes Go.WideShapes Go.ChangeAt D
set_option linter.unusedVariables false
set_option maxRecDepth 100000
theorem own : ownKnob Try.prog.godebug = none := by kernel_rfl
theorem laidOut : laidOutB Try.prog = true := by kernel_rfl

theorem len4 {α : Type} {l : List α} (h : l.length = 4) : ∃ a b c d, l = [a, b, c, d] := by
  match l, h with
  | [a, b, c, d], _ => exact ⟨a, b, c, d, rfl⟩

theorem gcmHashes_lifted (os : Os) (started : os.Started) (H : Type) (enc : TypeId × Value → H) :
    ReturnsInHanded {} Try.checked os 3 .any (Rows.gcmHashesSpec.pre6 enc Try.prog Try.f3 Rows.gcmHashesRow.domain false) (Rows.gcmHashesSpec.post enc Try.prog Try.f3 false true false false) := by
  refine lifted (C := Try.checked) own started (by kernel_rfl) Try.func3
    (ChangeSpec.witness6 (enc := enc) (C := Try.checked) false ⟨#[], #[.string ⟨#[]⟩, .string ⟨#[]⟩], []⟩ 8 (by kernel_rfl) (by kernel_rfl) (by kernel_rfl) (by kernel_rfl)) laidOut (by kernel_rfl) rfl (by kernel_rfl) Try.underlying4 ?_ ?_
  · intro ds h
    obtain ⟨d0, d1, rfl⟩ := len2 h
    exact ⟨rfl, rfl, rfl⟩
  · intro W base args ds gs before hval0 hW _
    have hval : ∀ (j : Nat) t v, Try.f3.params[j]? = some t → args[j]? = some v → Value.okWide Try.prog W .any base t v := hval0
    obtain ⟨p_, q_, hA0, hV, rfl, _, _⟩ := hW
    have hA : DataW.TrodAll enc Try.prog W 0 (fun _ => true) true Try.f3.params.toList args.toList ds p_ := hA0
    rw [Try.params3] at hA hval
    obtain ⟨v0, v1, d0, d1, p0_, p1_, rfl, rfl, rfl, h0, h1⟩ := trodAll_two hA
    obtain ⟨key, rfl, hl_key, rfl⟩ := open_str Try.underlying9 (hval 0 _ v0 rfl rfl) h0
    obtain ⟨d, rfl, hl_d, rfl⟩ := open_str Try.underlying9 (hval 1 _ v1 rfl rfl) h1
    exact (hashesL_con key d).mono fun v H' h => h.1

theorem gcmHashes_holds : Rows.GcmHashesSaid :=
  OpenClaim.holds_of_wide 3 Try.f3 rfl rfl rfl rfl rfl rfl rfl ⟨rfl, rfl, rfl, rfl, rfl⟩ rfl rfl rfl rfl rfl (by kernel_rfl) Try.func3 (by kernel_rfl)
    (of_decide_eq_true (by kernel_rfl)) (by unfold Func.isWrapper; first | (rw [if_pos (by decide +kernel)]; kernel_rfl) | (rw [if_neg (by decide +kernel)]; exact ⟨rfl, rfl⟩))
    (fun os started H enc _ => gcmHashes_lifted os started H enc)

theorem gcmSeals_lifted (os : Os) (started : os.Started) (H : Type) (enc : TypeId × Value → H) :
    ReturnsInHanded {} Try.checked os 4 .any (Rows.gcmSealsSpec.pre6 enc Try.prog Try.f4 Rows.gcmSealsRow.domain false) (Rows.gcmSealsSpec.post enc Try.prog Try.f4 false true false false) := by
  refine lifted (C := Try.checked) own started (by kernel_rfl) Try.func4
    (ChangeSpec.witness6 (enc := enc) (C := Try.checked) false ⟨#[], #[.agg #[.string ⟨#[]⟩, .string ⟨#[]⟩, .string ⟨#[]⟩, .string ⟨#[]⟩]], []⟩ 8 (by kernel_rfl) (by kernel_rfl) (by kernel_rfl) (by kernel_rfl)) laidOut (by kernel_rfl) rfl (by kernel_rfl) Try.underlying4 ?_ ?_
  · intro ds h
    obtain ⟨d0, rfl⟩ := len1 h
    exact ⟨rfl, rfl, rfl⟩
  · intro W base args ds gs before hval0 hW _
    have hval : ∀ (j : Nat) t v, Try.f4.params[j]? = some t → args[j]? = some v → Value.okWide Try.prog W .any base t v := hval0
    obtain ⟨p_, q_, hA0, hV, rfl, _, _⟩ := hW
    have hA : DataW.TrodAll enc Try.prog W 0 (fun _ => true) true Try.f4.params.toList args.toList ds p_ := hA0
    rw [Try.params4] at hA hval
    obtain ⟨v0, d0, rfl, rfl, h0⟩ := trodAll_one hA
    obtain ⟨csx, rfl, hTx⟩ := open_structT Try.underlying28 (hval 0 _ v0 rfl rfl) h0
    have hUx := Try.underlying28
    have hlx := (hTx.struct hUx).1
    rw [show Try.prog.cellsOf 28 = 4 by kernel_rfl] at hlx
    obtain ⟨x0x, x1x, x2x, x3x, rfl⟩ := len4 hlx
    obtain ⟨xk, k0x, _⟩ := (hTx.part hUx 0 0 1 9 rfl (by kernel_rfl)).str Try.underlying9
    obtain ⟨xn, k1x, _⟩ := (hTx.part hUx 1 1 1 9 rfl (by kernel_rfl)).str Try.underlying9
    obtain ⟨xb, k2x, _⟩ := (hTx.part hUx 2 2 1 9 rfl (by kernel_rfl)).str Try.underlying9
    obtain ⟨xd, k3x, _⟩ := (hTx.part hUx 3 3 1 9 rfl (by kernel_rfl)).str Try.underlying9
    simp at k0x k1x k2x k3x
    subst k0x k1x k2x k3x
    exact (sealsL_con xk xn xb xd).mono fun v H' h => h.1

theorem gcmSeals_holds : Rows.GcmSealsSaid :=
  OpenClaim.holds_of_wide 4 Try.f4 rfl rfl rfl rfl rfl rfl rfl ⟨rfl, rfl, rfl, rfl, rfl⟩ rfl rfl rfl rfl rfl (by kernel_rfl) Try.func4 (by kernel_rfl)
    (of_decide_eq_true (by kernel_rfl)) (by unfold Func.isWrapper; first | (rw [if_pos (by decide +kernel)]; kernel_rfl) | (rw [if_neg (by decide +kernel)]; exact ⟨rfl, rfl⟩))
    (fun os started H enc _ => gcmSeals_lifted os started H enc)

theorem gcmOpens_lifted (os : Os) (started : os.Started) (H : Type) (enc : TypeId × Value → H) :
    ReturnsInHanded {} Try.checked os 5 .any (Rows.gcmOpensSpec.pre6 enc Try.prog Try.f5 Rows.gcmOpensRow.domain false) (Rows.gcmOpensSpec.post enc Try.prog Try.f5 false true false false) := by
  refine lifted (C := Try.checked) own started (by kernel_rfl) Try.func5
    (ChangeSpec.witness6 (enc := enc) (C := Try.checked) false ⟨#[], #[.agg #[.string ⟨#[]⟩, .string ⟨#[]⟩, .string ⟨#[]⟩, .string ⟨#[]⟩]], []⟩ 8 (by kernel_rfl) (by kernel_rfl) (by kernel_rfl) (by kernel_rfl)) laidOut (by kernel_rfl) rfl (by kernel_rfl) Try.underlying4 ?_ ?_
  · intro ds h
    obtain ⟨d0, rfl⟩ := len1 h
    exact ⟨rfl, rfl, rfl⟩
  · intro W base args ds gs before hval0 hW _
    have hval : ∀ (j : Nat) t v, Try.f5.params[j]? = some t → args[j]? = some v → Value.okWide Try.prog W .any base t v := hval0
    obtain ⟨p_, q_, hA0, hV, rfl, _, _⟩ := hW
    have hA : DataW.TrodAll enc Try.prog W 0 (fun _ => true) true Try.f5.params.toList args.toList ds p_ := hA0
    rw [Try.params5] at hA hval
    obtain ⟨v0, d0, rfl, rfl, h0⟩ := trodAll_one hA
    obtain ⟨csx, rfl, hTx⟩ := open_structT Try.underlying28 (hval 0 _ v0 rfl rfl) h0
    have hUx := Try.underlying28
    have hlx := (hTx.struct hUx).1
    rw [show Try.prog.cellsOf 28 = 4 by kernel_rfl] at hlx
    obtain ⟨x0x, x1x, x2x, x3x, rfl⟩ := len4 hlx
    obtain ⟨xk, k0x, _⟩ := (hTx.part hUx 0 0 1 9 rfl (by kernel_rfl)).str Try.underlying9
    obtain ⟨xn, k1x, _⟩ := (hTx.part hUx 1 1 1 9 rfl (by kernel_rfl)).str Try.underlying9
    obtain ⟨xb, k2x, _⟩ := (hTx.part hUx 2 2 1 9 rfl (by kernel_rfl)).str Try.underlying9
    obtain ⟨xd, k3x, _⟩ := (hTx.part hUx 3 3 1 9 rfl (by kernel_rfl)).str Try.underlying9
    simp at k0x k1x k2x k3x
    subst k0x k1x k2x k3x
    exact (opensL_con xk xn xb xd).mono fun v H' h => h.1

theorem gcmOpens_holds : Rows.GcmOpensSaid :=
  OpenClaim.holds_of_wide 5 Try.f5 rfl rfl rfl rfl rfl rfl rfl ⟨rfl, rfl, rfl, rfl, rfl⟩ rfl rfl rfl rfl rfl (by kernel_rfl) Try.func5 (by kernel_rfl)
    (of_decide_eq_true (by kernel_rfl)) (by unfold Func.isWrapper; first | (rw [if_pos (by decide +kernel)]; kernel_rfl) | (rw [if_neg (by decide +kernel)]; exact ⟨rfl, rfl⟩))
    (fun os started H enc _ => gcmOpens_lifted os started H enc)

theorem gcmBack_lifted (os : Os) (started : os.Started) (H : Type) (enc : TypeId × Value → H) :
    ReturnsInHanded {} Try.checked os 6 .any (Rows.gcmBackSpec.pre6 enc Try.prog Try.f6 Rows.gcmBackRow.domain false) (Rows.gcmBackSpec.post enc Try.prog Try.f6 false true false false) := by
  refine lifted (C := Try.checked) own started (by kernel_rfl) Try.func6
    (ChangeSpec.witness6 (enc := enc) (C := Try.checked) false ⟨#[], #[.agg #[.string ⟨#[]⟩, .string ⟨#[]⟩, .string ⟨#[]⟩, .string ⟨#[]⟩], .int .i64 0], []⟩ 8 (by kernel_rfl) (by kernel_rfl) (by kernel_rfl) (by kernel_rfl)) laidOut (by kernel_rfl) rfl (by kernel_rfl) Try.underlying4 ?_ ?_
  · intro ds h
    obtain ⟨d0, d1, rfl⟩ := len2 h
    exact ⟨rfl, rfl, rfl⟩
  · intro W base args ds gs before hval0 hW _
    have hval : ∀ (j : Nat) t v, Try.f6.params[j]? = some t → args[j]? = some v → Value.okWide Try.prog W .any base t v := hval0
    obtain ⟨p_, q_, hA0, hV, rfl, _, _⟩ := hW
    have hA : DataW.TrodAll enc Try.prog W 0 (fun _ => true) true Try.f6.params.toList args.toList ds p_ := hA0
    rw [Try.params6] at hA hval
    obtain ⟨v0, v1, d0, d1, p0_, p1_, rfl, rfl, rfl, h0, h1⟩ := trodAll_two hA
    obtain ⟨csx, rfl, hTx⟩ := open_structT Try.underlying28 (hval 0 _ v0 rfl rfl) h0
    have hUx := Try.underlying28
    have hlx := (hTx.struct hUx).1
    rw [show Try.prog.cellsOf 28 = 4 by kernel_rfl] at hlx
    obtain ⟨x0x, x1x, x2x, x3x, rfl⟩ := len4 hlx
    obtain ⟨xk, k0x, _⟩ := (hTx.part hUx 0 0 1 9 rfl (by kernel_rfl)).str Try.underlying9
    obtain ⟨xn, k1x, _⟩ := (hTx.part hUx 1 1 1 9 rfl (by kernel_rfl)).str Try.underlying9
    obtain ⟨xb, k2x, _⟩ := (hTx.part hUx 2 2 1 9 rfl (by kernel_rfl)).str Try.underlying9
    obtain ⟨xd, k3x, _⟩ := (hTx.part hUx 3 3 1 9 rfl (by kernel_rfl)).str Try.underlying9
    simp at k0x k1x k2x k3x
    subst k0x k1x k2x k3x
    obtain ⟨n, rfl, lo_n, hi_n⟩ := open_i64 Try.underlying3 (hval 1 _ v1 rfl rfl) h1
    exact (backL_con xk xn xb xd ⟨lo_n, hi_n⟩).mono fun v H' h => h.1

theorem gcmBack_holds : Rows.GcmBackSaid :=
  OpenClaim.holds_of_wide 6 Try.f6 rfl rfl rfl rfl rfl rfl rfl ⟨rfl, rfl, rfl, rfl, rfl⟩ rfl rfl rfl rfl rfl (by kernel_rfl) Try.func6 (by kernel_rfl)
    (of_decide_eq_true (by kernel_rfl)) (by unfold Func.isWrapper; first | (rw [if_pos (by decide +kernel)]; kernel_rfl) | (rw [if_neg (by decide +kernel)]; exact ⟨rfl, rfl⟩))
    (fun os started H enc _ => gcmBack_lifted os started H enc)

theorem gcmAdds_lifted (os : Os) (started : os.Started) (H : Type) (enc : TypeId × Value → H) :
    ReturnsInHanded {} Try.checked os 7 .any (Rows.gcmAddsSpec.pre6 enc Try.prog Try.f7 Rows.gcmAddsRow.domain false) (Rows.gcmAddsSpec.post enc Try.prog Try.f7 false true false false) := by
  refine lifted (C := Try.checked) own started (by kernel_rfl) Try.func7
    (ChangeSpec.witness6 (enc := enc) (C := Try.checked) false ⟨#[], #[.string ⟨#[]⟩, .string ⟨#[]⟩, .string ⟨#[]⟩], []⟩ 8 (by kernel_rfl) (by kernel_rfl) (by kernel_rfl) (by kernel_rfl)) laidOut (by kernel_rfl) rfl (by kernel_rfl) Try.underlying4 ?_ ?_
  · intro ds h
    obtain ⟨d0, d1, d2, rfl⟩ := len3 h
    exact ⟨rfl, rfl, rfl⟩
  · intro W base args ds gs before hval0 hW _
    have hval : ∀ (j : Nat) t v, Try.f7.params[j]? = some t → args[j]? = some v → Value.okWide Try.prog W .any base t v := hval0
    obtain ⟨p_, q_, hA0, hV, rfl, _, _⟩ := hW
    have hA : DataW.TrodAll enc Try.prog W 0 (fun _ => true) true Try.f7.params.toList args.toList ds p_ := hA0
    rw [Try.params7] at hA hval
    obtain ⟨v0, v1, v2, d0, d1, d2, p0_, p1_, p2_, rfl, rfl, rfl, h0, h1, h2⟩ := trodAll_three hA
    obtain ⟨key, rfl, hl_key, rfl⟩ := open_str Try.underlying9 (hval 0 _ v0 rfl rfl) h0
    obtain ⟨a, rfl, hl_a, rfl⟩ := open_str Try.underlying9 (hval 1 _ v1 rfl rfl) h1
    obtain ⟨b, rfl, hl_b, rfl⟩ := open_str Try.underlying9 (hval 2 _ v2 rfl rfl) h2
    exact (addsL_con key a b).mono fun v H' h => h.1

theorem gcmAdds_holds : Rows.GcmAddsSaid :=
  OpenClaim.holds_of_wide 7 Try.f7 rfl rfl rfl rfl rfl rfl rfl ⟨rfl, rfl, rfl, rfl, rfl⟩ rfl rfl rfl rfl rfl (by kernel_rfl) Try.func7 (by kernel_rfl)
    (of_decide_eq_true (by kernel_rfl)) (by unfold Func.isWrapper; first | (rw [if_pos (by decide +kernel)]; kernel_rfl) | (rw [if_neg (by decide +kernel)]; exact ⟨rfl, rfl⟩))
    (fun os started H enc _ => gcmAdds_lifted os started H enc)

theorem gcmEmpty_lifted (os : Os) (started : os.Started) (H : Type) (enc : TypeId × Value → H) :
    ReturnsInHanded {} Try.checked os 8 .any (Rows.gcmEmptySpec.pre6 enc Try.prog Try.f8 Rows.gcmEmptyRow.domain false) (Rows.gcmEmptySpec.post enc Try.prog Try.f8 false true false false) := by
  refine lifted (C := Try.checked) own started (by kernel_rfl) Try.func8
    (ChangeSpec.witness6 (enc := enc) (C := Try.checked) false ⟨#[], #[.string ⟨#[]⟩, .string ⟨#[]⟩], []⟩ 8 (by kernel_rfl) (by kernel_rfl) (by kernel_rfl) (by kernel_rfl)) laidOut (by kernel_rfl) rfl (by kernel_rfl) Try.underlying4 ?_ ?_
  · intro ds h
    obtain ⟨d0, d1, rfl⟩ := len2 h
    exact ⟨rfl, rfl, rfl⟩
  · intro W base args ds gs before hval0 hW _
    have hval : ∀ (j : Nat) t v, Try.f8.params[j]? = some t → args[j]? = some v → Value.okWide Try.prog W .any base t v := hval0
    obtain ⟨p_, q_, hA0, hV, rfl, _, _⟩ := hW
    have hA : DataW.TrodAll enc Try.prog W 0 (fun _ => true) true Try.f8.params.toList args.toList ds p_ := hA0
    rw [Try.params8] at hA hval
    obtain ⟨v0, v1, d0, d1, p0_, p1_, rfl, rfl, rfl, h0, h1⟩ := trodAll_two hA
    obtain ⟨key, rfl, hl_key, rfl⟩ := open_str Try.underlying9 (hval 0 _ v0 rfl rfl) h0
    obtain ⟨nonce, rfl, hl_nonce, rfl⟩ := open_str Try.underlying9 (hval 1 _ v1 rfl rfl) h1
    exact (emptyL_con key nonce).mono fun v H' h => h.1

theorem gcmEmpty_holds : Rows.GcmEmptySaid :=
  OpenClaim.holds_of_wide 8 Try.f8 rfl rfl rfl rfl rfl rfl rfl ⟨rfl, rfl, rfl, rfl, rfl⟩ rfl rfl rfl rfl rfl (by kernel_rfl) Try.func8 (by kernel_rfl)
    (of_decide_eq_true (by kernel_rfl)) (by unfold Func.isWrapper; first | (rw [if_pos (by decide +kernel)]; kernel_rfl) | (rw [if_neg (by decide +kernel)]; exact ⟨rfl, rfl⟩))
    (fun os started H enc _ => gcmEmpty_lifted os started H enc)
end Go.Proofs.Ytngbaokcbecdfaa
