/-
  The proof's texts, joined, without what the statements do not reach: part 6 of 7. No condition.
-/
import Derived.WalkKit
import Derived.KernelRfl
import Derived.Lib.ConvBytes
import Derived.WalkSpells
import Derived.WalkLawsBesides
import Derived.ProofKit
import Derived.ChangeMaps5
import Derived.ChangeSlices
import Derived.Deep.Strs
import Derived.DataElems
import Derived.OpenShut
import Derived.Test.YtkfdoicjpoofhaaProg
import Derived.Test.YtkfdoicjpoofhaaKe
section
namespace Go.Proofs.Ytkfdoicjpoofhaa
open Go Go.RowKit D
set_option linter.unusedVariables false
set_option linter.unusedSimpArgs false
set_option maxRecDepth 100000
set_option maxHeartbeats 2000000
section
variable {w0 : World} {H : Hp}
theorem tmod16 (a : Int) : -16 < a.tmod 16 ∧ a.tmod 16 < 16 := by
  rcases Int.le_total 0 a with h | h
  · rw [Int.tmod_eq_emod_of_nonneg h]; omega
  · have e : a.tmod 16 = -((-a).tmod 16) := by rw [Int.neg_tmod, Int.neg_neg]
    rw [e, Int.tmod_eq_emod_of_nonneg (by omega)]; omega
theorem awake_con : Con Try.prog w0 10 #[] H (fun v H' => v = .bool true ∧ H' = H) := by
  have hS0 : Sep H [] H := Sep.refl
  refine Con.intro Try.func10 rfl rfl ?_
  refine AW.seq ?_
  refine AW.region ?_
  refine OpsW.q rfl (q_assign (v := .bool _) rfl) ?_
  refine OpsW.nil ?_
  refine SeqP.go ?_
  refine AW.seq ?_
  refine AW.region ?_
  refine OpsW.m rfl (s_makeSliceB (by_ := 1) hS0 Try.underlying33 (by kernel_rfl) (by kernel_rfl) (by kernel_rfl) rfl rfl (by omega) (by omega) (by omega) (by omega) (by unfold maxLen; omega)) ?_
  rintro v6 H1 hS1
  clear hS0
  refine OpsW.q rfl (q_stringB (hS1.vec at0) Try.underlying33 Try.underlying5 Try.underlying9 rfl) ?_
  refine OpsW.q rfl (o_call rfl Try.func13 rfl rfl (Nonce_con (by decide))) ?_
  rw [fst_of aw_nonce, snd_of aw_nonce]
  refine OpsW.q rfl (q_move (v := .tuple _) rfl) ?_
  refine OpsW.q rfl (q_extract (v := S _) rfl rfl) ?_
  refine OpsW.q rfl (q_extract (v := .int _ _) rfl rfl) ?_
  refine OpsW.q rfl (q_assign (v := S _) rfl) ?_
  refine OpsW.q rfl (q_assign (v := .int _ _) rfl) ?_
  refine OpsW.nil ?_
  refine SeqP.go ?_
  refine AW.seq ?_
  refine AW.steps rfl 10 rfl ?_
  refine AnyW.two 0 2 rfl rfl (by kernel_rfl) rfl rfl (dst_lt rfl) (dst_lt rfl) (s_makeSliceB (by_ := 1) hS1 Try.underlying33 (by kernel_rfl) (by kernel_rfl) (by kernel_rfl) rfl rfl (by omega) (by omega) (by omega) (by omega) (by unfold maxLen; omega)) (s_makeSliceB (by_ := 1) hS1 Try.underlying33 (by kernel_rfl) (by kernel_rfl) (by kernel_rfl) rfl rfl (by omega) (by omega) (by omega) (by omega) (by unfold maxLen; omega)) ?_ ?_
  ·
    rintro v12 H2 hS2
    clear hS1
    refine AnyW.two 1 2 rfl rfl (by kernel_rfl) rfl rfl (dst_lt rfl) (dst_lt rfl) (q_stringB (hS2.vec at0) Try.underlying33 Try.underlying5 Try.underlying9 rfl) (s_makeSliceB (by_ := 1) hS2 Try.underlying33 (by kernel_rfl) (by kernel_rfl) (by kernel_rfl) rfl rfl (by omega) (by omega) (by omega) (by omega) (by unfold maxLen; omega)) ?_ ?_
    ·
      rintro _ _ ⟨rfl, rfl⟩
      refine AnyW.only 2 rfl (by kernel_rfl) rfl (dst_lt rfl) (s_makeSliceB (by_ := 1) hS2 Try.underlying33 (by kernel_rfl) (by kernel_rfl) (by kernel_rfl) rfl rfl (by omega) (by omega) (by omega) (by omega) (by unfold maxLen; omega)) ?_
      rintro v14 H3 hS3
      clear hS2
      refine AnyW.onlyQ 3 rfl (by kernel_rfl) rfl (dst_lt rfl) (q_stringB (hS3.vec at0) Try.underlying33 Try.underlying5 Try.underlying9 rfl) ?_
      refine AnyW.onlyQ 4 rfl (by kernel_rfl) rfl (dst_lt rfl) (o_call rfl Try.func11 rfl rfl (Open_con (by decide) (by decide))) ?_
      rw [fst_of aw_sopen, snd_of aw_sopen]
      refine AnyW.onlyQ 5 rfl (by kernel_rfl) rfl (dst_lt rfl) (q_move (v := .tuple _) rfl) ?_
      refine AnyW.two 6 7 rfl rfl (by kernel_rfl) rfl rfl (dst_lt rfl) (dst_lt rfl) (q_extract (v := S _) rfl rfl) (q_extract (v := .int _ _) rfl rfl) ?_ ?_
      ·
        rintro _ _ ⟨rfl, rfl⟩
        refine AnyW.two 7 8 rfl rfl (by kernel_rfl) rfl rfl (dst_lt rfl) (dst_lt rfl) (q_extract (v := .int _ _) rfl rfl) (q_assign (v := S _) rfl) ?_ ?_
        ·
          rintro _ _ ⟨rfl, rfl⟩
          refine AnyW.onlyQ 8 rfl (by kernel_rfl) rfl (dst_lt rfl) (q_assign (v := S _) rfl) ?_
          refine AnyW.onlyQ 9 rfl (by kernel_rfl) rfl (dst_lt rfl) (q_assign (v := .int _ _) rfl) ?_
          refine AnyW.done (by kernel_rfl) ?_
          refine SeqP.go ?_
          refine AW.seq ?_
          refine AW.region ?_
          refine OpsW.q rfl (o_call rfl Try.func15 rfl rfl (Size_con _)) ?_
          rw [sizeS_no (by decide) (by decide)]
          refine OpsW.q rfl (q_eql rfl rfl) ?_
          refine OpsW.q rfl (q_move (v := .bool true) rfl) ?_
          refine OpsW.qw rfl rfl (q_move (v := .int _ _) rfl) ?_
          refine OpsW.qw rfl rfl (q_eql rfl rfl) ?_
          refine OpsW.q rfl (q_and2 rfl rfl rfl) ?_
          refine OpsW.q rfl (q_move (v := .bool true) rfl) ?_
          refine OpsW.qw rfl rfl (q_move (v := S _) rfl) ?_
          refine OpsW.qw rfl rfl (q_lenS Try.underlying9 rfl) ?_
          refine OpsW.qw rfl rfl (q_eql rfl rfl) ?_
          refine OpsW.q rfl (q_and2 rfl rfl rfl) ?_
          refine OpsW.q rfl (q_move (v := .bool true) rfl) ?_
          refine OpsW.qw rfl rfl (q_move (v := S _) rfl) ?_
          refine OpsW.qw rfl rfl (q_sliceS_lo Try.underlying9 rfl rfl (by omega) (by decide)) ?_
          refine OpsW.qw rfl rfl (q_eqS rfl rfl) ?_
          refine OpsW.q rfl (q_and2 rfl rfl rfl) ?_
          refine OpsW.q rfl (q_move (v := .bool true) rfl) ?_
          refine OpsW.qw rfl rfl (q_move (v := .int _ _) rfl) ?_
          refine OpsW.qw rfl rfl (q_eql rfl rfl) ?_
          refine OpsW.q rfl (q_and2 rfl rfl rfl) ?_
          refine OpsW.q rfl (q_assign (v := .bool _) rfl) ?_
          refine OpsW.nil ?_
          refine SeqP.go ?_
          refine AW.ret ?_
          refine RetP.mk1 (H' := H) (v1 := .bool _) rfl rfl  hS3.le ?_
          exact ⟨rfl, rfl⟩
        ·
          rintro _ _ ⟨rfl, rfl⟩
          refine AnyW.onlyQ 7 rfl (by kernel_rfl) rfl (dst_lt rfl) (q_extract (v := .int _ _) rfl rfl) ?_
          refine AnyW.onlyQ 9 rfl (by kernel_rfl) rfl (dst_lt rfl) (q_assign (v := .int _ _) rfl) ?_
          refine AnyW.done (by kernel_rfl) ?_
          refine SeqP.go ?_
          refine AW.seq ?_
          refine AW.region ?_
          refine OpsW.q rfl (o_call rfl Try.func15 rfl rfl (Size_con _)) ?_
          rw [sizeS_no (by decide) (by decide)]
          refine OpsW.q rfl (q_eql rfl rfl) ?_
          refine OpsW.q rfl (q_move (v := .bool true) rfl) ?_
          refine OpsW.qw rfl rfl (q_move (v := .int _ _) rfl) ?_
          refine OpsW.qw rfl rfl (q_eql rfl rfl) ?_
          refine OpsW.q rfl (q_and2 rfl rfl rfl) ?_
          refine OpsW.q rfl (q_move (v := .bool true) rfl) ?_
          refine OpsW.qw rfl rfl (q_move (v := S _) rfl) ?_
          refine OpsW.qw rfl rfl (q_lenS Try.underlying9 rfl) ?_
          refine OpsW.qw rfl rfl (q_eql rfl rfl) ?_
          refine OpsW.q rfl (q_and2 rfl rfl rfl) ?_
          refine OpsW.q rfl (q_move (v := .bool true) rfl) ?_
          refine OpsW.qw rfl rfl (q_move (v := S _) rfl) ?_
          refine OpsW.qw rfl rfl (q_sliceS_lo Try.underlying9 rfl rfl (by omega) (by decide)) ?_
          refine OpsW.qw rfl rfl (q_eqS rfl rfl) ?_
          refine OpsW.q rfl (q_and2 rfl rfl rfl) ?_
          refine OpsW.q rfl (q_move (v := .bool true) rfl) ?_
          refine OpsW.qw rfl rfl (q_move (v := .int _ _) rfl) ?_
          refine OpsW.qw rfl rfl (q_eql rfl rfl) ?_
          refine OpsW.q rfl (q_and2 rfl rfl rfl) ?_
          refine OpsW.q rfl (q_assign (v := .bool _) rfl) ?_
          refine OpsW.nil ?_
          refine SeqP.go ?_
          refine AW.ret ?_
          refine RetP.mk1 (H' := H) (v1 := .bool _) rfl rfl  hS3.le ?_
          exact ⟨rfl, rfl⟩
      ·
        rintro _ _ ⟨rfl, rfl⟩
        refine AnyW.onlyQ 6 rfl (by kernel_rfl) rfl (dst_lt rfl) (q_extract (v := S _) rfl rfl) ?_
        refine AnyW.onlyQ 8 rfl (by kernel_rfl) rfl (dst_lt rfl) (q_assign (v := S _) rfl) ?_
        refine AnyW.onlyQ 9 rfl (by kernel_rfl) rfl (dst_lt rfl) (q_assign (v := .int _ _) rfl) ?_
        refine AnyW.done (by kernel_rfl) ?_
        refine SeqP.go ?_
        refine AW.seq ?_
        refine AW.region ?_
        refine OpsW.q rfl (o_call rfl Try.func15 rfl rfl (Size_con _)) ?_
        rw [sizeS_no (by decide) (by decide)]
        refine OpsW.q rfl (q_eql rfl rfl) ?_
        refine OpsW.q rfl (q_move (v := .bool true) rfl) ?_
        refine OpsW.qw rfl rfl (q_move (v := .int _ _) rfl) ?_
        refine OpsW.qw rfl rfl (q_eql rfl rfl) ?_
        refine OpsW.q rfl (q_and2 rfl rfl rfl) ?_
        refine OpsW.q rfl (q_move (v := .bool true) rfl) ?_
        refine OpsW.qw rfl rfl (q_move (v := S _) rfl) ?_
        refine OpsW.qw rfl rfl (q_lenS Try.underlying9 rfl) ?_
        refine OpsW.qw rfl rfl (q_eql rfl rfl) ?_
        refine OpsW.q rfl (q_and2 rfl rfl rfl) ?_
        refine OpsW.q rfl (q_move (v := .bool true) rfl) ?_
        refine OpsW.qw rfl rfl (q_move (v := S _) rfl) ?_
        refine OpsW.qw rfl rfl (q_sliceS_lo Try.underlying9 rfl rfl (by omega) (by decide)) ?_
        refine OpsW.qw rfl rfl (q_eqS rfl rfl) ?_
        refine OpsW.q rfl (q_and2 rfl rfl rfl) ?_
        refine OpsW.q rfl (q_move (v := .bool true) rfl) ?_
        refine OpsW.qw rfl rfl (q_move (v := .int _ _) rfl) ?_
        refine OpsW.qw rfl rfl (q_eql rfl rfl) ?_
        refine OpsW.q rfl (q_and2 rfl rfl rfl) ?_
        refine OpsW.q rfl (q_assign (v := .bool _) rfl) ?_
        refine OpsW.nil ?_
        refine SeqP.go ?_
        refine AW.ret ?_
        refine RetP.mk1 (H' := H) (v1 := .bool _) rfl rfl  hS3.le ?_
        exact ⟨rfl, rfl⟩
    ·
      rintro v14 H4 hS4
      clear hS2
      refine AnyW.two 1 3 rfl rfl (by kernel_rfl) rfl rfl (dst_lt rfl) (dst_lt rfl) (q_stringB (hS4.vec at1) Try.underlying33 Try.underlying5 Try.underlying9 rfl) (q_stringB (hS4.vec at0) Try.underlying33 Try.underlying5 Try.underlying9 rfl) ?_ ?_
      ·
        rintro _ _ ⟨rfl, rfl⟩
        refine AnyW.onlyQ 3 rfl (by kernel_rfl) rfl (dst_lt rfl) (q_stringB (hS4.vec at0) Try.underlying33 Try.underlying5 Try.underlying9 rfl) ?_
        refine AnyW.onlyQ 4 rfl (by kernel_rfl) rfl (dst_lt rfl) (o_call rfl Try.func11 rfl rfl (Open_con (by decide) (by decide))) ?_
        rw [fst_of aw_sopen, snd_of aw_sopen]
        refine AnyW.onlyQ 5 rfl (by kernel_rfl) rfl (dst_lt rfl) (q_move (v := .tuple _) rfl) ?_
        refine AnyW.two 6 7 rfl rfl (by kernel_rfl) rfl rfl (dst_lt rfl) (dst_lt rfl) (q_extract (v := S _) rfl rfl) (q_extract (v := .int _ _) rfl rfl) ?_ ?_
        ·
          rintro _ _ ⟨rfl, rfl⟩
          refine AnyW.two 7 8 rfl rfl (by kernel_rfl) rfl rfl (dst_lt rfl) (dst_lt rfl) (q_extract (v := .int _ _) rfl rfl) (q_assign (v := S _) rfl) ?_ ?_
          ·
            rintro _ _ ⟨rfl, rfl⟩
            refine AnyW.onlyQ 8 rfl (by kernel_rfl) rfl (dst_lt rfl) (q_assign (v := S _) rfl) ?_
            refine AnyW.onlyQ 9 rfl (by kernel_rfl) rfl (dst_lt rfl) (q_assign (v := .int _ _) rfl) ?_
            refine AnyW.done (by kernel_rfl) ?_
            refine SeqP.go ?_
            refine AW.seq ?_
            refine AW.region ?_
            refine OpsW.q rfl (o_call rfl Try.func15 rfl rfl (Size_con _)) ?_
            rw [sizeS_no (by decide) (by decide)]
            refine OpsW.q rfl (q_eql rfl rfl) ?_
            refine OpsW.q rfl (q_move (v := .bool true) rfl) ?_
            refine OpsW.qw rfl rfl (q_move (v := .int _ _) rfl) ?_
            refine OpsW.qw rfl rfl (q_eql rfl rfl) ?_
            refine OpsW.q rfl (q_and2 rfl rfl rfl) ?_
            refine OpsW.q rfl (q_move (v := .bool true) rfl) ?_
            refine OpsW.qw rfl rfl (q_move (v := S _) rfl) ?_
            refine OpsW.qw rfl rfl (q_lenS Try.underlying9 rfl) ?_
            refine OpsW.qw rfl rfl (q_eql rfl rfl) ?_
            refine OpsW.q rfl (q_and2 rfl rfl rfl) ?_
            refine OpsW.q rfl (q_move (v := .bool true) rfl) ?_
            refine OpsW.qw rfl rfl (q_move (v := S _) rfl) ?_
            refine OpsW.qw rfl rfl (q_sliceS_lo Try.underlying9 rfl rfl (by omega) (by decide)) ?_
            refine OpsW.qw rfl rfl (q_eqS rfl rfl) ?_
            refine OpsW.q rfl (q_and2 rfl rfl rfl) ?_
            refine OpsW.q rfl (q_move (v := .bool true) rfl) ?_
            refine OpsW.qw rfl rfl (q_move (v := .int _ _) rfl) ?_
            refine OpsW.qw rfl rfl (q_eql rfl rfl) ?_
            refine OpsW.q rfl (q_and2 rfl rfl rfl) ?_
            refine OpsW.q rfl (q_assign (v := .bool _) rfl) ?_
            refine OpsW.nil ?_
            refine SeqP.go ?_
            refine AW.ret ?_
            refine RetP.mk1 (H' := H) (v1 := .bool _) rfl rfl  hS4.le ?_
            exact ⟨rfl, rfl⟩
          ·
            rintro _ _ ⟨rfl, rfl⟩
            refine AnyW.onlyQ 7 rfl (by kernel_rfl) rfl (dst_lt rfl) (q_extract (v := .int _ _) rfl rfl) ?_
            refine AnyW.onlyQ 9 rfl (by kernel_rfl) rfl (dst_lt rfl) (q_assign (v := .int _ _) rfl) ?_
            refine AnyW.done (by kernel_rfl) ?_
            refine SeqP.go ?_
            refine AW.seq ?_
            refine AW.region ?_
            refine OpsW.q rfl (o_call rfl Try.func15 rfl rfl (Size_con _)) ?_
            rw [sizeS_no (by decide) (by decide)]
            refine OpsW.q rfl (q_eql rfl rfl) ?_
            refine OpsW.q rfl (q_move (v := .bool true) rfl) ?_
            refine OpsW.qw rfl rfl (q_move (v := .int _ _) rfl) ?_
            refine OpsW.qw rfl rfl (q_eql rfl rfl) ?_
            refine OpsW.q rfl (q_and2 rfl rfl rfl) ?_
            refine OpsW.q rfl (q_move (v := .bool true) rfl) ?_
            refine OpsW.qw rfl rfl (q_move (v := S _) rfl) ?_
            refine OpsW.qw rfl rfl (q_lenS Try.underlying9 rfl) ?_
            refine OpsW.qw rfl rfl (q_eql rfl rfl) ?_
            refine OpsW.q rfl (q_and2 rfl rfl rfl) ?_
            refine OpsW.q rfl (q_move (v := .bool true) rfl) ?_
            refine OpsW.qw rfl rfl (q_move (v := S _) rfl) ?_
            refine OpsW.qw rfl rfl (q_sliceS_lo Try.underlying9 rfl rfl (by omega) (by decide)) ?_
            refine OpsW.qw rfl rfl (q_eqS rfl rfl) ?_
            refine OpsW.q rfl (q_and2 rfl rfl rfl) ?_
            refine OpsW.q rfl (q_move (v := .bool true) rfl) ?_
            refine OpsW.qw rfl rfl (q_move (v := .int _ _) rfl) ?_
            refine OpsW.qw rfl rfl (q_eql rfl rfl) ?_
            refine OpsW.q rfl (q_and2 rfl rfl rfl) ?_
            refine OpsW.q rfl (q_assign (v := .bool _) rfl) ?_
            refine OpsW.nil ?_
            refine SeqP.go ?_
            refine AW.ret ?_
            refine RetP.mk1 (H' := H) (v1 := .bool _) rfl rfl  hS4.le ?_
            exact ⟨rfl, rfl⟩
        ·
          rintro _ _ ⟨rfl, rfl⟩
          refine AnyW.onlyQ 6 rfl (by kernel_rfl) rfl (dst_lt rfl) (q_extract (v := S _) rfl rfl) ?_
          refine AnyW.onlyQ 8 rfl (by kernel_rfl) rfl (dst_lt rfl) (q_assign (v := S _) rfl) ?_
          refine AnyW.onlyQ 9 rfl (by kernel_rfl) rfl (dst_lt rfl) (q_assign (v := .int _ _) rfl) ?_
          refine AnyW.done (by kernel_rfl) ?_
          refine SeqP.go ?_
          refine AW.seq ?_
          refine AW.region ?_
          refine OpsW.q rfl (o_call rfl Try.func15 rfl rfl (Size_con _)) ?_
          rw [sizeS_no (by decide) (by decide)]
          refine OpsW.q rfl (q_eql rfl rfl) ?_
          refine OpsW.q rfl (q_move (v := .bool true) rfl) ?_
          refine OpsW.qw rfl rfl (q_move (v := .int _ _) rfl) ?_
          refine OpsW.qw rfl rfl (q_eql rfl rfl) ?_
          refine OpsW.q rfl (q_and2 rfl rfl rfl) ?_
          refine OpsW.q rfl (q_move (v := .bool true) rfl) ?_
          refine OpsW.qw rfl rfl (q_move (v := S _) rfl) ?_
          refine OpsW.qw rfl rfl (q_lenS Try.underlying9 rfl) ?_
          refine OpsW.qw rfl rfl (q_eql rfl rfl) ?_
          refine OpsW.q rfl (q_and2 rfl rfl rfl) ?_
          refine OpsW.q rfl (q_move (v := .bool true) rfl) ?_
          refine OpsW.qw rfl rfl (q_move (v := S _) rfl) ?_
          refine OpsW.qw rfl rfl (q_sliceS_lo Try.underlying9 rfl rfl (by omega) (by decide)) ?_
          refine OpsW.qw rfl rfl (q_eqS rfl rfl) ?_
          refine OpsW.q rfl (q_and2 rfl rfl rfl) ?_
          refine OpsW.q rfl (q_move (v := .bool true) rfl) ?_
          refine OpsW.qw rfl rfl (q_move (v := .int _ _) rfl) ?_
          refine OpsW.qw rfl rfl (q_eql rfl rfl) ?_
          refine OpsW.q rfl (q_and2 rfl rfl rfl) ?_
          refine OpsW.q rfl (q_assign (v := .bool _) rfl) ?_
          refine OpsW.nil ?_
          refine SeqP.go ?_
          refine AW.ret ?_
          refine RetP.mk1 (H' := H) (v1 := .bool _) rfl rfl  hS4.le ?_
          exact ⟨rfl, rfl⟩
      ·
        rintro _ _ ⟨rfl, rfl⟩
        refine AnyW.onlyQ 1 rfl (by kernel_rfl) rfl (dst_lt rfl) (q_stringB (hS4.vec at1) Try.underlying33 Try.underlying5 Try.underlying9 rfl) ?_
        refine AnyW.onlyQ 4 rfl (by kernel_rfl) rfl (dst_lt rfl) (o_call rfl Try.func11 rfl rfl (Open_con (by decide) (by decide))) ?_
        rw [fst_of aw_sopen, snd_of aw_sopen]
        refine AnyW.onlyQ 5 rfl (by kernel_rfl) rfl (dst_lt rfl) (q_move (v := .tuple _) rfl) ?_
        refine AnyW.two 6 7 rfl rfl (by kernel_rfl) rfl rfl (dst_lt rfl) (dst_lt rfl) (q_extract (v := S _) rfl rfl) (q_extract (v := .int _ _) rfl rfl) ?_ ?_
        ·
          rintro _ _ ⟨rfl, rfl⟩
          refine AnyW.two 7 8 rfl rfl (by kernel_rfl) rfl rfl (dst_lt rfl) (dst_lt rfl) (q_extract (v := .int _ _) rfl rfl) (q_assign (v := S _) rfl) ?_ ?_
          ·
            rintro _ _ ⟨rfl, rfl⟩
            refine AnyW.onlyQ 8 rfl (by kernel_rfl) rfl (dst_lt rfl) (q_assign (v := S _) rfl) ?_
            refine AnyW.onlyQ 9 rfl (by kernel_rfl) rfl (dst_lt rfl) (q_assign (v := .int _ _) rfl) ?_
            refine AnyW.done (by kernel_rfl) ?_
            refine SeqP.go ?_
            refine AW.seq ?_
            refine AW.region ?_
            refine OpsW.q rfl (o_call rfl Try.func15 rfl rfl (Size_con _)) ?_
            rw [sizeS_no (by decide) (by decide)]
            refine OpsW.q rfl (q_eql rfl rfl) ?_
            refine OpsW.q rfl (q_move (v := .bool true) rfl) ?_
            refine OpsW.qw rfl rfl (q_move (v := .int _ _) rfl) ?_
            refine OpsW.qw rfl rfl (q_eql rfl rfl) ?_
            refine OpsW.q rfl (q_and2 rfl rfl rfl) ?_
            refine OpsW.q rfl (q_move (v := .bool true) rfl) ?_
            refine OpsW.qw rfl rfl (q_move (v := S _) rfl) ?_
            refine OpsW.qw rfl rfl (q_lenS Try.underlying9 rfl) ?_
            refine OpsW.qw rfl rfl (q_eql rfl rfl) ?_
            refine OpsW.q rfl (q_and2 rfl rfl rfl) ?_
            refine OpsW.q rfl (q_move (v := .bool true) rfl) ?_
            refine OpsW.qw rfl rfl (q_move (v := S _) rfl) ?_
            refine OpsW.qw rfl rfl (q_sliceS_lo Try.underlying9 rfl rfl (by omega) (by decide)) ?_
            refine OpsW.qw rfl rfl (q_eqS rfl rfl) ?_
            refine OpsW.q rfl (q_and2 rfl rfl rfl) ?_
            refine OpsW.q rfl (q_move (v := .bool true) rfl) ?_
            refine OpsW.qw rfl rfl (q_move (v := .int _ _) rfl) ?_
            refine OpsW.qw rfl rfl (q_eql rfl rfl) ?_
            refine OpsW.q rfl (q_and2 rfl rfl rfl) ?_
            refine OpsW.q rfl (q_assign (v := .bool _) rfl) ?_
            refine OpsW.nil ?_
            refine SeqP.go ?_
            refine AW.ret ?_
            refine RetP.mk1 (H' := H) (v1 := .bool _) rfl rfl  hS4.le ?_
            exact ⟨rfl, rfl⟩
          ·
            rintro _ _ ⟨rfl, rfl⟩
            refine AnyW.onlyQ 7 rfl (by kernel_rfl) rfl (dst_lt rfl) (q_extract (v := .int _ _) rfl rfl) ?_
            refine AnyW.onlyQ 9 rfl (by kernel_rfl) rfl (dst_lt rfl) (q_assign (v := .int _ _) rfl) ?_
            refine AnyW.done (by kernel_rfl) ?_
            refine SeqP.go ?_
            refine AW.seq ?_
            refine AW.region ?_
            refine OpsW.q rfl (o_call rfl Try.func15 rfl rfl (Size_con _)) ?_
            rw [sizeS_no (by decide) (by decide)]
            refine OpsW.q rfl (q_eql rfl rfl) ?_
            refine OpsW.q rfl (q_move (v := .bool true) rfl) ?_
            refine OpsW.qw rfl rfl (q_move (v := .int _ _) rfl) ?_
            refine OpsW.qw rfl rfl (q_eql rfl rfl) ?_
            refine OpsW.q rfl (q_and2 rfl rfl rfl) ?_
            refine OpsW.q rfl (q_move (v := .bool true) rfl) ?_
            refine OpsW.qw rfl rfl (q_move (v := S _) rfl) ?_
            refine OpsW.qw rfl rfl (q_lenS Try.underlying9 rfl) ?_
            refine OpsW.qw rfl rfl (q_eql rfl rfl) ?_
            refine OpsW.q rfl (q_and2 rfl rfl rfl) ?_
            refine OpsW.q rfl (q_move (v := .bool true) rfl) ?_
            refine OpsW.qw rfl rfl (q_move (v := S _) rfl) ?_
            refine OpsW.qw rfl rfl (q_sliceS_lo Try.underlying9 rfl rfl (by omega) (by decide)) ?_
            refine OpsW.qw rfl rfl (q_eqS rfl rfl) ?_
            refine OpsW.q rfl (q_and2 rfl rfl rfl) ?_
            refine OpsW.q rfl (q_move (v := .bool true) rfl) ?_
            refine OpsW.qw rfl rfl (q_move (v := .int _ _) rfl) ?_
            refine OpsW.qw rfl rfl (q_eql rfl rfl) ?_
            refine OpsW.q rfl (q_and2 rfl rfl rfl) ?_
            refine OpsW.q rfl (q_assign (v := .bool _) rfl) ?_
            refine OpsW.nil ?_
            refine SeqP.go ?_
            refine AW.ret ?_
            refine RetP.mk1 (H' := H) (v1 := .bool _) rfl rfl  hS4.le ?_
            exact ⟨rfl, rfl⟩
        ·
          rintro _ _ ⟨rfl, rfl⟩
          refine AnyW.onlyQ 6 rfl (by kernel_rfl) rfl (dst_lt rfl) (q_extract (v := S _) rfl rfl) ?_
          refine AnyW.onlyQ 8 rfl (by kernel_rfl) rfl (dst_lt rfl) (q_assign (v := S _) rfl) ?_
          refine AnyW.onlyQ 9 rfl (by kernel_rfl) rfl (dst_lt rfl) (q_assign (v := .int _ _) rfl) ?_
          refine AnyW.done (by kernel_rfl) ?_
          refine SeqP.go ?_
          refine AW.seq ?_
          refine AW.region ?_
          refine OpsW.q rfl (o_call rfl Try.func15 rfl rfl (Size_con _)) ?_
          rw [sizeS_no (by decide) (by decide)]
          refine OpsW.q rfl (q_eql rfl rfl) ?_
          refine OpsW.q rfl (q_move (v := .bool true) rfl) ?_
          refine OpsW.qw rfl rfl (q_move (v := .int _ _) rfl) ?_
          refine OpsW.qw rfl rfl (q_eql rfl rfl) ?_
          refine OpsW.q rfl (q_and2 rfl rfl rfl) ?_
          refine OpsW.q rfl (q_move (v := .bool true) rfl) ?_
          refine OpsW.qw rfl rfl (q_move (v := S _) rfl) ?_
          refine OpsW.qw rfl rfl (q_lenS Try.underlying9 rfl) ?_
          refine OpsW.qw rfl rfl (q_eql rfl rfl) ?_
          refine OpsW.q rfl (q_and2 rfl rfl rfl) ?_
          refine OpsW.q rfl (q_move (v := .bool true) rfl) ?_
          refine OpsW.qw rfl rfl (q_move (v := S _) rfl) ?_
          refine OpsW.qw rfl rfl (q_sliceS_lo Try.underlying9 rfl rfl (by omega) (by decide)) ?_
          refine OpsW.qw rfl rfl (q_eqS rfl rfl) ?_
          refine OpsW.q rfl (q_and2 rfl rfl rfl) ?_
          refine OpsW.q rfl (q_move (v := .bool true) rfl) ?_
          refine OpsW.qw rfl rfl (q_move (v := .int _ _) rfl) ?_
          refine OpsW.qw rfl rfl (q_eql rfl rfl) ?_
          refine OpsW.q rfl (q_and2 rfl rfl rfl) ?_
          refine OpsW.q rfl (q_assign (v := .bool _) rfl) ?_
          refine OpsW.nil ?_
          refine SeqP.go ?_
          refine AW.ret ?_
          refine RetP.mk1 (H' := H) (v1 := .bool _) rfl rfl  hS4.le ?_
          exact ⟨rfl, rfl⟩
  ·
    rintro v14 H5 hS5
    clear hS1
    refine AnyW.two 0 3 rfl rfl (by kernel_rfl) rfl rfl (dst_lt rfl) (dst_lt rfl) (s_makeSliceB (by_ := 1) hS5 Try.underlying33 (by kernel_rfl) (by kernel_rfl) (by kernel_rfl) rfl rfl (by omega) (by omega) (by omega) (by omega) (by unfold maxLen; omega)) (q_stringB (hS5.vec at0) Try.underlying33 Try.underlying5 Try.underlying9 rfl) ?_ ?_
    ·
      rintro v12 H6 hS6
      clear hS5
      refine AnyW.two 1 3 rfl rfl (by kernel_rfl) rfl rfl (dst_lt rfl) (dst_lt rfl) (q_stringB (hS6.vec at0) Try.underlying33 Try.underlying5 Try.underlying9 rfl) (q_stringB (hS6.vec at1) Try.underlying33 Try.underlying5 Try.underlying9 rfl) ?_ ?_
      ·
        rintro _ _ ⟨rfl, rfl⟩
        refine AnyW.onlyQ 3 rfl (by kernel_rfl) rfl (dst_lt rfl) (q_stringB (hS6.vec at1) Try.underlying33 Try.underlying5 Try.underlying9 rfl) ?_
        refine AnyW.onlyQ 4 rfl (by kernel_rfl) rfl (dst_lt rfl) (o_call rfl Try.func11 rfl rfl (Open_con (by decide) (by decide))) ?_
        rw [fst_of aw_sopen, snd_of aw_sopen]
        refine AnyW.onlyQ 5 rfl (by kernel_rfl) rfl (dst_lt rfl) (q_move (v := .tuple _) rfl) ?_
        refine AnyW.two 6 7 rfl rfl (by kernel_rfl) rfl rfl (dst_lt rfl) (dst_lt rfl) (q_extract (v := S _) rfl rfl) (q_extract (v := .int _ _) rfl rfl) ?_ ?_
        ·
          rintro _ _ ⟨rfl, rfl⟩
          refine AnyW.two 7 8 rfl rfl (by kernel_rfl) rfl rfl (dst_lt rfl) (dst_lt rfl) (q_extract (v := .int _ _) rfl rfl) (q_assign (v := S _) rfl) ?_ ?_
          ·
            rintro _ _ ⟨rfl, rfl⟩
            refine AnyW.onlyQ 8 rfl (by kernel_rfl) rfl (dst_lt rfl) (q_assign (v := S _) rfl) ?_
            refine AnyW.onlyQ 9 rfl (by kernel_rfl) rfl (dst_lt rfl) (q_assign (v := .int _ _) rfl) ?_
            refine AnyW.done (by kernel_rfl) ?_
            refine SeqP.go ?_
            refine AW.seq ?_
            refine AW.region ?_
            refine OpsW.q rfl (o_call rfl Try.func15 rfl rfl (Size_con _)) ?_
            rw [sizeS_no (by decide) (by decide)]
            refine OpsW.q rfl (q_eql rfl rfl) ?_
            refine OpsW.q rfl (q_move (v := .bool true) rfl) ?_
            refine OpsW.qw rfl rfl (q_move (v := .int _ _) rfl) ?_
            refine OpsW.qw rfl rfl (q_eql rfl rfl) ?_
            refine OpsW.q rfl (q_and2 rfl rfl rfl) ?_
            refine OpsW.q rfl (q_move (v := .bool true) rfl) ?_
            refine OpsW.qw rfl rfl (q_move (v := S _) rfl) ?_
            refine OpsW.qw rfl rfl (q_lenS Try.underlying9 rfl) ?_
            refine OpsW.qw rfl rfl (q_eql rfl rfl) ?_
            refine OpsW.q rfl (q_and2 rfl rfl rfl) ?_
            refine OpsW.q rfl (q_move (v := .bool true) rfl) ?_
            refine OpsW.qw rfl rfl (q_move (v := S _) rfl) ?_
            refine OpsW.qw rfl rfl (q_sliceS_lo Try.underlying9 rfl rfl (by omega) (by decide)) ?_
            refine OpsW.qw rfl rfl (q_eqS rfl rfl) ?_
            refine OpsW.q rfl (q_and2 rfl rfl rfl) ?_
            refine OpsW.q rfl (q_move (v := .bool true) rfl) ?_
            refine OpsW.qw rfl rfl (q_move (v := .int _ _) rfl) ?_
            refine OpsW.qw rfl rfl (q_eql rfl rfl) ?_
            refine OpsW.q rfl (q_and2 rfl rfl rfl) ?_
            refine OpsW.q rfl (q_assign (v := .bool _) rfl) ?_
            refine OpsW.nil ?_
            refine SeqP.go ?_
            refine AW.ret ?_
            refine RetP.mk1 (H' := H) (v1 := .bool _) rfl rfl  hS6.le ?_
            exact ⟨rfl, rfl⟩
          ·
            rintro _ _ ⟨rfl, rfl⟩
            refine AnyW.onlyQ 7 rfl (by kernel_rfl) rfl (dst_lt rfl) (q_extract (v := .int _ _) rfl rfl) ?_
            refine AnyW.onlyQ 9 rfl (by kernel_rfl) rfl (dst_lt rfl) (q_assign (v := .int _ _) rfl) ?_
            refine AnyW.done (by kernel_rfl) ?_
            refine SeqP.go ?_
            refine AW.seq ?_
            refine AW.region ?_
            refine OpsW.q rfl (o_call rfl Try.func15 rfl rfl (Size_con _)) ?_
            rw [sizeS_no (by decide) (by decide)]
            refine OpsW.q rfl (q_eql rfl rfl) ?_
            refine OpsW.q rfl (q_move (v := .bool true) rfl) ?_
            refine OpsW.qw rfl rfl (q_move (v := .int _ _) rfl) ?_
            refine OpsW.qw rfl rfl (q_eql rfl rfl) ?_
            refine OpsW.q rfl (q_and2 rfl rfl rfl) ?_
            refine OpsW.q rfl (q_move (v := .bool true) rfl) ?_
            refine OpsW.qw rfl rfl (q_move (v := S _) rfl) ?_
            refine OpsW.qw rfl rfl (q_lenS Try.underlying9 rfl) ?_
            refine OpsW.qw rfl rfl (q_eql rfl rfl) ?_
            refine OpsW.q rfl (q_and2 rfl rfl rfl) ?_
            refine OpsW.q rfl (q_move (v := .bool true) rfl) ?_
            refine OpsW.qw rfl rfl (q_move (v := S _) rfl) ?_
            refine OpsW.qw rfl rfl (q_sliceS_lo Try.underlying9 rfl rfl (by omega) (by decide)) ?_
            refine OpsW.qw rfl rfl (q_eqS rfl rfl) ?_
            refine OpsW.q rfl (q_and2 rfl rfl rfl) ?_
            refine OpsW.q rfl (q_move (v := .bool true) rfl) ?_
            refine OpsW.qw rfl rfl (q_move (v := .int _ _) rfl) ?_
            refine OpsW.qw rfl rfl (q_eql rfl rfl) ?_
            refine OpsW.q rfl (q_and2 rfl rfl rfl) ?_
            refine OpsW.q rfl (q_assign (v := .bool _) rfl) ?_
            refine OpsW.nil ?_
            refine SeqP.go ?_
            refine AW.ret ?_
            refine RetP.mk1 (H' := H) (v1 := .bool _) rfl rfl  hS6.le ?_
            exact ⟨rfl, rfl⟩
        ·
          rintro _ _ ⟨rfl, rfl⟩
          refine AnyW.onlyQ 6 rfl (by kernel_rfl) rfl (dst_lt rfl) (q_extract (v := S _) rfl rfl) ?_
          refine AnyW.onlyQ 8 rfl (by kernel_rfl) rfl (dst_lt rfl) (q_assign (v := S _) rfl) ?_
          refine AnyW.onlyQ 9 rfl (by kernel_rfl) rfl (dst_lt rfl) (q_assign (v := .int _ _) rfl) ?_
          refine AnyW.done (by kernel_rfl) ?_
          refine SeqP.go ?_
          refine AW.seq ?_
          refine AW.region ?_
          refine OpsW.q rfl (o_call rfl Try.func15 rfl rfl (Size_con _)) ?_
          rw [sizeS_no (by decide) (by decide)]
          refine OpsW.q rfl (q_eql rfl rfl) ?_
          refine OpsW.q rfl (q_move (v := .bool true) rfl) ?_
          refine OpsW.qw rfl rfl (q_move (v := .int _ _) rfl) ?_
          refine OpsW.qw rfl rfl (q_eql rfl rfl) ?_
          refine OpsW.q rfl (q_and2 rfl rfl rfl) ?_
          refine OpsW.q rfl (q_move (v := .bool true) rfl) ?_
          refine OpsW.qw rfl rfl (q_move (v := S _) rfl) ?_
          refine OpsW.qw rfl rfl (q_lenS Try.underlying9 rfl) ?_
          refine OpsW.qw rfl rfl (q_eql rfl rfl) ?_
          refine OpsW.q rfl (q_and2 rfl rfl rfl) ?_
          refine OpsW.q rfl (q_move (v := .bool true) rfl) ?_
          refine OpsW.qw rfl rfl (q_move (v := S _) rfl) ?_
          refine OpsW.qw rfl rfl (q_sliceS_lo Try.underlying9 rfl rfl (by omega) (by decide)) ?_
          refine OpsW.qw rfl rfl (q_eqS rfl rfl) ?_
          refine OpsW.q rfl (q_and2 rfl rfl rfl) ?_
          refine OpsW.q rfl (q_move (v := .bool true) rfl) ?_
          refine OpsW.qw rfl rfl (q_move (v := .int _ _) rfl) ?_
          refine OpsW.qw rfl rfl (q_eql rfl rfl) ?_
          refine OpsW.q rfl (q_and2 rfl rfl rfl) ?_
          refine OpsW.q rfl (q_assign (v := .bool _) rfl) ?_
          refine OpsW.nil ?_
          refine SeqP.go ?_
          refine AW.ret ?_
          refine RetP.mk1 (H' := H) (v1 := .bool _) rfl rfl  hS6.le ?_
          exact ⟨rfl, rfl⟩
      ·
        rintro _ _ ⟨rfl, rfl⟩
        refine AnyW.onlyQ 1 rfl (by kernel_rfl) rfl (dst_lt rfl) (q_stringB (hS6.vec at0) Try.underlying33 Try.underlying5 Try.underlying9 rfl) ?_
        refine AnyW.onlyQ 4 rfl (by kernel_rfl) rfl (dst_lt rfl) (o_call rfl Try.func11 rfl rfl (Open_con (by decide) (by decide))) ?_
        rw [fst_of aw_sopen, snd_of aw_sopen]
        refine AnyW.onlyQ 5 rfl (by kernel_rfl) rfl (dst_lt rfl) (q_move (v := .tuple _) rfl) ?_
        refine AnyW.two 6 7 rfl rfl (by kernel_rfl) rfl rfl (dst_lt rfl) (dst_lt rfl) (q_extract (v := S _) rfl rfl) (q_extract (v := .int _ _) rfl rfl) ?_ ?_
        ·
          rintro _ _ ⟨rfl, rfl⟩
          refine AnyW.two 7 8 rfl rfl (by kernel_rfl) rfl rfl (dst_lt rfl) (dst_lt rfl) (q_extract (v := .int _ _) rfl rfl) (q_assign (v := S _) rfl) ?_ ?_
          ·
            rintro _ _ ⟨rfl, rfl⟩
            refine AnyW.onlyQ 8 rfl (by kernel_rfl) rfl (dst_lt rfl) (q_assign (v := S _) rfl) ?_
            refine AnyW.onlyQ 9 rfl (by kernel_rfl) rfl (dst_lt rfl) (q_assign (v := .int _ _) rfl) ?_
            refine AnyW.done (by kernel_rfl) ?_
            refine SeqP.go ?_
            refine AW.seq ?_
            refine AW.region ?_
            refine OpsW.q rfl (o_call rfl Try.func15 rfl rfl (Size_con _)) ?_
            rw [sizeS_no (by decide) (by decide)]
            refine OpsW.q rfl (q_eql rfl rfl) ?_
            refine OpsW.q rfl (q_move (v := .bool true) rfl) ?_
            refine OpsW.qw rfl rfl (q_move (v := .int _ _) rfl) ?_
            refine OpsW.qw rfl rfl (q_eql rfl rfl) ?_
            refine OpsW.q rfl (q_and2 rfl rfl rfl) ?_
            refine OpsW.q rfl (q_move (v := .bool true) rfl) ?_
            refine OpsW.qw rfl rfl (q_move (v := S _) rfl) ?_
            refine OpsW.qw rfl rfl (q_lenS Try.underlying9 rfl) ?_
            refine OpsW.qw rfl rfl (q_eql rfl rfl) ?_
            refine OpsW.q rfl (q_and2 rfl rfl rfl) ?_
            refine OpsW.q rfl (q_move (v := .bool true) rfl) ?_
            refine OpsW.qw rfl rfl (q_move (v := S _) rfl) ?_
            refine OpsW.qw rfl rfl (q_sliceS_lo Try.underlying9 rfl rfl (by omega) (by decide)) ?_
            refine OpsW.qw rfl rfl (q_eqS rfl rfl) ?_
            refine OpsW.q rfl (q_and2 rfl rfl rfl) ?_
            refine OpsW.q rfl (q_move (v := .bool true) rfl) ?_
            refine OpsW.qw rfl rfl (q_move (v := .int _ _) rfl) ?_
            refine OpsW.qw rfl rfl (q_eql rfl rfl) ?_
            refine OpsW.q rfl (q_and2 rfl rfl rfl) ?_
            refine OpsW.q rfl (q_assign (v := .bool _) rfl) ?_
            refine OpsW.nil ?_
            refine SeqP.go ?_
            refine AW.ret ?_
            refine RetP.mk1 (H' := H) (v1 := .bool _) rfl rfl  hS6.le ?_
            exact ⟨rfl, rfl⟩
          ·
            rintro _ _ ⟨rfl, rfl⟩
            refine AnyW.onlyQ 7 rfl (by kernel_rfl) rfl (dst_lt rfl) (q_extract (v := .int _ _) rfl rfl) ?_
            refine AnyW.onlyQ 9 rfl (by kernel_rfl) rfl (dst_lt rfl) (q_assign (v := .int _ _) rfl) ?_
            refine AnyW.done (by kernel_rfl) ?_
            refine SeqP.go ?_
            refine AW.seq ?_
            refine AW.region ?_
            refine OpsW.q rfl (o_call rfl Try.func15 rfl rfl (Size_con _)) ?_
            rw [sizeS_no (by decide) (by decide)]
            refine OpsW.q rfl (q_eql rfl rfl) ?_
            refine OpsW.q rfl (q_move (v := .bool true) rfl) ?_
            refine OpsW.qw rfl rfl (q_move (v := .int _ _) rfl) ?_
            refine OpsW.qw rfl rfl (q_eql rfl rfl) ?_
            refine OpsW.q rfl (q_and2 rfl rfl rfl) ?_
            refine OpsW.q rfl (q_move (v := .bool true) rfl) ?_
            refine OpsW.qw rfl rfl (q_move (v := S _) rfl) ?_
            refine OpsW.qw rfl rfl (q_lenS Try.underlying9 rfl) ?_
            refine OpsW.qw rfl rfl (q_eql rfl rfl) ?_
            refine OpsW.q rfl (q_and2 rfl rfl rfl) ?_
            refine OpsW.q rfl (q_move (v := .bool true) rfl) ?_
            refine OpsW.qw rfl rfl (q_move (v := S _) rfl) ?_
            refine OpsW.qw rfl rfl (q_sliceS_lo Try.underlying9 rfl rfl (by omega) (by decide)) ?_
            refine OpsW.qw rfl rfl (q_eqS rfl rfl) ?_
            refine OpsW.q rfl (q_and2 rfl rfl rfl) ?_
            refine OpsW.q rfl (q_move (v := .bool true) rfl) ?_
            refine OpsW.qw rfl rfl (q_move (v := .int _ _) rfl) ?_
            refine OpsW.qw rfl rfl (q_eql rfl rfl) ?_
            refine OpsW.q rfl (q_and2 rfl rfl rfl) ?_
            refine OpsW.q rfl (q_assign (v := .bool _) rfl) ?_
            refine OpsW.nil ?_
            refine SeqP.go ?_
            refine AW.ret ?_
            refine RetP.mk1 (H' := H) (v1 := .bool _) rfl rfl  hS6.le ?_
            exact ⟨rfl, rfl⟩
        ·
          rintro _ _ ⟨rfl, rfl⟩
          refine AnyW.onlyQ 6 rfl (by kernel_rfl) rfl (dst_lt rfl) (q_extract (v := S _) rfl rfl) ?_
          refine AnyW.onlyQ 8 rfl (by kernel_rfl) rfl (dst_lt rfl) (q_assign (v := S _) rfl) ?_
          refine AnyW.onlyQ 9 rfl (by kernel_rfl) rfl (dst_lt rfl) (q_assign (v := .int _ _) rfl) ?_
          refine AnyW.done (by kernel_rfl) ?_
          refine SeqP.go ?_
          refine AW.seq ?_
          refine AW.region ?_
          refine OpsW.q rfl (o_call rfl Try.func15 rfl rfl (Size_con _)) ?_
          rw [sizeS_no (by decide) (by decide)]
          refine OpsW.q rfl (q_eql rfl rfl) ?_
          refine OpsW.q rfl (q_move (v := .bool true) rfl) ?_
          refine OpsW.qw rfl rfl (q_move (v := .int _ _) rfl) ?_
          refine OpsW.qw rfl rfl (q_eql rfl rfl) ?_
          refine OpsW.q rfl (q_and2 rfl rfl rfl) ?_
          refine OpsW.q rfl (q_move (v := .bool true) rfl) ?_
          refine OpsW.qw rfl rfl (q_move (v := S _) rfl) ?_
          refine OpsW.qw rfl rfl (q_lenS Try.underlying9 rfl) ?_
          refine OpsW.qw rfl rfl (q_eql rfl rfl) ?_
          refine OpsW.q rfl (q_and2 rfl rfl rfl) ?_
          refine OpsW.q rfl (q_move (v := .bool true) rfl) ?_
          refine OpsW.qw rfl rfl (q_move (v := S _) rfl) ?_
          refine OpsW.qw rfl rfl (q_sliceS_lo Try.underlying9 rfl rfl (by omega) (by decide)) ?_
          refine OpsW.qw rfl rfl (q_eqS rfl rfl) ?_
          refine OpsW.q rfl (q_and2 rfl rfl rfl) ?_
          refine OpsW.q rfl (q_move (v := .bool true) rfl) ?_
          refine OpsW.qw rfl rfl (q_move (v := .int _ _) rfl) ?_
          refine OpsW.qw rfl rfl (q_eql rfl rfl) ?_
          refine OpsW.q rfl (q_and2 rfl rfl rfl) ?_
          refine OpsW.q rfl (q_assign (v := .bool _) rfl) ?_
          refine OpsW.nil ?_
          refine SeqP.go ?_
          refine AW.ret ?_
          refine RetP.mk1 (H' := H) (v1 := .bool _) rfl rfl  hS6.le ?_
          exact ⟨rfl, rfl⟩
    ·
      rintro _ _ ⟨rfl, rfl⟩
      refine AnyW.only 0 rfl (by kernel_rfl) rfl (dst_lt rfl) (s_makeSliceB (by_ := 1) hS5 Try.underlying33 (by kernel_rfl) (by kernel_rfl) (by kernel_rfl) rfl rfl (by omega) (by omega) (by omega) (by omega) (by unfold maxLen; omega)) ?_
      rintro v12 H7 hS7
      clear hS5
      refine AnyW.onlyQ 1 rfl (by kernel_rfl) rfl (dst_lt rfl) (q_stringB (hS7.vec at0) Try.underlying33 Try.underlying5 Try.underlying9 rfl) ?_
      refine AnyW.onlyQ 4 rfl (by kernel_rfl) rfl (dst_lt rfl) (o_call rfl Try.func11 rfl rfl (Open_con (by decide) (by decide))) ?_
      rw [fst_of aw_sopen, snd_of aw_sopen]
      refine AnyW.onlyQ 5 rfl (by kernel_rfl) rfl (dst_lt rfl) (q_move (v := .tuple _) rfl) ?_
      refine AnyW.two 6 7 rfl rfl (by kernel_rfl) rfl rfl (dst_lt rfl) (dst_lt rfl) (q_extract (v := S _) rfl rfl) (q_extract (v := .int _ _) rfl rfl) ?_ ?_
      ·
        rintro _ _ ⟨rfl, rfl⟩
        refine AnyW.two 7 8 rfl rfl (by kernel_rfl) rfl rfl (dst_lt rfl) (dst_lt rfl) (q_extract (v := .int _ _) rfl rfl) (q_assign (v := S _) rfl) ?_ ?_
        ·
          rintro _ _ ⟨rfl, rfl⟩
          refine AnyW.onlyQ 8 rfl (by kernel_rfl) rfl (dst_lt rfl) (q_assign (v := S _) rfl) ?_
          refine AnyW.onlyQ 9 rfl (by kernel_rfl) rfl (dst_lt rfl) (q_assign (v := .int _ _) rfl) ?_
          refine AnyW.done (by kernel_rfl) ?_
          refine SeqP.go ?_
          refine AW.seq ?_
          refine AW.region ?_
          refine OpsW.q rfl (o_call rfl Try.func15 rfl rfl (Size_con _)) ?_
          rw [sizeS_no (by decide) (by decide)]
          refine OpsW.q rfl (q_eql rfl rfl) ?_
          refine OpsW.q rfl (q_move (v := .bool true) rfl) ?_
          refine OpsW.qw rfl rfl (q_move (v := .int _ _) rfl) ?_
          refine OpsW.qw rfl rfl (q_eql rfl rfl) ?_
          refine OpsW.q rfl (q_and2 rfl rfl rfl) ?_
          refine OpsW.q rfl (q_move (v := .bool true) rfl) ?_
          refine OpsW.qw rfl rfl (q_move (v := S _) rfl) ?_
          refine OpsW.qw rfl rfl (q_lenS Try.underlying9 rfl) ?_
          refine OpsW.qw rfl rfl (q_eql rfl rfl) ?_
          refine OpsW.q rfl (q_and2 rfl rfl rfl) ?_
          refine OpsW.q rfl (q_move (v := .bool true) rfl) ?_
          refine OpsW.qw rfl rfl (q_move (v := S _) rfl) ?_
          refine OpsW.qw rfl rfl (q_sliceS_lo Try.underlying9 rfl rfl (by omega) (by decide)) ?_
          refine OpsW.qw rfl rfl (q_eqS rfl rfl) ?_
          refine OpsW.q rfl (q_and2 rfl rfl rfl) ?_
          refine OpsW.q rfl (q_move (v := .bool true) rfl) ?_
          refine OpsW.qw rfl rfl (q_move (v := .int _ _) rfl) ?_
          refine OpsW.qw rfl rfl (q_eql rfl rfl) ?_
          refine OpsW.q rfl (q_and2 rfl rfl rfl) ?_
          refine OpsW.q rfl (q_assign (v := .bool _) rfl) ?_
          refine OpsW.nil ?_
          refine SeqP.go ?_
          refine AW.ret ?_
          refine RetP.mk1 (H' := H) (v1 := .bool _) rfl rfl  hS7.le ?_
          exact ⟨rfl, rfl⟩
        ·
          rintro _ _ ⟨rfl, rfl⟩
          refine AnyW.onlyQ 7 rfl (by kernel_rfl) rfl (dst_lt rfl) (q_extract (v := .int _ _) rfl rfl) ?_
          refine AnyW.onlyQ 9 rfl (by kernel_rfl) rfl (dst_lt rfl) (q_assign (v := .int _ _) rfl) ?_
          refine AnyW.done (by kernel_rfl) ?_
          refine SeqP.go ?_
          refine AW.seq ?_
          refine AW.region ?_
          refine OpsW.q rfl (o_call rfl Try.func15 rfl rfl (Size_con _)) ?_
          rw [sizeS_no (by decide) (by decide)]
          refine OpsW.q rfl (q_eql rfl rfl) ?_
          refine OpsW.q rfl (q_move (v := .bool true) rfl) ?_
          refine OpsW.qw rfl rfl (q_move (v := .int _ _) rfl) ?_
          refine OpsW.qw rfl rfl (q_eql rfl rfl) ?_
          refine OpsW.q rfl (q_and2 rfl rfl rfl) ?_
          refine OpsW.q rfl (q_move (v := .bool true) rfl) ?_
          refine OpsW.qw rfl rfl (q_move (v := S _) rfl) ?_
          refine OpsW.qw rfl rfl (q_lenS Try.underlying9 rfl) ?_
          refine OpsW.qw rfl rfl (q_eql rfl rfl) ?_
          refine OpsW.q rfl (q_and2 rfl rfl rfl) ?_
          refine OpsW.q rfl (q_move (v := .bool true) rfl) ?_
          refine OpsW.qw rfl rfl (q_move (v := S _) rfl) ?_
          refine OpsW.qw rfl rfl (q_sliceS_lo Try.underlying9 rfl rfl (by omega) (by decide)) ?_
          refine OpsW.qw rfl rfl (q_eqS rfl rfl) ?_
          refine OpsW.q rfl (q_and2 rfl rfl rfl) ?_
          refine OpsW.q rfl (q_move (v := .bool true) rfl) ?_
          refine OpsW.qw rfl rfl (q_move (v := .int _ _) rfl) ?_
          refine OpsW.qw rfl rfl (q_eql rfl rfl) ?_
          refine OpsW.q rfl (q_and2 rfl rfl rfl) ?_
          refine OpsW.q rfl (q_assign (v := .bool _) rfl) ?_
          refine OpsW.nil ?_
          refine SeqP.go ?_
          refine AW.ret ?_
          refine RetP.mk1 (H' := H) (v1 := .bool _) rfl rfl  hS7.le ?_
          exact ⟨rfl, rfl⟩
      ·
        rintro _ _ ⟨rfl, rfl⟩
        refine AnyW.onlyQ 6 rfl (by kernel_rfl) rfl (dst_lt rfl) (q_extract (v := S _) rfl rfl) ?_
        refine AnyW.onlyQ 8 rfl (by kernel_rfl) rfl (dst_lt rfl) (q_assign (v := S _) rfl) ?_
        refine AnyW.onlyQ 9 rfl (by kernel_rfl) rfl (dst_lt rfl) (q_assign (v := .int _ _) rfl) ?_
        refine AnyW.done (by kernel_rfl) ?_
        refine SeqP.go ?_
        refine AW.seq ?_
        refine AW.region ?_
        refine OpsW.q rfl (o_call rfl Try.func15 rfl rfl (Size_con _)) ?_
        rw [sizeS_no (by decide) (by decide)]
        refine OpsW.q rfl (q_eql rfl rfl) ?_
        refine OpsW.q rfl (q_move (v := .bool true) rfl) ?_
        refine OpsW.qw rfl rfl (q_move (v := .int _ _) rfl) ?_
        refine OpsW.qw rfl rfl (q_eql rfl rfl) ?_
        refine OpsW.q rfl (q_and2 rfl rfl rfl) ?_
        refine OpsW.q rfl (q_move (v := .bool true) rfl) ?_
        refine OpsW.qw rfl rfl (q_move (v := S _) rfl) ?_
        refine OpsW.qw rfl rfl (q_lenS Try.underlying9 rfl) ?_
        refine OpsW.qw rfl rfl (q_eql rfl rfl) ?_
        refine OpsW.q rfl (q_and2 rfl rfl rfl) ?_
        refine OpsW.q rfl (q_move (v := .bool true) rfl) ?_
        refine OpsW.qw rfl rfl (q_move (v := S _) rfl) ?_
        refine OpsW.qw rfl rfl (q_sliceS_lo Try.underlying9 rfl rfl (by omega) (by decide)) ?_
        refine OpsW.qw rfl rfl (q_eqS rfl rfl) ?_
        refine OpsW.q rfl (q_and2 rfl rfl rfl) ?_
        refine OpsW.q rfl (q_move (v := .bool true) rfl) ?_
        refine OpsW.qw rfl rfl (q_move (v := .int _ _) rfl) ?_
        refine OpsW.qw rfl rfl (q_eql rfl rfl) ?_
        refine OpsW.q rfl (q_and2 rfl rfl rfl) ?_
        refine OpsW.q rfl (q_assign (v := .bool _) rfl) ?_
        refine OpsW.nil ?_
        refine SeqP.go ?_
        refine AW.ret ?_
        refine RetP.mk1 (H' := H) (v1 := .bool _) rfl rfl  hS7.le ?_
        exact ⟨rfl, rfl⟩
theorem few_con (k n b d : List UInt8) : Con Try.prog w0 9 #[.agg #[S k, S n, S b, S d]] H (fun v H' => v = .bool (decide ((b.length : Int) ≤ 2000) && decide ((d.length : Int) ≤ 2000)) ∧ H' = H) := by
  have hS0 : Sep H [] H := Sep.refl
  refine Con.intro Try.func9 rfl rfl ?_
  refine AW.seq ?_
  refine AW.region ?_
  refine OpsW.m rfl (s_box (v := .agg _) hS0 rfl rfl) ?_
  rintro _ H1 ⟨b1, rfl, hS1⟩
  clear hS0
  refine OpsW.q rfl (q_assign (v := .bool _) rfl) ?_
  refine OpsW.nil ?_
  refine SeqP.go ?_
  refine AW.seq ?_
  refine AW.region ?_
  refine OpsW.q rfl (q_fieldAddr (sz := 0) Try.underlying23 rfl (by kernel_rfl) rfl) ?_
  refine OpsW.q rfl (q_load (v := S _) (by kernel_rfl) rfl (hS1.blk at0) rfl) ?_
  refine OpsW.q rfl (q_lenS Try.underlying9 rfl) ?_
  refine OpsW.q rfl (q_leq rfl rfl) ?_
  refine OpsW.qb rfl (q_move (v := .bool _) rfl) ?_
  intro b7 eb7
  refine OpsW.g rfl rfl rfl (fun hB => by simp only [Bool.and_eq_true, beq_iff_eq] at hB; obtain rfl := hB; exact (q_fieldAddr (sz := 0) Try.underlying23 rfl (by kernel_rfl) rfl)) ?_
  refine OpsW.g rfl rfl rfl (fun hB => by simp only [Bool.and_eq_true, beq_iff_eq] at hB; obtain rfl := hB; exact (q_load (v := S _) (by kernel_rfl) rfl (hS1.blk at0) rfl)) ?_
  refine OpsW.g rfl rfl rfl (fun hB => by simp only [Bool.and_eq_true, beq_iff_eq] at hB; obtain rfl := hB; exact (q_lenS Try.underlying9 rfl)) ?_
  refine OpsW.g rfl rfl rfl (fun hB => by simp only [Bool.and_eq_true, beq_iff_eq] at hB; obtain rfl := hB; exact (q_leq rfl rfl)) ?_
  refine OpsW.q rfl (q_and2 rfl rfl rfl) ?_
  refine OpsW.q rfl (q_assign (v := .bool _) rfl) ?_
  refine OpsW.nil ?_
  refine SeqP.go ?_
  refine AW.ret ?_
  refine RetP.mk1 (H' := H) (v1 := .bool _) rfl rfl  hS1.le ?_
  refine ⟨?_, rfl⟩
  subst_vars
  rfl
theorem sealsL_con (suite : Int) (k n b d : List UInt8) : Con Try.prog w0 6 #[.int .i64 suite, .agg #[S k, S n, S b, S d]] H (fun v H' => v = .bool true ∧ H' = H) := by
  have hS0 : Sep H [] H := Sep.refl
  refine Con.intro Try.func6 rfl rfl ?_
  refine AW.seq ?_
  refine AW.region ?_
  refine OpsW.m rfl (s_box (v := .agg _) hS0 rfl rfl) ?_
  rintro _ H1 ⟨b3, rfl, hS1⟩
  clear hS0
  refine OpsW.q rfl (q_assign (v := .bool _) rfl) ?_
  refine OpsW.nil ?_
  refine SeqP.go ?_
  refine AW.seq ?_
  refine AW.seq ?_
  refine AW.region ?_
  refine OpsW.q rfl (q_loadA0 (n := 4) (by kernel_rfl) rfl (hS1.blk at0) (by rfl)) ?_
  refine OpsW.q rfl (o_call rfl Try.func9 rfl rfl (few_con _ _ _ _)) ?_
  refine OpsW.q rfl (q_not rfl) ?_
  refine OpsW.nil ?_
  refine SeqP.go ?_
  refine AW.cond rfl (fun h0 => ?_) (fun h0 => ?_)
  ·
    try simp only [decide_eq_true_eq, decide_eq_false_iff_not, Bool.or_eq_true, Bool.and_eq_true, Bool.or_eq_false_iff, Bool.and_eq_false_imp, Bool.not_eq_true', Bool.not_eq_false', ne_eq, Decidable.not_not, Int.not_lt, Int.not_le, Bool.not_eq_true, Bool.not_eq_false] at h0
    refine AW.seq ?_
    refine AW.region ?_
    refine OpsW.q rfl (o_call rfl Try.func10 rfl rfl (awake_con)) ?_
    refine OpsW.q rfl (q_assign (v := .bool _) rfl) ?_
    refine OpsW.nil ?_
    refine SeqP.go ?_
    refine AW.ret ?_
    refine SeqP.ret ?_
    refine RetP.mk1 (H' := H) (v1 := .bool _) rfl rfl  hS1.le ?_
    refine ⟨?_, rfl⟩
    subst_vars
    simp
  try simp only [decide_eq_true_eq, decide_eq_false_iff_not, Bool.or_eq_true, Bool.and_eq_true, Bool.or_eq_false_iff, Bool.and_eq_false_imp, Bool.not_eq_true', Bool.not_eq_false', ne_eq, Decidable.not_not, Int.not_lt, Int.not_le, Bool.not_eq_true, Bool.not_eq_false] at h0
  have hfw : (b.length : Int) ≤ 2000 ∧ (d.length : Int) ≤ 2000 := by simpa using h0
  refine AW.skip ?_
  refine SeqP.go ?_
  refine AW.seq ?_
  refine AW.region ?_
  refine OpsW.q rfl (q_move (v := .int _ _) rfl) ?_
  refine OpsW.q rfl (q_fieldAddr (sz := 0) Try.underlying23 rfl (by kernel_rfl) rfl) ?_
  refine OpsW.q rfl (q_load (v := S _) (by kernel_rfl) rfl (hS1.blk at0) rfl) ?_
  refine OpsW.q rfl (q_fieldAddr (sz := 0) Try.underlying23 rfl (by kernel_rfl) rfl) ?_
  refine OpsW.q rfl (q_load (v := S _) (by kernel_rfl) rfl (hS1.blk at0) rfl) ?_
  refine OpsW.q rfl (q_fieldAddr (sz := 0) Try.underlying23 rfl (by kernel_rfl) rfl) ?_
  refine OpsW.q rfl (q_load (v := S _) (by kernel_rfl) rfl (hS1.blk at0) rfl) ?_
  refine OpsW.q rfl (q_fieldAddr (sz := 0) Try.underlying23 rfl (by kernel_rfl) rfl) ?_
  refine OpsW.q rfl (q_load (v := S _) (by kernel_rfl) rfl (hS1.blk at0) rfl) ?_
  refine OpsW.q rfl (o_call rfl Try.func17 rfl rfl (Seal_con (by omega) (by omega))) ?_
  refine OpsW.q rfl (q_move (v := .tuple _) rfl) ?_
  refine OpsW.q rfl (q_extract (v := S _) rfl rfl) ?_
  refine OpsW.q rfl (q_extract (v := .int _ _) rfl rfl) ?_
  refine OpsW.q rfl (q_assign (v := S _) rfl) ?_
  refine OpsW.q rfl (q_assign (v := .int _ _) rfl) ?_
  refine OpsW.nil ?_
  refine SeqP.go ?_
  refine AW.seq ?_
  refine AW.region ?_
  refine OpsW.q rfl (q_move (v := .int _ _) rfl) ?_
  refine OpsW.q rfl (q_fieldAddr (sz := 0) Try.underlying23 rfl (by kernel_rfl) rfl) ?_
  refine OpsW.q rfl (q_load (v := S _) (by kernel_rfl) rfl (hS1.blk at0) rfl) ?_
  refine OpsW.q rfl (q_fieldAddr (sz := 0) Try.underlying23 rfl (by kernel_rfl) rfl) ?_
  refine OpsW.q rfl (q_load (v := S _) (by kernel_rfl) rfl (hS1.blk at0) rfl) ?_
  refine OpsW.q rfl (q_fieldAddr (sz := 0) Try.underlying23 rfl (by kernel_rfl) rfl) ?_
  refine OpsW.q rfl (q_load (v := S _) (by kernel_rfl) rfl (hS1.blk at0) rfl) ?_
  refine OpsW.q rfl (q_fieldAddr (sz := 0) Try.underlying23 rfl (by kernel_rfl) rfl) ?_
  refine OpsW.q rfl (q_load (v := S _) (by kernel_rfl) rfl (hS1.blk at0) rfl) ?_
  refine OpsW.q rfl (o_call rfl Try.func18 rfl rfl (sSealR_con (by omega) (by omega))) ?_
  refine OpsW.q rfl (q_move (v := .tuple _) rfl) ?_
  refine OpsW.q rfl (q_extract (v := S _) rfl rfl) ?_
  refine OpsW.q rfl (q_extract (v := .int _ _) rfl rfl) ?_
  refine OpsW.q rfl (q_assign (v := S _) rfl) ?_
  refine OpsW.q rfl (q_assign (v := .int _ _) rfl) ?_
  refine OpsW.nil ?_
  refine SeqP.go ?_
  refine AW.seq ?_
  refine AW.region ?_
  refine OpsW.q rfl (q_move (v := S _) rfl) ?_
  refine OpsW.q rfl (q_move (v := S _) rfl) ?_
  refine OpsW.q rfl (q_eqS rfl rfl) ?_
  refine OpsW.qb rfl (q_move (v := .bool _) rfl) ?_
  intro b42 eb42
  refine OpsW.g rfl rfl rfl (fun hB => by simp only [Bool.and_eq_true, beq_iff_eq] at hB; obtain rfl := hB; exact (q_move (v := .int _ _) rfl)) ?_
  refine OpsW.g rfl rfl rfl (fun hB => by simp only [Bool.and_eq_true, beq_iff_eq] at hB; obtain rfl := hB; exact (q_move (v := .int _ _) rfl)) ?_
  refine OpsW.g rfl rfl rfl (fun hB => by simp only [Bool.and_eq_true, beq_iff_eq] at hB; obtain rfl := hB; exact (q_eql rfl rfl)) ?_
  refine OpsW.q rfl (q_and2 rfl rfl rfl) ?_
  refine OpsW.qb rfl (q_move (v := .bool _) rfl) ?_
  intro b47 eb47
  refine OpsW.g rfl rfl rfl (fun hB => by simp only [Bool.and_eq_true, beq_iff_eq] at hB; obtain rfl := hB; exact (o_call rfl Try.func10 rfl rfl (awake_con))) ?_
  refine OpsW.q rfl (q_and2 rfl rfl rfl) ?_
  refine OpsW.q rfl (q_assign (v := .bool _) rfl) ?_
  refine OpsW.nil ?_
  refine SeqP.go ?_
  refine AW.ret ?_
  refine RetP.mk1 (H' := H) (v1 := .bool _) rfl rfl  hS1.le ?_
  refine ⟨?_, rfl⟩
  subst_vars
  simp
theorem opensL_con (suite : Int) (k n b d : List UInt8) : Con Try.prog w0 3 #[.int .i64 suite, .agg #[S k, S n, S b, S d]] H (fun v H' => v = .bool true ∧ H' = H) := by
  have hS0 : Sep H [] H := Sep.refl
  refine Con.intro Try.func3 rfl rfl ?_
  refine AW.seq ?_
  refine AW.region ?_
  refine OpsW.m rfl (s_box (v := .agg _) hS0 rfl rfl) ?_
  rintro _ H1 ⟨b3, rfl, hS1⟩
  clear hS0
  refine OpsW.q rfl (q_assign (v := .bool _) rfl) ?_
  refine OpsW.nil ?_
  refine SeqP.go ?_
  refine AW.seq ?_
  refine AW.seq ?_
  refine AW.region ?_
  refine OpsW.q rfl (q_loadA0 (n := 4) (by kernel_rfl) rfl (hS1.blk at0) (by rfl)) ?_
  refine OpsW.q rfl (o_call rfl Try.func9 rfl rfl (few_con _ _ _ _)) ?_
  refine OpsW.q rfl (q_not rfl) ?_
  refine OpsW.nil ?_
  refine SeqP.go ?_
  refine AW.cond rfl (fun h0 => ?_) (fun h0 => ?_)
  ·
    try simp only [decide_eq_true_eq, decide_eq_false_iff_not, Bool.or_eq_true, Bool.and_eq_true, Bool.or_eq_false_iff, Bool.and_eq_false_imp, Bool.not_eq_true', Bool.not_eq_false', ne_eq, Decidable.not_not, Int.not_lt, Int.not_le, Bool.not_eq_true, Bool.not_eq_false] at h0
    refine AW.seq ?_
    refine AW.region ?_
    refine OpsW.q rfl (o_call rfl Try.func10 rfl rfl (awake_con)) ?_
    refine OpsW.q rfl (q_assign (v := .bool _) rfl) ?_
    refine OpsW.nil ?_
    refine SeqP.go ?_
    refine AW.ret ?_
    refine SeqP.ret ?_
    refine RetP.mk1 (H' := H) (v1 := .bool _) rfl rfl  hS1.le ?_
    refine ⟨?_, rfl⟩
    subst_vars
    simp
  try simp only [decide_eq_true_eq, decide_eq_false_iff_not, Bool.or_eq_true, Bool.and_eq_true, Bool.or_eq_false_iff, Bool.and_eq_false_imp, Bool.not_eq_true', Bool.not_eq_false', ne_eq, Decidable.not_not, Int.not_lt, Int.not_le, Bool.not_eq_true, Bool.not_eq_false] at h0
  have hfw : (b.length : Int) ≤ 2000 ∧ (d.length : Int) ≤ 2000 := by simpa using h0
  refine AW.skip ?_
  refine SeqP.go ?_
  refine AW.seq ?_
  refine AW.region ?_
  refine OpsW.q rfl (q_move (v := .int _ _) rfl) ?_
  refine OpsW.q rfl (q_fieldAddr (sz := 0) Try.underlying23 rfl (by kernel_rfl) rfl) ?_
  refine OpsW.q rfl (q_load (v := S _) (by kernel_rfl) rfl (hS1.blk at0) rfl) ?_
  refine OpsW.q rfl (q_fieldAddr (sz := 0) Try.underlying23 rfl (by kernel_rfl) rfl) ?_
  refine OpsW.q rfl (q_load (v := S _) (by kernel_rfl) rfl (hS1.blk at0) rfl) ?_
  refine OpsW.q rfl (q_fieldAddr (sz := 0) Try.underlying23 rfl (by kernel_rfl) rfl) ?_
  refine OpsW.q rfl (q_load (v := S _) (by kernel_rfl) rfl (hS1.blk at0) rfl) ?_
  refine OpsW.q rfl (q_fieldAddr (sz := 0) Try.underlying23 rfl (by kernel_rfl) rfl) ?_
  refine OpsW.q rfl (q_load (v := S _) (by kernel_rfl) rfl (hS1.blk at0) rfl) ?_
  refine OpsW.q rfl (o_call rfl Try.func11 rfl rfl (Open_con (by omega) (by omega))) ?_
  refine OpsW.q rfl (q_move (v := .tuple _) rfl) ?_
  refine OpsW.q rfl (q_extract (v := S _) rfl rfl) ?_
  refine OpsW.q rfl (q_extract (v := .int _ _) rfl rfl) ?_
  refine OpsW.q rfl (q_assign (v := S _) rfl) ?_
  refine OpsW.q rfl (q_assign (v := .int _ _) rfl) ?_
  refine OpsW.nil ?_
  refine SeqP.go ?_
  refine AW.seq ?_
  refine AW.region ?_
  refine OpsW.q rfl (q_move (v := .int _ _) rfl) ?_
  refine OpsW.q rfl (q_fieldAddr (sz := 0) Try.underlying23 rfl (by kernel_rfl) rfl) ?_
  refine OpsW.q rfl (q_load (v := S _) (by kernel_rfl) rfl (hS1.blk at0) rfl) ?_
  refine OpsW.q rfl (q_fieldAddr (sz := 0) Try.underlying23 rfl (by kernel_rfl) rfl) ?_
  refine OpsW.q rfl (q_load (v := S _) (by kernel_rfl) rfl (hS1.blk at0) rfl) ?_
  refine OpsW.q rfl (q_fieldAddr (sz := 0) Try.underlying23 rfl (by kernel_rfl) rfl) ?_
  refine OpsW.q rfl (q_load (v := S _) (by kernel_rfl) rfl (hS1.blk at0) rfl) ?_
  refine OpsW.q rfl (q_fieldAddr (sz := 0) Try.underlying23 rfl (by kernel_rfl) rfl) ?_
  refine OpsW.q rfl (q_load (v := S _) (by kernel_rfl) rfl (hS1.blk at0) rfl) ?_
  refine OpsW.q rfl (o_call rfl Try.func12 rfl rfl (sOpenR_con (by omega) (by omega))) ?_
  refine OpsW.q rfl (q_move (v := .tuple _) rfl) ?_
  refine OpsW.q rfl (q_extract (v := S _) rfl rfl) ?_
  refine OpsW.q rfl (q_extract (v := .int _ _) rfl rfl) ?_
  refine OpsW.q rfl (q_assign (v := S _) rfl) ?_
  refine OpsW.q rfl (q_assign (v := .int _ _) rfl) ?_
  refine OpsW.nil ?_
  refine SeqP.go ?_
  refine AW.seq ?_
  refine AW.region ?_
  refine OpsW.q rfl (q_move (v := S _) rfl) ?_
  refine OpsW.q rfl (q_move (v := S _) rfl) ?_
  refine OpsW.q rfl (q_eqS rfl rfl) ?_
  refine OpsW.qb rfl (q_move (v := .bool _) rfl) ?_
  intro b42 eb42
  refine OpsW.g rfl rfl rfl (fun hB => by simp only [Bool.and_eq_true, beq_iff_eq] at hB; obtain rfl := hB; exact (q_move (v := .int _ _) rfl)) ?_
  refine OpsW.g rfl rfl rfl (fun hB => by simp only [Bool.and_eq_true, beq_iff_eq] at hB; obtain rfl := hB; exact (q_move (v := .int _ _) rfl)) ?_
  refine OpsW.g rfl rfl rfl (fun hB => by simp only [Bool.and_eq_true, beq_iff_eq] at hB; obtain rfl := hB; exact (q_eql rfl rfl)) ?_
  refine OpsW.q rfl (q_and2 rfl rfl rfl) ?_
  refine OpsW.qb rfl (q_move (v := .bool _) rfl) ?_
  intro b47 eb47
  refine OpsW.g rfl rfl rfl (fun hB => by simp only [Bool.and_eq_true, beq_iff_eq] at hB; obtain rfl := hB; exact (o_call rfl Try.func10 rfl rfl (awake_con))) ?_
  refine OpsW.q rfl (q_and2 rfl rfl rfl) ?_
  refine OpsW.q rfl (q_assign (v := .bool _) rfl) ?_
  refine OpsW.nil ?_
  refine SeqP.go ?_
  refine AW.ret ?_
  refine RetP.mk1 (H' := H) (v1 := .bool _) rfl rfl  hS1.le ?_
  refine ⟨?_, rfl⟩
  subst_vars
  simp
theorem noncesL_con {n : Int} (hn : n ≤ 9223372036854775807) (iv : List UInt8) (suite : Int) : Con Try.prog w0 4 #[S iv, .int .i64 n, .int .i64 suite] H (fun v H' => v = .bool true ∧ H' = H) := by
  have hS0 : Sep H [] H := Sep.refl
  refine Con.intro Try.func4 rfl rfl ?_
  refine AW.seq ?_
  refine AW.region ?_
  refine OpsW.q rfl (q_assign (v := .bool _) rfl) ?_
  refine OpsW.nil ?_
  refine SeqP.go ?_
  refine AW.seq ?_
  refine AW.region ?_
  refine OpsW.q rfl (q_move (v := S _) rfl) ?_
  refine OpsW.q rfl (q_move (v := .int _ _) rfl) ?_
  refine OpsW.q rfl (o_call rfl Try.func13 rfl rfl (Nonce_con (by omega))) ?_
  refine OpsW.q rfl (q_move (v := .tuple _) rfl) ?_
  refine OpsW.q rfl (q_extract (v := S _) rfl rfl) ?_
  refine OpsW.q rfl (q_extract (v := .int _ _) rfl rfl) ?_
  refine OpsW.q rfl (q_assign (v := S _) rfl) ?_
  refine OpsW.q rfl (q_assign (v := .int _ _) rfl) ?_
  refine OpsW.nil ?_
  refine SeqP.go ?_
  refine AW.seq ?_
  refine AW.region ?_
  refine OpsW.q rfl (q_move (v := S _) rfl) ?_
  refine OpsW.q rfl (q_move (v := .int _ _) rfl) ?_
  refine OpsW.q rfl (o_call rfl Try.func14 rfl rfl (NonceR_con (by omega))) ?_
  refine OpsW.q rfl (q_move (v := .tuple _) rfl) ?_
  refine OpsW.q rfl (q_extract (v := S _) rfl rfl) ?_
  refine OpsW.q rfl (q_extract (v := .int _ _) rfl rfl) ?_
  refine OpsW.q rfl (q_assign (v := S _) rfl) ?_
  refine OpsW.q rfl (q_assign (v := .int _ _) rfl) ?_
  refine OpsW.nil ?_
  refine SeqP.go ?_
  refine AW.seq ?_
  refine AW.region ?_
  refine OpsW.q rfl (q_move (v := S _) rfl) ?_
  refine OpsW.q rfl (q_move (v := S _) rfl) ?_
  refine OpsW.q rfl (q_eqS rfl rfl) ?_
  refine OpsW.qb rfl (q_move (v := .bool _) rfl) ?_
  intro b26 eb26
  refine OpsW.g rfl rfl rfl (fun hB => by simp only [Bool.and_eq_true, beq_iff_eq] at hB; obtain rfl := hB; exact (q_move (v := .int _ _) rfl)) ?_
  refine OpsW.g rfl rfl rfl (fun hB => by simp only [Bool.and_eq_true, beq_iff_eq] at hB; obtain rfl := hB; exact (q_move (v := .int _ _) rfl)) ?_
  refine OpsW.g rfl rfl rfl (fun hB => by simp only [Bool.and_eq_true, beq_iff_eq] at hB; obtain rfl := hB; exact (q_eql rfl rfl)) ?_
  refine OpsW.q rfl (q_and2 rfl rfl rfl) ?_
  refine OpsW.qb rfl (q_move (v := .bool _) rfl) ?_
  intro b31 eb31
  refine OpsW.g rfl rfl rfl (fun hB => by simp only [Bool.and_eq_true, beq_iff_eq] at hB; obtain rfl := hB; exact (q_move (v := .int _ _) rfl)) ?_
  refine OpsW.g rfl rfl rfl (fun hB => by simp only [Bool.and_eq_true, beq_iff_eq] at hB; obtain rfl := hB; exact (o_call rfl Try.func15 rfl rfl (Size_con _))) ?_
  refine OpsW.g rfl rfl rfl (fun hB => by simp only [Bool.and_eq_true, beq_iff_eq] at hB; obtain rfl := hB; exact (q_move (v := .int _ _) rfl)) ?_
  refine OpsW.g rfl rfl rfl (fun hB => by simp only [Bool.and_eq_true, beq_iff_eq] at hB; obtain rfl := hB; exact (o_call rfl Try.func16 rfl rfl (SizeR_con _))) ?_
  refine OpsW.g rfl rfl rfl (fun hB => by simp only [Bool.and_eq_true, beq_iff_eq] at hB; obtain rfl := hB; exact (q_eql rfl rfl)) ?_
  refine OpsW.q rfl (q_and2 rfl rfl rfl) ?_
  refine OpsW.qb rfl (q_move (v := .bool _) rfl) ?_
  intro b38 eb38
  refine OpsW.g rfl rfl rfl (fun hB => by simp only [Bool.and_eq_true, beq_iff_eq] at hB; obtain rfl := hB; exact (o_call rfl Try.func10 rfl rfl (awake_con))) ?_
  refine OpsW.q rfl (q_and2 rfl rfl rfl) ?_
  refine OpsW.q rfl (q_assign (v := .bool _) rfl) ?_
  refine OpsW.nil ?_
  refine SeqP.go ?_
  refine AW.ret ?_
  refine RetP.mk1 (H' := H) (v1 := .bool _) rfl rfl  hS0.le ?_
  refine ⟨?_, rfl⟩
  subst_vars
  simp
theorem apartL_con {m n : Int} (hm : m ≤ 9223372036854775807) (hn : n ≤ 9223372036854775807) (iv : List UInt8) : Con Try.prog w0 5 #[S iv, .int .i64 m, .int .i64 n] H (fun v H' => v = .bool true ∧ H' = H) := by
  have hS0 : Sep H [] H := Sep.refl
  refine Con.intro Try.func5 rfl rfl ?_
  refine AW.seq ?_
  refine AW.region ?_
  refine OpsW.q rfl (q_assign (v := .bool _) rfl) ?_
  refine OpsW.nil ?_
  refine SeqP.go ?_
  refine AW.seq ?_
  refine AW.seq ?_
  refine AW.region ?_
  refine OpsW.q rfl (q_move (v := S _) rfl) ?_
  refine OpsW.q rfl (q_lenS Try.underlying9 rfl) ?_
  refine OpsW.q rfl (q_neq rfl rfl) ?_
  refine OpsW.qb rfl (q_move (v := .bool _) rfl) ?_
  intro b14 eb14
  refine OpsW.g rfl rfl rfl (fun hB => by simp only [Bool.and_eq_true, beq_iff_eq] at hB; obtain rfl := hB; exact (q_move (v := .int _ _) rfl)) ?_
  refine OpsW.g rfl rfl rfl (fun hB => by simp only [Bool.and_eq_true, beq_iff_eq] at hB; obtain rfl := hB; exact (q_lss rfl rfl)) ?_
  refine OpsW.q rfl (q_or2 rfl rfl rfl) ?_
  refine OpsW.qb rfl (q_move (v := .bool _) rfl) ?_
  intro b18 eb18
  refine OpsW.g rfl rfl rfl (fun hB => by simp only [Bool.and_eq_true, beq_iff_eq] at hB; obtain rfl := hB; exact (q_move (v := .int _ _) rfl)) ?_
  refine OpsW.g rfl rfl rfl (fun hB => by simp only [Bool.and_eq_true, beq_iff_eq] at hB; obtain rfl := hB; exact (q_lss rfl rfl)) ?_
  refine OpsW.q rfl (q_or2 rfl rfl rfl) ?_
  refine OpsW.nil ?_
  refine SeqP.go ?_
  refine AW.cond rfl (fun h0 => ?_) (fun h0 => ?_)
  ·
    try simp only [eb14, eb18, decide_eq_true_eq, decide_eq_false_iff_not, Bool.or_eq_true, Bool.and_eq_true, Bool.or_eq_false_iff, Bool.and_eq_false_imp, Bool.not_eq_true', Bool.not_eq_false', ne_eq, Decidable.not_not, Int.not_lt, Int.not_le, Bool.not_eq_true, Bool.not_eq_false] at h0
    refine AW.seq ?_
    refine AW.region ?_
    refine OpsW.q rfl (o_call rfl Try.func10 rfl rfl (awake_con)) ?_
    refine OpsW.q rfl (q_assign (v := .bool _) rfl) ?_
    refine OpsW.nil ?_
    refine SeqP.go ?_
    refine AW.ret ?_
    refine SeqP.ret ?_
    refine RetP.mk1 (H' := H) (v1 := .bool _) rfl rfl  hS0.le ?_
    exact ⟨rfl, rfl⟩
  try simp only [eb14, eb18, decide_eq_true_eq, decide_eq_false_iff_not, Bool.or_eq_true, Bool.and_eq_true, Bool.or_eq_false_iff, Bool.and_eq_false_imp, Bool.not_eq_true', Bool.not_eq_false', ne_eq, Decidable.not_not, Int.not_lt, Int.not_le, Bool.not_eq_true, Bool.not_eq_false] at h0
  have hiv : iv.length = 12 := by omega
  have hm0 : ¬ m < 0 := by omega
  have hn0 : ¬ n < 0 := by omega
  have hif := nonce_iff hiv hm0 hm hn0 hn
  refine AW.skip ?_
  refine SeqP.go ?_
  refine AW.seq ?_
  refine AW.region ?_
  refine OpsW.q rfl (q_move (v := S _) rfl) ?_
  refine OpsW.q rfl (q_move (v := .int _ _) rfl) ?_
  refine OpsW.q rfl (o_call rfl Try.func13 rfl rfl (Nonce_con (by omega))) ?_
  rw [nonceP_ok hiv hm0]
  refine OpsW.q rfl (q_move (v := .tuple _) rfl) ?_
  refine OpsW.q rfl (q_extract (v := S _) rfl rfl) ?_
  refine OpsW.q rfl (q_extract (v := .int _ _) rfl rfl) ?_
  refine OpsW.q rfl (q_assign (v := S _) rfl) ?_
  refine OpsW.q rfl (q_assign (v := .int _ _) rfl) ?_
  refine OpsW.nil ?_
  refine SeqP.go ?_
  refine AW.seq ?_
  refine AW.region ?_
  refine OpsW.q rfl (q_move (v := S _) rfl) ?_
  refine OpsW.q rfl (q_move (v := .int _ _) rfl) ?_
  refine OpsW.q rfl (o_call rfl Try.func13 rfl rfl (Nonce_con (by omega))) ?_
  rw [nonceP_ok hiv hn0]
  refine OpsW.q rfl (q_move (v := .tuple _) rfl) ?_
  refine OpsW.q rfl (q_extract (v := S _) rfl rfl) ?_
  refine OpsW.q rfl (q_extract (v := .int _ _) rfl rfl) ?_
  refine OpsW.q rfl (q_assign (v := S _) rfl) ?_
  refine OpsW.q rfl (q_assign (v := .int _ _) rfl) ?_
  refine OpsW.nil ?_
  refine SeqP.go ?_
  refine AW.seq ?_
  refine AW.region ?_
  refine OpsW.q rfl (q_move (v := .int _ _) rfl) ?_
  refine OpsW.q rfl (q_eql rfl rfl) ?_
  refine OpsW.q rfl (q_move (v := .bool true) rfl) ?_
  refine OpsW.qw rfl rfl (q_move (v := .int _ _) rfl) ?_
  refine OpsW.qw rfl rfl (q_eql rfl rfl) ?_
  refine OpsW.q rfl (q_and2 rfl rfl rfl) ?_
  refine OpsW.q rfl (q_move (v := .bool true) rfl) ?_
  refine OpsW.qw rfl rfl (q_move (v := S _) rfl) ?_
  refine OpsW.qw rfl rfl (q_move (v := S _) rfl) ?_
  refine OpsW.qw rfl rfl (q_eqS rfl rfl) ?_
  rw [decide_eq_decide.2 hif]
  refine OpsW.qw rfl rfl (q_move (v := .int _ _) rfl) ?_
  refine OpsW.qw rfl rfl (q_move (v := .int _ _) rfl) ?_
  refine OpsW.qw rfl rfl (q_eql rfl rfl) ?_
  refine OpsW.qw rfl rfl (q_eqlB Try.underlying4 rfl rfl) ?_
  rw [beq_self_eq_true]
  refine OpsW.q rfl (q_and2 rfl rfl rfl) ?_
  refine OpsW.q rfl (q_move (v := .bool true) rfl) ?_
  refine OpsW.qw rfl rfl (o_call rfl Try.func10 rfl rfl (awake_con)) ?_
  refine OpsW.q rfl (q_and2 rfl rfl rfl) ?_
  refine OpsW.q rfl (q_assign (v := .bool _) rfl) ?_
  refine OpsW.nil ?_
  refine SeqP.go ?_
  refine AW.ret ?_
  refine RetP.mk1 (H' := H) (v1 := .bool _) rfl rfl  hS0.le ?_
  exact ⟨rfl, rfl⟩
theorem backL_con (k n b d : List UInt8) (at_ : Int) (second : Bool) : Con Try.prog w0 7 #[.agg #[S k, S n, S b, S d], .int .i64 at_, .bool second] H (fun v H' => v = .bool true ∧ H' = H) := by
  have hS0 : Sep H [] H := Sep.refl
  refine Con.intro Try.func7 rfl rfl ?_
  refine AW.seq ?_
  refine AW.region ?_
  refine OpsW.m rfl (s_box (v := .agg _) hS0 rfl rfl) ?_
  rintro _ H1 ⟨b3, rfl, hS1⟩
  clear hS0
  refine OpsW.q rfl (q_assign (v := .bool _) rfl) ?_
  refine OpsW.nil ?_
  refine SeqP.go ?_
  refine AW.seq ?_
  refine AW.region ?_
  refine OpsW.q rfl (q_assign (v := .int _ _) rfl) ?_
  refine OpsW.nil ?_
  refine SeqP.go ?_
  refine AW.seq ?_
  refine AW.seq ?_
  refine AW.region ?_
  refine OpsW.q rfl (q_move (v := .bool _) rfl) ?_
  refine OpsW.nil ?_
  refine SeqP.go ?_
  refine AW.cond rfl (fun h0 => ?_) (fun h0 => ?_)
  ·
    try simp only [decide_eq_true_eq, decide_eq_false_iff_not, Bool.or_eq_true, Bool.and_eq_true, Bool.or_eq_false_iff, Bool.and_eq_false_imp, Bool.not_eq_true', Bool.not_eq_false', ne_eq, Decidable.not_not, Int.not_lt, Int.not_le, Bool.not_eq_true, Bool.not_eq_false] at h0
    refine AW.region ?_
    refine OpsW.q rfl (q_assign (v := .int _ _) rfl) ?_
    refine OpsW.nil ?_
    refine SeqP.go ?_
    refine AW.seq ?_
    refine AW.seq ?_
    refine AW.drawK [] 9 rfl (by kernel_rfl) ?_
    refine SeqK.q rfl (q_loadA0 (n := 4) (by kernel_rfl) rfl (hS1.blk at0) (by rfl)) ?_
    refine SeqK.q rfl (o_call rfl Try.func9 rfl rfl (few_con _ _ _ _)) ?_
    refine SeqK.q rfl (q_not rfl) ?_
    refine SeqK.qb rfl (q_move (v := .bool _) rfl) ?_
    intro b21 eb21
    refine SeqK.g rfl rfl rfl (fun hB => by simp only [Bool.and_eq_true, beq_iff_eq] at hB; obtain rfl := hB; exact (q_fieldAddr (sz := 0) Try.underlying23 rfl (by kernel_rfl) rfl)) ?_
    refine SeqK.g rfl rfl rfl (fun hB => by simp only [Bool.and_eq_true, beq_iff_eq] at hB; obtain rfl := hB; exact (q_load (v := S _) (by kernel_rfl) rfl (hS1.blk at0) rfl)) ?_
    refine SeqK.g rfl rfl rfl (fun hB => by simp only [Bool.and_eq_true, beq_iff_eq] at hB; obtain rfl := hB; exact (q_lenS Try.underlying9 rfl)) ?_
    refine SeqK.g rfl rfl rfl (fun hB => by simp only [Bool.and_eq_true, beq_iff_eq] at hB; obtain rfl := hB; exact (q_move (v := .int _ _) rfl)) ?_
    refine SeqK.g rfl rfl rfl (fun hB => by simp only [Bool.and_eq_true, beq_iff_eq] at hB; obtain rfl := hB; exact (o_call rfl Try.func15 rfl rfl (Size_con _))) ?_
    rw [sizeS_b]
    refine SeqK.done ?_
    refine OpsW.g rfl rfl rfl (fun hB => by simp only [Bool.and_eq_true, beq_iff_eq] at hB; obtain rfl := hB; exact (q_neq rfl rfl)) ?_
    refine OpsW.q rfl (q_or2 rfl rfl rfl) ?_
    refine OpsW.qb rfl (q_move (v := .bool _) rfl) ?_
    intro b29 eb29
    refine OpsW.g rfl rfl rfl (fun hB => by simp only [Bool.and_eq_true, beq_iff_eq] at hB; obtain rfl := hB; exact (q_fieldAddr (sz := 0) Try.underlying23 rfl (by kernel_rfl) rfl)) ?_
    refine OpsW.g rfl rfl rfl (fun hB => by simp only [Bool.and_eq_true, beq_iff_eq] at hB; obtain rfl := hB; exact (q_load (v := S _) (by kernel_rfl) rfl (hS1.blk at0) rfl)) ?_
    refine OpsW.g rfl rfl rfl (fun hB => by simp only [Bool.and_eq_true, beq_iff_eq] at hB; obtain rfl := hB; exact (q_lenS Try.underlying9 rfl)) ?_
    refine OpsW.g rfl rfl rfl (fun hB => by simp only [Bool.and_eq_true, beq_iff_eq] at hB; obtain rfl := hB; exact (q_neq rfl rfl)) ?_
    refine OpsW.q rfl (q_or2 rfl rfl rfl) ?_
    refine OpsW.nil ?_
    refine SeqP.go ?_
    refine AW.cond rfl (fun h1 => ?_) (fun h1 => ?_)
    ·
      try simp only [eb21, eb29, decide_eq_true_eq, decide_eq_false_iff_not, Bool.or_eq_true, Bool.and_eq_true, Bool.or_eq_false_iff, Bool.and_eq_false_imp, Bool.not_eq_true', Bool.not_eq_false', ne_eq, Decidable.not_not, Int.not_lt, Int.not_le, Bool.not_eq_true, Bool.not_eq_false] at h1
      refine AW.seq ?_
      refine AW.region ?_
      refine OpsW.q rfl (o_call rfl Try.func15 rfl rfl (Size_con _)) ?_
      rw [sizeS_a]
      refine OpsW.q rfl (q_eql rfl rfl) ?_
      refine OpsW.q rfl (q_move (v := .bool true) rfl) ?_
      refine OpsW.qw rfl rfl (o_call rfl Try.func15 rfl rfl (Size_con _)) ?_
      rw [sizeS_b]
      refine OpsW.qw rfl rfl (q_eql rfl rfl) ?_
      refine OpsW.q rfl (q_and2 rfl rfl rfl) ?_
      refine OpsW.q rfl (q_move (v := .bool true) rfl) ?_
      refine OpsW.qw rfl rfl (o_call rfl Try.func10 rfl rfl (awake_con)) ?_
      refine OpsW.q rfl (q_and2 rfl rfl rfl) ?_
      refine OpsW.q rfl (q_assign (v := .bool _) rfl) ?_
      refine OpsW.nil ?_
      refine SeqP.go ?_
      refine AW.ret ?_
      refine SeqP.ret ?_
      refine RetP.mk1 (H' := H) (v1 := .bool _) rfl rfl  hS1.le ?_
      exact ⟨rfl, rfl⟩
    try simp only [eb21, eb29, decide_eq_true_eq, decide_eq_false_iff_not, Bool.or_eq_true, Bool.and_eq_true, Bool.or_eq_false_iff, Bool.and_eq_false_imp, Bool.not_eq_true', Bool.not_eq_false', ne_eq, Decidable.not_not, Int.not_lt, Int.not_le, Bool.not_eq_true, Bool.not_eq_false] at h1
    have hok : slOk 4867 k n := ⟨.inr ⟨rfl, by omega⟩, by omega⟩
    have hbd : ¬ (1048576 < b.length ∨ 1048576 < d.length) := by omega
    obtain ⟨hse, hsl, hso⟩ := sl_seal (b := b) (d := d) hok hbd
    refine AW.skip ?_
    refine SeqP.go ?_
    refine AW.seq ?_
    refine AW.region ?_
    refine OpsW.q rfl (q_move (v := .int _ _) rfl) ?_
    refine OpsW.q rfl (q_fieldAddr (sz := 0) Try.underlying23 rfl (by kernel_rfl) rfl) ?_
    refine OpsW.q rfl (q_load (v := S _) (by kernel_rfl) rfl (hS1.blk at0) rfl) ?_
    refine OpsW.q rfl (q_fieldAddr (sz := 0) Try.underlying23 rfl (by kernel_rfl) rfl) ?_
    refine OpsW.q rfl (q_load (v := S _) (by kernel_rfl) rfl (hS1.blk at0) rfl) ?_
    refine OpsW.q rfl (q_fieldAddr (sz := 0) Try.underlying23 rfl (by kernel_rfl) rfl) ?_
    refine OpsW.q rfl (q_load (v := S _) (by kernel_rfl) rfl (hS1.blk at0) rfl) ?_
    refine OpsW.q rfl (q_fieldAddr (sz := 0) Try.underlying23 rfl (by kernel_rfl) rfl) ?_
    refine OpsW.q rfl (q_load (v := S _) (by kernel_rfl) rfl (hS1.blk at0) rfl) ?_
    refine OpsW.q rfl (o_call rfl Try.func17 rfl rfl (Seal_con (by omega) (by omega))) ?_
    rw [hse]
    refine OpsW.q rfl (q_move (v := .tuple _) rfl) ?_
    refine OpsW.q rfl (q_extract (v := S _) rfl rfl) ?_
    refine OpsW.q rfl (q_extract (v := .int _ _) rfl rfl) ?_
    refine OpsW.q rfl (q_assign (v := S _) rfl) ?_
    refine OpsW.q rfl (q_assign (v := .int _ _) rfl) ?_
    refine OpsW.nil ?_
    refine SeqP.go ?_
    refine AW.seq ?_
    refine AW.region ?_
    refine OpsW.q rfl (q_move (v := .int _ _) rfl) ?_
    refine OpsW.q rfl (q_fieldAddr (sz := 0) Try.underlying23 rfl (by kernel_rfl) rfl) ?_
    refine OpsW.q rfl (q_load (v := S _) (by kernel_rfl) rfl (hS1.blk at0) rfl) ?_
    refine OpsW.q rfl (q_fieldAddr (sz := 0) Try.underlying23 rfl (by kernel_rfl) rfl) ?_
    refine OpsW.q rfl (q_load (v := S _) (by kernel_rfl) rfl (hS1.blk at0) rfl) ?_
    refine OpsW.q rfl (q_fieldAddr (sz := 0) Try.underlying23 rfl (by kernel_rfl) rfl) ?_
    refine OpsW.q rfl (q_load (v := S _) (by kernel_rfl) rfl (hS1.blk at0) rfl) ?_
    refine OpsW.q rfl (q_move (v := S _) rfl) ?_
    refine OpsW.q rfl (o_call rfl Try.func11 rfl rfl (Open_con (by omega) (by omega))) ?_
    rw [fst_of hso, snd_of hso]
    refine OpsW.q rfl (q_move (v := .tuple _) rfl) ?_
    refine OpsW.q rfl (q_extract (v := S _) rfl rfl) ?_
    refine OpsW.q rfl (q_extract (v := .int _ _) rfl rfl) ?_
    refine OpsW.q rfl (q_assign (v := S _) rfl) ?_
    refine OpsW.q rfl (q_assign (v := .int _ _) rfl) ?_
    refine OpsW.nil ?_
    refine SeqP.go ?_
    refine AW.seq ?_
    refine AW.seq ?_
    refine AW.region ?_
    refine OpsW.q rfl (q_move (v := .int _ _) rfl) ?_
    refine OpsW.q rfl (q_neq rfl rfl) ?_
    refine OpsW.qb rfl (q_move (v := .bool _) rfl) ?_
    intro b71 eb71
    refine OpsW.g rfl rfl rfl (fun hB => by simp only [Bool.and_eq_true, beq_iff_eq] at hB; obtain rfl := hB; exact (q_move (v := .int _ _) rfl)) ?_
    refine OpsW.g rfl rfl rfl (fun hB => by simp only [Bool.and_eq_true, beq_iff_eq] at hB; obtain rfl := hB; exact (q_neq rfl rfl)) ?_
    refine OpsW.q rfl (q_or2 rfl rfl rfl) ?_
    refine OpsW.qb rfl (q_move (v := .bool _) rfl) ?_
    intro b75 eb75
    refine OpsW.g rfl rfl rfl (fun hB => by simp only [Bool.and_eq_true, beq_iff_eq] at hB; obtain rfl := hB; exact (q_move (v := S _) rfl)) ?_
    refine OpsW.g rfl rfl rfl (fun hB => by simp only [Bool.and_eq_true, beq_iff_eq] at hB; obtain rfl := hB; exact (q_fieldAddr (sz := 0) Try.underlying23 rfl (by kernel_rfl) rfl)) ?_
    refine OpsW.g rfl rfl rfl (fun hB => by simp only [Bool.and_eq_true, beq_iff_eq] at hB; obtain rfl := hB; exact (q_load (v := S _) (by kernel_rfl) rfl (hS1.blk at0) rfl)) ?_
    refine OpsW.g rfl rfl rfl (fun hB => by simp only [Bool.and_eq_true, beq_iff_eq] at hB; obtain rfl := hB; exact (q_neS rfl rfl)) ?_
    refine OpsW.q rfl (q_or2 rfl rfl rfl) ?_
    refine OpsW.qb rfl (q_move (v := .bool _) rfl) ?_
    intro b81 eb81
    refine OpsW.g rfl rfl rfl (fun hB => by simp only [Bool.and_eq_true, beq_iff_eq] at hB; obtain rfl := hB; exact (q_move (v := S _) rfl)) ?_
    refine OpsW.g rfl rfl rfl (fun hB => by simp only [Bool.and_eq_true, beq_iff_eq] at hB; obtain rfl := hB; exact (q_lenS Try.underlying9 rfl)) ?_
    refine OpsW.g rfl rfl rfl (fun hB => by simp only [Bool.and_eq_true, beq_iff_eq] at hB; obtain rfl := hB; exact (q_fieldAddr (sz := 0) Try.underlying23 rfl (by kernel_rfl) rfl)) ?_
    refine OpsW.g rfl rfl rfl (fun hB => by simp only [Bool.and_eq_true, beq_iff_eq] at hB; obtain rfl := hB; exact (q_load (v := S _) (by kernel_rfl) rfl (hS1.blk at0) rfl)) ?_
    refine OpsW.g rfl rfl rfl (fun hB => by simp only [Bool.and_eq_true, beq_iff_eq] at hB; obtain rfl := hB; exact (q_lenS Try.underlying9 rfl)) ?_
    refine OpsW.g rfl rfl rfl (fun hB => by simp only [Bool.and_eq_true, beq_iff_eq] at hB; obtain rfl := hB; (try simp only [eb21, eb29, eb71, eb75, Bool.true_eq, Bool.false_eq, decide_eq_true_eq, Bool.and_eq_true, Bool.or_eq_true, Bool.or_eq_false_iff, Bool.not_eq_true', decide_eq_false_iff_not, Int.not_lt, Int.not_le] at eb81); exact (q_addI rfl rfl (by omega))) ?_
    refine OpsW.g rfl rfl rfl (fun hB => by simp only [Bool.and_eq_true, beq_iff_eq] at hB; obtain rfl := hB; exact (q_neq rfl rfl)) ?_
    refine OpsW.q rfl (q_or2 rfl rfl rfl) ?_
    refine OpsW.nil ?_
    refine SeqP.go ?_
    refine AW.cond rfl (fun h2 => ?_) (fun h2 => ?_)
    ·
      exfalso
      try simp only [eb21, eb29, eb71, eb75, eb81, decide_eq_true_eq, decide_eq_false_iff_not, Bool.or_eq_true, Bool.and_eq_true, Bool.or_eq_false_iff, Bool.and_eq_false_imp, Bool.not_eq_true', Bool.not_eq_false', ne_eq, Decidable.not_not, Int.not_lt, Int.not_le, Bool.not_eq_true, Bool.not_eq_false] at h2
      simp [hsl] at h2
    try simp only [eb21, eb29, eb71, eb75, eb81, decide_eq_true_eq, decide_eq_false_iff_not, Bool.or_eq_true, Bool.and_eq_true, Bool.or_eq_false_iff, Bool.and_eq_false_imp, Bool.not_eq_true', Bool.not_eq_false', ne_eq, Decidable.not_not, Int.not_lt, Int.not_le, Bool.not_eq_true, Bool.not_eq_false] at h2
    refine AW.skip ?_
    refine SeqP.go ?_
    refine AW.seq ?_
    refine AW.region ?_
    refine OpsW.q rfl (q_move (v := S _) rfl) ?_
    refine OpsW.m rfl (s_bytes hS1 rfl Try.underlying33 Try.underlying5 rfl (by unfold maxLen; omega)) ?_
    rintro v91 H2 hS2
    clear hS1
    refine OpsW.q rfl (q_assign (v := v91) rfl) ?_
    refine OpsW.nil ?_
    refine SeqP.go ?_
    refine AW.seq ?_
    refine AW.region ?_
    refine OpsW.q rfl (q_move (v := v91) rfl) ?_
    refine OpsW.q rfl (q_move (v := v91) rfl) ?_
    refine OpsW.q rfl (q_lenVec Try.underlying33 rfl (hS2.vec at0)) ?_
    refine OpsW.q rfl (q_subI rfl rfl (by omega)) ?_
    refine OpsW.q rfl (q_move (v := .int _ _) rfl) ?_
    refine OpsW.q rfl (q_rem rfl rfl (by decide)) ?_
    obtain ⟨r, hr⟩ : ∃ r, r = at_.tmod 16 := ⟨_, rfl⟩
    have hr16 : -16 < r ∧ r < 16 := by rw [hr]; exact tmod16 at_
    rw [← hr]
    refine OpsW.q rfl (q_addI rfl rfl (by omega)) ?_
    refine OpsW.q rfl (q_remI rfl rfl (by omega)) ?_
    refine OpsW.q rfl (q_subI rfl rfl (by omega)) ?_
    obtain ⟨q, hq, hq16⟩ : ∃ q : Nat, (r + 16) % 16 = (q : Int) ∧ q < 16 := ⟨((r + 16) % 16).toNat, by omega, by omega⟩
    rw [hq]
    refine OpsW.q rfl (q_indexV1 (hS2.vec at0) Try.underlying33 (by kernel_rfl) rfl rfl (by omega) (by omega)) ?_
    refine OpsW.q rfl (q_loadVB (hS2.vec at0) (by kernel_rfl) rfl (by omega)) ?_
    refine OpsW.q rfl (q_xorB (b := 4) rfl rfl) ?_
    refine OpsW.q rfl (q_indexV1 (hS2.vec at0) Try.underlying33 (by kernel_rfl) rfl rfl (by omega) (by omega)) ?_
    refine OpsW.ms (s_storeVB hS2 at0 (by kernel_rfl) rfl rfl (by omega)) ?_
    rintro _ H3 ⟨rfl, hS3⟩
    clear hS2
    refine OpsW.nil ?_
    refine SeqP.go ?_
    refine AW.seq ?_
    refine AW.region ?_
    refine OpsW.q rfl (q_move (v := .int _ _) rfl) ?_
    refine OpsW.q rfl (q_fieldAddr (sz := 0) Try.underlying23 rfl (by kernel_rfl) rfl) ?_
    refine OpsW.q rfl (q_load (v := S _) (by kernel_rfl) rfl (hS3.blk at1) rfl) ?_
    refine OpsW.q rfl (q_fieldAddr (sz := 0) Try.underlying23 rfl (by kernel_rfl) rfl) ?_
    refine OpsW.q rfl (q_load (v := S _) (by kernel_rfl) rfl (hS3.blk at1) rfl) ?_
    refine OpsW.q rfl (q_fieldAddr (sz := 0) Try.underlying23 rfl (by kernel_rfl) rfl) ?_
    refine OpsW.q rfl (q_load (v := S _) (by kernel_rfl) rfl (hS3.blk at1) rfl) ?_
    refine OpsW.q rfl (q_move (v := v91) rfl) ?_
    refine OpsW.q rfl (q_stringB (hS3.vec at0) Try.underlying33 Try.underlying5 Try.underlying9 rfl) ?_
    rw [show (((slSeal 4867 k n b d).1.length : Nat) : Int) - 1 - (q : Int) = ((d.length + 15 - q : Nat) : Int) from by omega, Int.toNat_natCast]
    refine OpsW.q rfl (o_call rfl Try.func11 rfl rfl (Open_con (by omega) (by rw [List.length_set]; omega))) ?_
    rw [fst_of (sl_other hok hbd hq16 4 (by decide)), snd_of (sl_other hok hbd hq16 4 (by decide))]
    refine OpsW.q rfl (q_move (v := .tuple _) rfl) ?_
    refine OpsW.q rfl (q_extract (v := S _) rfl rfl) ?_
    refine OpsW.q rfl (q_extract (v := .int _ _) rfl rfl) ?_
    refine OpsW.q rfl (q_assign (v := S _) rfl) ?_
    refine OpsW.q rfl (q_assign (v := .int _ _) rfl) ?_
    refine OpsW.nil ?_
    refine SeqP.go ?_
    refine AW.seq ?_
    refine AW.region ?_
    refine OpsW.q rfl (q_move (v := .int _ _) rfl) ?_
    refine OpsW.q rfl (q_subI rfl rfl (by omega)) ?_
    refine OpsW.q rfl (q_fieldAddr (sz := 0) Try.underlying23 rfl (by kernel_rfl) rfl) ?_
    refine OpsW.q rfl (q_load (v := S _) (by kernel_rfl) rfl (hS3.blk at1) rfl) ?_
    refine OpsW.q rfl (q_fieldAddr (sz := 0) Try.underlying23 rfl (by kernel_rfl) rfl) ?_
    refine OpsW.q rfl (q_load (v := S _) (by kernel_rfl) rfl (hS3.blk at1) rfl) ?_
    refine OpsW.q rfl (q_fieldAddr (sz := 0) Try.underlying23 rfl (by kernel_rfl) rfl) ?_
    refine OpsW.q rfl (q_load (v := S _) (by kernel_rfl) rfl (hS3.blk at1) rfl) ?_
    refine OpsW.q rfl (q_move (v := S _) rfl) ?_
    refine OpsW.q rfl (o_call rfl Try.func11 rfl rfl (Open_con (by omega) (by omega))) ?_
    rw [fst_of (sl_cross hok _ _), snd_of (sl_cross hok _ _)]
    refine OpsW.q rfl (q_move (v := .tuple _) rfl) ?_
    refine OpsW.q rfl (q_extract (v := S _) rfl rfl) ?_
    refine OpsW.q rfl (q_extract (v := .int _ _) rfl rfl) ?_
    refine OpsW.q rfl (q_assign (v := S _) rfl) ?_
    refine OpsW.q rfl (q_assign (v := .int _ _) rfl) ?_
    refine OpsW.nil ?_
    refine SeqP.go ?_
    refine AW.seq ?_
    refine AW.region ?_
    refine OpsW.q rfl (q_move (v := .int _ _) rfl) ?_
    refine OpsW.q rfl (q_eql rfl rfl) ?_
    refine OpsW.q rfl (q_move (v := .bool true) rfl) ?_
    refine OpsW.qw rfl rfl (q_move (v := .int _ _) rfl) ?_
    refine OpsW.qw rfl rfl (q_eql rfl rfl) ?_
    refine OpsW.q rfl (q_and2 rfl rfl rfl) ?_
    refine OpsW.q rfl (q_move (v := .bool true) rfl) ?_
    refine OpsW.qw rfl rfl (o_call rfl Try.func10 rfl rfl (awake_con)) ?_
    refine OpsW.q rfl (q_and2 rfl rfl rfl) ?_
    refine OpsW.q rfl (q_assign (v := .bool _) rfl) ?_
    refine OpsW.nil ?_
    refine SeqP.go ?_
    refine AW.ret ?_
    refine RetP.mk1 (H' := H) (v1 := .bool _) rfl rfl  hS3.le ?_
    exact ⟨rfl, rfl⟩
  try simp only [decide_eq_true_eq, decide_eq_false_iff_not, Bool.or_eq_true, Bool.and_eq_true, Bool.or_eq_false_iff, Bool.and_eq_false_imp, Bool.not_eq_true', Bool.not_eq_false', ne_eq, Decidable.not_not, Int.not_lt, Int.not_le, Bool.not_eq_true, Bool.not_eq_false] at h0
  refine AW.skip ?_
  refine SeqP.go ?_
  refine AW.seq ?_
  refine AW.seq ?_
  refine AW.drawK [] 9 rfl (by kernel_rfl) ?_
  refine SeqK.q rfl (q_loadA0 (n := 4) (by kernel_rfl) rfl (hS1.blk at0) (by rfl)) ?_
  refine SeqK.q rfl (o_call rfl Try.func9 rfl rfl (few_con _ _ _ _)) ?_
  refine SeqK.q rfl (q_not rfl) ?_
  refine SeqK.qb rfl (q_move (v := .bool _) rfl) ?_
  intro b21 eb21
  refine SeqK.g rfl rfl rfl (fun hB => by simp only [Bool.and_eq_true, beq_iff_eq] at hB; obtain rfl := hB; exact (q_fieldAddr (sz := 0) Try.underlying23 rfl (by kernel_rfl) rfl)) ?_
  refine SeqK.g rfl rfl rfl (fun hB => by simp only [Bool.and_eq_true, beq_iff_eq] at hB; obtain rfl := hB; exact (q_load (v := S _) (by kernel_rfl) rfl (hS1.blk at0) rfl)) ?_
  refine SeqK.g rfl rfl rfl (fun hB => by simp only [Bool.and_eq_true, beq_iff_eq] at hB; obtain rfl := hB; exact (q_lenS Try.underlying9 rfl)) ?_
  refine SeqK.g rfl rfl rfl (fun hB => by simp only [Bool.and_eq_true, beq_iff_eq] at hB; obtain rfl := hB; exact (q_move (v := .int _ _) rfl)) ?_
  refine SeqK.g rfl rfl rfl (fun hB => by simp only [Bool.and_eq_true, beq_iff_eq] at hB; obtain rfl := hB; exact (o_call rfl Try.func15 rfl rfl (Size_con _))) ?_
  rw [sizeS_a]
  refine SeqK.done ?_
  refine OpsW.g rfl rfl rfl (fun hB => by simp only [Bool.and_eq_true, beq_iff_eq] at hB; obtain rfl := hB; exact (q_neq rfl rfl)) ?_
  refine OpsW.q rfl (q_or2 rfl rfl rfl) ?_
  refine OpsW.qb rfl (q_move (v := .bool _) rfl) ?_
  intro b29 eb29
  refine OpsW.g rfl rfl rfl (fun hB => by simp only [Bool.and_eq_true, beq_iff_eq] at hB; obtain rfl := hB; exact (q_fieldAddr (sz := 0) Try.underlying23 rfl (by kernel_rfl) rfl)) ?_
  refine OpsW.g rfl rfl rfl (fun hB => by simp only [Bool.and_eq_true, beq_iff_eq] at hB; obtain rfl := hB; exact (q_load (v := S _) (by kernel_rfl) rfl (hS1.blk at0) rfl)) ?_
  refine OpsW.g rfl rfl rfl (fun hB => by simp only [Bool.and_eq_true, beq_iff_eq] at hB; obtain rfl := hB; exact (q_lenS Try.underlying9 rfl)) ?_
  refine OpsW.g rfl rfl rfl (fun hB => by simp only [Bool.and_eq_true, beq_iff_eq] at hB; obtain rfl := hB; exact (q_neq rfl rfl)) ?_
  refine OpsW.q rfl (q_or2 rfl rfl rfl) ?_
  refine OpsW.nil ?_
  refine SeqP.go ?_
  refine AW.cond rfl (fun h1 => ?_) (fun h1 => ?_)
  ·
    try simp only [eb21, eb29, decide_eq_true_eq, decide_eq_false_iff_not, Bool.or_eq_true, Bool.and_eq_true, Bool.or_eq_false_iff, Bool.and_eq_false_imp, Bool.not_eq_true', Bool.not_eq_false', ne_eq, Decidable.not_not, Int.not_lt, Int.not_le, Bool.not_eq_true, Bool.not_eq_false] at h1
    refine AW.seq ?_
    refine AW.region ?_
    refine OpsW.q rfl (o_call rfl Try.func15 rfl rfl (Size_con _)) ?_
    rw [sizeS_a]
    refine OpsW.q rfl (q_eql rfl rfl) ?_
    refine OpsW.q rfl (q_move (v := .bool true) rfl) ?_
    refine OpsW.qw rfl rfl (o_call rfl Try.func15 rfl rfl (Size_con _)) ?_
    rw [sizeS_b]
    refine OpsW.qw rfl rfl (q_eql rfl rfl) ?_
    refine OpsW.q rfl (q_and2 rfl rfl rfl) ?_
    refine OpsW.q rfl (q_move (v := .bool true) rfl) ?_
    refine OpsW.qw rfl rfl (o_call rfl Try.func10 rfl rfl (awake_con)) ?_
    refine OpsW.q rfl (q_and2 rfl rfl rfl) ?_
    refine OpsW.q rfl (q_assign (v := .bool _) rfl) ?_
    refine OpsW.nil ?_
    refine SeqP.go ?_
    refine AW.ret ?_
    refine SeqP.ret ?_
    refine RetP.mk1 (H' := H) (v1 := .bool _) rfl rfl  hS1.le ?_
    exact ⟨rfl, rfl⟩
  try simp only [eb21, eb29, decide_eq_true_eq, decide_eq_false_iff_not, Bool.or_eq_true, Bool.and_eq_true, Bool.or_eq_false_iff, Bool.and_eq_false_imp, Bool.not_eq_true', Bool.not_eq_false', ne_eq, Decidable.not_not, Int.not_lt, Int.not_le, Bool.not_eq_true, Bool.not_eq_false] at h1
  have hok : slOk 4865 k n := ⟨.inl ⟨rfl, by omega⟩, by omega⟩
  have hbd : ¬ (1048576 < b.length ∨ 1048576 < d.length) := by omega
  obtain ⟨hse, hsl, hso⟩ := sl_seal (b := b) (d := d) hok hbd
  refine AW.skip ?_
  refine SeqP.go ?_
  refine AW.seq ?_
  refine AW.region ?_
  refine OpsW.q rfl (q_move (v := .int _ _) rfl) ?_
  refine OpsW.q rfl (q_fieldAddr (sz := 0) Try.underlying23 rfl (by kernel_rfl) rfl) ?_
  refine OpsW.q rfl (q_load (v := S _) (by kernel_rfl) rfl (hS1.blk at0) rfl) ?_
  refine OpsW.q rfl (q_fieldAddr (sz := 0) Try.underlying23 rfl (by kernel_rfl) rfl) ?_
  refine OpsW.q rfl (q_load (v := S _) (by kernel_rfl) rfl (hS1.blk at0) rfl) ?_
  refine OpsW.q rfl (q_fieldAddr (sz := 0) Try.underlying23 rfl (by kernel_rfl) rfl) ?_
  refine OpsW.q rfl (q_load (v := S _) (by kernel_rfl) rfl (hS1.blk at0) rfl) ?_
  refine OpsW.q rfl (q_fieldAddr (sz := 0) Try.underlying23 rfl (by kernel_rfl) rfl) ?_
  refine OpsW.q rfl (q_load (v := S _) (by kernel_rfl) rfl (hS1.blk at0) rfl) ?_
  refine OpsW.q rfl (o_call rfl Try.func17 rfl rfl (Seal_con (by omega) (by omega))) ?_
  rw [hse]
  refine OpsW.q rfl (q_move (v := .tuple _) rfl) ?_
  refine OpsW.q rfl (q_extract (v := S _) rfl rfl) ?_
  refine OpsW.q rfl (q_extract (v := .int _ _) rfl rfl) ?_
  refine OpsW.q rfl (q_assign (v := S _) rfl) ?_
  refine OpsW.q rfl (q_assign (v := .int _ _) rfl) ?_
  refine OpsW.nil ?_
  refine SeqP.go ?_
  refine AW.seq ?_
  refine AW.region ?_
  refine OpsW.q rfl (q_move (v := .int _ _) rfl) ?_
  refine OpsW.q rfl (q_fieldAddr (sz := 0) Try.underlying23 rfl (by kernel_rfl) rfl) ?_
  refine OpsW.q rfl (q_load (v := S _) (by kernel_rfl) rfl (hS1.blk at0) rfl) ?_
  refine OpsW.q rfl (q_fieldAddr (sz := 0) Try.underlying23 rfl (by kernel_rfl) rfl) ?_
  refine OpsW.q rfl (q_load (v := S _) (by kernel_rfl) rfl (hS1.blk at0) rfl) ?_
  refine OpsW.q rfl (q_fieldAddr (sz := 0) Try.underlying23 rfl (by kernel_rfl) rfl) ?_
  refine OpsW.q rfl (q_load (v := S _) (by kernel_rfl) rfl (hS1.blk at0) rfl) ?_
  refine OpsW.q rfl (q_move (v := S _) rfl) ?_
  refine OpsW.q rfl (o_call rfl Try.func11 rfl rfl (Open_con (by omega) (by omega))) ?_
  rw [fst_of hso, snd_of hso]
  refine OpsW.q rfl (q_move (v := .tuple _) rfl) ?_
  refine OpsW.q rfl (q_extract (v := S _) rfl rfl) ?_
  refine OpsW.q rfl (q_extract (v := .int _ _) rfl rfl) ?_
  refine OpsW.q rfl (q_assign (v := S _) rfl) ?_
  refine OpsW.q rfl (q_assign (v := .int _ _) rfl) ?_
  refine OpsW.nil ?_
  refine SeqP.go ?_
  refine AW.seq ?_
  refine AW.seq ?_
  refine AW.region ?_
  refine OpsW.q rfl (q_move (v := .int _ _) rfl) ?_
  refine OpsW.q rfl (q_neq rfl rfl) ?_
  refine OpsW.qb rfl (q_move (v := .bool _) rfl) ?_
  intro b71 eb71
  refine OpsW.g rfl rfl rfl (fun hB => by simp only [Bool.and_eq_true, beq_iff_eq] at hB; obtain rfl := hB; exact (q_move (v := .int _ _) rfl)) ?_
  refine OpsW.g rfl rfl rfl (fun hB => by simp only [Bool.and_eq_true, beq_iff_eq] at hB; obtain rfl := hB; exact (q_neq rfl rfl)) ?_
  refine OpsW.q rfl (q_or2 rfl rfl rfl) ?_
  refine OpsW.qb rfl (q_move (v := .bool _) rfl) ?_
  intro b75 eb75
  refine OpsW.g rfl rfl rfl (fun hB => by simp only [Bool.and_eq_true, beq_iff_eq] at hB; obtain rfl := hB; exact (q_move (v := S _) rfl)) ?_
  refine OpsW.g rfl rfl rfl (fun hB => by simp only [Bool.and_eq_true, beq_iff_eq] at hB; obtain rfl := hB; exact (q_fieldAddr (sz := 0) Try.underlying23 rfl (by kernel_rfl) rfl)) ?_
  refine OpsW.g rfl rfl rfl (fun hB => by simp only [Bool.and_eq_true, beq_iff_eq] at hB; obtain rfl := hB; exact (q_load (v := S _) (by kernel_rfl) rfl (hS1.blk at0) rfl)) ?_
  refine OpsW.g rfl rfl rfl (fun hB => by simp only [Bool.and_eq_true, beq_iff_eq] at hB; obtain rfl := hB; exact (q_neS rfl rfl)) ?_
  refine OpsW.q rfl (q_or2 rfl rfl rfl) ?_
  refine OpsW.qb rfl (q_move (v := .bool _) rfl) ?_
  intro b81 eb81
  refine OpsW.g rfl rfl rfl (fun hB => by simp only [Bool.and_eq_true, beq_iff_eq] at hB; obtain rfl := hB; exact (q_move (v := S _) rfl)) ?_
  refine OpsW.g rfl rfl rfl (fun hB => by simp only [Bool.and_eq_true, beq_iff_eq] at hB; obtain rfl := hB; exact (q_lenS Try.underlying9 rfl)) ?_
  refine OpsW.g rfl rfl rfl (fun hB => by simp only [Bool.and_eq_true, beq_iff_eq] at hB; obtain rfl := hB; exact (q_fieldAddr (sz := 0) Try.underlying23 rfl (by kernel_rfl) rfl)) ?_
  refine OpsW.g rfl rfl rfl (fun hB => by simp only [Bool.and_eq_true, beq_iff_eq] at hB; obtain rfl := hB; exact (q_load (v := S _) (by kernel_rfl) rfl (hS1.blk at0) rfl)) ?_
  refine OpsW.g rfl rfl rfl (fun hB => by simp only [Bool.and_eq_true, beq_iff_eq] at hB; obtain rfl := hB; exact (q_lenS Try.underlying9 rfl)) ?_
  refine OpsW.g rfl rfl rfl (fun hB => by simp only [Bool.and_eq_true, beq_iff_eq] at hB; obtain rfl := hB; (try simp only [eb21, eb29, eb71, eb75, Bool.true_eq, Bool.false_eq, decide_eq_true_eq, Bool.and_eq_true, Bool.or_eq_true, Bool.or_eq_false_iff, Bool.not_eq_true', decide_eq_false_iff_not, Int.not_lt, Int.not_le] at eb81); exact (q_addI rfl rfl (by omega))) ?_
  refine OpsW.g rfl rfl rfl (fun hB => by simp only [Bool.and_eq_true, beq_iff_eq] at hB; obtain rfl := hB; exact (q_neq rfl rfl)) ?_
  refine OpsW.q rfl (q_or2 rfl rfl rfl) ?_
  refine OpsW.nil ?_
  refine SeqP.go ?_
  refine AW.cond rfl (fun h2 => ?_) (fun h2 => ?_)
  ·
    exfalso
    try simp only [eb21, eb29, eb71, eb75, eb81, decide_eq_true_eq, decide_eq_false_iff_not, Bool.or_eq_true, Bool.and_eq_true, Bool.or_eq_false_iff, Bool.and_eq_false_imp, Bool.not_eq_true', Bool.not_eq_false', ne_eq, Decidable.not_not, Int.not_lt, Int.not_le, Bool.not_eq_true, Bool.not_eq_false] at h2
    simp [hsl] at h2
  try simp only [eb21, eb29, eb71, eb75, eb81, decide_eq_true_eq, decide_eq_false_iff_not, Bool.or_eq_true, Bool.and_eq_true, Bool.or_eq_false_iff, Bool.and_eq_false_imp, Bool.not_eq_true', Bool.not_eq_false', ne_eq, Decidable.not_not, Int.not_lt, Int.not_le, Bool.not_eq_true, Bool.not_eq_false] at h2
  refine AW.skip ?_
  refine SeqP.go ?_
  refine AW.seq ?_
  refine AW.region ?_
  refine OpsW.q rfl (q_move (v := S _) rfl) ?_
  refine OpsW.m rfl (s_bytes hS1 rfl Try.underlying33 Try.underlying5 rfl (by unfold maxLen; omega)) ?_
  rintro v91 H4 hS4
  clear hS1
  refine OpsW.q rfl (q_assign (v := v91) rfl) ?_
  refine OpsW.nil ?_
  refine SeqP.go ?_
  refine AW.seq ?_
  refine AW.region ?_
  refine OpsW.q rfl (q_move (v := v91) rfl) ?_
  refine OpsW.q rfl (q_move (v := v91) rfl) ?_
  refine OpsW.q rfl (q_lenVec Try.underlying33 rfl (hS4.vec at0)) ?_
  refine OpsW.q rfl (q_subI rfl rfl (by omega)) ?_
  refine OpsW.q rfl (q_move (v := .int _ _) rfl) ?_
  refine OpsW.q rfl (q_rem rfl rfl (by decide)) ?_
  obtain ⟨r, hr⟩ : ∃ r, r = at_.tmod 16 := ⟨_, rfl⟩
  have hr16 : -16 < r ∧ r < 16 := by rw [hr]; exact tmod16 at_
  rw [← hr]
  refine OpsW.q rfl (q_addI rfl rfl (by omega)) ?_
  refine OpsW.q rfl (q_remI rfl rfl (by omega)) ?_
  refine OpsW.q rfl (q_subI rfl rfl (by omega)) ?_
  obtain ⟨q, hq, hq16⟩ : ∃ q : Nat, (r + 16) % 16 = (q : Int) ∧ q < 16 := ⟨((r + 16) % 16).toNat, by omega, by omega⟩
  rw [hq]
  refine OpsW.q rfl (q_indexV1 (hS4.vec at0) Try.underlying33 (by kernel_rfl) rfl rfl (by omega) (by omega)) ?_
  refine OpsW.q rfl (q_loadVB (hS4.vec at0) (by kernel_rfl) rfl (by omega)) ?_
  refine OpsW.q rfl (q_xorB (b := 4) rfl rfl) ?_
  refine OpsW.q rfl (q_indexV1 (hS4.vec at0) Try.underlying33 (by kernel_rfl) rfl rfl (by omega) (by omega)) ?_
  refine OpsW.ms (s_storeVB hS4 at0 (by kernel_rfl) rfl rfl (by omega)) ?_
  rintro _ H5 ⟨rfl, hS5⟩
  clear hS4
  refine OpsW.nil ?_
  refine SeqP.go ?_
  refine AW.seq ?_
  refine AW.region ?_
  refine OpsW.q rfl (q_move (v := .int _ _) rfl) ?_
  refine OpsW.q rfl (q_fieldAddr (sz := 0) Try.underlying23 rfl (by kernel_rfl) rfl) ?_
  refine OpsW.q rfl (q_load (v := S _) (by kernel_rfl) rfl (hS5.blk at1) rfl) ?_
  refine OpsW.q rfl (q_fieldAddr (sz := 0) Try.underlying23 rfl (by kernel_rfl) rfl) ?_
  refine OpsW.q rfl (q_load (v := S _) (by kernel_rfl) rfl (hS5.blk at1) rfl) ?_
  refine OpsW.q rfl (q_fieldAddr (sz := 0) Try.underlying23 rfl (by kernel_rfl) rfl) ?_
  refine OpsW.q rfl (q_load (v := S _) (by kernel_rfl) rfl (hS5.blk at1) rfl) ?_
  refine OpsW.q rfl (q_move (v := v91) rfl) ?_
  refine OpsW.q rfl (q_stringB (hS5.vec at0) Try.underlying33 Try.underlying5 Try.underlying9 rfl) ?_
  rw [show (((slSeal 4865 k n b d).1.length : Nat) : Int) - 1 - (q : Int) = ((d.length + 15 - q : Nat) : Int) from by omega, Int.toNat_natCast]
  refine OpsW.q rfl (o_call rfl Try.func11 rfl rfl (Open_con (by omega) (by rw [List.length_set]; omega))) ?_
  rw [fst_of (sl_other hok hbd hq16 4 (by decide)), snd_of (sl_other hok hbd hq16 4 (by decide))]
  refine OpsW.q rfl (q_move (v := .tuple _) rfl) ?_
  refine OpsW.q rfl (q_extract (v := S _) rfl rfl) ?_
  refine OpsW.q rfl (q_extract (v := .int _ _) rfl rfl) ?_
  refine OpsW.q rfl (q_assign (v := S _) rfl) ?_
  refine OpsW.q rfl (q_assign (v := .int _ _) rfl) ?_
  refine OpsW.nil ?_
  refine SeqP.go ?_
  refine AW.seq ?_
  refine AW.region ?_
  refine OpsW.q rfl (q_move (v := .int _ _) rfl) ?_
  refine OpsW.q rfl (q_subI rfl rfl (by omega)) ?_
  refine OpsW.q rfl (q_fieldAddr (sz := 0) Try.underlying23 rfl (by kernel_rfl) rfl) ?_
  refine OpsW.q rfl (q_load (v := S _) (by kernel_rfl) rfl (hS5.blk at1) rfl) ?_
  refine OpsW.q rfl (q_fieldAddr (sz := 0) Try.underlying23 rfl (by kernel_rfl) rfl) ?_
  refine OpsW.q rfl (q_load (v := S _) (by kernel_rfl) rfl (hS5.blk at1) rfl) ?_
  refine OpsW.q rfl (q_fieldAddr (sz := 0) Try.underlying23 rfl (by kernel_rfl) rfl) ?_
  refine OpsW.q rfl (q_load (v := S _) (by kernel_rfl) rfl (hS5.blk at1) rfl) ?_
  refine OpsW.q rfl (q_move (v := S _) rfl) ?_
  refine OpsW.q rfl (o_call rfl Try.func11 rfl rfl (Open_con (by omega) (by omega))) ?_
  rw [fst_of (sl_cross hok _ _), snd_of (sl_cross hok _ _)]
  refine OpsW.q rfl (q_move (v := .tuple _) rfl) ?_
  refine OpsW.q rfl (q_extract (v := S _) rfl rfl) ?_
  refine OpsW.q rfl (q_extract (v := .int _ _) rfl rfl) ?_
  refine OpsW.q rfl (q_assign (v := S _) rfl) ?_
  refine OpsW.q rfl (q_assign (v := .int _ _) rfl) ?_
  refine OpsW.nil ?_
  refine SeqP.go ?_
  refine AW.seq ?_
  refine AW.region ?_
  refine OpsW.q rfl (q_move (v := .int _ _) rfl) ?_
  refine OpsW.q rfl (q_eql rfl rfl) ?_
  refine OpsW.q rfl (q_move (v := .bool true) rfl) ?_
  refine OpsW.qw rfl rfl (q_move (v := .int _ _) rfl) ?_
  refine OpsW.qw rfl rfl (q_eql rfl rfl) ?_
  refine OpsW.q rfl (q_and2 rfl rfl rfl) ?_
  refine OpsW.q rfl (q_move (v := .bool true) rfl) ?_
  refine OpsW.qw rfl rfl (o_call rfl Try.func10 rfl rfl (awake_con)) ?_
  refine OpsW.q rfl (q_and2 rfl rfl rfl) ?_
  refine OpsW.q rfl (q_assign (v := .bool _) rfl) ?_
  refine OpsW.nil ?_
  refine SeqP.go ?_
  refine AW.ret ?_
  refine RetP.mk1 (H' := H) (v1 := .bool _) rfl rfl  hS5.le ?_
  exact ⟨rfl, rfl⟩
end
end Go.Proofs.Ytkfdoicjpoofhaa
end
