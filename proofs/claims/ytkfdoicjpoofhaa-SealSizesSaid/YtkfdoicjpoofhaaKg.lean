/-
  The proof's texts, joined, without what the statements do not reach: part 7 of 7. No condition.
-/
import Derived.Test.YtkfdoicjpoofhaaRows
import Derived.WalkKit
import Derived.KernelRfl
import Derived.Lib.ConvBytes
import Derived.WalkSpells
import Derived.WalkLawsBesides
import Derived.ProofKit
import Derived.ChangeMaps5
import Derived.ChangeSlices
import Derived.Deep.Strs
import Derived.DataElems
import Derived.OpenShut
import Derived.Test.YtkfdoicjpoofhaaProg
import Derived.Test.YtkfdoicjpoofhaaKf
section
namespace Go.Proofs.Ytkfdoicjpoofhaa
open Go Go.RowKit D
set_option linter.unusedVariables false
set_option linter.unusedSimpArgs false
set_option maxRecDepth 100000
set_option maxHeartbeats 2000000
section
variable {w0 : World} {H : Hp}
theorem sizesL_con (suite : Int) : Con Try.prog w0 8 #[.int .i64 suite] H (fun v H' => v = .bool true ∧ H' = H) := by
  have hS0 : Sep H [] H := Sep.refl
  refine Con.intro Try.func8 rfl rfl ?_
  refine AW.seq ?_
  refine AW.region ?_
  refine OpsW.q rfl (q_assign (v := .bool _) rfl) ?_
  refine OpsW.nil ?_
  refine SeqP.go ?_
  refine AW.seq ?_
  rcases size_cases suite with rfl | rfl | ⟨hz1, hz2⟩
  ·
    refine AW.region ?_
    refine OpsW.q rfl (q_move (v := .int _ _) rfl) ?_
    refine OpsW.q rfl (o_call rfl Try.func15 rfl rfl (Size_con _)) ?_
    rw [sizeS_a]
    refine OpsW.q rfl (q_assign (v := .int _ _) rfl) ?_
    refine OpsW.nil ?_
    refine SeqP.go ?_
    refine AW.seq ?_
    refine AW.steps rfl 12 rfl ?_
    refine AnyW.first 0 rfl (by kernel_rfl) (by kernel_rfl) (by kernel_rfl) rfl (dst_lt rfl) (v_move (v := .int _ _) rfl) ?_
    refine AnyW.first 1 rfl (by kernel_rfl) (by kernel_rfl) (by kernel_rfl) rfl (dst_lt rfl) (v_move (v := .int _ _) rfl) ?_
    refine AnyW.two 2 4 rfl rfl (by kernel_rfl) rfl rfl (dst_lt rfl) (dst_lt rfl) (s_makeSliceB (by_ := 1) hS0 Try.underlying33 (by kernel_rfl) (by kernel_rfl) (by kernel_rfl) rfl rfl (by omega) (by omega) (by omega) (by omega) (by unfold maxLen; omega)) (s_makeSliceB (by_ := 1) hS0 Try.underlying33 (by kernel_rfl) (by kernel_rfl) (by kernel_rfl) rfl rfl (by omega) (by omega) (by omega) (by omega) (by unfold maxLen; omega)) ?_ ?_
    ·
      rintro v11 H1 hS1
      clear hS0
      refine AnyW.two 3 4 rfl rfl (by kernel_rfl) rfl rfl (dst_lt rfl) (dst_lt rfl) (q_stringB (hS1.vec at0) Try.underlying33 Try.underlying5 Try.underlying9 rfl) (s_makeSliceB (by_ := 1) hS1 Try.underlying33 (by kernel_rfl) (by kernel_rfl) (by kernel_rfl) rfl rfl (by omega) (by omega) (by omega) (by omega) (by unfold maxLen; omega)) ?_ ?_
      ·
        rintro _ _ ⟨rfl, rfl⟩
        refine AnyW.only 4 rfl (by kernel_rfl) rfl (dst_lt rfl) (s_makeSliceB (by_ := 1) hS1 Try.underlying33 (by kernel_rfl) (by kernel_rfl) (by kernel_rfl) rfl rfl (by omega) (by omega) (by omega) (by omega) (by unfold maxLen; omega)) ?_
        rintro v13 H2 hS2
        clear hS1
        refine AnyW.onlyQ 5 rfl (by kernel_rfl) rfl (dst_lt rfl) (q_stringB (hS2.vec at0) Try.underlying33 Try.underlying5 Try.underlying9 rfl) ?_
        refine AnyW.onlyQ 6 rfl (by kernel_rfl) rfl (dst_lt rfl) (o_call rfl Try.func17 rfl rfl (Seal_con (by decide) (by decide))) ?_
        rw [sizes_a.1]
        have h17 : (((slSeal 4865 (List.replicate (Int.toNat 16) 0) (List.replicate (Int.toNat 12) 0) [] [120]).1.length : Nat) : Int) = 17 := by rw [sizes_a.2]; rfl
        refine AnyW.onlyQ 7 rfl (by kernel_rfl) rfl (dst_lt rfl) (q_move (v := .tuple _) rfl) ?_
        refine AnyW.two 8 9 rfl rfl (by kernel_rfl) rfl rfl (dst_lt rfl) (dst_lt rfl) (q_extract (v := S _) rfl rfl) (q_extract (v := .int _ _) rfl rfl) ?_ ?_
        ·
          rintro _ _ ⟨rfl, rfl⟩
          refine AnyW.two 9 10 rfl rfl (by kernel_rfl) rfl rfl (dst_lt rfl) (dst_lt rfl) (q_extract (v := .int _ _) rfl rfl) (q_assign (v := S _) rfl) ?_ ?_
          ·
            rintro _ _ ⟨rfl, rfl⟩
            refine AnyW.onlyQ 10 rfl (by kernel_rfl) rfl (dst_lt rfl) (q_assign (v := S _) rfl) ?_
            refine AnyW.onlyQ 11 rfl (by kernel_rfl) rfl (dst_lt rfl) (q_assign (v := .int _ _) rfl) ?_
            refine AnyW.done (by kernel_rfl) ?_
            refine SeqP.go ?_
            refine AW.seq ?_
            refine AW.region ?_
            refine OpsW.q rfl (q_move (v := .int _ _) rfl) ?_
            refine OpsW.q rfl (q_move (v := .int _ _) rfl) ?_
            refine OpsW.q rfl (o_call rfl Try.func16 rfl rfl (SizeR_con _)) ?_
            rw [sizeS_a]
            refine OpsW.q rfl (q_eql rfl rfl) ?_
            refine OpsW.q rfl (q_move (v := .bool true) rfl) ?_
            refine OpsW.qw rfl rfl (q_move (v := .int _ _) rfl) ?_
            refine OpsW.qw rfl rfl (q_eql rfl rfl) ?_
            refine OpsW.qw rfl rfl (q_move (v := .int _ _) rfl) ?_
            refine OpsW.qw rfl rfl (q_gtr rfl rfl) ?_
            refine OpsW.qw rfl rfl (q_eqlB Try.underlying4 rfl rfl) ?_
            refine OpsW.q rfl (q_and2 rfl rfl rfl) ?_
            refine OpsW.q rfl (q_move (v := .bool true) rfl) ?_
            refine OpsW.qw rfl rfl (q_move (v := .int _ _) rfl) ?_
            refine OpsW.qw rfl rfl (q_gtr rfl rfl) ?_
            refine OpsW.qw rfl rfl (q_move (v := .bool true) rfl) ?_
            refine OpsW.qw rfl rfl (q_move (v := S _) rfl) ?_
            refine OpsW.qw rfl rfl (q_lenS Try.underlying9 rfl) ?_
            refine OpsW.qw rfl rfl (q_eql rfl rfl) ?_
            rw [decide_eq_true h17]
            refine OpsW.qw rfl rfl (q_and2 rfl rfl rfl) ?_
            refine OpsW.qw rfl rfl (q_move (v := .bool true) rfl) ?_
            refine OpsW.p rfl rfl ?_
            refine OpsW.p rfl rfl ?_
            refine OpsW.p rfl rfl ?_
            refine OpsW.pu rfl rfl ?_
            refine OpsW.pu rfl rfl ?_
            refine OpsW.p rfl rfl ?_
            refine OpsW.p rfl rfl ?_
            refine OpsW.pu rfl rfl ?_
            refine OpsW.pu rfl rfl ?_
            refine OpsW.p rfl rfl ?_
            refine OpsW.qw rfl rfl (q_or2 (B := false) rfl rfl rfl) ?_
            refine OpsW.q rfl (q_and2 rfl rfl rfl) ?_
            refine OpsW.q rfl (q_move (v := .bool true) rfl) ?_
            refine OpsW.qw rfl rfl (o_call rfl Try.func10 rfl rfl (awake_con)) ?_
            refine OpsW.q rfl (q_and2 rfl rfl rfl) ?_
            refine OpsW.q rfl (q_assign (v := .bool _) rfl) ?_
            refine OpsW.nil ?_
            refine SeqP.go ?_
            refine AW.ret ?_
            refine RetP.mk1 (H' := H) (v1 := .bool _) rfl rfl  hS2.le ?_
            exact ⟨rfl, rfl⟩
          ·
            rintro _ _ ⟨rfl, rfl⟩
            refine AnyW.onlyQ 9 rfl (by kernel_rfl) rfl (dst_lt rfl) (q_extract (v := .int _ _) rfl rfl) ?_
            refine AnyW.onlyQ 11 rfl (by kernel_rfl) rfl (dst_lt rfl) (q_assign (v := .int _ _) rfl) ?_
            refine AnyW.done (by kernel_rfl) ?_
            refine SeqP.go ?_
            refine AW.seq ?_
            refine AW.region ?_
            refine OpsW.q rfl (q_move (v := .int _ _) rfl) ?_
            refine OpsW.q rfl (q_move (v := .int _ _) rfl) ?_
            refine OpsW.q rfl (o_call rfl Try.func16 rfl rfl (SizeR_con _)) ?_
            rw [sizeS_a]
            refine OpsW.q rfl (q_eql rfl rfl) ?_
            refine OpsW.q rfl (q_move (v := .bool true) rfl) ?_
            refine OpsW.qw rfl rfl (q_move (v := .int _ _) rfl) ?_
            refine OpsW.qw rfl rfl (q_eql rfl rfl) ?_
            refine OpsW.qw rfl rfl (q_move (v := .int _ _) rfl) ?_
            refine OpsW.qw rfl rfl (q_gtr rfl rfl) ?_
            refine OpsW.qw rfl rfl (q_eqlB Try.underlying4 rfl rfl) ?_
            refine OpsW.q rfl (q_and2 rfl rfl rfl) ?_
            refine OpsW.q rfl (q_move (v := .bool true) rfl) ?_
            refine OpsW.qw rfl rfl (q_move (v := .int _ _) rfl) ?_
            refine OpsW.qw rfl rfl (q_gtr rfl rfl) ?_
            refine OpsW.qw rfl rfl (q_move (v := .bool true) rfl) ?_
            refine OpsW.qw rfl rfl (q_move (v := S _) rfl) ?_
            refine OpsW.qw rfl rfl (q_lenS Try.underlying9 rfl) ?_
            refine OpsW.qw rfl rfl (q_eql rfl rfl) ?_
            rw [decide_eq_true h17]
            refine OpsW.qw rfl rfl (q_and2 rfl rfl rfl) ?_
            refine OpsW.qw rfl rfl (q_move (v := .bool true) rfl) ?_
            refine OpsW.p rfl rfl ?_
            refine OpsW.p rfl rfl ?_
            refine OpsW.p rfl rfl ?_
            refine OpsW.pu rfl rfl ?_
            refine OpsW.pu rfl rfl ?_
            refine OpsW.p rfl rfl ?_
            refine OpsW.p rfl rfl ?_
            refine OpsW.pu rfl rfl ?_
            refine OpsW.pu rfl rfl ?_
            refine OpsW.p rfl rfl ?_
            refine OpsW.qw rfl rfl (q_or2 (B := false) rfl rfl rfl) ?_
            refine OpsW.q rfl (q_and2 rfl rfl rfl) ?_
            refine OpsW.q rfl (q_move (v := .bool true) rfl) ?_
            refine OpsW.qw rfl rfl (o_call rfl Try.func10 rfl rfl (awake_con)) ?_
            refine OpsW.q rfl (q_and2 rfl rfl rfl) ?_
            refine OpsW.q rfl (q_assign (v := .bool _) rfl) ?_
            refine OpsW.nil ?_
            refine SeqP.go ?_
            refine AW.ret ?_
            refine RetP.mk1 (H' := H) (v1 := .bool _) rfl rfl  hS2.le ?_
            exact ⟨rfl, rfl⟩
        ·
          rintro _ _ ⟨rfl, rfl⟩
          refine AnyW.onlyQ 8 rfl (by kernel_rfl) rfl (dst_lt rfl) (q_extract (v := S _) rfl rfl) ?_
          refine AnyW.onlyQ 10 rfl (by kernel_rfl) rfl (dst_lt rfl) (q_assign (v := S _) rfl) ?_
          refine AnyW.onlyQ 11 rfl (by kernel_rfl) rfl (dst_lt rfl) (q_assign (v := .int _ _) rfl) ?_
          refine AnyW.done (by kernel_rfl) ?_
          refine SeqP.go ?_
          refine AW.seq ?_
          refine AW.region ?_
          refine OpsW.q rfl (q_move (v := .int _ _) rfl) ?_
          refine OpsW.q rfl (q_move (v := .int _ _) rfl) ?_
          refine OpsW.q rfl (o_call rfl Try.func16 rfl rfl (SizeR_con _)) ?_
          rw [sizeS_a]
          refine OpsW.q rfl (q_eql rfl rfl) ?_
          refine OpsW.q rfl (q_move (v := .bool true) rfl) ?_
          refine OpsW.qw rfl rfl (q_move (v := .int _ _) rfl) ?_
          refine OpsW.qw rfl rfl (q_eql rfl rfl) ?_
          refine OpsW.qw rfl rfl (q_move (v := .int _ _) rfl) ?_
          refine OpsW.qw rfl rfl (q_gtr rfl rfl) ?_
          refine OpsW.qw rfl rfl (q_eqlB Try.underlying4 rfl rfl) ?_
          refine OpsW.q rfl (q_and2 rfl rfl rfl) ?_
          refine OpsW.q rfl (q_move (v := .bool true) rfl) ?_
          refine OpsW.qw rfl rfl (q_move (v := .int _ _) rfl) ?_
          refine OpsW.qw rfl rfl (q_gtr rfl rfl) ?_
          refine OpsW.qw rfl rfl (q_move (v := .bool true) rfl) ?_
          refine OpsW.qw rfl rfl (q_move (v := S _) rfl) ?_
          refine OpsW.qw rfl rfl (q_lenS Try.underlying9 rfl) ?_
          refine OpsW.qw rfl rfl (q_eql rfl rfl) ?_
          rw [decide_eq_true h17]
          refine OpsW.qw rfl rfl (q_and2 rfl rfl rfl) ?_
          refine OpsW.qw rfl rfl (q_move (v := .bool true) rfl) ?_
          refine OpsW.p rfl rfl ?_
          refine OpsW.p rfl rfl ?_
          refine OpsW.p rfl rfl ?_
          refine OpsW.pu rfl rfl ?_
          refine OpsW.pu rfl rfl ?_
          refine OpsW.p rfl rfl ?_
          refine OpsW.p rfl rfl ?_
          refine OpsW.pu rfl rfl ?_
          refine OpsW.pu rfl rfl ?_
          refine OpsW.p rfl rfl ?_
          refine OpsW.qw rfl rfl (q_or2 (B := false) rfl rfl rfl) ?_
          refine OpsW.q rfl (q_and2 rfl rfl rfl) ?_
          refine OpsW.q rfl (q_move (v := .bool true) rfl) ?_
          refine OpsW.qw rfl rfl (o_call rfl Try.func10 rfl rfl (awake_con)) ?_
          refine OpsW.q rfl (q_and2 rfl rfl rfl) ?_
          refine OpsW.q rfl (q_assign (v := .bool _) rfl) ?_
          refine OpsW.nil ?_
          refine SeqP.go ?_
          refine AW.ret ?_
          refine RetP.mk1 (H' := H) (v1 := .bool _) rfl rfl  hS2.le ?_
          exact ⟨rfl, rfl⟩
      ·
        rintro v13 H3 hS3
        clear hS1
        refine AnyW.two 3 5 rfl rfl (by kernel_rfl) rfl rfl (dst_lt rfl) (dst_lt rfl) (q_stringB (hS3.vec at1) Try.underlying33 Try.underlying5 Try.underlying9 rfl) (q_stringB (hS3.vec at0) Try.underlying33 Try.underlying5 Try.underlying9 rfl) ?_ ?_
        ·
          rintro _ _ ⟨rfl, rfl⟩
          refine AnyW.onlyQ 5 rfl (by kernel_rfl) rfl (dst_lt rfl) (q_stringB (hS3.vec at0) Try.underlying33 Try.underlying5 Try.underlying9 rfl) ?_
          refine AnyW.onlyQ 6 rfl (by kernel_rfl) rfl (dst_lt rfl) (o_call rfl Try.func17 rfl rfl (Seal_con (by decide) (by decide))) ?_
          rw [sizes_a.1]
          have h17 : (((slSeal 4865 (List.replicate (Int.toNat 16) 0) (List.replicate (Int.toNat 12) 0) [] [120]).1.length : Nat) : Int) = 17 := by rw [sizes_a.2]; rfl
          refine AnyW.onlyQ 7 rfl (by kernel_rfl) rfl (dst_lt rfl) (q_move (v := .tuple _) rfl) ?_
          refine AnyW.two 8 9 rfl rfl (by kernel_rfl) rfl rfl (dst_lt rfl) (dst_lt rfl) (q_extract (v := S _) rfl rfl) (q_extract (v := .int _ _) rfl rfl) ?_ ?_
          ·
            rintro _ _ ⟨rfl, rfl⟩
            refine AnyW.two 9 10 rfl rfl (by kernel_rfl) rfl rfl (dst_lt rfl) (dst_lt rfl) (q_extract (v := .int _ _) rfl rfl) (q_assign (v := S _) rfl) ?_ ?_
            ·
              rintro _ _ ⟨rfl, rfl⟩
              refine AnyW.onlyQ 10 rfl (by kernel_rfl) rfl (dst_lt rfl) (q_assign (v := S _) rfl) ?_
              refine AnyW.onlyQ 11 rfl (by kernel_rfl) rfl (dst_lt rfl) (q_assign (v := .int _ _) rfl) ?_
              refine AnyW.done (by kernel_rfl) ?_
              refine SeqP.go ?_
              refine AW.seq ?_
              refine AW.region ?_
              refine OpsW.q rfl (q_move (v := .int _ _) rfl) ?_
              refine OpsW.q rfl (q_move (v := .int _ _) rfl) ?_
              refine OpsW.q rfl (o_call rfl Try.func16 rfl rfl (SizeR_con _)) ?_
              rw [sizeS_a]
              refine OpsW.q rfl (q_eql rfl rfl) ?_
              refine OpsW.q rfl (q_move (v := .bool true) rfl) ?_
              refine OpsW.qw rfl rfl (q_move (v := .int _ _) rfl) ?_
              refine OpsW.qw rfl rfl (q_eql rfl rfl) ?_
              refine OpsW.qw rfl rfl (q_move (v := .int _ _) rfl) ?_
              refine OpsW.qw rfl rfl (q_gtr rfl rfl) ?_
              refine OpsW.qw rfl rfl (q_eqlB Try.underlying4 rfl rfl) ?_
              refine OpsW.q rfl (q_and2 rfl rfl rfl) ?_
              refine OpsW.q rfl (q_move (v := .bool true) rfl) ?_
              refine OpsW.qw rfl rfl (q_move (v := .int _ _) rfl) ?_
              refine OpsW.qw rfl rfl (q_gtr rfl rfl) ?_
              refine OpsW.qw rfl rfl (q_move (v := .bool true) rfl) ?_
              refine OpsW.qw rfl rfl (q_move (v := S _) rfl) ?_
              refine OpsW.qw rfl rfl (q_lenS Try.underlying9 rfl) ?_
              refine OpsW.qw rfl rfl (q_eql rfl rfl) ?_
              rw [decide_eq_true h17]
              refine OpsW.qw rfl rfl (q_and2 rfl rfl rfl) ?_
              refine OpsW.qw rfl rfl (q_move (v := .bool true) rfl) ?_
              refine OpsW.p rfl rfl ?_
              refine OpsW.p rfl rfl ?_
              refine OpsW.p rfl rfl ?_
              refine OpsW.pu rfl rfl ?_
              refine OpsW.pu rfl rfl ?_
              refine OpsW.p rfl rfl ?_
              refine OpsW.p rfl rfl ?_
              refine OpsW.pu rfl rfl ?_
              refine OpsW.pu rfl rfl ?_
              refine OpsW.p rfl rfl ?_
              refine OpsW.qw rfl rfl (q_or2 (B := false) rfl rfl rfl) ?_
              refine OpsW.q rfl (q_and2 rfl rfl rfl) ?_
              refine OpsW.q rfl (q_move (v := .bool true) rfl) ?_
              refine OpsW.qw rfl rfl (o_call rfl Try.func10 rfl rfl (awake_con)) ?_
              refine OpsW.q rfl (q_and2 rfl rfl rfl) ?_
              refine OpsW.q rfl (q_assign (v := .bool _) rfl) ?_
              refine OpsW.nil ?_
              refine SeqP.go ?_
              refine AW.ret ?_
              refine RetP.mk1 (H' := H) (v1 := .bool _) rfl rfl  hS3.le ?_
              exact ⟨rfl, rfl⟩
            ·
              rintro _ _ ⟨rfl, rfl⟩
              refine AnyW.onlyQ 9 rfl (by kernel_rfl) rfl (dst_lt rfl) (q_extract (v := .int _ _) rfl rfl) ?_
              refine AnyW.onlyQ 11 rfl (by kernel_rfl) rfl (dst_lt rfl) (q_assign (v := .int _ _) rfl) ?_
              refine AnyW.done (by kernel_rfl) ?_
              refine SeqP.go ?_
              refine AW.seq ?_
              refine AW.region ?_
              refine OpsW.q rfl (q_move (v := .int _ _) rfl) ?_
              refine OpsW.q rfl (q_move (v := .int _ _) rfl) ?_
              refine OpsW.q rfl (o_call rfl Try.func16 rfl rfl (SizeR_con _)) ?_
              rw [sizeS_a]
              refine OpsW.q rfl (q_eql rfl rfl) ?_
              refine OpsW.q rfl (q_move (v := .bool true) rfl) ?_
              refine OpsW.qw rfl rfl (q_move (v := .int _ _) rfl) ?_
              refine OpsW.qw rfl rfl (q_eql rfl rfl) ?_
              refine OpsW.qw rfl rfl (q_move (v := .int _ _) rfl) ?_
              refine OpsW.qw rfl rfl (q_gtr rfl rfl) ?_
              refine OpsW.qw rfl rfl (q_eqlB Try.underlying4 rfl rfl) ?_
              refine OpsW.q rfl (q_and2 rfl rfl rfl) ?_
              refine OpsW.q rfl (q_move (v := .bool true) rfl) ?_
              refine OpsW.qw rfl rfl (q_move (v := .int _ _) rfl) ?_
              refine OpsW.qw rfl rfl (q_gtr rfl rfl) ?_
              refine OpsW.qw rfl rfl (q_move (v := .bool true) rfl) ?_
              refine OpsW.qw rfl rfl (q_move (v := S _) rfl) ?_
              refine OpsW.qw rfl rfl (q_lenS Try.underlying9 rfl) ?_
              refine OpsW.qw rfl rfl (q_eql rfl rfl) ?_
              rw [decide_eq_true h17]
              refine OpsW.qw rfl rfl (q_and2 rfl rfl rfl) ?_
              refine OpsW.qw rfl rfl (q_move (v := .bool true) rfl) ?_
              refine OpsW.p rfl rfl ?_
              refine OpsW.p rfl rfl ?_
              refine OpsW.p rfl rfl ?_
              refine OpsW.pu rfl rfl ?_
              refine OpsW.pu rfl rfl ?_
              refine OpsW.p rfl rfl ?_
              refine OpsW.p rfl rfl ?_
              refine OpsW.pu rfl rfl ?_
              refine OpsW.pu rfl rfl ?_
              refine OpsW.p rfl rfl ?_
              refine OpsW.qw rfl rfl (q_or2 (B := false) rfl rfl rfl) ?_
              refine OpsW.q rfl (q_and2 rfl rfl rfl) ?_
              refine OpsW.q rfl (q_move (v := .bool true) rfl) ?_
              refine OpsW.qw rfl rfl (o_call rfl Try.func10 rfl rfl (awake_con)) ?_
              refine OpsW.q rfl (q_and2 rfl rfl rfl) ?_
              refine OpsW.q rfl (q_assign (v := .bool _) rfl) ?_
              refine OpsW.nil ?_
              refine SeqP.go ?_
              refine AW.ret ?_
              refine RetP.mk1 (H' := H) (v1 := .bool _) rfl rfl  hS3.le ?_
              exact ⟨rfl, rfl⟩
          ·
            rintro _ _ ⟨rfl, rfl⟩
            refine AnyW.onlyQ 8 rfl (by kernel_rfl) rfl (dst_lt rfl) (q_extract (v := S _) rfl rfl) ?_
            refine AnyW.onlyQ 10 rfl (by kernel_rfl) rfl (dst_lt rfl) (q_assign (v := S _) rfl) ?_
            refine AnyW.onlyQ 11 rfl (by kernel_rfl) rfl (dst_lt rfl) (q_assign (v := .int _ _) rfl) ?_
            refine AnyW.done (by kernel_rfl) ?_
            refine SeqP.go ?_
            refine AW.seq ?_
            refine AW.region ?_
            refine OpsW.q rfl (q_move (v := .int _ _) rfl) ?_
            refine OpsW.q rfl (q_move (v := .int _ _) rfl) ?_
            refine OpsW.q rfl (o_call rfl Try.func16 rfl rfl (SizeR_con _)) ?_
            rw [sizeS_a]
            refine OpsW.q rfl (q_eql rfl rfl) ?_
            refine OpsW.q rfl (q_move (v := .bool true) rfl) ?_
            refine OpsW.qw rfl rfl (q_move (v := .int _ _) rfl) ?_
            refine OpsW.qw rfl rfl (q_eql rfl rfl) ?_
            refine OpsW.qw rfl rfl (q_move (v := .int _ _) rfl) ?_
            refine OpsW.qw rfl rfl (q_gtr rfl rfl) ?_
            refine OpsW.qw rfl rfl (q_eqlB Try.underlying4 rfl rfl) ?_
            refine OpsW.q rfl (q_and2 rfl rfl rfl) ?_
            refine OpsW.q rfl (q_move (v := .bool true) rfl) ?_
            refine OpsW.qw rfl rfl (q_move (v := .int _ _) rfl) ?_
            refine OpsW.qw rfl rfl (q_gtr rfl rfl) ?_
            refine OpsW.qw rfl rfl (q_move (v := .bool true) rfl) ?_
            refine OpsW.qw rfl rfl (q_move (v := S _) rfl) ?_
            refine OpsW.qw rfl rfl (q_lenS Try.underlying9 rfl) ?_
            refine OpsW.qw rfl rfl (q_eql rfl rfl) ?_
            rw [decide_eq_true h17]
            refine OpsW.qw rfl rfl (q_and2 rfl rfl rfl) ?_
            refine OpsW.qw rfl rfl (q_move (v := .bool true) rfl) ?_
            refine OpsW.p rfl rfl ?_
            refine OpsW.p rfl rfl ?_
            refine OpsW.p rfl rfl ?_
            refine OpsW.pu rfl rfl ?_
            refine OpsW.pu rfl rfl ?_
            refine OpsW.p rfl rfl ?_
            refine OpsW.p rfl rfl ?_
            refine OpsW.pu rfl rfl ?_
            refine OpsW.pu rfl rfl ?_
            refine OpsW.p rfl rfl ?_
            refine OpsW.qw rfl rfl (q_or2 (B := false) rfl rfl rfl) ?_
            refine OpsW.q rfl (q_and2 rfl rfl rfl) ?_
            refine OpsW.q rfl (q_move (v := .bool true) rfl) ?_
            refine OpsW.qw rfl rfl (o_call rfl Try.func10 rfl rfl (awake_con)) ?_
            refine OpsW.q rfl (q_and2 rfl rfl rfl) ?_
            refine OpsW.q rfl (q_assign (v := .bool _) rfl) ?_
            refine OpsW.nil ?_
            refine SeqP.go ?_
            refine AW.ret ?_
            refine RetP.mk1 (H' := H) (v1 := .bool _) rfl rfl  hS3.le ?_
            exact ⟨rfl, rfl⟩
        ·
          rintro _ _ ⟨rfl, rfl⟩
          refine AnyW.onlyQ 3 rfl (by kernel_rfl) rfl (dst_lt rfl) (q_stringB (hS3.vec at1) Try.underlying33 Try.underlying5 Try.underlying9 rfl) ?_
          refine AnyW.onlyQ 6 rfl (by kernel_rfl) rfl (dst_lt rfl) (o_call rfl Try.func17 rfl rfl (Seal_con (by decide) (by decide))) ?_
          rw [sizes_a.1]
          have h17 : (((slSeal 4865 (List.replicate (Int.toNat 16) 0) (List.replicate (Int.toNat 12) 0) [] [120]).1.length : Nat) : Int) = 17 := by rw [sizes_a.2]; rfl
          refine AnyW.onlyQ 7 rfl (by kernel_rfl) rfl (dst_lt rfl) (q_move (v := .tuple _) rfl) ?_
          refine AnyW.two 8 9 rfl rfl (by kernel_rfl) rfl rfl (dst_lt rfl) (dst_lt rfl) (q_extract (v := S _) rfl rfl) (q_extract (v := .int _ _) rfl rfl) ?_ ?_
          ·
            rintro _ _ ⟨rfl, rfl⟩
            refine AnyW.two 9 10 rfl rfl (by kernel_rfl) rfl rfl (dst_lt rfl) (dst_lt rfl) (q_extract (v := .int _ _) rfl rfl) (q_assign (v := S _) rfl) ?_ ?_
            ·
              rintro _ _ ⟨rfl, rfl⟩
              refine AnyW.onlyQ 10 rfl (by kernel_rfl) rfl (dst_lt rfl) (q_assign (v := S _) rfl) ?_
              refine AnyW.onlyQ 11 rfl (by kernel_rfl) rfl (dst_lt rfl) (q_assign (v := .int _ _) rfl) ?_
              refine AnyW.done (by kernel_rfl) ?_
              refine SeqP.go ?_
              refine AW.seq ?_
              refine AW.region ?_
              refine OpsW.q rfl (q_move (v := .int _ _) rfl) ?_
              refine OpsW.q rfl (q_move (v := .int _ _) rfl) ?_
              refine OpsW.q rfl (o_call rfl Try.func16 rfl rfl (SizeR_con _)) ?_
              rw [sizeS_a]
              refine OpsW.q rfl (q_eql rfl rfl) ?_
              refine OpsW.q rfl (q_move (v := .bool true) rfl) ?_
              refine OpsW.qw rfl rfl (q_move (v := .int _ _) rfl) ?_
              refine OpsW.qw rfl rfl (q_eql rfl rfl) ?_
              refine OpsW.qw rfl rfl (q_move (v := .int _ _) rfl) ?_
              refine OpsW.qw rfl rfl (q_gtr rfl rfl) ?_
              refine OpsW.qw rfl rfl (q_eqlB Try.underlying4 rfl rfl) ?_
              refine OpsW.q rfl (q_and2 rfl rfl rfl) ?_
              refine OpsW.q rfl (q_move (v := .bool true) rfl) ?_
              refine OpsW.qw rfl rfl (q_move (v := .int _ _) rfl) ?_
              refine OpsW.qw rfl rfl (q_gtr rfl rfl) ?_
              refine OpsW.qw rfl rfl (q_move (v := .bool true) rfl) ?_
              refine OpsW.qw rfl rfl (q_move (v := S _) rfl) ?_
              refine OpsW.qw rfl rfl (q_lenS Try.underlying9 rfl) ?_
              refine OpsW.qw rfl rfl (q_eql rfl rfl) ?_
              rw [decide_eq_true h17]
              refine OpsW.qw rfl rfl (q_and2 rfl rfl rfl) ?_
              refine OpsW.qw rfl rfl (q_move (v := .bool true) rfl) ?_
              refine OpsW.p rfl rfl ?_
              refine OpsW.p rfl rfl ?_
              refine OpsW.p rfl rfl ?_
              refine OpsW.pu rfl rfl ?_
              refine OpsW.pu rfl rfl ?_
              refine OpsW.p rfl rfl ?_
              refine OpsW.p rfl rfl ?_
              refine OpsW.pu rfl rfl ?_
              refine OpsW.pu rfl rfl ?_
              refine OpsW.p rfl rfl ?_
              refine OpsW.qw rfl rfl (q_or2 (B := false) rfl rfl rfl) ?_
              refine OpsW.q rfl (q_and2 rfl rfl rfl) ?_
              refine OpsW.q rfl (q_move (v := .bool true) rfl) ?_
              refine OpsW.qw rfl rfl (o_call rfl Try.func10 rfl rfl (awake_con)) ?_
              refine OpsW.q rfl (q_and2 rfl rfl rfl) ?_
              refine OpsW.q rfl (q_assign (v := .bool _) rfl) ?_
              refine OpsW.nil ?_
              refine SeqP.go ?_
              refine AW.ret ?_
              refine RetP.mk1 (H' := H) (v1 := .bool _) rfl rfl  hS3.le ?_
              exact ⟨rfl, rfl⟩
            ·
              rintro _ _ ⟨rfl, rfl⟩
              refine AnyW.onlyQ 9 rfl (by kernel_rfl) rfl (dst_lt rfl) (q_extract (v := .int _ _) rfl rfl) ?_
              refine AnyW.onlyQ 11 rfl (by kernel_rfl) rfl (dst_lt rfl) (q_assign (v := .int _ _) rfl) ?_
              refine AnyW.done (by kernel_rfl) ?_
              refine SeqP.go ?_
              refine AW.seq ?_
              refine AW.region ?_
              refine OpsW.q rfl (q_move (v := .int _ _) rfl) ?_
              refine OpsW.q rfl (q_move (v := .int _ _) rfl) ?_
              refine OpsW.q rfl (o_call rfl Try.func16 rfl rfl (SizeR_con _)) ?_
              rw [sizeS_a]
              refine OpsW.q rfl (q_eql rfl rfl) ?_
              refine OpsW.q rfl (q_move (v := .bool true) rfl) ?_
              refine OpsW.qw rfl rfl (q_move (v := .int _ _) rfl) ?_
              refine OpsW.qw rfl rfl (q_eql rfl rfl) ?_
              refine OpsW.qw rfl rfl (q_move (v := .int _ _) rfl) ?_
              refine OpsW.qw rfl rfl (q_gtr rfl rfl) ?_
              refine OpsW.qw rfl rfl (q_eqlB Try.underlying4 rfl rfl) ?_
              refine OpsW.q rfl (q_and2 rfl rfl rfl) ?_
              refine OpsW.q rfl (q_move (v := .bool true) rfl) ?_
              refine OpsW.qw rfl rfl (q_move (v := .int _ _) rfl) ?_
              refine OpsW.qw rfl rfl (q_gtr rfl rfl) ?_
              refine OpsW.qw rfl rfl (q_move (v := .bool true) rfl) ?_
              refine OpsW.qw rfl rfl (q_move (v := S _) rfl) ?_
              refine OpsW.qw rfl rfl (q_lenS Try.underlying9 rfl) ?_
              refine OpsW.qw rfl rfl (q_eql rfl rfl) ?_
              rw [decide_eq_true h17]
              refine OpsW.qw rfl rfl (q_and2 rfl rfl rfl) ?_
              refine OpsW.qw rfl rfl (q_move (v := .bool true) rfl) ?_
              refine OpsW.p rfl rfl ?_
              refine OpsW.p rfl rfl ?_
              refine OpsW.p rfl rfl ?_
              refine OpsW.pu rfl rfl ?_
              refine OpsW.pu rfl rfl ?_
              refine OpsW.p rfl rfl ?_
              refine OpsW.p rfl rfl ?_
              refine OpsW.pu rfl rfl ?_
              refine OpsW.pu rfl rfl ?_
              refine OpsW.p rfl rfl ?_
              refine OpsW.qw rfl rfl (q_or2 (B := false) rfl rfl rfl) ?_
              refine OpsW.q rfl (q_and2 rfl rfl rfl) ?_
              refine OpsW.q rfl (q_move (v := .bool true) rfl) ?_
              refine OpsW.qw rfl rfl (o_call rfl Try.func10 rfl rfl (awake_con)) ?_
              refine OpsW.q rfl (q_and2 rfl rfl rfl) ?_
              refine OpsW.q rfl (q_assign (v := .bool _) rfl) ?_
              refine OpsW.nil ?_
              refine SeqP.go ?_
              refine AW.ret ?_
              refine RetP.mk1 (H' := H) (v1 := .bool _) rfl rfl  hS3.le ?_
              exact ⟨rfl, rfl⟩
          ·
            rintro _ _ ⟨rfl, rfl⟩
            refine AnyW.onlyQ 8 rfl (by kernel_rfl) rfl (dst_lt rfl) (q_extract (v := S _) rfl rfl) ?_
            refine AnyW.onlyQ 10 rfl (by kernel_rfl) rfl (dst_lt rfl) (q_assign (v := S _) rfl) ?_
            refine AnyW.onlyQ 11 rfl (by kernel_rfl) rfl (dst_lt rfl) (q_assign (v := .int _ _) rfl) ?_
            refine AnyW.done (by kernel_rfl) ?_
            refine SeqP.go ?_
            refine AW.seq ?_
            refine AW.region ?_
            refine OpsW.q rfl (q_move (v := .int _ _) rfl) ?_
            refine OpsW.q rfl (q_move (v := .int _ _) rfl) ?_
            refine OpsW.q rfl (o_call rfl Try.func16 rfl rfl (SizeR_con _)) ?_
            rw [sizeS_a]
            refine OpsW.q rfl (q_eql rfl rfl) ?_
            refine OpsW.q rfl (q_move (v := .bool true) rfl) ?_
            refine OpsW.qw rfl rfl (q_move (v := .int _ _) rfl) ?_
            refine OpsW.qw rfl rfl (q_eql rfl rfl) ?_
            refine OpsW.qw rfl rfl (q_move (v := .int _ _) rfl) ?_
            refine OpsW.qw rfl rfl (q_gtr rfl rfl) ?_
            refine OpsW.qw rfl rfl (q_eqlB Try.underlying4 rfl rfl) ?_
            refine OpsW.q rfl (q_and2 rfl rfl rfl) ?_
            refine OpsW.q rfl (q_move (v := .bool true) rfl) ?_
            refine OpsW.qw rfl rfl (q_move (v := .int _ _) rfl) ?_
            refine OpsW.qw rfl rfl (q_gtr rfl rfl) ?_
            refine OpsW.qw rfl rfl (q_move (v := .bool true) rfl) ?_
            refine OpsW.qw rfl rfl (q_move (v := S _) rfl) ?_
            refine OpsW.qw rfl rfl (q_lenS Try.underlying9 rfl) ?_
            refine OpsW.qw rfl rfl (q_eql rfl rfl) ?_
            rw [decide_eq_true h17]
            refine OpsW.qw rfl rfl (q_and2 rfl rfl rfl) ?_
            refine OpsW.qw rfl rfl (q_move (v := .bool true) rfl) ?_
            refine OpsW.p rfl rfl ?_
            refine OpsW.p rfl rfl ?_
            refine OpsW.p rfl rfl ?_
            refine OpsW.pu rfl rfl ?_
            refine OpsW.pu rfl rfl ?_
            refine OpsW.p rfl rfl ?_
            refine OpsW.p rfl rfl ?_
            refine OpsW.pu rfl rfl ?_
            refine OpsW.pu rfl rfl ?_
            refine OpsW.p rfl rfl ?_
            refine OpsW.qw rfl rfl (q_or2 (B := false) rfl rfl rfl) ?_
            refine OpsW.q rfl (q_and2 rfl rfl rfl) ?_
            refine OpsW.q rfl (q_move (v := .bool true) rfl) ?_
            refine OpsW.qw rfl rfl (o_call rfl Try.func10 rfl rfl (awake_con)) ?_
            refine OpsW.q rfl (q_and2 rfl rfl rfl) ?_
            refine OpsW.q rfl (q_assign (v := .bool _) rfl) ?_
            refine OpsW.nil ?_
            refine SeqP.go ?_
            refine AW.ret ?_
            refine RetP.mk1 (H' := H) (v1 := .bool _) rfl rfl  hS3.le ?_
            exact ⟨rfl, rfl⟩
    ·
      rintro v13 H4 hS4
      clear hS0
      refine AnyW.two 2 5 rfl rfl (by kernel_rfl) rfl rfl (dst_lt rfl) (dst_lt rfl) (s_makeSliceB (by_ := 1) hS4 Try.underlying33 (by kernel_rfl) (by kernel_rfl) (by kernel_rfl) rfl rfl (by omega) (by omega) (by omega) (by omega) (by unfold maxLen; omega)) (q_stringB (hS4.vec at0) Try.underlying33 Try.underlying5 Try.underlying9 rfl) ?_ ?_
      ·
        rintro v11 H5 hS5
        clear hS4
        refine AnyW.two 3 5 rfl rfl (by kernel_rfl) rfl rfl (dst_lt rfl) (dst_lt rfl) (q_stringB (hS5.vec at0) Try.underlying33 Try.underlying5 Try.underlying9 rfl) (q_stringB (hS5.vec at1) Try.underlying33 Try.underlying5 Try.underlying9 rfl) ?_ ?_
        ·
          rintro _ _ ⟨rfl, rfl⟩
          refine AnyW.onlyQ 5 rfl (by kernel_rfl) rfl (dst_lt rfl) (q_stringB (hS5.vec at1) Try.underlying33 Try.underlying5 Try.underlying9 rfl) ?_
          refine AnyW.onlyQ 6 rfl (by kernel_rfl) rfl (dst_lt rfl) (o_call rfl Try.func17 rfl rfl (Seal_con (by decide) (by decide))) ?_
          rw [sizes_a.1]
          have h17 : (((slSeal 4865 (List.replicate (Int.toNat 16) 0) (List.replicate (Int.toNat 12) 0) [] [120]).1.length : Nat) : Int) = 17 := by rw [sizes_a.2]; rfl
          refine AnyW.onlyQ 7 rfl (by kernel_rfl) rfl (dst_lt rfl) (q_move (v := .tuple _) rfl) ?_
          refine AnyW.two 8 9 rfl rfl (by kernel_rfl) rfl rfl (dst_lt rfl) (dst_lt rfl) (q_extract (v := S _) rfl rfl) (q_extract (v := .int _ _) rfl rfl) ?_ ?_
          ·
            rintro _ _ ⟨rfl, rfl⟩
            refine AnyW.two 9 10 rfl rfl (by kernel_rfl) rfl rfl (dst_lt rfl) (dst_lt rfl) (q_extract (v := .int _ _) rfl rfl) (q_assign (v := S _) rfl) ?_ ?_
            ·
              rintro _ _ ⟨rfl, rfl⟩
              refine AnyW.onlyQ 10 rfl (by kernel_rfl) rfl (dst_lt rfl) (q_assign (v := S _) rfl) ?_
              refine AnyW.onlyQ 11 rfl (by kernel_rfl) rfl (dst_lt rfl) (q_assign (v := .int _ _) rfl) ?_
              refine AnyW.done (by kernel_rfl) ?_
              refine SeqP.go ?_
              refine AW.seq ?_
              refine AW.region ?_
              refine OpsW.q rfl (q_move (v := .int _ _) rfl) ?_
              refine OpsW.q rfl (q_move (v := .int _ _) rfl) ?_
              refine OpsW.q rfl (o_call rfl Try.func16 rfl rfl (SizeR_con _)) ?_
              rw [sizeS_a]
              refine OpsW.q rfl (q_eql rfl rfl) ?_
              refine OpsW.q rfl (q_move (v := .bool true) rfl) ?_
              refine OpsW.qw rfl rfl (q_move (v := .int _ _) rfl) ?_
              refine OpsW.qw rfl rfl (q_eql rfl rfl) ?_
              refine OpsW.qw rfl rfl (q_move (v := .int _ _) rfl) ?_
              refine OpsW.qw rfl rfl (q_gtr rfl rfl) ?_
              refine OpsW.qw rfl rfl (q_eqlB Try.underlying4 rfl rfl) ?_
              refine OpsW.q rfl (q_and2 rfl rfl rfl) ?_
              refine OpsW.q rfl (q_move (v := .bool true) rfl) ?_
              refine OpsW.qw rfl rfl (q_move (v := .int _ _) rfl) ?_
              refine OpsW.qw rfl rfl (q_gtr rfl rfl) ?_
              refine OpsW.qw rfl rfl (q_move (v := .bool true) rfl) ?_
              refine OpsW.qw rfl rfl (q_move (v := S _) rfl) ?_
              refine OpsW.qw rfl rfl (q_lenS Try.underlying9 rfl) ?_
              refine OpsW.qw rfl rfl (q_eql rfl rfl) ?_
              rw [decide_eq_true h17]
              refine OpsW.qw rfl rfl (q_and2 rfl rfl rfl) ?_
              refine OpsW.qw rfl rfl (q_move (v := .bool true) rfl) ?_
              refine OpsW.p rfl rfl ?_
              refine OpsW.p rfl rfl ?_
              refine OpsW.p rfl rfl ?_
              refine OpsW.pu rfl rfl ?_
              refine OpsW.pu rfl rfl ?_
              refine OpsW.p rfl rfl ?_
              refine OpsW.p rfl rfl ?_
              refine OpsW.pu rfl rfl ?_
              refine OpsW.pu rfl rfl ?_
              refine OpsW.p rfl rfl ?_
              refine OpsW.qw rfl rfl (q_or2 (B := false) rfl rfl rfl) ?_
              refine OpsW.q rfl (q_and2 rfl rfl rfl) ?_
              refine OpsW.q rfl (q_move (v := .bool true) rfl) ?_
              refine OpsW.qw rfl rfl (o_call rfl Try.func10 rfl rfl (awake_con)) ?_
              refine OpsW.q rfl (q_and2 rfl rfl rfl) ?_
              refine OpsW.q rfl (q_assign (v := .bool _) rfl) ?_
              refine OpsW.nil ?_
              refine SeqP.go ?_
              refine AW.ret ?_
              refine RetP.mk1 (H' := H) (v1 := .bool _) rfl rfl  hS5.le ?_
              exact ⟨rfl, rfl⟩
            ·
              rintro _ _ ⟨rfl, rfl⟩
              refine AnyW.onlyQ 9 rfl (by kernel_rfl) rfl (dst_lt rfl) (q_extract (v := .int _ _) rfl rfl) ?_
              refine AnyW.onlyQ 11 rfl (by kernel_rfl) rfl (dst_lt rfl) (q_assign (v := .int _ _) rfl) ?_
              refine AnyW.done (by kernel_rfl) ?_
              refine SeqP.go ?_
              refine AW.seq ?_
              refine AW.region ?_
              refine OpsW.q rfl (q_move (v := .int _ _) rfl) ?_
              refine OpsW.q rfl (q_move (v := .int _ _) rfl) ?_
              refine OpsW.q rfl (o_call rfl Try.func16 rfl rfl (SizeR_con _)) ?_
              rw [sizeS_a]
              refine OpsW.q rfl (q_eql rfl rfl) ?_
              refine OpsW.q rfl (q_move (v := .bool true) rfl) ?_
              refine OpsW.qw rfl rfl (q_move (v := .int _ _) rfl) ?_
              refine OpsW.qw rfl rfl (q_eql rfl rfl) ?_
              refine OpsW.qw rfl rfl (q_move (v := .int _ _) rfl) ?_
              refine OpsW.qw rfl rfl (q_gtr rfl rfl) ?_
              refine OpsW.qw rfl rfl (q_eqlB Try.underlying4 rfl rfl) ?_
              refine OpsW.q rfl (q_and2 rfl rfl rfl) ?_
              refine OpsW.q rfl (q_move (v := .bool true) rfl) ?_
              refine OpsW.qw rfl rfl (q_move (v := .int _ _) rfl) ?_
              refine OpsW.qw rfl rfl (q_gtr rfl rfl) ?_
              refine OpsW.qw rfl rfl (q_move (v := .bool true) rfl) ?_
              refine OpsW.qw rfl rfl (q_move (v := S _) rfl) ?_
              refine OpsW.qw rfl rfl (q_lenS Try.underlying9 rfl) ?_
              refine OpsW.qw rfl rfl (q_eql rfl rfl) ?_
              rw [decide_eq_true h17]
              refine OpsW.qw rfl rfl (q_and2 rfl rfl rfl) ?_
              refine OpsW.qw rfl rfl (q_move (v := .bool true) rfl) ?_
              refine OpsW.p rfl rfl ?_
              refine OpsW.p rfl rfl ?_
              refine OpsW.p rfl rfl ?_
              refine OpsW.pu rfl rfl ?_
              refine OpsW.pu rfl rfl ?_
              refine OpsW.p rfl rfl ?_
              refine OpsW.p rfl rfl ?_
              refine OpsW.pu rfl rfl ?_
              refine OpsW.pu rfl rfl ?_
              refine OpsW.p rfl rfl ?_
              refine OpsW.qw rfl rfl (q_or2 (B := false) rfl rfl rfl) ?_
              refine OpsW.q rfl (q_and2 rfl rfl rfl) ?_
              refine OpsW.q rfl (q_move (v := .bool true) rfl) ?_
              refine OpsW.qw rfl rfl (o_call rfl Try.func10 rfl rfl (awake_con)) ?_
              refine OpsW.q rfl (q_and2 rfl rfl rfl) ?_
              refine OpsW.q rfl (q_assign (v := .bool _) rfl) ?_
              refine OpsW.nil ?_
              refine SeqP.go ?_
              refine AW.ret ?_
              refine RetP.mk1 (H' := H) (v1 := .bool _) rfl rfl  hS5.le ?_
              exact ⟨rfl, rfl⟩
          ·
            rintro _ _ ⟨rfl, rfl⟩
            refine AnyW.onlyQ 8 rfl (by kernel_rfl) rfl (dst_lt rfl) (q_extract (v := S _) rfl rfl) ?_
            refine AnyW.onlyQ 10 rfl (by kernel_rfl) rfl (dst_lt rfl) (q_assign (v := S _) rfl) ?_
            refine AnyW.onlyQ 11 rfl (by kernel_rfl) rfl (dst_lt rfl) (q_assign (v := .int _ _) rfl) ?_
            refine AnyW.done (by kernel_rfl) ?_
            refine SeqP.go ?_
            refine AW.seq ?_
            refine AW.region ?_
            refine OpsW.q rfl (q_move (v := .int _ _) rfl) ?_
            refine OpsW.q rfl (q_move (v := .int _ _) rfl) ?_
            refine OpsW.q rfl (o_call rfl Try.func16 rfl rfl (SizeR_con _)) ?_
            rw [sizeS_a]
            refine OpsW.q rfl (q_eql rfl rfl) ?_
            refine OpsW.q rfl (q_move (v := .bool true) rfl) ?_
            refine OpsW.qw rfl rfl (q_move (v := .int _ _) rfl) ?_
            refine OpsW.qw rfl rfl (q_eql rfl rfl) ?_
            refine OpsW.qw rfl rfl (q_move (v := .int _ _) rfl) ?_
            refine OpsW.qw rfl rfl (q_gtr rfl rfl) ?_
            refine OpsW.qw rfl rfl (q_eqlB Try.underlying4 rfl rfl) ?_
            refine OpsW.q rfl (q_and2 rfl rfl rfl) ?_
            refine OpsW.q rfl (q_move (v := .bool true) rfl) ?_
            refine OpsW.qw rfl rfl (q_move (v := .int _ _) rfl) ?_
            refine OpsW.qw rfl rfl (q_gtr rfl rfl) ?_
            refine OpsW.qw rfl rfl (q_move (v := .bool true) rfl) ?_
            refine OpsW.qw rfl rfl (q_move (v := S _) rfl) ?_
            refine OpsW.qw rfl rfl (q_lenS Try.underlying9 rfl) ?_
            refine OpsW.qw rfl rfl (q_eql rfl rfl) ?_
            rw [decide_eq_true h17]
            refine OpsW.qw rfl rfl (q_and2 rfl rfl rfl) ?_
            refine OpsW.qw rfl rfl (q_move (v := .bool true) rfl) ?_
            refine OpsW.p rfl rfl ?_
            refine OpsW.p rfl rfl ?_
            refine OpsW.p rfl rfl ?_
            refine OpsW.pu rfl rfl ?_
            refine OpsW.pu rfl rfl ?_
            refine OpsW.p rfl rfl ?_
            refine OpsW.p rfl rfl ?_
            refine OpsW.pu rfl rfl ?_
            refine OpsW.pu rfl rfl ?_
            refine OpsW.p rfl rfl ?_
            refine OpsW.qw rfl rfl (q_or2 (B := false) rfl rfl rfl) ?_
            refine OpsW.q rfl (q_and2 rfl rfl rfl) ?_
            refine OpsW.q rfl (q_move (v := .bool true) rfl) ?_
            refine OpsW.qw rfl rfl (o_call rfl Try.func10 rfl rfl (awake_con)) ?_
            refine OpsW.q rfl (q_and2 rfl rfl rfl) ?_
            refine OpsW.q rfl (q_assign (v := .bool _) rfl) ?_
            refine OpsW.nil ?_
            refine SeqP.go ?_
            refine AW.ret ?_
            refine RetP.mk1 (H' := H) (v1 := .bool _) rfl rfl  hS5.le ?_
            exact ⟨rfl, rfl⟩
        ·
          rintro _ _ ⟨rfl, rfl⟩
          refine AnyW.onlyQ 3 rfl (by kernel_rfl) rfl (dst_lt rfl) (q_stringB (hS5.vec at0) Try.underlying33 Try.underlying5 Try.underlying9 rfl) ?_
          refine AnyW.onlyQ 6 rfl (by kernel_rfl) rfl (dst_lt rfl) (o_call rfl Try.func17 rfl rfl (Seal_con (by decide) (by decide))) ?_
          rw [sizes_a.1]
          have h17 : (((slSeal 4865 (List.replicate (Int.toNat 16) 0) (List.replicate (Int.toNat 12) 0) [] [120]).1.length : Nat) : Int) = 17 := by rw [sizes_a.2]; rfl
          refine AnyW.onlyQ 7 rfl (by kernel_rfl) rfl (dst_lt rfl) (q_move (v := .tuple _) rfl) ?_
          refine AnyW.two 8 9 rfl rfl (by kernel_rfl) rfl rfl (dst_lt rfl) (dst_lt rfl) (q_extract (v := S _) rfl rfl) (q_extract (v := .int _ _) rfl rfl) ?_ ?_
          ·
            rintro _ _ ⟨rfl, rfl⟩
            refine AnyW.two 9 10 rfl rfl (by kernel_rfl) rfl rfl (dst_lt rfl) (dst_lt rfl) (q_extract (v := .int _ _) rfl rfl) (q_assign (v := S _) rfl) ?_ ?_
            ·
              rintro _ _ ⟨rfl, rfl⟩
              refine AnyW.onlyQ 10 rfl (by kernel_rfl) rfl (dst_lt rfl) (q_assign (v := S _) rfl) ?_
              refine AnyW.onlyQ 11 rfl (by kernel_rfl) rfl (dst_lt rfl) (q_assign (v := .int _ _) rfl) ?_
              refine AnyW.done (by kernel_rfl) ?_
              refine SeqP.go ?_
              refine AW.seq ?_
              refine AW.region ?_
              refine OpsW.q rfl (q_move (v := .int _ _) rfl) ?_
              refine OpsW.q rfl (q_move (v := .int _ _) rfl) ?_
              refine OpsW.q rfl (o_call rfl Try.func16 rfl rfl (SizeR_con _)) ?_
              rw [sizeS_a]
              refine OpsW.q rfl (q_eql rfl rfl) ?_
              refine OpsW.q rfl (q_move (v := .bool true) rfl) ?_
              refine OpsW.qw rfl rfl (q_move (v := .int _ _) rfl) ?_
              refine OpsW.qw rfl rfl (q_eql rfl rfl) ?_
              refine OpsW.qw rfl rfl (q_move (v := .int _ _) rfl) ?_
              refine OpsW.qw rfl rfl (q_gtr rfl rfl) ?_
              refine OpsW.qw rfl rfl (q_eqlB Try.underlying4 rfl rfl) ?_
              refine OpsW.q rfl (q_and2 rfl rfl rfl) ?_
              refine OpsW.q rfl (q_move (v := .bool true) rfl) ?_
              refine OpsW.qw rfl rfl (q_move (v := .int _ _) rfl) ?_
              refine OpsW.qw rfl rfl (q_gtr rfl rfl) ?_
              refine OpsW.qw rfl rfl (q_move (v := .bool true) rfl) ?_
              refine OpsW.qw rfl rfl (q_move (v := S _) rfl) ?_
              refine OpsW.qw rfl rfl (q_lenS Try.underlying9 rfl) ?_
              refine OpsW.qw rfl rfl (q_eql rfl rfl) ?_
              rw [decide_eq_true h17]
              refine OpsW.qw rfl rfl (q_and2 rfl rfl rfl) ?_
              refine OpsW.qw rfl rfl (q_move (v := .bool true) rfl) ?_
              refine OpsW.p rfl rfl ?_
              refine OpsW.p rfl rfl ?_
              refine OpsW.p rfl rfl ?_
              refine OpsW.pu rfl rfl ?_
              refine OpsW.pu rfl rfl ?_
              refine OpsW.p rfl rfl ?_
              refine OpsW.p rfl rfl ?_
              refine OpsW.pu rfl rfl ?_
              refine OpsW.pu rfl rfl ?_
              refine OpsW.p rfl rfl ?_
              refine OpsW.qw rfl rfl (q_or2 (B := false) rfl rfl rfl) ?_
              refine OpsW.q rfl (q_and2 rfl rfl rfl) ?_
              refine OpsW.q rfl (q_move (v := .bool true) rfl) ?_
              refine OpsW.qw rfl rfl (o_call rfl Try.func10 rfl rfl (awake_con)) ?_
              refine OpsW.q rfl (q_and2 rfl rfl rfl) ?_
              refine OpsW.q rfl (q_assign (v := .bool _) rfl) ?_
              refine OpsW.nil ?_
              refine SeqP.go ?_
              refine AW.ret ?_
              refine RetP.mk1 (H' := H) (v1 := .bool _) rfl rfl  hS5.le ?_
              exact ⟨rfl, rfl⟩
            ·
              rintro _ _ ⟨rfl, rfl⟩
              refine AnyW.onlyQ 9 rfl (by kernel_rfl) rfl (dst_lt rfl) (q_extract (v := .int _ _) rfl rfl) ?_
              refine AnyW.onlyQ 11 rfl (by kernel_rfl) rfl (dst_lt rfl) (q_assign (v := .int _ _) rfl) ?_
              refine AnyW.done (by kernel_rfl) ?_
              refine SeqP.go ?_
              refine AW.seq ?_
              refine AW.region ?_
              refine OpsW.q rfl (q_move (v := .int _ _) rfl) ?_
              refine OpsW.q rfl (q_move (v := .int _ _) rfl) ?_
              refine OpsW.q rfl (o_call rfl Try.func16 rfl rfl (SizeR_con _)) ?_
              rw [sizeS_a]
              refine OpsW.q rfl (q_eql rfl rfl) ?_
              refine OpsW.q rfl (q_move (v := .bool true) rfl) ?_
              refine OpsW.qw rfl rfl (q_move (v := .int _ _) rfl) ?_
              refine OpsW.qw rfl rfl (q_eql rfl rfl) ?_
              refine OpsW.qw rfl rfl (q_move (v := .int _ _) rfl) ?_
              refine OpsW.qw rfl rfl (q_gtr rfl rfl) ?_
              refine OpsW.qw rfl rfl (q_eqlB Try.underlying4 rfl rfl) ?_
              refine OpsW.q rfl (q_and2 rfl rfl rfl) ?_
              refine OpsW.q rfl (q_move (v := .bool true) rfl) ?_
              refine OpsW.qw rfl rfl (q_move (v := .int _ _) rfl) ?_
              refine OpsW.qw rfl rfl (q_gtr rfl rfl) ?_
              refine OpsW.qw rfl rfl (q_move (v := .bool true) rfl) ?_
              refine OpsW.qw rfl rfl (q_move (v := S _) rfl) ?_
              refine OpsW.qw rfl rfl (q_lenS Try.underlying9 rfl) ?_
              refine OpsW.qw rfl rfl (q_eql rfl rfl) ?_
              rw [decide_eq_true h17]
              refine OpsW.qw rfl rfl (q_and2 rfl rfl rfl) ?_
              refine OpsW.qw rfl rfl (q_move (v := .bool true) rfl) ?_
              refine OpsW.p rfl rfl ?_
              refine OpsW.p rfl rfl ?_
              refine OpsW.p rfl rfl ?_
              refine OpsW.pu rfl rfl ?_
              refine OpsW.pu rfl rfl ?_
              refine OpsW.p rfl rfl ?_
              refine OpsW.p rfl rfl ?_
              refine OpsW.pu rfl rfl ?_
              refine OpsW.pu rfl rfl ?_
              refine OpsW.p rfl rfl ?_
              refine OpsW.qw rfl rfl (q_or2 (B := false) rfl rfl rfl) ?_
              refine OpsW.q rfl (q_and2 rfl rfl rfl) ?_
              refine OpsW.q rfl (q_move (v := .bool true) rfl) ?_
              refine OpsW.qw rfl rfl (o_call rfl Try.func10 rfl rfl (awake_con)) ?_
              refine OpsW.q rfl (q_and2 rfl rfl rfl) ?_
              refine OpsW.q rfl (q_assign (v := .bool _) rfl) ?_
              refine OpsW.nil ?_
              refine SeqP.go ?_
              refine AW.ret ?_
              refine RetP.mk1 (H' := H) (v1 := .bool _) rfl rfl  hS5.le ?_
              exact ⟨rfl, rfl⟩
          ·
            rintro _ _ ⟨rfl, rfl⟩
            refine AnyW.onlyQ 8 rfl (by kernel_rfl) rfl (dst_lt rfl) (q_extract (v := S _) rfl rfl) ?_
            refine AnyW.onlyQ 10 rfl (by kernel_rfl) rfl (dst_lt rfl) (q_assign (v := S _) rfl) ?_
            refine AnyW.onlyQ 11 rfl (by kernel_rfl) rfl (dst_lt rfl) (q_assign (v := .int _ _) rfl) ?_
            refine AnyW.done (by kernel_rfl) ?_
            refine SeqP.go ?_
            refine AW.seq ?_
            refine AW.region ?_
            refine OpsW.q rfl (q_move (v := .int _ _) rfl) ?_
            refine OpsW.q rfl (q_move (v := .int _ _) rfl) ?_
            refine OpsW.q rfl (o_call rfl Try.func16 rfl rfl (SizeR_con _)) ?_
            rw [sizeS_a]
            refine OpsW.q rfl (q_eql rfl rfl) ?_
            refine OpsW.q rfl (q_move (v := .bool true) rfl) ?_
            refine OpsW.qw rfl rfl (q_move (v := .int _ _) rfl) ?_
            refine OpsW.qw rfl rfl (q_eql rfl rfl) ?_
            refine OpsW.qw rfl rfl (q_move (v := .int _ _) rfl) ?_
            refine OpsW.qw rfl rfl (q_gtr rfl rfl) ?_
            refine OpsW.qw rfl rfl (q_eqlB Try.underlying4 rfl rfl) ?_
            refine OpsW.q rfl (q_and2 rfl rfl rfl) ?_
            refine OpsW.q rfl (q_move (v := .bool true) rfl) ?_
            refine OpsW.qw rfl rfl (q_move (v := .int _ _) rfl) ?_
            refine OpsW.qw rfl rfl (q_gtr rfl rfl) ?_
            refine OpsW.qw rfl rfl (q_move (v := .bool true) rfl) ?_
            refine OpsW.qw rfl rfl (q_move (v := S _) rfl) ?_
            refine OpsW.qw rfl rfl (q_lenS Try.underlying9 rfl) ?_
            refine OpsW.qw rfl rfl (q_eql rfl rfl) ?_
            rw [decide_eq_true h17]
            refine OpsW.qw rfl rfl (q_and2 rfl rfl rfl) ?_
            refine OpsW.qw rfl rfl (q_move (v := .bool true) rfl) ?_
            refine OpsW.p rfl rfl ?_
            refine OpsW.p rfl rfl ?_
            refine OpsW.p rfl rfl ?_
            refine OpsW.pu rfl rfl ?_
            refine OpsW.pu rfl rfl ?_
            refine OpsW.p rfl rfl ?_
            refine OpsW.p rfl rfl ?_
            refine OpsW.pu rfl rfl ?_
            refine OpsW.pu rfl rfl ?_
            refine OpsW.p rfl rfl ?_
            refine OpsW.qw rfl rfl (q_or2 (B := false) rfl rfl rfl) ?_
            refine OpsW.q rfl (q_and2 rfl rfl rfl) ?_
            refine OpsW.q rfl (q_move (v := .bool true) rfl) ?_
            refine OpsW.qw rfl rfl (o_call rfl Try.func10 rfl rfl (awake_con)) ?_
            refine OpsW.q rfl (q_and2 rfl rfl rfl) ?_
            refine OpsW.q rfl (q_assign (v := .bool _) rfl) ?_
            refine OpsW.nil ?_
            refine SeqP.go ?_
            refine AW.ret ?_
            refine RetP.mk1 (H' := H) (v1 := .bool _) rfl rfl  hS5.le ?_
            exact ⟨rfl, rfl⟩
      ·
        rintro _ _ ⟨rfl, rfl⟩
        refine AnyW.only 2 rfl (by kernel_rfl) rfl (dst_lt rfl) (s_makeSliceB (by_ := 1) hS4 Try.underlying33 (by kernel_rfl) (by kernel_rfl) (by kernel_rfl) rfl rfl (by omega) (by omega) (by omega) (by omega) (by unfold maxLen; omega)) ?_
        rintro v11 H6 hS6
        clear hS4
        refine AnyW.onlyQ 3 rfl (by kernel_rfl) rfl (dst_lt rfl) (q_stringB (hS6.vec at0) Try.underlying33 Try.underlying5 Try.underlying9 rfl) ?_
        refine AnyW.onlyQ 6 rfl (by kernel_rfl) rfl (dst_lt rfl) (o_call rfl Try.func17 rfl rfl (Seal_con (by decide) (by decide))) ?_
        rw [sizes_a.1]
        have h17 : (((slSeal 4865 (List.replicate (Int.toNat 16) 0) (List.replicate (Int.toNat 12) 0) [] [120]).1.length : Nat) : Int) = 17 := by rw [sizes_a.2]; rfl
        refine AnyW.onlyQ 7 rfl (by kernel_rfl) rfl (dst_lt rfl) (q_move (v := .tuple _) rfl) ?_
        refine AnyW.two 8 9 rfl rfl (by kernel_rfl) rfl rfl (dst_lt rfl) (dst_lt rfl) (q_extract (v := S _) rfl rfl) (q_extract (v := .int _ _) rfl rfl) ?_ ?_
        ·
          rintro _ _ ⟨rfl, rfl⟩
          refine AnyW.two 9 10 rfl rfl (by kernel_rfl) rfl rfl (dst_lt rfl) (dst_lt rfl) (q_extract (v := .int _ _) rfl rfl) (q_assign (v := S _) rfl) ?_ ?_
          ·
            rintro _ _ ⟨rfl, rfl⟩
            refine AnyW.onlyQ 10 rfl (by kernel_rfl) rfl (dst_lt rfl) (q_assign (v := S _) rfl) ?_
            refine AnyW.onlyQ 11 rfl (by kernel_rfl) rfl (dst_lt rfl) (q_assign (v := .int _ _) rfl) ?_
            refine AnyW.done (by kernel_rfl) ?_
            refine SeqP.go ?_
            refine AW.seq ?_
            refine AW.region ?_
            refine OpsW.q rfl (q_move (v := .int _ _) rfl) ?_
            refine OpsW.q rfl (q_move (v := .int _ _) rfl) ?_
            refine OpsW.q rfl (o_call rfl Try.func16 rfl rfl (SizeR_con _)) ?_
            rw [sizeS_a]
            refine OpsW.q rfl (q_eql rfl rfl) ?_
            refine OpsW.q rfl (q_move (v := .bool true) rfl) ?_
            refine OpsW.qw rfl rfl (q_move (v := .int _ _) rfl) ?_
            refine OpsW.qw rfl rfl (q_eql rfl rfl) ?_
            refine OpsW.qw rfl rfl (q_move (v := .int _ _) rfl) ?_
            refine OpsW.qw rfl rfl (q_gtr rfl rfl) ?_
            refine OpsW.qw rfl rfl (q_eqlB Try.underlying4 rfl rfl) ?_
            refine OpsW.q rfl (q_and2 rfl rfl rfl) ?_
            refine OpsW.q rfl (q_move (v := .bool true) rfl) ?_
            refine OpsW.qw rfl rfl (q_move (v := .int _ _) rfl) ?_
            refine OpsW.qw rfl rfl (q_gtr rfl rfl) ?_
            refine OpsW.qw rfl rfl (q_move (v := .bool true) rfl) ?_
            refine OpsW.qw rfl rfl (q_move (v := S _) rfl) ?_
            refine OpsW.qw rfl rfl (q_lenS Try.underlying9 rfl) ?_
            refine OpsW.qw rfl rfl (q_eql rfl rfl) ?_
            rw [decide_eq_true h17]
            refine OpsW.qw rfl rfl (q_and2 rfl rfl rfl) ?_
            refine OpsW.qw rfl rfl (q_move (v := .bool true) rfl) ?_
            refine OpsW.p rfl rfl ?_
            refine OpsW.p rfl rfl ?_
            refine OpsW.p rfl rfl ?_
            refine OpsW.pu rfl rfl ?_
            refine OpsW.pu rfl rfl ?_
            refine OpsW.p rfl rfl ?_
            refine OpsW.p rfl rfl ?_
            refine OpsW.pu rfl rfl ?_
            refine OpsW.pu rfl rfl ?_
            refine OpsW.p rfl rfl ?_
            refine OpsW.qw rfl rfl (q_or2 (B := false) rfl rfl rfl) ?_
            refine OpsW.q rfl (q_and2 rfl rfl rfl) ?_
            refine OpsW.q rfl (q_move (v := .bool true) rfl) ?_
            refine OpsW.qw rfl rfl (o_call rfl Try.func10 rfl rfl (awake_con)) ?_
            refine OpsW.q rfl (q_and2 rfl rfl rfl) ?_
            refine OpsW.q rfl (q_assign (v := .bool _) rfl) ?_
            refine OpsW.nil ?_
            refine SeqP.go ?_
            refine AW.ret ?_
            refine RetP.mk1 (H' := H) (v1 := .bool _) rfl rfl  hS6.le ?_
            exact ⟨rfl, rfl⟩
          ·
            rintro _ _ ⟨rfl, rfl⟩
            refine AnyW.onlyQ 9 rfl (by kernel_rfl) rfl (dst_lt rfl) (q_extract (v := .int _ _) rfl rfl) ?_
            refine AnyW.onlyQ 11 rfl (by kernel_rfl) rfl (dst_lt rfl) (q_assign (v := .int _ _) rfl) ?_
            refine AnyW.done (by kernel_rfl) ?_
            refine SeqP.go ?_
            refine AW.seq ?_
            refine AW.region ?_
            refine OpsW.q rfl (q_move (v := .int _ _) rfl) ?_
            refine OpsW.q rfl (q_move (v := .int _ _) rfl) ?_
            refine OpsW.q rfl (o_call rfl Try.func16 rfl rfl (SizeR_con _)) ?_
            rw [sizeS_a]
            refine OpsW.q rfl (q_eql rfl rfl) ?_
            refine OpsW.q rfl (q_move (v := .bool true) rfl) ?_
            refine OpsW.qw rfl rfl (q_move (v := .int _ _) rfl) ?_
            refine OpsW.qw rfl rfl (q_eql rfl rfl) ?_
            refine OpsW.qw rfl rfl (q_move (v := .int _ _) rfl) ?_
            refine OpsW.qw rfl rfl (q_gtr rfl rfl) ?_
            refine OpsW.qw rfl rfl (q_eqlB Try.underlying4 rfl rfl) ?_
            refine OpsW.q rfl (q_and2 rfl rfl rfl) ?_
            refine OpsW.q rfl (q_move (v := .bool true) rfl) ?_
            refine OpsW.qw rfl rfl (q_move (v := .int _ _) rfl) ?_
            refine OpsW.qw rfl rfl (q_gtr rfl rfl) ?_
            refine OpsW.qw rfl rfl (q_move (v := .bool true) rfl) ?_
            refine OpsW.qw rfl rfl (q_move (v := S _) rfl) ?_
            refine OpsW.qw rfl rfl (q_lenS Try.underlying9 rfl) ?_
            refine OpsW.qw rfl rfl (q_eql rfl rfl) ?_
            rw [decide_eq_true h17]
            refine OpsW.qw rfl rfl (q_and2 rfl rfl rfl) ?_
            refine OpsW.qw rfl rfl (q_move (v := .bool true) rfl) ?_
            refine OpsW.p rfl rfl ?_
            refine OpsW.p rfl rfl ?_
            refine OpsW.p rfl rfl ?_
            refine OpsW.pu rfl rfl ?_
            refine OpsW.pu rfl rfl ?_
            refine OpsW.p rfl rfl ?_
            refine OpsW.p rfl rfl ?_
            refine OpsW.pu rfl rfl ?_
            refine OpsW.pu rfl rfl ?_
            refine OpsW.p rfl rfl ?_
            refine OpsW.qw rfl rfl (q_or2 (B := false) rfl rfl rfl) ?_
            refine OpsW.q rfl (q_and2 rfl rfl rfl) ?_
            refine OpsW.q rfl (q_move (v := .bool true) rfl) ?_
            refine OpsW.qw rfl rfl (o_call rfl Try.func10 rfl rfl (awake_con)) ?_
            refine OpsW.q rfl (q_and2 rfl rfl rfl) ?_
            refine OpsW.q rfl (q_assign (v := .bool _) rfl) ?_
            refine OpsW.nil ?_
            refine SeqP.go ?_
            refine AW.ret ?_
            refine RetP.mk1 (H' := H) (v1 := .bool _) rfl rfl  hS6.le ?_
            exact ⟨rfl, rfl⟩
        ·
          rintro _ _ ⟨rfl, rfl⟩
          refine AnyW.onlyQ 8 rfl (by kernel_rfl) rfl (dst_lt rfl) (q_extract (v := S _) rfl rfl) ?_
          refine AnyW.onlyQ 10 rfl (by kernel_rfl) rfl (dst_lt rfl) (q_assign (v := S _) rfl) ?_
          refine AnyW.onlyQ 11 rfl (by kernel_rfl) rfl (dst_lt rfl) (q_assign (v := .int _ _) rfl) ?_
          refine AnyW.done (by kernel_rfl) ?_
          refine SeqP.go ?_
          refine AW.seq ?_
          refine AW.region ?_
          refine OpsW.q rfl (q_move (v := .int _ _) rfl) ?_
          refine OpsW.q rfl (q_move (v := .int _ _) rfl) ?_
          refine OpsW.q rfl (o_call rfl Try.func16 rfl rfl (SizeR_con _)) ?_
          rw [sizeS_a]
          refine OpsW.q rfl (q_eql rfl rfl) ?_
          refine OpsW.q rfl (q_move (v := .bool true) rfl) ?_
          refine OpsW.qw rfl rfl (q_move (v := .int _ _) rfl) ?_
          refine OpsW.qw rfl rfl (q_eql rfl rfl) ?_
          refine OpsW.qw rfl rfl (q_move (v := .int _ _) rfl) ?_
          refine OpsW.qw rfl rfl (q_gtr rfl rfl) ?_
          refine OpsW.qw rfl rfl (q_eqlB Try.underlying4 rfl rfl) ?_
          refine OpsW.q rfl (q_and2 rfl rfl rfl) ?_
          refine OpsW.q rfl (q_move (v := .bool true) rfl) ?_
          refine OpsW.qw rfl rfl (q_move (v := .int _ _) rfl) ?_
          refine OpsW.qw rfl rfl (q_gtr rfl rfl) ?_
          refine OpsW.qw rfl rfl (q_move (v := .bool true) rfl) ?_
          refine OpsW.qw rfl rfl (q_move (v := S _) rfl) ?_
          refine OpsW.qw rfl rfl (q_lenS Try.underlying9 rfl) ?_
          refine OpsW.qw rfl rfl (q_eql rfl rfl) ?_
          rw [decide_eq_true h17]
          refine OpsW.qw rfl rfl (q_and2 rfl rfl rfl) ?_
          refine OpsW.qw rfl rfl (q_move (v := .bool true) rfl) ?_
          refine OpsW.p rfl rfl ?_
          refine OpsW.p rfl rfl ?_
          refine OpsW.p rfl rfl ?_
          refine OpsW.pu rfl rfl ?_
          refine OpsW.pu rfl rfl ?_
          refine OpsW.p rfl rfl ?_
          refine OpsW.p rfl rfl ?_
          refine OpsW.pu rfl rfl ?_
          refine OpsW.pu rfl rfl ?_
          refine OpsW.p rfl rfl ?_
          refine OpsW.qw rfl rfl (q_or2 (B := false) rfl rfl rfl) ?_
          refine OpsW.q rfl (q_and2 rfl rfl rfl) ?_
          refine OpsW.q rfl (q_move (v := .bool true) rfl) ?_
          refine OpsW.qw rfl rfl (o_call rfl Try.func10 rfl rfl (awake_con)) ?_
          refine OpsW.q rfl (q_and2 rfl rfl rfl) ?_
          refine OpsW.q rfl (q_assign (v := .bool _) rfl) ?_
          refine OpsW.nil ?_
          refine SeqP.go ?_
          refine AW.ret ?_
          refine RetP.mk1 (H' := H) (v1 := .bool _) rfl rfl  hS6.le ?_
          exact ⟨rfl, rfl⟩
  ·
    refine AW.region ?_
    refine OpsW.q rfl (q_move (v := .int _ _) rfl) ?_
    refine OpsW.q rfl (o_call rfl Try.func15 rfl rfl (Size_con _)) ?_
    rw [sizeS_b]
    refine OpsW.q rfl (q_assign (v := .int _ _) rfl) ?_
    refine OpsW.nil ?_
    refine SeqP.go ?_
    refine AW.seq ?_
    refine AW.steps rfl 12 rfl ?_
    refine AnyW.first 0 rfl (by kernel_rfl) (by kernel_rfl) (by kernel_rfl) rfl (dst_lt rfl) (v_move (v := .int _ _) rfl) ?_
    refine AnyW.first 1 rfl (by kernel_rfl) (by kernel_rfl) (by kernel_rfl) rfl (dst_lt rfl) (v_move (v := .int _ _) rfl) ?_
    refine AnyW.two 2 4 rfl rfl (by kernel_rfl) rfl rfl (dst_lt rfl) (dst_lt rfl) (s_makeSliceB (by_ := 1) hS0 Try.underlying33 (by kernel_rfl) (by kernel_rfl) (by kernel_rfl) rfl rfl (by omega) (by omega) (by omega) (by omega) (by unfold maxLen; omega)) (s_makeSliceB (by_ := 1) hS0 Try.underlying33 (by kernel_rfl) (by kernel_rfl) (by kernel_rfl) rfl rfl (by omega) (by omega) (by omega) (by omega) (by unfold maxLen; omega)) ?_ ?_
    ·
      rintro v11 H7 hS7
      clear hS0
      refine AnyW.two 3 4 rfl rfl (by kernel_rfl) rfl rfl (dst_lt rfl) (dst_lt rfl) (q_stringB (hS7.vec at0) Try.underlying33 Try.underlying5 Try.underlying9 rfl) (s_makeSliceB (by_ := 1) hS7 Try.underlying33 (by kernel_rfl) (by kernel_rfl) (by kernel_rfl) rfl rfl (by omega) (by omega) (by omega) (by omega) (by unfold maxLen; omega)) ?_ ?_
      ·
        rintro _ _ ⟨rfl, rfl⟩
        refine AnyW.only 4 rfl (by kernel_rfl) rfl (dst_lt rfl) (s_makeSliceB (by_ := 1) hS7 Try.underlying33 (by kernel_rfl) (by kernel_rfl) (by kernel_rfl) rfl rfl (by omega) (by omega) (by omega) (by omega) (by unfold maxLen; omega)) ?_
        rintro v13 H8 hS8
        clear hS7
        refine AnyW.onlyQ 5 rfl (by kernel_rfl) rfl (dst_lt rfl) (q_stringB (hS8.vec at0) Try.underlying33 Try.underlying5 Try.underlying9 rfl) ?_
        refine AnyW.onlyQ 6 rfl (by kernel_rfl) rfl (dst_lt rfl) (o_call rfl Try.func17 rfl rfl (Seal_con (by decide) (by decide))) ?_
        rw [sizes_b.1]
        have h17 : (((slSeal 4867 (List.replicate (Int.toNat 32) 0) (List.replicate (Int.toNat 12) 0) [] [120]).1.length : Nat) : Int) = 17 := by rw [sizes_b.2]; rfl
        refine AnyW.onlyQ 7 rfl (by kernel_rfl) rfl (dst_lt rfl) (q_move (v := .tuple _) rfl) ?_
        refine AnyW.two 8 9 rfl rfl (by kernel_rfl) rfl rfl (dst_lt rfl) (dst_lt rfl) (q_extract (v := S _) rfl rfl) (q_extract (v := .int _ _) rfl rfl) ?_ ?_
        ·
          rintro _ _ ⟨rfl, rfl⟩
          refine AnyW.two 9 10 rfl rfl (by kernel_rfl) rfl rfl (dst_lt rfl) (dst_lt rfl) (q_extract (v := .int _ _) rfl rfl) (q_assign (v := S _) rfl) ?_ ?_
          ·
            rintro _ _ ⟨rfl, rfl⟩
            refine AnyW.onlyQ 10 rfl (by kernel_rfl) rfl (dst_lt rfl) (q_assign (v := S _) rfl) ?_
            refine AnyW.onlyQ 11 rfl (by kernel_rfl) rfl (dst_lt rfl) (q_assign (v := .int _ _) rfl) ?_
            refine AnyW.done (by kernel_rfl) ?_
            refine SeqP.go ?_
            refine AW.seq ?_
            refine AW.region ?_
            refine OpsW.q rfl (q_move (v := .int _ _) rfl) ?_
            refine OpsW.q rfl (q_move (v := .int _ _) rfl) ?_
            refine OpsW.q rfl (o_call rfl Try.func16 rfl rfl (SizeR_con _)) ?_
            rw [sizeS_b]
            refine OpsW.q rfl (q_eql rfl rfl) ?_
            refine OpsW.q rfl (q_move (v := .bool true) rfl) ?_
            refine OpsW.qw rfl rfl (q_move (v := .int _ _) rfl) ?_
            refine OpsW.qw rfl rfl (q_eql rfl rfl) ?_
            refine OpsW.qw rfl rfl (q_move (v := .int _ _) rfl) ?_
            refine OpsW.qw rfl rfl (q_gtr rfl rfl) ?_
            refine OpsW.qw rfl rfl (q_eqlB Try.underlying4 rfl rfl) ?_
            refine OpsW.q rfl (q_and2 rfl rfl rfl) ?_
            refine OpsW.q rfl (q_move (v := .bool true) rfl) ?_
            refine OpsW.qw rfl rfl (q_move (v := .int _ _) rfl) ?_
            refine OpsW.qw rfl rfl (q_gtr rfl rfl) ?_
            refine OpsW.qw rfl rfl (q_move (v := .bool true) rfl) ?_
            refine OpsW.qw rfl rfl (q_move (v := S _) rfl) ?_
            refine OpsW.qw rfl rfl (q_lenS Try.underlying9 rfl) ?_
            refine OpsW.qw rfl rfl (q_eql rfl rfl) ?_
            rw [decide_eq_true h17]
            refine OpsW.qw rfl rfl (q_and2 rfl rfl rfl) ?_
            refine OpsW.qw rfl rfl (q_move (v := .bool true) rfl) ?_
            refine OpsW.p rfl rfl ?_
            refine OpsW.p rfl rfl ?_
            refine OpsW.p rfl rfl ?_
            refine OpsW.pu rfl rfl ?_
            refine OpsW.pu rfl rfl ?_
            refine OpsW.p rfl rfl ?_
            refine OpsW.p rfl rfl ?_
            refine OpsW.pu rfl rfl ?_
            refine OpsW.pu rfl rfl ?_
            refine OpsW.p rfl rfl ?_
            refine OpsW.qw rfl rfl (q_or2 (B := false) rfl rfl rfl) ?_
            refine OpsW.q rfl (q_and2 rfl rfl rfl) ?_
            refine OpsW.q rfl (q_move (v := .bool true) rfl) ?_
            refine OpsW.qw rfl rfl (o_call rfl Try.func10 rfl rfl (awake_con)) ?_
            refine OpsW.q rfl (q_and2 rfl rfl rfl) ?_
            refine OpsW.q rfl (q_assign (v := .bool _) rfl) ?_
            refine OpsW.nil ?_
            refine SeqP.go ?_
            refine AW.ret ?_
            refine RetP.mk1 (H' := H) (v1 := .bool _) rfl rfl  hS8.le ?_
            exact ⟨rfl, rfl⟩
          ·
            rintro _ _ ⟨rfl, rfl⟩
            refine AnyW.onlyQ 9 rfl (by kernel_rfl) rfl (dst_lt rfl) (q_extract (v := .int _ _) rfl rfl) ?_
            refine AnyW.onlyQ 11 rfl (by kernel_rfl) rfl (dst_lt rfl) (q_assign (v := .int _ _) rfl) ?_
            refine AnyW.done (by kernel_rfl) ?_
            refine SeqP.go ?_
            refine AW.seq ?_
            refine AW.region ?_
            refine OpsW.q rfl (q_move (v := .int _ _) rfl) ?_
            refine OpsW.q rfl (q_move (v := .int _ _) rfl) ?_
            refine OpsW.q rfl (o_call rfl Try.func16 rfl rfl (SizeR_con _)) ?_
            rw [sizeS_b]
            refine OpsW.q rfl (q_eql rfl rfl) ?_
            refine OpsW.q rfl (q_move (v := .bool true) rfl) ?_
            refine OpsW.qw rfl rfl (q_move (v := .int _ _) rfl) ?_
            refine OpsW.qw rfl rfl (q_eql rfl rfl) ?_
            refine OpsW.qw rfl rfl (q_move (v := .int _ _) rfl) ?_
            refine OpsW.qw rfl rfl (q_gtr rfl rfl) ?_
            refine OpsW.qw rfl rfl (q_eqlB Try.underlying4 rfl rfl) ?_
            refine OpsW.q rfl (q_and2 rfl rfl rfl) ?_
            refine OpsW.q rfl (q_move (v := .bool true) rfl) ?_
            refine OpsW.qw rfl rfl (q_move (v := .int _ _) rfl) ?_
            refine OpsW.qw rfl rfl (q_gtr rfl rfl) ?_
            refine OpsW.qw rfl rfl (q_move (v := .bool true) rfl) ?_
            refine OpsW.qw rfl rfl (q_move (v := S _) rfl) ?_
            refine OpsW.qw rfl rfl (q_lenS Try.underlying9 rfl) ?_
            refine OpsW.qw rfl rfl (q_eql rfl rfl) ?_
            rw [decide_eq_true h17]
            refine OpsW.qw rfl rfl (q_and2 rfl rfl rfl) ?_
            refine OpsW.qw rfl rfl (q_move (v := .bool true) rfl) ?_
            refine OpsW.p rfl rfl ?_
            refine OpsW.p rfl rfl ?_
            refine OpsW.p rfl rfl ?_
            refine OpsW.pu rfl rfl ?_
            refine OpsW.pu rfl rfl ?_
            refine OpsW.p rfl rfl ?_
            refine OpsW.p rfl rfl ?_
            refine OpsW.pu rfl rfl ?_
            refine OpsW.pu rfl rfl ?_
            refine OpsW.p rfl rfl ?_
            refine OpsW.qw rfl rfl (q_or2 (B := false) rfl rfl rfl) ?_
            refine OpsW.q rfl (q_and2 rfl rfl rfl) ?_
            refine OpsW.q rfl (q_move (v := .bool true) rfl) ?_
            refine OpsW.qw rfl rfl (o_call rfl Try.func10 rfl rfl (awake_con)) ?_
            refine OpsW.q rfl (q_and2 rfl rfl rfl) ?_
            refine OpsW.q rfl (q_assign (v := .bool _) rfl) ?_
            refine OpsW.nil ?_
            refine SeqP.go ?_
            refine AW.ret ?_
            refine RetP.mk1 (H' := H) (v1 := .bool _) rfl rfl  hS8.le ?_
            exact ⟨rfl, rfl⟩
        ·
          rintro _ _ ⟨rfl, rfl⟩
          refine AnyW.onlyQ 8 rfl (by kernel_rfl) rfl (dst_lt rfl) (q_extract (v := S _) rfl rfl) ?_
          refine AnyW.onlyQ 10 rfl (by kernel_rfl) rfl (dst_lt rfl) (q_assign (v := S _) rfl) ?_
          refine AnyW.onlyQ 11 rfl (by kernel_rfl) rfl (dst_lt rfl) (q_assign (v := .int _ _) rfl) ?_
          refine AnyW.done (by kernel_rfl) ?_
          refine SeqP.go ?_
          refine AW.seq ?_
          refine AW.region ?_
          refine OpsW.q rfl (q_move (v := .int _ _) rfl) ?_
          refine OpsW.q rfl (q_move (v := .int _ _) rfl) ?_
          refine OpsW.q rfl (o_call rfl Try.func16 rfl rfl (SizeR_con _)) ?_
          rw [sizeS_b]
          refine OpsW.q rfl (q_eql rfl rfl) ?_
          refine OpsW.q rfl (q_move (v := .bool true) rfl) ?_
          refine OpsW.qw rfl rfl (q_move (v := .int _ _) rfl) ?_
          refine OpsW.qw rfl rfl (q_eql rfl rfl) ?_
          refine OpsW.qw rfl rfl (q_move (v := .int _ _) rfl) ?_
          refine OpsW.qw rfl rfl (q_gtr rfl rfl) ?_
          refine OpsW.qw rfl rfl (q_eqlB Try.underlying4 rfl rfl) ?_
          refine OpsW.q rfl (q_and2 rfl rfl rfl) ?_
          refine OpsW.q rfl (q_move (v := .bool true) rfl) ?_
          refine OpsW.qw rfl rfl (q_move (v := .int _ _) rfl) ?_
          refine OpsW.qw rfl rfl (q_gtr rfl rfl) ?_
          refine OpsW.qw rfl rfl (q_move (v := .bool true) rfl) ?_
          refine OpsW.qw rfl rfl (q_move (v := S _) rfl) ?_
          refine OpsW.qw rfl rfl (q_lenS Try.underlying9 rfl) ?_
          refine OpsW.qw rfl rfl (q_eql rfl rfl) ?_
          rw [decide_eq_true h17]
          refine OpsW.qw rfl rfl (q_and2 rfl rfl rfl) ?_
          refine OpsW.qw rfl rfl (q_move (v := .bool true) rfl) ?_
          refine OpsW.p rfl rfl ?_
          refine OpsW.p rfl rfl ?_
          refine OpsW.p rfl rfl ?_
          refine OpsW.pu rfl rfl ?_
          refine OpsW.pu rfl rfl ?_
          refine OpsW.p rfl rfl ?_
          refine OpsW.p rfl rfl ?_
          refine OpsW.pu rfl rfl ?_
          refine OpsW.pu rfl rfl ?_
          refine OpsW.p rfl rfl ?_
          refine OpsW.qw rfl rfl (q_or2 (B := false) rfl rfl rfl) ?_
          refine OpsW.q rfl (q_and2 rfl rfl rfl) ?_
          refine OpsW.q rfl (q_move (v := .bool true) rfl) ?_
          refine OpsW.qw rfl rfl (o_call rfl Try.func10 rfl rfl (awake_con)) ?_
          refine OpsW.q rfl (q_and2 rfl rfl rfl) ?_
          refine OpsW.q rfl (q_assign (v := .bool _) rfl) ?_
          refine OpsW.nil ?_
          refine SeqP.go ?_
          refine AW.ret ?_
          refine RetP.mk1 (H' := H) (v1 := .bool _) rfl rfl  hS8.le ?_
          exact ⟨rfl, rfl⟩
      ·
        rintro v13 H9 hS9
        clear hS7
        refine AnyW.two 3 5 rfl rfl (by kernel_rfl) rfl rfl (dst_lt rfl) (dst_lt rfl) (q_stringB (hS9.vec at1) Try.underlying33 Try.underlying5 Try.underlying9 rfl) (q_stringB (hS9.vec at0) Try.underlying33 Try.underlying5 Try.underlying9 rfl) ?_ ?_
        ·
          rintro _ _ ⟨rfl, rfl⟩
          refine AnyW.onlyQ 5 rfl (by kernel_rfl) rfl (dst_lt rfl) (q_stringB (hS9.vec at0) Try.underlying33 Try.underlying5 Try.underlying9 rfl) ?_
          refine AnyW.onlyQ 6 rfl (by kernel_rfl) rfl (dst_lt rfl) (o_call rfl Try.func17 rfl rfl (Seal_con (by decide) (by decide))) ?_
          rw [sizes_b.1]
          have h17 : (((slSeal 4867 (List.replicate (Int.toNat 32) 0) (List.replicate (Int.toNat 12) 0) [] [120]).1.length : Nat) : Int) = 17 := by rw [sizes_b.2]; rfl
          refine AnyW.onlyQ 7 rfl (by kernel_rfl) rfl (dst_lt rfl) (q_move (v := .tuple _) rfl) ?_
          refine AnyW.two 8 9 rfl rfl (by kernel_rfl) rfl rfl (dst_lt rfl) (dst_lt rfl) (q_extract (v := S _) rfl rfl) (q_extract (v := .int _ _) rfl rfl) ?_ ?_
          ·
            rintro _ _ ⟨rfl, rfl⟩
            refine AnyW.two 9 10 rfl rfl (by kernel_rfl) rfl rfl (dst_lt rfl) (dst_lt rfl) (q_extract (v := .int _ _) rfl rfl) (q_assign (v := S _) rfl) ?_ ?_
            ·
              rintro _ _ ⟨rfl, rfl⟩
              refine AnyW.onlyQ 10 rfl (by kernel_rfl) rfl (dst_lt rfl) (q_assign (v := S _) rfl) ?_
              refine AnyW.onlyQ 11 rfl (by kernel_rfl) rfl (dst_lt rfl) (q_assign (v := .int _ _) rfl) ?_
              refine AnyW.done (by kernel_rfl) ?_
              refine SeqP.go ?_
              refine AW.seq ?_
              refine AW.region ?_
              refine OpsW.q rfl (q_move (v := .int _ _) rfl) ?_
              refine OpsW.q rfl (q_move (v := .int _ _) rfl) ?_
              refine OpsW.q rfl (o_call rfl Try.func16 rfl rfl (SizeR_con _)) ?_
              rw [sizeS_b]
              refine OpsW.q rfl (q_eql rfl rfl) ?_
              refine OpsW.q rfl (q_move (v := .bool true) rfl) ?_
              refine OpsW.qw rfl rfl (q_move (v := .int _ _) rfl) ?_
              refine OpsW.qw rfl rfl (q_eql rfl rfl) ?_
              refine OpsW.qw rfl rfl (q_move (v := .int _ _) rfl) ?_
              refine OpsW.qw rfl rfl (q_gtr rfl rfl) ?_
              refine OpsW.qw rfl rfl (q_eqlB Try.underlying4 rfl rfl) ?_
              refine OpsW.q rfl (q_and2 rfl rfl rfl) ?_
              refine OpsW.q rfl (q_move (v := .bool true) rfl) ?_
              refine OpsW.qw rfl rfl (q_move (v := .int _ _) rfl) ?_
              refine OpsW.qw rfl rfl (q_gtr rfl rfl) ?_
              refine OpsW.qw rfl rfl (q_move (v := .bool true) rfl) ?_
              refine OpsW.qw rfl rfl (q_move (v := S _) rfl) ?_
              refine OpsW.qw rfl rfl (q_lenS Try.underlying9 rfl) ?_
              refine OpsW.qw rfl rfl (q_eql rfl rfl) ?_
              rw [decide_eq_true h17]
              refine OpsW.qw rfl rfl (q_and2 rfl rfl rfl) ?_
              refine OpsW.qw rfl rfl (q_move (v := .bool true) rfl) ?_
              refine OpsW.p rfl rfl ?_
              refine OpsW.p rfl rfl ?_
              refine OpsW.p rfl rfl ?_
              refine OpsW.pu rfl rfl ?_
              refine OpsW.pu rfl rfl ?_
              refine OpsW.p rfl rfl ?_
              refine OpsW.p rfl rfl ?_
              refine OpsW.pu rfl rfl ?_
              refine OpsW.pu rfl rfl ?_
              refine OpsW.p rfl rfl ?_
              refine OpsW.qw rfl rfl (q_or2 (B := false) rfl rfl rfl) ?_
              refine OpsW.q rfl (q_and2 rfl rfl rfl) ?_
              refine OpsW.q rfl (q_move (v := .bool true) rfl) ?_
              refine OpsW.qw rfl rfl (o_call rfl Try.func10 rfl rfl (awake_con)) ?_
              refine OpsW.q rfl (q_and2 rfl rfl rfl) ?_
              refine OpsW.q rfl (q_assign (v := .bool _) rfl) ?_
              refine OpsW.nil ?_
              refine SeqP.go ?_
              refine AW.ret ?_
              refine RetP.mk1 (H' := H) (v1 := .bool _) rfl rfl  hS9.le ?_
              exact ⟨rfl, rfl⟩
            ·
              rintro _ _ ⟨rfl, rfl⟩
              refine AnyW.onlyQ 9 rfl (by kernel_rfl) rfl (dst_lt rfl) (q_extract (v := .int _ _) rfl rfl) ?_
              refine AnyW.onlyQ 11 rfl (by kernel_rfl) rfl (dst_lt rfl) (q_assign (v := .int _ _) rfl) ?_
              refine AnyW.done (by kernel_rfl) ?_
              refine SeqP.go ?_
              refine AW.seq ?_
              refine AW.region ?_
              refine OpsW.q rfl (q_move (v := .int _ _) rfl) ?_
              refine OpsW.q rfl (q_move (v := .int _ _) rfl) ?_
              refine OpsW.q rfl (o_call rfl Try.func16 rfl rfl (SizeR_con _)) ?_
              rw [sizeS_b]
              refine OpsW.q rfl (q_eql rfl rfl) ?_
              refine OpsW.q rfl (q_move (v := .bool true) rfl) ?_
              refine OpsW.qw rfl rfl (q_move (v := .int _ _) rfl) ?_
              refine OpsW.qw rfl rfl (q_eql rfl rfl) ?_
              refine OpsW.qw rfl rfl (q_move (v := .int _ _) rfl) ?_
              refine OpsW.qw rfl rfl (q_gtr rfl rfl) ?_
              refine OpsW.qw rfl rfl (q_eqlB Try.underlying4 rfl rfl) ?_
              refine OpsW.q rfl (q_and2 rfl rfl rfl) ?_
              refine OpsW.q rfl (q_move (v := .bool true) rfl) ?_
              refine OpsW.qw rfl rfl (q_move (v := .int _ _) rfl) ?_
              refine OpsW.qw rfl rfl (q_gtr rfl rfl) ?_
              refine OpsW.qw rfl rfl (q_move (v := .bool true) rfl) ?_
              refine OpsW.qw rfl rfl (q_move (v := S _) rfl) ?_
              refine OpsW.qw rfl rfl (q_lenS Try.underlying9 rfl) ?_
              refine OpsW.qw rfl rfl (q_eql rfl rfl) ?_
              rw [decide_eq_true h17]
              refine OpsW.qw rfl rfl (q_and2 rfl rfl rfl) ?_
              refine OpsW.qw rfl rfl (q_move (v := .bool true) rfl) ?_
              refine OpsW.p rfl rfl ?_
              refine OpsW.p rfl rfl ?_
              refine OpsW.p rfl rfl ?_
              refine OpsW.pu rfl rfl ?_
              refine OpsW.pu rfl rfl ?_
              refine OpsW.p rfl rfl ?_
              refine OpsW.p rfl rfl ?_
              refine OpsW.pu rfl rfl ?_
              refine OpsW.pu rfl rfl ?_
              refine OpsW.p rfl rfl ?_
              refine OpsW.qw rfl rfl (q_or2 (B := false) rfl rfl rfl) ?_
              refine OpsW.q rfl (q_and2 rfl rfl rfl) ?_
              refine OpsW.q rfl (q_move (v := .bool true) rfl) ?_
              refine OpsW.qw rfl rfl (o_call rfl Try.func10 rfl rfl (awake_con)) ?_
              refine OpsW.q rfl (q_and2 rfl rfl rfl) ?_
              refine OpsW.q rfl (q_assign (v := .bool _) rfl) ?_
              refine OpsW.nil ?_
              refine SeqP.go ?_
              refine AW.ret ?_
              refine RetP.mk1 (H' := H) (v1 := .bool _) rfl rfl  hS9.le ?_
              exact ⟨rfl, rfl⟩
          ·
            rintro _ _ ⟨rfl, rfl⟩
            refine AnyW.onlyQ 8 rfl (by kernel_rfl) rfl (dst_lt rfl) (q_extract (v := S _) rfl rfl) ?_
            refine AnyW.onlyQ 10 rfl (by kernel_rfl) rfl (dst_lt rfl) (q_assign (v := S _) rfl) ?_
            refine AnyW.onlyQ 11 rfl (by kernel_rfl) rfl (dst_lt rfl) (q_assign (v := .int _ _) rfl) ?_
            refine AnyW.done (by kernel_rfl) ?_
            refine SeqP.go ?_
            refine AW.seq ?_
            refine AW.region ?_
            refine OpsW.q rfl (q_move (v := .int _ _) rfl) ?_
            refine OpsW.q rfl (q_move (v := .int _ _) rfl) ?_
            refine OpsW.q rfl (o_call rfl Try.func16 rfl rfl (SizeR_con _)) ?_
            rw [sizeS_b]
            refine OpsW.q rfl (q_eql rfl rfl) ?_
            refine OpsW.q rfl (q_move (v := .bool true) rfl) ?_
            refine OpsW.qw rfl rfl (q_move (v := .int _ _) rfl) ?_
            refine OpsW.qw rfl rfl (q_eql rfl rfl) ?_
            refine OpsW.qw rfl rfl (q_move (v := .int _ _) rfl) ?_
            refine OpsW.qw rfl rfl (q_gtr rfl rfl) ?_
            refine OpsW.qw rfl rfl (q_eqlB Try.underlying4 rfl rfl) ?_
            refine OpsW.q rfl (q_and2 rfl rfl rfl) ?_
            refine OpsW.q rfl (q_move (v := .bool true) rfl) ?_
            refine OpsW.qw rfl rfl (q_move (v := .int _ _) rfl) ?_
            refine OpsW.qw rfl rfl (q_gtr rfl rfl) ?_
            refine OpsW.qw rfl rfl (q_move (v := .bool true) rfl) ?_
            refine OpsW.qw rfl rfl (q_move (v := S _) rfl) ?_
            refine OpsW.qw rfl rfl (q_lenS Try.underlying9 rfl) ?_
            refine OpsW.qw rfl rfl (q_eql rfl rfl) ?_
            rw [decide_eq_true h17]
            refine OpsW.qw rfl rfl (q_and2 rfl rfl rfl) ?_
            refine OpsW.qw rfl rfl (q_move (v := .bool true) rfl) ?_
            refine OpsW.p rfl rfl ?_
            refine OpsW.p rfl rfl ?_
            refine OpsW.p rfl rfl ?_
            refine OpsW.pu rfl rfl ?_
            refine OpsW.pu rfl rfl ?_
            refine OpsW.p rfl rfl ?_
            refine OpsW.p rfl rfl ?_
            refine OpsW.pu rfl rfl ?_
            refine OpsW.pu rfl rfl ?_
            refine OpsW.p rfl rfl ?_
            refine OpsW.qw rfl rfl (q_or2 (B := false) rfl rfl rfl) ?_
            refine OpsW.q rfl (q_and2 rfl rfl rfl) ?_
            refine OpsW.q rfl (q_move (v := .bool true) rfl) ?_
            refine OpsW.qw rfl rfl (o_call rfl Try.func10 rfl rfl (awake_con)) ?_
            refine OpsW.q rfl (q_and2 rfl rfl rfl) ?_
            refine OpsW.q rfl (q_assign (v := .bool _) rfl) ?_
            refine OpsW.nil ?_
            refine SeqP.go ?_
            refine AW.ret ?_
            refine RetP.mk1 (H' := H) (v1 := .bool _) rfl rfl  hS9.le ?_
            exact ⟨rfl, rfl⟩
        ·
          rintro _ _ ⟨rfl, rfl⟩
          refine AnyW.onlyQ 3 rfl (by kernel_rfl) rfl (dst_lt rfl) (q_stringB (hS9.vec at1) Try.underlying33 Try.underlying5 Try.underlying9 rfl) ?_
          refine AnyW.onlyQ 6 rfl (by kernel_rfl) rfl (dst_lt rfl) (o_call rfl Try.func17 rfl rfl (Seal_con (by decide) (by decide))) ?_
          rw [sizes_b.1]
          have h17 : (((slSeal 4867 (List.replicate (Int.toNat 32) 0) (List.replicate (Int.toNat 12) 0) [] [120]).1.length : Nat) : Int) = 17 := by rw [sizes_b.2]; rfl
          refine AnyW.onlyQ 7 rfl (by kernel_rfl) rfl (dst_lt rfl) (q_move (v := .tuple _) rfl) ?_
          refine AnyW.two 8 9 rfl rfl (by kernel_rfl) rfl rfl (dst_lt rfl) (dst_lt rfl) (q_extract (v := S _) rfl rfl) (q_extract (v := .int _ _) rfl rfl) ?_ ?_
          ·
            rintro _ _ ⟨rfl, rfl⟩
            refine AnyW.two 9 10 rfl rfl (by kernel_rfl) rfl rfl (dst_lt rfl) (dst_lt rfl) (q_extract (v := .int _ _) rfl rfl) (q_assign (v := S _) rfl) ?_ ?_
            ·
              rintro _ _ ⟨rfl, rfl⟩
              refine AnyW.onlyQ 10 rfl (by kernel_rfl) rfl (dst_lt rfl) (q_assign (v := S _) rfl) ?_
              refine AnyW.onlyQ 11 rfl (by kernel_rfl) rfl (dst_lt rfl) (q_assign (v := .int _ _) rfl) ?_
              refine AnyW.done (by kernel_rfl) ?_
              refine SeqP.go ?_
              refine AW.seq ?_
              refine AW.region ?_
              refine OpsW.q rfl (q_move (v := .int _ _) rfl) ?_
              refine OpsW.q rfl (q_move (v := .int _ _) rfl) ?_
              refine OpsW.q rfl (o_call rfl Try.func16 rfl rfl (SizeR_con _)) ?_
              rw [sizeS_b]
              refine OpsW.q rfl (q_eql rfl rfl) ?_
              refine OpsW.q rfl (q_move (v := .bool true) rfl) ?_
              refine OpsW.qw rfl rfl (q_move (v := .int _ _) rfl) ?_
              refine OpsW.qw rfl rfl (q_eql rfl rfl) ?_
              refine OpsW.qw rfl rfl (q_move (v := .int _ _) rfl) ?_
              refine OpsW.qw rfl rfl (q_gtr rfl rfl) ?_
              refine OpsW.qw rfl rfl (q_eqlB Try.underlying4 rfl rfl) ?_
              refine OpsW.q rfl (q_and2 rfl rfl rfl) ?_
              refine OpsW.q rfl (q_move (v := .bool true) rfl) ?_
              refine OpsW.qw rfl rfl (q_move (v := .int _ _) rfl) ?_
              refine OpsW.qw rfl rfl (q_gtr rfl rfl) ?_
              refine OpsW.qw rfl rfl (q_move (v := .bool true) rfl) ?_
              refine OpsW.qw rfl rfl (q_move (v := S _) rfl) ?_
              refine OpsW.qw rfl rfl (q_lenS Try.underlying9 rfl) ?_
              refine OpsW.qw rfl rfl (q_eql rfl rfl) ?_
              rw [decide_eq_true h17]
              refine OpsW.qw rfl rfl (q_and2 rfl rfl rfl) ?_
              refine OpsW.qw rfl rfl (q_move (v := .bool true) rfl) ?_
              refine OpsW.p rfl rfl ?_
              refine OpsW.p rfl rfl ?_
              refine OpsW.p rfl rfl ?_
              refine OpsW.pu rfl rfl ?_
              refine OpsW.pu rfl rfl ?_
              refine OpsW.p rfl rfl ?_
              refine OpsW.p rfl rfl ?_
              refine OpsW.pu rfl rfl ?_
              refine OpsW.pu rfl rfl ?_
              refine OpsW.p rfl rfl ?_
              refine OpsW.qw rfl rfl (q_or2 (B := false) rfl rfl rfl) ?_
              refine OpsW.q rfl (q_and2 rfl rfl rfl) ?_
              refine OpsW.q rfl (q_move (v := .bool true) rfl) ?_
              refine OpsW.qw rfl rfl (o_call rfl Try.func10 rfl rfl (awake_con)) ?_
              refine OpsW.q rfl (q_and2 rfl rfl rfl) ?_
              refine OpsW.q rfl (q_assign (v := .bool _) rfl) ?_
              refine OpsW.nil ?_
              refine SeqP.go ?_
              refine AW.ret ?_
              refine RetP.mk1 (H' := H) (v1 := .bool _) rfl rfl  hS9.le ?_
              exact ⟨rfl, rfl⟩
            ·
              rintro _ _ ⟨rfl, rfl⟩
              refine AnyW.onlyQ 9 rfl (by kernel_rfl) rfl (dst_lt rfl) (q_extract (v := .int _ _) rfl rfl) ?_
              refine AnyW.onlyQ 11 rfl (by kernel_rfl) rfl (dst_lt rfl) (q_assign (v := .int _ _) rfl) ?_
              refine AnyW.done (by kernel_rfl) ?_
              refine SeqP.go ?_
              refine AW.seq ?_
              refine AW.region ?_
              refine OpsW.q rfl (q_move (v := .int _ _) rfl) ?_
              refine OpsW.q rfl (q_move (v := .int _ _) rfl) ?_
              refine OpsW.q rfl (o_call rfl Try.func16 rfl rfl (SizeR_con _)) ?_
              rw [sizeS_b]
              refine OpsW.q rfl (q_eql rfl rfl) ?_
              refine OpsW.q rfl (q_move (v := .bool true) rfl) ?_
              refine OpsW.qw rfl rfl (q_move (v := .int _ _) rfl) ?_
              refine OpsW.qw rfl rfl (q_eql rfl rfl) ?_
              refine OpsW.qw rfl rfl (q_move (v := .int _ _) rfl) ?_
              refine OpsW.qw rfl rfl (q_gtr rfl rfl) ?_
              refine OpsW.qw rfl rfl (q_eqlB Try.underlying4 rfl rfl) ?_
              refine OpsW.q rfl (q_and2 rfl rfl rfl) ?_
              refine OpsW.q rfl (q_move (v := .bool true) rfl) ?_
              refine OpsW.qw rfl rfl (q_move (v := .int _ _) rfl) ?_
              refine OpsW.qw rfl rfl (q_gtr rfl rfl) ?_
              refine OpsW.qw rfl rfl (q_move (v := .bool true) rfl) ?_
              refine OpsW.qw rfl rfl (q_move (v := S _) rfl) ?_
              refine OpsW.qw rfl rfl (q_lenS Try.underlying9 rfl) ?_
              refine OpsW.qw rfl rfl (q_eql rfl rfl) ?_
              rw [decide_eq_true h17]
              refine OpsW.qw rfl rfl (q_and2 rfl rfl rfl) ?_
              refine OpsW.qw rfl rfl (q_move (v := .bool true) rfl) ?_
              refine OpsW.p rfl rfl ?_
              refine OpsW.p rfl rfl ?_
              refine OpsW.p rfl rfl ?_
              refine OpsW.pu rfl rfl ?_
              refine OpsW.pu rfl rfl ?_
              refine OpsW.p rfl rfl ?_
              refine OpsW.p rfl rfl ?_
              refine OpsW.pu rfl rfl ?_
              refine OpsW.pu rfl rfl ?_
              refine OpsW.p rfl rfl ?_
              refine OpsW.qw rfl rfl (q_or2 (B := false) rfl rfl rfl) ?_
              refine OpsW.q rfl (q_and2 rfl rfl rfl) ?_
              refine OpsW.q rfl (q_move (v := .bool true) rfl) ?_
              refine OpsW.qw rfl rfl (o_call rfl Try.func10 rfl rfl (awake_con)) ?_
              refine OpsW.q rfl (q_and2 rfl rfl rfl) ?_
              refine OpsW.q rfl (q_assign (v := .bool _) rfl) ?_
              refine OpsW.nil ?_
              refine SeqP.go ?_
              refine AW.ret ?_
              refine RetP.mk1 (H' := H) (v1 := .bool _) rfl rfl  hS9.le ?_
              exact ⟨rfl, rfl⟩
          ·
            rintro _ _ ⟨rfl, rfl⟩
            refine AnyW.onlyQ 8 rfl (by kernel_rfl) rfl (dst_lt rfl) (q_extract (v := S _) rfl rfl) ?_
            refine AnyW.onlyQ 10 rfl (by kernel_rfl) rfl (dst_lt rfl) (q_assign (v := S _) rfl) ?_
            refine AnyW.onlyQ 11 rfl (by kernel_rfl) rfl (dst_lt rfl) (q_assign (v := .int _ _) rfl) ?_
            refine AnyW.done (by kernel_rfl) ?_
            refine SeqP.go ?_
            refine AW.seq ?_
            refine AW.region ?_
            refine OpsW.q rfl (q_move (v := .int _ _) rfl) ?_
            refine OpsW.q rfl (q_move (v := .int _ _) rfl) ?_
            refine OpsW.q rfl (o_call rfl Try.func16 rfl rfl (SizeR_con _)) ?_
            rw [sizeS_b]
            refine OpsW.q rfl (q_eql rfl rfl) ?_
            refine OpsW.q rfl (q_move (v := .bool true) rfl) ?_
            refine OpsW.qw rfl rfl (q_move (v := .int _ _) rfl) ?_
            refine OpsW.qw rfl rfl (q_eql rfl rfl) ?_
            refine OpsW.qw rfl rfl (q_move (v := .int _ _) rfl) ?_
            refine OpsW.qw rfl rfl (q_gtr rfl rfl) ?_
            refine OpsW.qw rfl rfl (q_eqlB Try.underlying4 rfl rfl) ?_
            refine OpsW.q rfl (q_and2 rfl rfl rfl) ?_
            refine OpsW.q rfl (q_move (v := .bool true) rfl) ?_
            refine OpsW.qw rfl rfl (q_move (v := .int _ _) rfl) ?_
            refine OpsW.qw rfl rfl (q_gtr rfl rfl) ?_
            refine OpsW.qw rfl rfl (q_move (v := .bool true) rfl) ?_
            refine OpsW.qw rfl rfl (q_move (v := S _) rfl) ?_
            refine OpsW.qw rfl rfl (q_lenS Try.underlying9 rfl) ?_
            refine OpsW.qw rfl rfl (q_eql rfl rfl) ?_
            rw [decide_eq_true h17]
            refine OpsW.qw rfl rfl (q_and2 rfl rfl rfl) ?_
            refine OpsW.qw rfl rfl (q_move (v := .bool true) rfl) ?_
            refine OpsW.p rfl rfl ?_
            refine OpsW.p rfl rfl ?_
            refine OpsW.p rfl rfl ?_
            refine OpsW.pu rfl rfl ?_
            refine OpsW.pu rfl rfl ?_
            refine OpsW.p rfl rfl ?_
            refine OpsW.p rfl rfl ?_
            refine OpsW.pu rfl rfl ?_
            refine OpsW.pu rfl rfl ?_
            refine OpsW.p rfl rfl ?_
            refine OpsW.qw rfl rfl (q_or2 (B := false) rfl rfl rfl) ?_
            refine OpsW.q rfl (q_and2 rfl rfl rfl) ?_
            refine OpsW.q rfl (q_move (v := .bool true) rfl) ?_
            refine OpsW.qw rfl rfl (o_call rfl Try.func10 rfl rfl (awake_con)) ?_
            refine OpsW.q rfl (q_and2 rfl rfl rfl) ?_
            refine OpsW.q rfl (q_assign (v := .bool _) rfl) ?_
            refine OpsW.nil ?_
            refine SeqP.go ?_
            refine AW.ret ?_
            refine RetP.mk1 (H' := H) (v1 := .bool _) rfl rfl  hS9.le ?_
            exact ⟨rfl, rfl⟩
    ·
      rintro v13 H10 hS10
      clear hS0
      refine AnyW.two 2 5 rfl rfl (by kernel_rfl) rfl rfl (dst_lt rfl) (dst_lt rfl) (s_makeSliceB (by_ := 1) hS10 Try.underlying33 (by kernel_rfl) (by kernel_rfl) (by kernel_rfl) rfl rfl (by omega) (by omega) (by omega) (by omega) (by unfold maxLen; omega)) (q_stringB (hS10.vec at0) Try.underlying33 Try.underlying5 Try.underlying9 rfl) ?_ ?_
      ·
        rintro v11 H11 hS11
        clear hS10
        refine AnyW.two 3 5 rfl rfl (by kernel_rfl) rfl rfl (dst_lt rfl) (dst_lt rfl) (q_stringB (hS11.vec at0) Try.underlying33 Try.underlying5 Try.underlying9 rfl) (q_stringB (hS11.vec at1) Try.underlying33 Try.underlying5 Try.underlying9 rfl) ?_ ?_
        ·
          rintro _ _ ⟨rfl, rfl⟩
          refine AnyW.onlyQ 5 rfl (by kernel_rfl) rfl (dst_lt rfl) (q_stringB (hS11.vec at1) Try.underlying33 Try.underlying5 Try.underlying9 rfl) ?_
          refine AnyW.onlyQ 6 rfl (by kernel_rfl) rfl (dst_lt rfl) (o_call rfl Try.func17 rfl rfl (Seal_con (by decide) (by decide))) ?_
          rw [sizes_b.1]
          have h17 : (((slSeal 4867 (List.replicate (Int.toNat 32) 0) (List.replicate (Int.toNat 12) 0) [] [120]).1.length : Nat) : Int) = 17 := by rw [sizes_b.2]; rfl
          refine AnyW.onlyQ 7 rfl (by kernel_rfl) rfl (dst_lt rfl) (q_move (v := .tuple _) rfl) ?_
          refine AnyW.two 8 9 rfl rfl (by kernel_rfl) rfl rfl (dst_lt rfl) (dst_lt rfl) (q_extract (v := S _) rfl rfl) (q_extract (v := .int _ _) rfl rfl) ?_ ?_
          ·
            rintro _ _ ⟨rfl, rfl⟩
            refine AnyW.two 9 10 rfl rfl (by kernel_rfl) rfl rfl (dst_lt rfl) (dst_lt rfl) (q_extract (v := .int _ _) rfl rfl) (q_assign (v := S _) rfl) ?_ ?_
            ·
              rintro _ _ ⟨rfl, rfl⟩
              refine AnyW.onlyQ 10 rfl (by kernel_rfl) rfl (dst_lt rfl) (q_assign (v := S _) rfl) ?_
              refine AnyW.onlyQ 11 rfl (by kernel_rfl) rfl (dst_lt rfl) (q_assign (v := .int _ _) rfl) ?_
              refine AnyW.done (by kernel_rfl) ?_
              refine SeqP.go ?_
              refine AW.seq ?_
              refine AW.region ?_
              refine OpsW.q rfl (q_move (v := .int _ _) rfl) ?_
              refine OpsW.q rfl (q_move (v := .int _ _) rfl) ?_
              refine OpsW.q rfl (o_call rfl Try.func16 rfl rfl (SizeR_con _)) ?_
              rw [sizeS_b]
              refine OpsW.q rfl (q_eql rfl rfl) ?_
              refine OpsW.q rfl (q_move (v := .bool true) rfl) ?_
              refine OpsW.qw rfl rfl (q_move (v := .int _ _) rfl) ?_
              refine OpsW.qw rfl rfl (q_eql rfl rfl) ?_
              refine OpsW.qw rfl rfl (q_move (v := .int _ _) rfl) ?_
              refine OpsW.qw rfl rfl (q_gtr rfl rfl) ?_
              refine OpsW.qw rfl rfl (q_eqlB Try.underlying4 rfl rfl) ?_
              refine OpsW.q rfl (q_and2 rfl rfl rfl) ?_
              refine OpsW.q rfl (q_move (v := .bool true) rfl) ?_
              refine OpsW.qw rfl rfl (q_move (v := .int _ _) rfl) ?_
              refine OpsW.qw rfl rfl (q_gtr rfl rfl) ?_
              refine OpsW.qw rfl rfl (q_move (v := .bool true) rfl) ?_
              refine OpsW.qw rfl rfl (q_move (v := S _) rfl) ?_
              refine OpsW.qw rfl rfl (q_lenS Try.underlying9 rfl) ?_
              refine OpsW.qw rfl rfl (q_eql rfl rfl) ?_
              rw [decide_eq_true h17]
              refine OpsW.qw rfl rfl (q_and2 rfl rfl rfl) ?_
              refine OpsW.qw rfl rfl (q_move (v := .bool true) rfl) ?_
              refine OpsW.p rfl rfl ?_
              refine OpsW.p rfl rfl ?_
              refine OpsW.p rfl rfl ?_
              refine OpsW.pu rfl rfl ?_
              refine OpsW.pu rfl rfl ?_
              refine OpsW.p rfl rfl ?_
              refine OpsW.p rfl rfl ?_
              refine OpsW.pu rfl rfl ?_
              refine OpsW.pu rfl rfl ?_
              refine OpsW.p rfl rfl ?_
              refine OpsW.qw rfl rfl (q_or2 (B := false) rfl rfl rfl) ?_
              refine OpsW.q rfl (q_and2 rfl rfl rfl) ?_
              refine OpsW.q rfl (q_move (v := .bool true) rfl) ?_
              refine OpsW.qw rfl rfl (o_call rfl Try.func10 rfl rfl (awake_con)) ?_
              refine OpsW.q rfl (q_and2 rfl rfl rfl) ?_
              refine OpsW.q rfl (q_assign (v := .bool _) rfl) ?_
              refine OpsW.nil ?_
              refine SeqP.go ?_
              refine AW.ret ?_
              refine RetP.mk1 (H' := H) (v1 := .bool _) rfl rfl  hS11.le ?_
              exact ⟨rfl, rfl⟩
            ·
              rintro _ _ ⟨rfl, rfl⟩
              refine AnyW.onlyQ 9 rfl (by kernel_rfl) rfl (dst_lt rfl) (q_extract (v := .int _ _) rfl rfl) ?_
              refine AnyW.onlyQ 11 rfl (by kernel_rfl) rfl (dst_lt rfl) (q_assign (v := .int _ _) rfl) ?_
              refine AnyW.done (by kernel_rfl) ?_
              refine SeqP.go ?_
              refine AW.seq ?_
              refine AW.region ?_
              refine OpsW.q rfl (q_move (v := .int _ _) rfl) ?_
              refine OpsW.q rfl (q_move (v := .int _ _) rfl) ?_
              refine OpsW.q rfl (o_call rfl Try.func16 rfl rfl (SizeR_con _)) ?_
              rw [sizeS_b]
              refine OpsW.q rfl (q_eql rfl rfl) ?_
              refine OpsW.q rfl (q_move (v := .bool true) rfl) ?_
              refine OpsW.qw rfl rfl (q_move (v := .int _ _) rfl) ?_
              refine OpsW.qw rfl rfl (q_eql rfl rfl) ?_
              refine OpsW.qw rfl rfl (q_move (v := .int _ _) rfl) ?_
              refine OpsW.qw rfl rfl (q_gtr rfl rfl) ?_
              refine OpsW.qw rfl rfl (q_eqlB Try.underlying4 rfl rfl) ?_
              refine OpsW.q rfl (q_and2 rfl rfl rfl) ?_
              refine OpsW.q rfl (q_move (v := .bool true) rfl) ?_
              refine OpsW.qw rfl rfl (q_move (v := .int _ _) rfl) ?_
              refine OpsW.qw rfl rfl (q_gtr rfl rfl) ?_
              refine OpsW.qw rfl rfl (q_move (v := .bool true) rfl) ?_
              refine OpsW.qw rfl rfl (q_move (v := S _) rfl) ?_
              refine OpsW.qw rfl rfl (q_lenS Try.underlying9 rfl) ?_
              refine OpsW.qw rfl rfl (q_eql rfl rfl) ?_
              rw [decide_eq_true h17]
              refine OpsW.qw rfl rfl (q_and2 rfl rfl rfl) ?_
              refine OpsW.qw rfl rfl (q_move (v := .bool true) rfl) ?_
              refine OpsW.p rfl rfl ?_
              refine OpsW.p rfl rfl ?_
              refine OpsW.p rfl rfl ?_
              refine OpsW.pu rfl rfl ?_
              refine OpsW.pu rfl rfl ?_
              refine OpsW.p rfl rfl ?_
              refine OpsW.p rfl rfl ?_
              refine OpsW.pu rfl rfl ?_
              refine OpsW.pu rfl rfl ?_
              refine OpsW.p rfl rfl ?_
              refine OpsW.qw rfl rfl (q_or2 (B := false) rfl rfl rfl) ?_
              refine OpsW.q rfl (q_and2 rfl rfl rfl) ?_
              refine OpsW.q rfl (q_move (v := .bool true) rfl) ?_
              refine OpsW.qw rfl rfl (o_call rfl Try.func10 rfl rfl (awake_con)) ?_
              refine OpsW.q rfl (q_and2 rfl rfl rfl) ?_
              refine OpsW.q rfl (q_assign (v := .bool _) rfl) ?_
              refine OpsW.nil ?_
              refine SeqP.go ?_
              refine AW.ret ?_
              refine RetP.mk1 (H' := H) (v1 := .bool _) rfl rfl  hS11.le ?_
              exact ⟨rfl, rfl⟩
          ·
            rintro _ _ ⟨rfl, rfl⟩
            refine AnyW.onlyQ 8 rfl (by kernel_rfl) rfl (dst_lt rfl) (q_extract (v := S _) rfl rfl) ?_
            refine AnyW.onlyQ 10 rfl (by kernel_rfl) rfl (dst_lt rfl) (q_assign (v := S _) rfl) ?_
            refine AnyW.onlyQ 11 rfl (by kernel_rfl) rfl (dst_lt rfl) (q_assign (v := .int _ _) rfl) ?_
            refine AnyW.done (by kernel_rfl) ?_
            refine SeqP.go ?_
            refine AW.seq ?_
            refine AW.region ?_
            refine OpsW.q rfl (q_move (v := .int _ _) rfl) ?_
            refine OpsW.q rfl (q_move (v := .int _ _) rfl) ?_
            refine OpsW.q rfl (o_call rfl Try.func16 rfl rfl (SizeR_con _)) ?_
            rw [sizeS_b]
            refine OpsW.q rfl (q_eql rfl rfl) ?_
            refine OpsW.q rfl (q_move (v := .bool true) rfl) ?_
            refine OpsW.qw rfl rfl (q_move (v := .int _ _) rfl) ?_
            refine OpsW.qw rfl rfl (q_eql rfl rfl) ?_
            refine OpsW.qw rfl rfl (q_move (v := .int _ _) rfl) ?_
            refine OpsW.qw rfl rfl (q_gtr rfl rfl) ?_
            refine OpsW.qw rfl rfl (q_eqlB Try.underlying4 rfl rfl) ?_
            refine OpsW.q rfl (q_and2 rfl rfl rfl) ?_
            refine OpsW.q rfl (q_move (v := .bool true) rfl) ?_
            refine OpsW.qw rfl rfl (q_move (v := .int _ _) rfl) ?_
            refine OpsW.qw rfl rfl (q_gtr rfl rfl) ?_
            refine OpsW.qw rfl rfl (q_move (v := .bool true) rfl) ?_
            refine OpsW.qw rfl rfl (q_move (v := S _) rfl) ?_
            refine OpsW.qw rfl rfl (q_lenS Try.underlying9 rfl) ?_
            refine OpsW.qw rfl rfl (q_eql rfl rfl) ?_
            rw [decide_eq_true h17]
            refine OpsW.qw rfl rfl (q_and2 rfl rfl rfl) ?_
            refine OpsW.qw rfl rfl (q_move (v := .bool true) rfl) ?_
            refine OpsW.p rfl rfl ?_
            refine OpsW.p rfl rfl ?_
            refine OpsW.p rfl rfl ?_
            refine OpsW.pu rfl rfl ?_
            refine OpsW.pu rfl rfl ?_
            refine OpsW.p rfl rfl ?_
            refine OpsW.p rfl rfl ?_
            refine OpsW.pu rfl rfl ?_
            refine OpsW.pu rfl rfl ?_
            refine OpsW.p rfl rfl ?_
            refine OpsW.qw rfl rfl (q_or2 (B := false) rfl rfl rfl) ?_
            refine OpsW.q rfl (q_and2 rfl rfl rfl) ?_
            refine OpsW.q rfl (q_move (v := .bool true) rfl) ?_
            refine OpsW.qw rfl rfl (o_call rfl Try.func10 rfl rfl (awake_con)) ?_
            refine OpsW.q rfl (q_and2 rfl rfl rfl) ?_
            refine OpsW.q rfl (q_assign (v := .bool _) rfl) ?_
            refine OpsW.nil ?_
            refine SeqP.go ?_
            refine AW.ret ?_
            refine RetP.mk1 (H' := H) (v1 := .bool _) rfl rfl  hS11.le ?_
            exact ⟨rfl, rfl⟩
        ·
          rintro _ _ ⟨rfl, rfl⟩
          refine AnyW.onlyQ 3 rfl (by kernel_rfl) rfl (dst_lt rfl) (q_stringB (hS11.vec at0) Try.underlying33 Try.underlying5 Try.underlying9 rfl) ?_
          refine AnyW.onlyQ 6 rfl (by kernel_rfl) rfl (dst_lt rfl) (o_call rfl Try.func17 rfl rfl (Seal_con (by decide) (by decide))) ?_
          rw [sizes_b.1]
          have h17 : (((slSeal 4867 (List.replicate (Int.toNat 32) 0) (List.replicate (Int.toNat 12) 0) [] [120]).1.length : Nat) : Int) = 17 := by rw [sizes_b.2]; rfl
          refine AnyW.onlyQ 7 rfl (by kernel_rfl) rfl (dst_lt rfl) (q_move (v := .tuple _) rfl) ?_
          refine AnyW.two 8 9 rfl rfl (by kernel_rfl) rfl rfl (dst_lt rfl) (dst_lt rfl) (q_extract (v := S _) rfl rfl) (q_extract (v := .int _ _) rfl rfl) ?_ ?_
          ·
            rintro _ _ ⟨rfl, rfl⟩
            refine AnyW.two 9 10 rfl rfl (by kernel_rfl) rfl rfl (dst_lt rfl) (dst_lt rfl) (q_extract (v := .int _ _) rfl rfl) (q_assign (v := S _) rfl) ?_ ?_
            ·
              rintro _ _ ⟨rfl, rfl⟩
              refine AnyW.onlyQ 10 rfl (by kernel_rfl) rfl (dst_lt rfl) (q_assign (v := S _) rfl) ?_
              refine AnyW.onlyQ 11 rfl (by kernel_rfl) rfl (dst_lt rfl) (q_assign (v := .int _ _) rfl) ?_
              refine AnyW.done (by kernel_rfl) ?_
              refine SeqP.go ?_
              refine AW.seq ?_
              refine AW.region ?_
              refine OpsW.q rfl (q_move (v := .int _ _) rfl) ?_
              refine OpsW.q rfl (q_move (v := .int _ _) rfl) ?_
              refine OpsW.q rfl (o_call rfl Try.func16 rfl rfl (SizeR_con _)) ?_
              rw [sizeS_b]
              refine OpsW.q rfl (q_eql rfl rfl) ?_
              refine OpsW.q rfl (q_move (v := .bool true) rfl) ?_
              refine OpsW.qw rfl rfl (q_move (v := .int _ _) rfl) ?_
              refine OpsW.qw rfl rfl (q_eql rfl rfl) ?_
              refine OpsW.qw rfl rfl (q_move (v := .int _ _) rfl) ?_
              refine OpsW.qw rfl rfl (q_gtr rfl rfl) ?_
              refine OpsW.qw rfl rfl (q_eqlB Try.underlying4 rfl rfl) ?_
              refine OpsW.q rfl (q_and2 rfl rfl rfl) ?_
              refine OpsW.q rfl (q_move (v := .bool true) rfl) ?_
              refine OpsW.qw rfl rfl (q_move (v := .int _ _) rfl) ?_
              refine OpsW.qw rfl rfl (q_gtr rfl rfl) ?_
              refine OpsW.qw rfl rfl (q_move (v := .bool true) rfl) ?_
              refine OpsW.qw rfl rfl (q_move (v := S _) rfl) ?_
              refine OpsW.qw rfl rfl (q_lenS Try.underlying9 rfl) ?_
              refine OpsW.qw rfl rfl (q_eql rfl rfl) ?_
              rw [decide_eq_true h17]
              refine OpsW.qw rfl rfl (q_and2 rfl rfl rfl) ?_
              refine OpsW.qw rfl rfl (q_move (v := .bool true) rfl) ?_
              refine OpsW.p rfl rfl ?_
              refine OpsW.p rfl rfl ?_
              refine OpsW.p rfl rfl ?_
              refine OpsW.pu rfl rfl ?_
              refine OpsW.pu rfl rfl ?_
              refine OpsW.p rfl rfl ?_
              refine OpsW.p rfl rfl ?_
              refine OpsW.pu rfl rfl ?_
              refine OpsW.pu rfl rfl ?_
              refine OpsW.p rfl rfl ?_
              refine OpsW.qw rfl rfl (q_or2 (B := false) rfl rfl rfl) ?_
              refine OpsW.q rfl (q_and2 rfl rfl rfl) ?_
              refine OpsW.q rfl (q_move (v := .bool true) rfl) ?_
              refine OpsW.qw rfl rfl (o_call rfl Try.func10 rfl rfl (awake_con)) ?_
              refine OpsW.q rfl (q_and2 rfl rfl rfl) ?_
              refine OpsW.q rfl (q_assign (v := .bool _) rfl) ?_
              refine OpsW.nil ?_
              refine SeqP.go ?_
              refine AW.ret ?_
              refine RetP.mk1 (H' := H) (v1 := .bool _) rfl rfl  hS11.le ?_
              exact ⟨rfl, rfl⟩
            ·
              rintro _ _ ⟨rfl, rfl⟩
              refine AnyW.onlyQ 9 rfl (by kernel_rfl) rfl (dst_lt rfl) (q_extract (v := .int _ _) rfl rfl) ?_
              refine AnyW.onlyQ 11 rfl (by kernel_rfl) rfl (dst_lt rfl) (q_assign (v := .int _ _) rfl) ?_
              refine AnyW.done (by kernel_rfl) ?_
              refine SeqP.go ?_
              refine AW.seq ?_
              refine AW.region ?_
              refine OpsW.q rfl (q_move (v := .int _ _) rfl) ?_
              refine OpsW.q rfl (q_move (v := .int _ _) rfl) ?_
              refine OpsW.q rfl (o_call rfl Try.func16 rfl rfl (SizeR_con _)) ?_
              rw [sizeS_b]
              refine OpsW.q rfl (q_eql rfl rfl) ?_
              refine OpsW.q rfl (q_move (v := .bool true) rfl) ?_
              refine OpsW.qw rfl rfl (q_move (v := .int _ _) rfl) ?_
              refine OpsW.qw rfl rfl (q_eql rfl rfl) ?_
              refine OpsW.qw rfl rfl (q_move (v := .int _ _) rfl) ?_
              refine OpsW.qw rfl rfl (q_gtr rfl rfl) ?_
              refine OpsW.qw rfl rfl (q_eqlB Try.underlying4 rfl rfl) ?_
              refine OpsW.q rfl (q_and2 rfl rfl rfl) ?_
              refine OpsW.q rfl (q_move (v := .bool true) rfl) ?_
              refine OpsW.qw rfl rfl (q_move (v := .int _ _) rfl) ?_
              refine OpsW.qw rfl rfl (q_gtr rfl rfl) ?_
              refine OpsW.qw rfl rfl (q_move (v := .bool true) rfl) ?_
              refine OpsW.qw rfl rfl (q_move (v := S _) rfl) ?_
              refine OpsW.qw rfl rfl (q_lenS Try.underlying9 rfl) ?_
              refine OpsW.qw rfl rfl (q_eql rfl rfl) ?_
              rw [decide_eq_true h17]
              refine OpsW.qw rfl rfl (q_and2 rfl rfl rfl) ?_
              refine OpsW.qw rfl rfl (q_move (v := .bool true) rfl) ?_
              refine OpsW.p rfl rfl ?_
              refine OpsW.p rfl rfl ?_
              refine OpsW.p rfl rfl ?_
              refine OpsW.pu rfl rfl ?_
              refine OpsW.pu rfl rfl ?_
              refine OpsW.p rfl rfl ?_
              refine OpsW.p rfl rfl ?_
              refine OpsW.pu rfl rfl ?_
              refine OpsW.pu rfl rfl ?_
              refine OpsW.p rfl rfl ?_
              refine OpsW.qw rfl rfl (q_or2 (B := false) rfl rfl rfl) ?_
              refine OpsW.q rfl (q_and2 rfl rfl rfl) ?_
              refine OpsW.q rfl (q_move (v := .bool true) rfl) ?_
              refine OpsW.qw rfl rfl (o_call rfl Try.func10 rfl rfl (awake_con)) ?_
              refine OpsW.q rfl (q_and2 rfl rfl rfl) ?_
              refine OpsW.q rfl (q_assign (v := .bool _) rfl) ?_
              refine OpsW.nil ?_
              refine SeqP.go ?_
              refine AW.ret ?_
              refine RetP.mk1 (H' := H) (v1 := .bool _) rfl rfl  hS11.le ?_
              exact ⟨rfl, rfl⟩
          ·
            rintro _ _ ⟨rfl, rfl⟩
            refine AnyW.onlyQ 8 rfl (by kernel_rfl) rfl (dst_lt rfl) (q_extract (v := S _) rfl rfl) ?_
            refine AnyW.onlyQ 10 rfl (by kernel_rfl) rfl (dst_lt rfl) (q_assign (v := S _) rfl) ?_
            refine AnyW.onlyQ 11 rfl (by kernel_rfl) rfl (dst_lt rfl) (q_assign (v := .int _ _) rfl) ?_
            refine AnyW.done (by kernel_rfl) ?_
            refine SeqP.go ?_
            refine AW.seq ?_
            refine AW.region ?_
            refine OpsW.q rfl (q_move (v := .int _ _) rfl) ?_
            refine OpsW.q rfl (q_move (v := .int _ _) rfl) ?_
            refine OpsW.q rfl (o_call rfl Try.func16 rfl rfl (SizeR_con _)) ?_
            rw [sizeS_b]
            refine OpsW.q rfl (q_eql rfl rfl) ?_
            refine OpsW.q rfl (q_move (v := .bool true) rfl) ?_
            refine OpsW.qw rfl rfl (q_move (v := .int _ _) rfl) ?_
            refine OpsW.qw rfl rfl (q_eql rfl rfl) ?_
            refine OpsW.qw rfl rfl (q_move (v := .int _ _) rfl) ?_
            refine OpsW.qw rfl rfl (q_gtr rfl rfl) ?_
            refine OpsW.qw rfl rfl (q_eqlB Try.underlying4 rfl rfl) ?_
            refine OpsW.q rfl (q_and2 rfl rfl rfl) ?_
            refine OpsW.q rfl (q_move (v := .bool true) rfl) ?_
            refine OpsW.qw rfl rfl (q_move (v := .int _ _) rfl) ?_
            refine OpsW.qw rfl rfl (q_gtr rfl rfl) ?_
            refine OpsW.qw rfl rfl (q_move (v := .bool true) rfl) ?_
            refine OpsW.qw rfl rfl (q_move (v := S _) rfl) ?_
            refine OpsW.qw rfl rfl (q_lenS Try.underlying9 rfl) ?_
            refine OpsW.qw rfl rfl (q_eql rfl rfl) ?_
            rw [decide_eq_true h17]
            refine OpsW.qw rfl rfl (q_and2 rfl rfl rfl) ?_
            refine OpsW.qw rfl rfl (q_move (v := .bool true) rfl) ?_
            refine OpsW.p rfl rfl ?_
            refine OpsW.p rfl rfl ?_
            refine OpsW.p rfl rfl ?_
            refine OpsW.pu rfl rfl ?_
            refine OpsW.pu rfl rfl ?_
            refine OpsW.p rfl rfl ?_
            refine OpsW.p rfl rfl ?_
            refine OpsW.pu rfl rfl ?_
            refine OpsW.pu rfl rfl ?_
            refine OpsW.p rfl rfl ?_
            refine OpsW.qw rfl rfl (q_or2 (B := false) rfl rfl rfl) ?_
            refine OpsW.q rfl (q_and2 rfl rfl rfl) ?_
            refine OpsW.q rfl (q_move (v := .bool true) rfl) ?_
            refine OpsW.qw rfl rfl (o_call rfl Try.func10 rfl rfl (awake_con)) ?_
            refine OpsW.q rfl (q_and2 rfl rfl rfl) ?_
            refine OpsW.q rfl (q_assign (v := .bool _) rfl) ?_
            refine OpsW.nil ?_
            refine SeqP.go ?_
            refine AW.ret ?_
            refine RetP.mk1 (H' := H) (v1 := .bool _) rfl rfl  hS11.le ?_
            exact ⟨rfl, rfl⟩
      ·
        rintro _ _ ⟨rfl, rfl⟩
        refine AnyW.only 2 rfl (by kernel_rfl) rfl (dst_lt rfl) (s_makeSliceB (by_ := 1) hS10 Try.underlying33 (by kernel_rfl) (by kernel_rfl) (by kernel_rfl) rfl rfl (by omega) (by omega) (by omega) (by omega) (by unfold maxLen; omega)) ?_
        rintro v11 H12 hS12
        clear hS10
        refine AnyW.onlyQ 3 rfl (by kernel_rfl) rfl (dst_lt rfl) (q_stringB (hS12.vec at0) Try.underlying33 Try.underlying5 Try.underlying9 rfl) ?_
        refine AnyW.onlyQ 6 rfl (by kernel_rfl) rfl (dst_lt rfl) (o_call rfl Try.func17 rfl rfl (Seal_con (by decide) (by decide))) ?_
        rw [sizes_b.1]
        have h17 : (((slSeal 4867 (List.replicate (Int.toNat 32) 0) (List.replicate (Int.toNat 12) 0) [] [120]).1.length : Nat) : Int) = 17 := by rw [sizes_b.2]; rfl
        refine AnyW.onlyQ 7 rfl (by kernel_rfl) rfl (dst_lt rfl) (q_move (v := .tuple _) rfl) ?_
        refine AnyW.two 8 9 rfl rfl (by kernel_rfl) rfl rfl (dst_lt rfl) (dst_lt rfl) (q_extract (v := S _) rfl rfl) (q_extract (v := .int _ _) rfl rfl) ?_ ?_
        ·
          rintro _ _ ⟨rfl, rfl⟩
          refine AnyW.two 9 10 rfl rfl (by kernel_rfl) rfl rfl (dst_lt rfl) (dst_lt rfl) (q_extract (v := .int _ _) rfl rfl) (q_assign (v := S _) rfl) ?_ ?_
          ·
            rintro _ _ ⟨rfl, rfl⟩
            refine AnyW.onlyQ 10 rfl (by kernel_rfl) rfl (dst_lt rfl) (q_assign (v := S _) rfl) ?_
            refine AnyW.onlyQ 11 rfl (by kernel_rfl) rfl (dst_lt rfl) (q_assign (v := .int _ _) rfl) ?_
            refine AnyW.done (by kernel_rfl) ?_
            refine SeqP.go ?_
            refine AW.seq ?_
            refine AW.region ?_
            refine OpsW.q rfl (q_move (v := .int _ _) rfl) ?_
            refine OpsW.q rfl (q_move (v := .int _ _) rfl) ?_
            refine OpsW.q rfl (o_call rfl Try.func16 rfl rfl (SizeR_con _)) ?_
            rw [sizeS_b]
            refine OpsW.q rfl (q_eql rfl rfl) ?_
            refine OpsW.q rfl (q_move (v := .bool true) rfl) ?_
            refine OpsW.qw rfl rfl (q_move (v := .int _ _) rfl) ?_
            refine OpsW.qw rfl rfl (q_eql rfl rfl) ?_
            refine OpsW.qw rfl rfl (q_move (v := .int _ _) rfl) ?_
            refine OpsW.qw rfl rfl (q_gtr rfl rfl) ?_
            refine OpsW.qw rfl rfl (q_eqlB Try.underlying4 rfl rfl) ?_
            refine OpsW.q rfl (q_and2 rfl rfl rfl) ?_
            refine OpsW.q rfl (q_move (v := .bool true) rfl) ?_
            refine OpsW.qw rfl rfl (q_move (v := .int _ _) rfl) ?_
            refine OpsW.qw rfl rfl (q_gtr rfl rfl) ?_
            refine OpsW.qw rfl rfl (q_move (v := .bool true) rfl) ?_
            refine OpsW.qw rfl rfl (q_move (v := S _) rfl) ?_
            refine OpsW.qw rfl rfl (q_lenS Try.underlying9 rfl) ?_
            refine OpsW.qw rfl rfl (q_eql rfl rfl) ?_
            rw [decide_eq_true h17]
            refine OpsW.qw rfl rfl (q_and2 rfl rfl rfl) ?_
            refine OpsW.qw rfl rfl (q_move (v := .bool true) rfl) ?_
            refine OpsW.p rfl rfl ?_
            refine OpsW.p rfl rfl ?_
            refine OpsW.p rfl rfl ?_
            refine OpsW.pu rfl rfl ?_
            refine OpsW.pu rfl rfl ?_
            refine OpsW.p rfl rfl ?_
            refine OpsW.p rfl rfl ?_
            refine OpsW.pu rfl rfl ?_
            refine OpsW.pu rfl rfl ?_
            refine OpsW.p rfl rfl ?_
            refine OpsW.qw rfl rfl (q_or2 (B := false) rfl rfl rfl) ?_
            refine OpsW.q rfl (q_and2 rfl rfl rfl) ?_
            refine OpsW.q rfl (q_move (v := .bool true) rfl) ?_
            refine OpsW.qw rfl rfl (o_call rfl Try.func10 rfl rfl (awake_con)) ?_
            refine OpsW.q rfl (q_and2 rfl rfl rfl) ?_
            refine OpsW.q rfl (q_assign (v := .bool _) rfl) ?_
            refine OpsW.nil ?_
            refine SeqP.go ?_
            refine AW.ret ?_
            refine RetP.mk1 (H' := H) (v1 := .bool _) rfl rfl  hS12.le ?_
            exact ⟨rfl, rfl⟩
          ·
            rintro _ _ ⟨rfl, rfl⟩
            refine AnyW.onlyQ 9 rfl (by kernel_rfl) rfl (dst_lt rfl) (q_extract (v := .int _ _) rfl rfl) ?_
            refine AnyW.onlyQ 11 rfl (by kernel_rfl) rfl (dst_lt rfl) (q_assign (v := .int _ _) rfl) ?_
            refine AnyW.done (by kernel_rfl) ?_
            refine SeqP.go ?_
            refine AW.seq ?_
            refine AW.region ?_
            refine OpsW.q rfl (q_move (v := .int _ _) rfl) ?_
            refine OpsW.q rfl (q_move (v := .int _ _) rfl) ?_
            refine OpsW.q rfl (o_call rfl Try.func16 rfl rfl (SizeR_con _)) ?_
            rw [sizeS_b]
            refine OpsW.q rfl (q_eql rfl rfl) ?_
            refine OpsW.q rfl (q_move (v := .bool true) rfl) ?_
            refine OpsW.qw rfl rfl (q_move (v := .int _ _) rfl) ?_
            refine OpsW.qw rfl rfl (q_eql rfl rfl) ?_
            refine OpsW.qw rfl rfl (q_move (v := .int _ _) rfl) ?_
            refine OpsW.qw rfl rfl (q_gtr rfl rfl) ?_
            refine OpsW.qw rfl rfl (q_eqlB Try.underlying4 rfl rfl) ?_
            refine OpsW.q rfl (q_and2 rfl rfl rfl) ?_
            refine OpsW.q rfl (q_move (v := .bool true) rfl) ?_
            refine OpsW.qw rfl rfl (q_move (v := .int _ _) rfl) ?_
            refine OpsW.qw rfl rfl (q_gtr rfl rfl) ?_
            refine OpsW.qw rfl rfl (q_move (v := .bool true) rfl) ?_
            refine OpsW.qw rfl rfl (q_move (v := S _) rfl) ?_
            refine OpsW.qw rfl rfl (q_lenS Try.underlying9 rfl) ?_
            refine OpsW.qw rfl rfl (q_eql rfl rfl) ?_
            rw [decide_eq_true h17]
            refine OpsW.qw rfl rfl (q_and2 rfl rfl rfl) ?_
            refine OpsW.qw rfl rfl (q_move (v := .bool true) rfl) ?_
            refine OpsW.p rfl rfl ?_
            refine OpsW.p rfl rfl ?_
            refine OpsW.p rfl rfl ?_
            refine OpsW.pu rfl rfl ?_
            refine OpsW.pu rfl rfl ?_
            refine OpsW.p rfl rfl ?_
            refine OpsW.p rfl rfl ?_
            refine OpsW.pu rfl rfl ?_
            refine OpsW.pu rfl rfl ?_
            refine OpsW.p rfl rfl ?_
            refine OpsW.qw rfl rfl (q_or2 (B := false) rfl rfl rfl) ?_
            refine OpsW.q rfl (q_and2 rfl rfl rfl) ?_
            refine OpsW.q rfl (q_move (v := .bool true) rfl) ?_
            refine OpsW.qw rfl rfl (o_call rfl Try.func10 rfl rfl (awake_con)) ?_
            refine OpsW.q rfl (q_and2 rfl rfl rfl) ?_
            refine OpsW.q rfl (q_assign (v := .bool _) rfl) ?_
            refine OpsW.nil ?_
            refine SeqP.go ?_
            refine AW.ret ?_
            refine RetP.mk1 (H' := H) (v1 := .bool _) rfl rfl  hS12.le ?_
            exact ⟨rfl, rfl⟩
        ·
          rintro _ _ ⟨rfl, rfl⟩
          refine AnyW.onlyQ 8 rfl (by kernel_rfl) rfl (dst_lt rfl) (q_extract (v := S _) rfl rfl) ?_
          refine AnyW.onlyQ 10 rfl (by kernel_rfl) rfl (dst_lt rfl) (q_assign (v := S _) rfl) ?_
          refine AnyW.onlyQ 11 rfl (by kernel_rfl) rfl (dst_lt rfl) (q_assign (v := .int _ _) rfl) ?_
          refine AnyW.done (by kernel_rfl) ?_
          refine SeqP.go ?_
          refine AW.seq ?_
          refine AW.region ?_
          refine OpsW.q rfl (q_move (v := .int _ _) rfl) ?_
          refine OpsW.q rfl (q_move (v := .int _ _) rfl) ?_
          refine OpsW.q rfl (o_call rfl Try.func16 rfl rfl (SizeR_con _)) ?_
          rw [sizeS_b]
          refine OpsW.q rfl (q_eql rfl rfl) ?_
          refine OpsW.q rfl (q_move (v := .bool true) rfl) ?_
          refine OpsW.qw rfl rfl (q_move (v := .int _ _) rfl) ?_
          refine OpsW.qw rfl rfl (q_eql rfl rfl) ?_
          refine OpsW.qw rfl rfl (q_move (v := .int _ _) rfl) ?_
          refine OpsW.qw rfl rfl (q_gtr rfl rfl) ?_
          refine OpsW.qw rfl rfl (q_eqlB Try.underlying4 rfl rfl) ?_
          refine OpsW.q rfl (q_and2 rfl rfl rfl) ?_
          refine OpsW.q rfl (q_move (v := .bool true) rfl) ?_
          refine OpsW.qw rfl rfl (q_move (v := .int _ _) rfl) ?_
          refine OpsW.qw rfl rfl (q_gtr rfl rfl) ?_
          refine OpsW.qw rfl rfl (q_move (v := .bool true) rfl) ?_
          refine OpsW.qw rfl rfl (q_move (v := S _) rfl) ?_
          refine OpsW.qw rfl rfl (q_lenS Try.underlying9 rfl) ?_
          refine OpsW.qw rfl rfl (q_eql rfl rfl) ?_
          rw [decide_eq_true h17]
          refine OpsW.qw rfl rfl (q_and2 rfl rfl rfl) ?_
          refine OpsW.qw rfl rfl (q_move (v := .bool true) rfl) ?_
          refine OpsW.p rfl rfl ?_
          refine OpsW.p rfl rfl ?_
          refine OpsW.p rfl rfl ?_
          refine OpsW.pu rfl rfl ?_
          refine OpsW.pu rfl rfl ?_
          refine OpsW.p rfl rfl ?_
          refine OpsW.p rfl rfl ?_
          refine OpsW.pu rfl rfl ?_
          refine OpsW.pu rfl rfl ?_
          refine OpsW.p rfl rfl ?_
          refine OpsW.qw rfl rfl (q_or2 (B := false) rfl rfl rfl) ?_
          refine OpsW.q rfl (q_and2 rfl rfl rfl) ?_
          refine OpsW.q rfl (q_move (v := .bool true) rfl) ?_
          refine OpsW.qw rfl rfl (o_call rfl Try.func10 rfl rfl (awake_con)) ?_
          refine OpsW.q rfl (q_and2 rfl rfl rfl) ?_
          refine OpsW.q rfl (q_assign (v := .bool _) rfl) ?_
          refine OpsW.nil ?_
          refine SeqP.go ?_
          refine AW.ret ?_
          refine RetP.mk1 (H' := H) (v1 := .bool _) rfl rfl  hS12.le ?_
          exact ⟨rfl, rfl⟩
  ·
    refine AW.region ?_
    refine OpsW.q rfl (q_move (v := .int _ _) rfl) ?_
    refine OpsW.q rfl (o_call rfl Try.func15 rfl rfl (Size_con _)) ?_
    rw [sizeS_no hz1 hz2]
    refine OpsW.q rfl (q_assign (v := .int _ _) rfl) ?_
    refine OpsW.nil ?_
    refine SeqP.go ?_
    refine AW.seq ?_
    refine AW.steps rfl 12 rfl ?_
    refine AnyW.first 0 rfl (by kernel_rfl) (by kernel_rfl) (by kernel_rfl) rfl (dst_lt rfl) (v_move (v := .int _ _) rfl) ?_
    refine AnyW.first 1 rfl (by kernel_rfl) (by kernel_rfl) (by kernel_rfl) rfl (dst_lt rfl) (v_move (v := .int _ _) rfl) ?_
    refine AnyW.two 2 4 rfl rfl (by kernel_rfl) rfl rfl (dst_lt rfl) (dst_lt rfl) (s_makeSliceB (by_ := 1) hS0 Try.underlying33 (by kernel_rfl) (by kernel_rfl) (by kernel_rfl) rfl rfl (by omega) (by omega) (by omega) (by omega) (by omega)) (s_makeSliceB (by_ := 1) hS0 Try.underlying33 (by kernel_rfl) (by kernel_rfl) (by kernel_rfl) rfl rfl (by omega) (by omega) (by omega) (by omega) (by unfold maxLen; omega)) ?_ ?_
    ·
      rintro v11 H13 hS13
      clear hS0
      refine AnyW.two 3 4 rfl rfl (by kernel_rfl) rfl rfl (dst_lt rfl) (dst_lt rfl) (q_stringB (hS13.vec at0) Try.underlying33 Try.underlying5 Try.underlying9 rfl) (s_makeSliceB (by_ := 1) hS13 Try.underlying33 (by kernel_rfl) (by kernel_rfl) (by kernel_rfl) rfl rfl (by omega) (by omega) (by omega) (by omega) (by unfold maxLen; omega)) ?_ ?_
      ·
        rintro _ _ ⟨rfl, rfl⟩
        refine AnyW.only 4 rfl (by kernel_rfl) rfl (dst_lt rfl) (s_makeSliceB (by_ := 1) hS13 Try.underlying33 (by kernel_rfl) (by kernel_rfl) (by kernel_rfl) rfl rfl (by omega) (by omega) (by omega) (by omega) (by unfold maxLen; omega)) ?_
        rintro v13 H14 hS14
        clear hS13
        refine AnyW.onlyQ 5 rfl (by kernel_rfl) rfl (dst_lt rfl) (q_stringB (hS14.vec at0) Try.underlying33 Try.underlying5 Try.underlying9 rfl) ?_
        refine AnyW.onlyQ 6 rfl (by kernel_rfl) rfl (dst_lt rfl) (o_call rfl Try.func17 rfl rfl (Seal_con (by decide) (by decide))) ?_
        rw [slSeal_no _ _ _ _ hz1 hz2]
        refine AnyW.onlyQ 7 rfl (by kernel_rfl) rfl (dst_lt rfl) (q_move (v := .tuple _) rfl) ?_
        refine AnyW.two 8 9 rfl rfl (by kernel_rfl) rfl rfl (dst_lt rfl) (dst_lt rfl) (q_extract (v := S _) rfl rfl) (q_extract (v := .int _ _) rfl rfl) ?_ ?_
        ·
          rintro _ _ ⟨rfl, rfl⟩
          refine AnyW.two 9 10 rfl rfl (by kernel_rfl) rfl rfl (dst_lt rfl) (dst_lt rfl) (q_extract (v := .int _ _) rfl rfl) (q_assign (v := S _) rfl) ?_ ?_
          ·
            rintro _ _ ⟨rfl, rfl⟩
            refine AnyW.onlyQ 10 rfl (by kernel_rfl) rfl (dst_lt rfl) (q_assign (v := S _) rfl) ?_
            refine AnyW.onlyQ 11 rfl (by kernel_rfl) rfl (dst_lt rfl) (q_assign (v := .int _ _) rfl) ?_
            refine AnyW.done (by kernel_rfl) ?_
            refine SeqP.go ?_
            refine AW.seq ?_
            refine AW.region ?_
            refine OpsW.q rfl (q_move (v := .int _ _) rfl) ?_
            refine OpsW.q rfl (q_move (v := .int _ _) rfl) ?_
            refine OpsW.q rfl (o_call rfl Try.func16 rfl rfl (SizeR_con _)) ?_
            rw [sizeS_no hz1 hz2]
            refine OpsW.q rfl (q_eql rfl rfl) ?_
            refine OpsW.q rfl (q_move (v := .bool true) rfl) ?_
            refine OpsW.qw rfl rfl (q_move (v := .int _ _) rfl) ?_
            refine OpsW.qw rfl rfl (q_eql rfl rfl) ?_
            refine OpsW.qw rfl rfl (q_move (v := .int _ _) rfl) ?_
            refine OpsW.qw rfl rfl (q_gtr rfl rfl) ?_
            refine OpsW.qw rfl rfl (q_eqlB Try.underlying4 rfl rfl) ?_
            refine OpsW.q rfl (q_and2 rfl rfl rfl) ?_
            refine OpsW.q rfl (q_move (v := .bool true) rfl) ?_
            refine OpsW.qw rfl rfl (q_move (v := .int _ _) rfl) ?_
            refine OpsW.qw rfl rfl (q_gtr rfl rfl) ?_
            refine OpsW.qw rfl rfl (q_move (v := .bool false) rfl) ?_
            refine OpsW.p rfl rfl ?_
            refine OpsW.p rfl rfl ?_
            refine OpsW.p rfl rfl ?_
            refine OpsW.qw rfl rfl (q_and2 (B := false) rfl rfl rfl) ?_
            refine OpsW.qw rfl rfl (q_move (v := .bool false) rfl) ?_
            refine OpsW.qw rfl rfl (q_move (v := .int _ _) rfl) ?_
            refine OpsW.qw rfl rfl (q_eql rfl rfl) ?_
            refine OpsW.qw rfl rfl (q_move (v := .bool true) rfl) ?_
            refine OpsW.qw rfl rfl (q_move (v := S _) rfl) ?_
            refine OpsW.qw rfl rfl (q_eqS rfl rfl) ?_
            refine OpsW.qw rfl rfl (q_and2 rfl rfl rfl) ?_
            refine OpsW.qw rfl rfl (q_move (v := .bool true) rfl) ?_
            refine OpsW.qw rfl rfl (q_move (v := .int _ _) rfl) ?_
            refine OpsW.qw rfl rfl (q_eql rfl rfl) ?_
            refine OpsW.qw rfl rfl (q_and2 rfl rfl rfl) ?_
            refine OpsW.qw rfl rfl (q_or2 rfl rfl rfl) ?_
            refine OpsW.q rfl (q_and2 rfl rfl rfl) ?_
            refine OpsW.q rfl (q_move (v := .bool true) rfl) ?_
            refine OpsW.qw rfl rfl (o_call rfl Try.func10 rfl rfl (awake_con)) ?_
            refine OpsW.q rfl (q_and2 rfl rfl rfl) ?_
            refine OpsW.q rfl (q_assign (v := .bool _) rfl) ?_
            refine OpsW.nil ?_
            refine SeqP.go ?_
            refine AW.ret ?_
            refine RetP.mk1 (H' := H) (v1 := .bool _) rfl rfl  hS14.le ?_
            exact ⟨rfl, rfl⟩
          ·
            rintro _ _ ⟨rfl, rfl⟩
            refine AnyW.onlyQ 9 rfl (by kernel_rfl) rfl (dst_lt rfl) (q_extract (v := .int _ _) rfl rfl) ?_
            refine AnyW.onlyQ 11 rfl (by kernel_rfl) rfl (dst_lt rfl) (q_assign (v := .int _ _) rfl) ?_
            refine AnyW.done (by kernel_rfl) ?_
            refine SeqP.go ?_
            refine AW.seq ?_
            refine AW.region ?_
            refine OpsW.q rfl (q_move (v := .int _ _) rfl) ?_
            refine OpsW.q rfl (q_move (v := .int _ _) rfl) ?_
            refine OpsW.q rfl (o_call rfl Try.func16 rfl rfl (SizeR_con _)) ?_
            rw [sizeS_no hz1 hz2]
            refine OpsW.q rfl (q_eql rfl rfl) ?_
            refine OpsW.q rfl (q_move (v := .bool true) rfl) ?_
            refine OpsW.qw rfl rfl (q_move (v := .int _ _) rfl) ?_
            refine OpsW.qw rfl rfl (q_eql rfl rfl) ?_
            refine OpsW.qw rfl rfl (q_move (v := .int _ _) rfl) ?_
            refine OpsW.qw rfl rfl (q_gtr rfl rfl) ?_
            refine OpsW.qw rfl rfl (q_eqlB Try.underlying4 rfl rfl) ?_
            refine OpsW.q rfl (q_and2 rfl rfl rfl) ?_
            refine OpsW.q rfl (q_move (v := .bool true) rfl) ?_
            refine OpsW.qw rfl rfl (q_move (v := .int _ _) rfl) ?_
            refine OpsW.qw rfl rfl (q_gtr rfl rfl) ?_
            refine OpsW.qw rfl rfl (q_move (v := .bool false) rfl) ?_
            refine OpsW.p rfl rfl ?_
            refine OpsW.p rfl rfl ?_
            refine OpsW.p rfl rfl ?_
            refine OpsW.qw rfl rfl (q_and2 (B := false) rfl rfl rfl) ?_
            refine OpsW.qw rfl rfl (q_move (v := .bool false) rfl) ?_
            refine OpsW.qw rfl rfl (q_move (v := .int _ _) rfl) ?_
            refine OpsW.qw rfl rfl (q_eql rfl rfl) ?_
            refine OpsW.qw rfl rfl (q_move (v := .bool true) rfl) ?_
            refine OpsW.qw rfl rfl (q_move (v := S _) rfl) ?_
            refine OpsW.qw rfl rfl (q_eqS rfl rfl) ?_
            refine OpsW.qw rfl rfl (q_and2 rfl rfl rfl) ?_
            refine OpsW.qw rfl rfl (q_move (v := .bool true) rfl) ?_
            refine OpsW.qw rfl rfl (q_move (v := .int _ _) rfl) ?_
            refine OpsW.qw rfl rfl (q_eql rfl rfl) ?_
            refine OpsW.qw rfl rfl (q_and2 rfl rfl rfl) ?_
            refine OpsW.qw rfl rfl (q_or2 rfl rfl rfl) ?_
            refine OpsW.q rfl (q_and2 rfl rfl rfl) ?_
            refine OpsW.q rfl (q_move (v := .bool true) rfl) ?_
            refine OpsW.qw rfl rfl (o_call rfl Try.func10 rfl rfl (awake_con)) ?_
            refine OpsW.q rfl (q_and2 rfl rfl rfl) ?_
            refine OpsW.q rfl (q_assign (v := .bool _) rfl) ?_
            refine OpsW.nil ?_
            refine SeqP.go ?_
            refine AW.ret ?_
            refine RetP.mk1 (H' := H) (v1 := .bool _) rfl rfl  hS14.le ?_
            exact ⟨rfl, rfl⟩
        ·
          rintro _ _ ⟨rfl, rfl⟩
          refine AnyW.onlyQ 8 rfl (by kernel_rfl) rfl (dst_lt rfl) (q_extract (v := S _) rfl rfl) ?_
          refine AnyW.onlyQ 10 rfl (by kernel_rfl) rfl (dst_lt rfl) (q_assign (v := S _) rfl) ?_
          refine AnyW.onlyQ 11 rfl (by kernel_rfl) rfl (dst_lt rfl) (q_assign (v := .int _ _) rfl) ?_
          refine AnyW.done (by kernel_rfl) ?_
          refine SeqP.go ?_
          refine AW.seq ?_
          refine AW.region ?_
          refine OpsW.q rfl (q_move (v := .int _ _) rfl) ?_
          refine OpsW.q rfl (q_move (v := .int _ _) rfl) ?_
          refine OpsW.q rfl (o_call rfl Try.func16 rfl rfl (SizeR_con _)) ?_
          rw [sizeS_no hz1 hz2]
          refine OpsW.q rfl (q_eql rfl rfl) ?_
          refine OpsW.q rfl (q_move (v := .bool true) rfl) ?_
          refine OpsW.qw rfl rfl (q_move (v := .int _ _) rfl) ?_
          refine OpsW.qw rfl rfl (q_eql rfl rfl) ?_
          refine OpsW.qw rfl rfl (q_move (v := .int _ _) rfl) ?_
          refine OpsW.qw rfl rfl (q_gtr rfl rfl) ?_
          refine OpsW.qw rfl rfl (q_eqlB Try.underlying4 rfl rfl) ?_
          refine OpsW.q rfl (q_and2 rfl rfl rfl) ?_
          refine OpsW.q rfl (q_move (v := .bool true) rfl) ?_
          refine OpsW.qw rfl rfl (q_move (v := .int _ _) rfl) ?_
          refine OpsW.qw rfl rfl (q_gtr rfl rfl) ?_
          refine OpsW.qw rfl rfl (q_move (v := .bool false) rfl) ?_
          refine OpsW.p rfl rfl ?_
          refine OpsW.p rfl rfl ?_
          refine OpsW.p rfl rfl ?_
          refine OpsW.qw rfl rfl (q_and2 (B := false) rfl rfl rfl) ?_
          refine OpsW.qw rfl rfl (q_move (v := .bool false) rfl) ?_
          refine OpsW.qw rfl rfl (q_move (v := .int _ _) rfl) ?_
          refine OpsW.qw rfl rfl (q_eql rfl rfl) ?_
          refine OpsW.qw rfl rfl (q_move (v := .bool true) rfl) ?_
          refine OpsW.qw rfl rfl (q_move (v := S _) rfl) ?_
          refine OpsW.qw rfl rfl (q_eqS rfl rfl) ?_
          refine OpsW.qw rfl rfl (q_and2 rfl rfl rfl) ?_
          refine OpsW.qw rfl rfl (q_move (v := .bool true) rfl) ?_
          refine OpsW.qw rfl rfl (q_move (v := .int _ _) rfl) ?_
          refine OpsW.qw rfl rfl (q_eql rfl rfl) ?_
          refine OpsW.qw rfl rfl (q_and2 rfl rfl rfl) ?_
          refine OpsW.qw rfl rfl (q_or2 rfl rfl rfl) ?_
          refine OpsW.q rfl (q_and2 rfl rfl rfl) ?_
          refine OpsW.q rfl (q_move (v := .bool true) rfl) ?_
          refine OpsW.qw rfl rfl (o_call rfl Try.func10 rfl rfl (awake_con)) ?_
          refine OpsW.q rfl (q_and2 rfl rfl rfl) ?_
          refine OpsW.q rfl (q_assign (v := .bool _) rfl) ?_
          refine OpsW.nil ?_
          refine SeqP.go ?_
          refine AW.ret ?_
          refine RetP.mk1 (H' := H) (v1 := .bool _) rfl rfl  hS14.le ?_
          exact ⟨rfl, rfl⟩
      ·
        rintro v13 H15 hS15
        clear hS13
        refine AnyW.two 3 5 rfl rfl (by kernel_rfl) rfl rfl (dst_lt rfl) (dst_lt rfl) (q_stringB (hS15.vec at1) Try.underlying33 Try.underlying5 Try.underlying9 rfl) (q_stringB (hS15.vec at0) Try.underlying33 Try.underlying5 Try.underlying9 rfl) ?_ ?_
        ·
          rintro _ _ ⟨rfl, rfl⟩
          refine AnyW.onlyQ 5 rfl (by kernel_rfl) rfl (dst_lt rfl) (q_stringB (hS15.vec at0) Try.underlying33 Try.underlying5 Try.underlying9 rfl) ?_
          refine AnyW.onlyQ 6 rfl (by kernel_rfl) rfl (dst_lt rfl) (o_call rfl Try.func17 rfl rfl (Seal_con (by decide) (by decide))) ?_
          rw [slSeal_no _ _ _ _ hz1 hz2]
          refine AnyW.onlyQ 7 rfl (by kernel_rfl) rfl (dst_lt rfl) (q_move (v := .tuple _) rfl) ?_
          refine AnyW.two 8 9 rfl rfl (by kernel_rfl) rfl rfl (dst_lt rfl) (dst_lt rfl) (q_extract (v := S _) rfl rfl) (q_extract (v := .int _ _) rfl rfl) ?_ ?_
          ·
            rintro _ _ ⟨rfl, rfl⟩
            refine AnyW.two 9 10 rfl rfl (by kernel_rfl) rfl rfl (dst_lt rfl) (dst_lt rfl) (q_extract (v := .int _ _) rfl rfl) (q_assign (v := S _) rfl) ?_ ?_
            ·
              rintro _ _ ⟨rfl, rfl⟩
              refine AnyW.onlyQ 10 rfl (by kernel_rfl) rfl (dst_lt rfl) (q_assign (v := S _) rfl) ?_
              refine AnyW.onlyQ 11 rfl (by kernel_rfl) rfl (dst_lt rfl) (q_assign (v := .int _ _) rfl) ?_
              refine AnyW.done (by kernel_rfl) ?_
              refine SeqP.go ?_
              refine AW.seq ?_
              refine AW.region ?_
              refine OpsW.q rfl (q_move (v := .int _ _) rfl) ?_
              refine OpsW.q rfl (q_move (v := .int _ _) rfl) ?_
              refine OpsW.q rfl (o_call rfl Try.func16 rfl rfl (SizeR_con _)) ?_
              rw [sizeS_no hz1 hz2]
              refine OpsW.q rfl (q_eql rfl rfl) ?_
              refine OpsW.q rfl (q_move (v := .bool true) rfl) ?_
              refine OpsW.qw rfl rfl (q_move (v := .int _ _) rfl) ?_
              refine OpsW.qw rfl rfl (q_eql rfl rfl) ?_
              refine OpsW.qw rfl rfl (q_move (v := .int _ _) rfl) ?_
              refine OpsW.qw rfl rfl (q_gtr rfl rfl) ?_
              refine OpsW.qw rfl rfl (q_eqlB Try.underlying4 rfl rfl) ?_
              refine OpsW.q rfl (q_and2 rfl rfl rfl) ?_
              refine OpsW.q rfl (q_move (v := .bool true) rfl) ?_
              refine OpsW.qw rfl rfl (q_move (v := .int _ _) rfl) ?_
              refine OpsW.qw rfl rfl (q_gtr rfl rfl) ?_
              refine OpsW.qw rfl rfl (q_move (v := .bool false) rfl) ?_
              refine OpsW.p rfl rfl ?_
              refine OpsW.p rfl rfl ?_
              refine OpsW.p rfl rfl ?_
              refine OpsW.qw rfl rfl (q_and2 (B := false) rfl rfl rfl) ?_
              refine OpsW.qw rfl rfl (q_move (v := .bool false) rfl) ?_
              refine OpsW.qw rfl rfl (q_move (v := .int _ _) rfl) ?_
              refine OpsW.qw rfl rfl (q_eql rfl rfl) ?_
              refine OpsW.qw rfl rfl (q_move (v := .bool true) rfl) ?_
              refine OpsW.qw rfl rfl (q_move (v := S _) rfl) ?_
              refine OpsW.qw rfl rfl (q_eqS rfl rfl) ?_
              refine OpsW.qw rfl rfl (q_and2 rfl rfl rfl) ?_
              refine OpsW.qw rfl rfl (q_move (v := .bool true) rfl) ?_
              refine OpsW.qw rfl rfl (q_move (v := .int _ _) rfl) ?_
              refine OpsW.qw rfl rfl (q_eql rfl rfl) ?_
              refine OpsW.qw rfl rfl (q_and2 rfl rfl rfl) ?_
              refine OpsW.qw rfl rfl (q_or2 rfl rfl rfl) ?_
              refine OpsW.q rfl (q_and2 rfl rfl rfl) ?_
              refine OpsW.q rfl (q_move (v := .bool true) rfl) ?_
              refine OpsW.qw rfl rfl (o_call rfl Try.func10 rfl rfl (awake_con)) ?_
              refine OpsW.q rfl (q_and2 rfl rfl rfl) ?_
              refine OpsW.q rfl (q_assign (v := .bool _) rfl) ?_
              refine OpsW.nil ?_
              refine SeqP.go ?_
              refine AW.ret ?_
              refine RetP.mk1 (H' := H) (v1 := .bool _) rfl rfl  hS15.le ?_
              exact ⟨rfl, rfl⟩
            ·
              rintro _ _ ⟨rfl, rfl⟩
              refine AnyW.onlyQ 9 rfl (by kernel_rfl) rfl (dst_lt rfl) (q_extract (v := .int _ _) rfl rfl) ?_
              refine AnyW.onlyQ 11 rfl (by kernel_rfl) rfl (dst_lt rfl) (q_assign (v := .int _ _) rfl) ?_
              refine AnyW.done (by kernel_rfl) ?_
              refine SeqP.go ?_
              refine AW.seq ?_
              refine AW.region ?_
              refine OpsW.q rfl (q_move (v := .int _ _) rfl) ?_
              refine OpsW.q rfl (q_move (v := .int _ _) rfl) ?_
              refine OpsW.q rfl (o_call rfl Try.func16 rfl rfl (SizeR_con _)) ?_
              rw [sizeS_no hz1 hz2]
              refine OpsW.q rfl (q_eql rfl rfl) ?_
              refine OpsW.q rfl (q_move (v := .bool true) rfl) ?_
              refine OpsW.qw rfl rfl (q_move (v := .int _ _) rfl) ?_
              refine OpsW.qw rfl rfl (q_eql rfl rfl) ?_
              refine OpsW.qw rfl rfl (q_move (v := .int _ _) rfl) ?_
              refine OpsW.qw rfl rfl (q_gtr rfl rfl) ?_
              refine OpsW.qw rfl rfl (q_eqlB Try.underlying4 rfl rfl) ?_
              refine OpsW.q rfl (q_and2 rfl rfl rfl) ?_
              refine OpsW.q rfl (q_move (v := .bool true) rfl) ?_
              refine OpsW.qw rfl rfl (q_move (v := .int _ _) rfl) ?_
              refine OpsW.qw rfl rfl (q_gtr rfl rfl) ?_
              refine OpsW.qw rfl rfl (q_move (v := .bool false) rfl) ?_
              refine OpsW.p rfl rfl ?_
              refine OpsW.p rfl rfl ?_
              refine OpsW.p rfl rfl ?_
              refine OpsW.qw rfl rfl (q_and2 (B := false) rfl rfl rfl) ?_
              refine OpsW.qw rfl rfl (q_move (v := .bool false) rfl) ?_
              refine OpsW.qw rfl rfl (q_move (v := .int _ _) rfl) ?_
              refine OpsW.qw rfl rfl (q_eql rfl rfl) ?_
              refine OpsW.qw rfl rfl (q_move (v := .bool true) rfl) ?_
              refine OpsW.qw rfl rfl (q_move (v := S _) rfl) ?_
              refine OpsW.qw rfl rfl (q_eqS rfl rfl) ?_
              refine OpsW.qw rfl rfl (q_and2 rfl rfl rfl) ?_
              refine OpsW.qw rfl rfl (q_move (v := .bool true) rfl) ?_
              refine OpsW.qw rfl rfl (q_move (v := .int _ _) rfl) ?_
              refine OpsW.qw rfl rfl (q_eql rfl rfl) ?_
              refine OpsW.qw rfl rfl (q_and2 rfl rfl rfl) ?_
              refine OpsW.qw rfl rfl (q_or2 rfl rfl rfl) ?_
              refine OpsW.q rfl (q_and2 rfl rfl rfl) ?_
              refine OpsW.q rfl (q_move (v := .bool true) rfl) ?_
              refine OpsW.qw rfl rfl (o_call rfl Try.func10 rfl rfl (awake_con)) ?_
              refine OpsW.q rfl (q_and2 rfl rfl rfl) ?_
              refine OpsW.q rfl (q_assign (v := .bool _) rfl) ?_
              refine OpsW.nil ?_
              refine SeqP.go ?_
              refine AW.ret ?_
              refine RetP.mk1 (H' := H) (v1 := .bool _) rfl rfl  hS15.le ?_
              exact ⟨rfl, rfl⟩
          ·
            rintro _ _ ⟨rfl, rfl⟩
            refine AnyW.onlyQ 8 rfl (by kernel_rfl) rfl (dst_lt rfl) (q_extract (v := S _) rfl rfl) ?_
            refine AnyW.onlyQ 10 rfl (by kernel_rfl) rfl (dst_lt rfl) (q_assign (v := S _) rfl) ?_
            refine AnyW.onlyQ 11 rfl (by kernel_rfl) rfl (dst_lt rfl) (q_assign (v := .int _ _) rfl) ?_
            refine AnyW.done (by kernel_rfl) ?_
            refine SeqP.go ?_
            refine AW.seq ?_
            refine AW.region ?_
            refine OpsW.q rfl (q_move (v := .int _ _) rfl) ?_
            refine OpsW.q rfl (q_move (v := .int _ _) rfl) ?_
            refine OpsW.q rfl (o_call rfl Try.func16 rfl rfl (SizeR_con _)) ?_
            rw [sizeS_no hz1 hz2]
            refine OpsW.q rfl (q_eql rfl rfl) ?_
            refine OpsW.q rfl (q_move (v := .bool true) rfl) ?_
            refine OpsW.qw rfl rfl (q_move (v := .int _ _) rfl) ?_
            refine OpsW.qw rfl rfl (q_eql rfl rfl) ?_
            refine OpsW.qw rfl rfl (q_move (v := .int _ _) rfl) ?_
            refine OpsW.qw rfl rfl (q_gtr rfl rfl) ?_
            refine OpsW.qw rfl rfl (q_eqlB Try.underlying4 rfl rfl) ?_
            refine OpsW.q rfl (q_and2 rfl rfl rfl) ?_
            refine OpsW.q rfl (q_move (v := .bool true) rfl) ?_
            refine OpsW.qw rfl rfl (q_move (v := .int _ _) rfl) ?_
            refine OpsW.qw rfl rfl (q_gtr rfl rfl) ?_
            refine OpsW.qw rfl rfl (q_move (v := .bool false) rfl) ?_
            refine OpsW.p rfl rfl ?_
            refine OpsW.p rfl rfl ?_
            refine OpsW.p rfl rfl ?_
            refine OpsW.qw rfl rfl (q_and2 (B := false) rfl rfl rfl) ?_
            refine OpsW.qw rfl rfl (q_move (v := .bool false) rfl) ?_
            refine OpsW.qw rfl rfl (q_move (v := .int _ _) rfl) ?_
            refine OpsW.qw rfl rfl (q_eql rfl rfl) ?_
            refine OpsW.qw rfl rfl (q_move (v := .bool true) rfl) ?_
            refine OpsW.qw rfl rfl (q_move (v := S _) rfl) ?_
            refine OpsW.qw rfl rfl (q_eqS rfl rfl) ?_
            refine OpsW.qw rfl rfl (q_and2 rfl rfl rfl) ?_
            refine OpsW.qw rfl rfl (q_move (v := .bool true) rfl) ?_
            refine OpsW.qw rfl rfl (q_move (v := .int _ _) rfl) ?_
            refine OpsW.qw rfl rfl (q_eql rfl rfl) ?_
            refine OpsW.qw rfl rfl (q_and2 rfl rfl rfl) ?_
            refine OpsW.qw rfl rfl (q_or2 rfl rfl rfl) ?_
            refine OpsW.q rfl (q_and2 rfl rfl rfl) ?_
            refine OpsW.q rfl (q_move (v := .bool true) rfl) ?_
            refine OpsW.qw rfl rfl (o_call rfl Try.func10 rfl rfl (awake_con)) ?_
            refine OpsW.q rfl (q_and2 rfl rfl rfl) ?_
            refine OpsW.q rfl (q_assign (v := .bool _) rfl) ?_
            refine OpsW.nil ?_
            refine SeqP.go ?_
            refine AW.ret ?_
            refine RetP.mk1 (H' := H) (v1 := .bool _) rfl rfl  hS15.le ?_
            exact ⟨rfl, rfl⟩
        ·
          rintro _ _ ⟨rfl, rfl⟩
          refine AnyW.onlyQ 3 rfl (by kernel_rfl) rfl (dst_lt rfl) (q_stringB (hS15.vec at1) Try.underlying33 Try.underlying5 Try.underlying9 rfl) ?_
          refine AnyW.onlyQ 6 rfl (by kernel_rfl) rfl (dst_lt rfl) (o_call rfl Try.func17 rfl rfl (Seal_con (by decide) (by decide))) ?_
          rw [slSeal_no _ _ _ _ hz1 hz2]
          refine AnyW.onlyQ 7 rfl (by kernel_rfl) rfl (dst_lt rfl) (q_move (v := .tuple _) rfl) ?_
          refine AnyW.two 8 9 rfl rfl (by kernel_rfl) rfl rfl (dst_lt rfl) (dst_lt rfl) (q_extract (v := S _) rfl rfl) (q_extract (v := .int _ _) rfl rfl) ?_ ?_
          ·
            rintro _ _ ⟨rfl, rfl⟩
            refine AnyW.two 9 10 rfl rfl (by kernel_rfl) rfl rfl (dst_lt rfl) (dst_lt rfl) (q_extract (v := .int _ _) rfl rfl) (q_assign (v := S _) rfl) ?_ ?_
            ·
              rintro _ _ ⟨rfl, rfl⟩
              refine AnyW.onlyQ 10 rfl (by kernel_rfl) rfl (dst_lt rfl) (q_assign (v := S _) rfl) ?_
              refine AnyW.onlyQ 11 rfl (by kernel_rfl) rfl (dst_lt rfl) (q_assign (v := .int _ _) rfl) ?_
              refine AnyW.done (by kernel_rfl) ?_
              refine SeqP.go ?_
              refine AW.seq ?_
              refine AW.region ?_
              refine OpsW.q rfl (q_move (v := .int _ _) rfl) ?_
              refine OpsW.q rfl (q_move (v := .int _ _) rfl) ?_
              refine OpsW.q rfl (o_call rfl Try.func16 rfl rfl (SizeR_con _)) ?_
              rw [sizeS_no hz1 hz2]
              refine OpsW.q rfl (q_eql rfl rfl) ?_
              refine OpsW.q rfl (q_move (v := .bool true) rfl) ?_
              refine OpsW.qw rfl rfl (q_move (v := .int _ _) rfl) ?_
              refine OpsW.qw rfl rfl (q_eql rfl rfl) ?_
              refine OpsW.qw rfl rfl (q_move (v := .int _ _) rfl) ?_
              refine OpsW.qw rfl rfl (q_gtr rfl rfl) ?_
              refine OpsW.qw rfl rfl (q_eqlB Try.underlying4 rfl rfl) ?_
              refine OpsW.q rfl (q_and2 rfl rfl rfl) ?_
              refine OpsW.q rfl (q_move (v := .bool true) rfl) ?_
              refine OpsW.qw rfl rfl (q_move (v := .int _ _) rfl) ?_
              refine OpsW.qw rfl rfl (q_gtr rfl rfl) ?_
              refine OpsW.qw rfl rfl (q_move (v := .bool false) rfl) ?_
              refine OpsW.p rfl rfl ?_
              refine OpsW.p rfl rfl ?_
              refine OpsW.p rfl rfl ?_
              refine OpsW.qw rfl rfl (q_and2 (B := false) rfl rfl rfl) ?_
              refine OpsW.qw rfl rfl (q_move (v := .bool false) rfl) ?_
              refine OpsW.qw rfl rfl (q_move (v := .int _ _) rfl) ?_
              refine OpsW.qw rfl rfl (q_eql rfl rfl) ?_
              refine OpsW.qw rfl rfl (q_move (v := .bool true) rfl) ?_
              refine OpsW.qw rfl rfl (q_move (v := S _) rfl) ?_
              refine OpsW.qw rfl rfl (q_eqS rfl rfl) ?_
              refine OpsW.qw rfl rfl (q_and2 rfl rfl rfl) ?_
              refine OpsW.qw rfl rfl (q_move (v := .bool true) rfl) ?_
              refine OpsW.qw rfl rfl (q_move (v := .int _ _) rfl) ?_
              refine OpsW.qw rfl rfl (q_eql rfl rfl) ?_
              refine OpsW.qw rfl rfl (q_and2 rfl rfl rfl) ?_
              refine OpsW.qw rfl rfl (q_or2 rfl rfl rfl) ?_
              refine OpsW.q rfl (q_and2 rfl rfl rfl) ?_
              refine OpsW.q rfl (q_move (v := .bool true) rfl) ?_
              refine OpsW.qw rfl rfl (o_call rfl Try.func10 rfl rfl (awake_con)) ?_
              refine OpsW.q rfl (q_and2 rfl rfl rfl) ?_
              refine OpsW.q rfl (q_assign (v := .bool _) rfl) ?_
              refine OpsW.nil ?_
              refine SeqP.go ?_
              refine AW.ret ?_
              refine RetP.mk1 (H' := H) (v1 := .bool _) rfl rfl  hS15.le ?_
              exact ⟨rfl, rfl⟩
            ·
              rintro _ _ ⟨rfl, rfl⟩
              refine AnyW.onlyQ 9 rfl (by kernel_rfl) rfl (dst_lt rfl) (q_extract (v := .int _ _) rfl rfl) ?_
              refine AnyW.onlyQ 11 rfl (by kernel_rfl) rfl (dst_lt rfl) (q_assign (v := .int _ _) rfl) ?_
              refine AnyW.done (by kernel_rfl) ?_
              refine SeqP.go ?_
              refine AW.seq ?_
              refine AW.region ?_
              refine OpsW.q rfl (q_move (v := .int _ _) rfl) ?_
              refine OpsW.q rfl (q_move (v := .int _ _) rfl) ?_
              refine OpsW.q rfl (o_call rfl Try.func16 rfl rfl (SizeR_con _)) ?_
              rw [sizeS_no hz1 hz2]
              refine OpsW.q rfl (q_eql rfl rfl) ?_
              refine OpsW.q rfl (q_move (v := .bool true) rfl) ?_
              refine OpsW.qw rfl rfl (q_move (v := .int _ _) rfl) ?_
              refine OpsW.qw rfl rfl (q_eql rfl rfl) ?_
              refine OpsW.qw rfl rfl (q_move (v := .int _ _) rfl) ?_
              refine OpsW.qw rfl rfl (q_gtr rfl rfl) ?_
              refine OpsW.qw rfl rfl (q_eqlB Try.underlying4 rfl rfl) ?_
              refine OpsW.q rfl (q_and2 rfl rfl rfl) ?_
              refine OpsW.q rfl (q_move (v := .bool true) rfl) ?_
              refine OpsW.qw rfl rfl (q_move (v := .int _ _) rfl) ?_
              refine OpsW.qw rfl rfl (q_gtr rfl rfl) ?_
              refine OpsW.qw rfl rfl (q_move (v := .bool false) rfl) ?_
              refine OpsW.p rfl rfl ?_
              refine OpsW.p rfl rfl ?_
              refine OpsW.p rfl rfl ?_
              refine OpsW.qw rfl rfl (q_and2 (B := false) rfl rfl rfl) ?_
              refine OpsW.qw rfl rfl (q_move (v := .bool false) rfl) ?_
              refine OpsW.qw rfl rfl (q_move (v := .int _ _) rfl) ?_
              refine OpsW.qw rfl rfl (q_eql rfl rfl) ?_
              refine OpsW.qw rfl rfl (q_move (v := .bool true) rfl) ?_
              refine OpsW.qw rfl rfl (q_move (v := S _) rfl) ?_
              refine OpsW.qw rfl rfl (q_eqS rfl rfl) ?_
              refine OpsW.qw rfl rfl (q_and2 rfl rfl rfl) ?_
              refine OpsW.qw rfl rfl (q_move (v := .bool true) rfl) ?_
              refine OpsW.qw rfl rfl (q_move (v := .int _ _) rfl) ?_
              refine OpsW.qw rfl rfl (q_eql rfl rfl) ?_
              refine OpsW.qw rfl rfl (q_and2 rfl rfl rfl) ?_
              refine OpsW.qw rfl rfl (q_or2 rfl rfl rfl) ?_
              refine OpsW.q rfl (q_and2 rfl rfl rfl) ?_
              refine OpsW.q rfl (q_move (v := .bool true) rfl) ?_
              refine OpsW.qw rfl rfl (o_call rfl Try.func10 rfl rfl (awake_con)) ?_
              refine OpsW.q rfl (q_and2 rfl rfl rfl) ?_
              refine OpsW.q rfl (q_assign (v := .bool _) rfl) ?_
              refine OpsW.nil ?_
              refine SeqP.go ?_
              refine AW.ret ?_
              refine RetP.mk1 (H' := H) (v1 := .bool _) rfl rfl  hS15.le ?_
              exact ⟨rfl, rfl⟩
          ·
            rintro _ _ ⟨rfl, rfl⟩
            refine AnyW.onlyQ 8 rfl (by kernel_rfl) rfl (dst_lt rfl) (q_extract (v := S _) rfl rfl) ?_
            refine AnyW.onlyQ 10 rfl (by kernel_rfl) rfl (dst_lt rfl) (q_assign (v := S _) rfl) ?_
            refine AnyW.onlyQ 11 rfl (by kernel_rfl) rfl (dst_lt rfl) (q_assign (v := .int _ _) rfl) ?_
            refine AnyW.done (by kernel_rfl) ?_
            refine SeqP.go ?_
            refine AW.seq ?_
            refine AW.region ?_
            refine OpsW.q rfl (q_move (v := .int _ _) rfl) ?_
            refine OpsW.q rfl (q_move (v := .int _ _) rfl) ?_
            refine OpsW.q rfl (o_call rfl Try.func16 rfl rfl (SizeR_con _)) ?_
            rw [sizeS_no hz1 hz2]
            refine OpsW.q rfl (q_eql rfl rfl) ?_
            refine OpsW.q rfl (q_move (v := .bool true) rfl) ?_
            refine OpsW.qw rfl rfl (q_move (v := .int _ _) rfl) ?_
            refine OpsW.qw rfl rfl (q_eql rfl rfl) ?_
            refine OpsW.qw rfl rfl (q_move (v := .int _ _) rfl) ?_
            refine OpsW.qw rfl rfl (q_gtr rfl rfl) ?_
            refine OpsW.qw rfl rfl (q_eqlB Try.underlying4 rfl rfl) ?_
            refine OpsW.q rfl (q_and2 rfl rfl rfl) ?_
            refine OpsW.q rfl (q_move (v := .bool true) rfl) ?_
            refine OpsW.qw rfl rfl (q_move (v := .int _ _) rfl) ?_
            refine OpsW.qw rfl rfl (q_gtr rfl rfl) ?_
            refine OpsW.qw rfl rfl (q_move (v := .bool false) rfl) ?_
            refine OpsW.p rfl rfl ?_
            refine OpsW.p rfl rfl ?_
            refine OpsW.p rfl rfl ?_
            refine OpsW.qw rfl rfl (q_and2 (B := false) rfl rfl rfl) ?_
            refine OpsW.qw rfl rfl (q_move (v := .bool false) rfl) ?_
            refine OpsW.qw rfl rfl (q_move (v := .int _ _) rfl) ?_
            refine OpsW.qw rfl rfl (q_eql rfl rfl) ?_
            refine OpsW.qw rfl rfl (q_move (v := .bool true) rfl) ?_
            refine OpsW.qw rfl rfl (q_move (v := S _) rfl) ?_
            refine OpsW.qw rfl rfl (q_eqS rfl rfl) ?_
            refine OpsW.qw rfl rfl (q_and2 rfl rfl rfl) ?_
            refine OpsW.qw rfl rfl (q_move (v := .bool true) rfl) ?_
            refine OpsW.qw rfl rfl (q_move (v := .int _ _) rfl) ?_
            refine OpsW.qw rfl rfl (q_eql rfl rfl) ?_
            refine OpsW.qw rfl rfl (q_and2 rfl rfl rfl) ?_
            refine OpsW.qw rfl rfl (q_or2 rfl rfl rfl) ?_
            refine OpsW.q rfl (q_and2 rfl rfl rfl) ?_
            refine OpsW.q rfl (q_move (v := .bool true) rfl) ?_
            refine OpsW.qw rfl rfl (o_call rfl Try.func10 rfl rfl (awake_con)) ?_
            refine OpsW.q rfl (q_and2 rfl rfl rfl) ?_
            refine OpsW.q rfl (q_assign (v := .bool _) rfl) ?_
            refine OpsW.nil ?_
            refine SeqP.go ?_
            refine AW.ret ?_
            refine RetP.mk1 (H' := H) (v1 := .bool _) rfl rfl  hS15.le ?_
            exact ⟨rfl, rfl⟩
    ·
      rintro v13 H16 hS16
      clear hS0
      refine AnyW.two 2 5 rfl rfl (by kernel_rfl) rfl rfl (dst_lt rfl) (dst_lt rfl) (s_makeSliceB (by_ := 1) hS16 Try.underlying33 (by kernel_rfl) (by kernel_rfl) (by kernel_rfl) rfl rfl (by omega) (by omega) (by omega) (by omega) (by omega)) (q_stringB (hS16.vec at0) Try.underlying33 Try.underlying5 Try.underlying9 rfl) ?_ ?_
      ·
        rintro v11 H17 hS17
        clear hS16
        refine AnyW.two 3 5 rfl rfl (by kernel_rfl) rfl rfl (dst_lt rfl) (dst_lt rfl) (q_stringB (hS17.vec at0) Try.underlying33 Try.underlying5 Try.underlying9 rfl) (q_stringB (hS17.vec at1) Try.underlying33 Try.underlying5 Try.underlying9 rfl) ?_ ?_
        ·
          rintro _ _ ⟨rfl, rfl⟩
          refine AnyW.onlyQ 5 rfl (by kernel_rfl) rfl (dst_lt rfl) (q_stringB (hS17.vec at1) Try.underlying33 Try.underlying5 Try.underlying9 rfl) ?_
          refine AnyW.onlyQ 6 rfl (by kernel_rfl) rfl (dst_lt rfl) (o_call rfl Try.func17 rfl rfl (Seal_con (by decide) (by decide))) ?_
          rw [slSeal_no _ _ _ _ hz1 hz2]
          refine AnyW.onlyQ 7 rfl (by kernel_rfl) rfl (dst_lt rfl) (q_move (v := .tuple _) rfl) ?_
          refine AnyW.two 8 9 rfl rfl (by kernel_rfl) rfl rfl (dst_lt rfl) (dst_lt rfl) (q_extract (v := S _) rfl rfl) (q_extract (v := .int _ _) rfl rfl) ?_ ?_
          ·
            rintro _ _ ⟨rfl, rfl⟩
            refine AnyW.two 9 10 rfl rfl (by kernel_rfl) rfl rfl (dst_lt rfl) (dst_lt rfl) (q_extract (v := .int _ _) rfl rfl) (q_assign (v := S _) rfl) ?_ ?_
            ·
              rintro _ _ ⟨rfl, rfl⟩
              refine AnyW.onlyQ 10 rfl (by kernel_rfl) rfl (dst_lt rfl) (q_assign (v := S _) rfl) ?_
              refine AnyW.onlyQ 11 rfl (by kernel_rfl) rfl (dst_lt rfl) (q_assign (v := .int _ _) rfl) ?_
              refine AnyW.done (by kernel_rfl) ?_
              refine SeqP.go ?_
              refine AW.seq ?_
              refine AW.region ?_
              refine OpsW.q rfl (q_move (v := .int _ _) rfl) ?_
              refine OpsW.q rfl (q_move (v := .int _ _) rfl) ?_
              refine OpsW.q rfl (o_call rfl Try.func16 rfl rfl (SizeR_con _)) ?_
              rw [sizeS_no hz1 hz2]
              refine OpsW.q rfl (q_eql rfl rfl) ?_
              refine OpsW.q rfl (q_move (v := .bool true) rfl) ?_
              refine OpsW.qw rfl rfl (q_move (v := .int _ _) rfl) ?_
              refine OpsW.qw rfl rfl (q_eql rfl rfl) ?_
              refine OpsW.qw rfl rfl (q_move (v := .int _ _) rfl) ?_
              refine OpsW.qw rfl rfl (q_gtr rfl rfl) ?_
              refine OpsW.qw rfl rfl (q_eqlB Try.underlying4 rfl rfl) ?_
              refine OpsW.q rfl (q_and2 rfl rfl rfl) ?_
              refine OpsW.q rfl (q_move (v := .bool true) rfl) ?_
              refine OpsW.qw rfl rfl (q_move (v := .int _ _) rfl) ?_
              refine OpsW.qw rfl rfl (q_gtr rfl rfl) ?_
              refine OpsW.qw rfl rfl (q_move (v := .bool false) rfl) ?_
              refine OpsW.p rfl rfl ?_
              refine OpsW.p rfl rfl ?_
              refine OpsW.p rfl rfl ?_
              refine OpsW.qw rfl rfl (q_and2 (B := false) rfl rfl rfl) ?_
              refine OpsW.qw rfl rfl (q_move (v := .bool false) rfl) ?_
              refine OpsW.qw rfl rfl (q_move (v := .int _ _) rfl) ?_
              refine OpsW.qw rfl rfl (q_eql rfl rfl) ?_
              refine OpsW.qw rfl rfl (q_move (v := .bool true) rfl) ?_
              refine OpsW.qw rfl rfl (q_move (v := S _) rfl) ?_
              refine OpsW.qw rfl rfl (q_eqS rfl rfl) ?_
              refine OpsW.qw rfl rfl (q_and2 rfl rfl rfl) ?_
              refine OpsW.qw rfl rfl (q_move (v := .bool true) rfl) ?_
              refine OpsW.qw rfl rfl (q_move (v := .int _ _) rfl) ?_
              refine OpsW.qw rfl rfl (q_eql rfl rfl) ?_
              refine OpsW.qw rfl rfl (q_and2 rfl rfl rfl) ?_
              refine OpsW.qw rfl rfl (q_or2 rfl rfl rfl) ?_
              refine OpsW.q rfl (q_and2 rfl rfl rfl) ?_
              refine OpsW.q rfl (q_move (v := .bool true) rfl) ?_
              refine OpsW.qw rfl rfl (o_call rfl Try.func10 rfl rfl (awake_con)) ?_
              refine OpsW.q rfl (q_and2 rfl rfl rfl) ?_
              refine OpsW.q rfl (q_assign (v := .bool _) rfl) ?_
              refine OpsW.nil ?_
              refine SeqP.go ?_
              refine AW.ret ?_
              refine RetP.mk1 (H' := H) (v1 := .bool _) rfl rfl  hS17.le ?_
              exact ⟨rfl, rfl⟩
            ·
              rintro _ _ ⟨rfl, rfl⟩
              refine AnyW.onlyQ 9 rfl (by kernel_rfl) rfl (dst_lt rfl) (q_extract (v := .int _ _) rfl rfl) ?_
              refine AnyW.onlyQ 11 rfl (by kernel_rfl) rfl (dst_lt rfl) (q_assign (v := .int _ _) rfl) ?_
              refine AnyW.done (by kernel_rfl) ?_
              refine SeqP.go ?_
              refine AW.seq ?_
              refine AW.region ?_
              refine OpsW.q rfl (q_move (v := .int _ _) rfl) ?_
              refine OpsW.q rfl (q_move (v := .int _ _) rfl) ?_
              refine OpsW.q rfl (o_call rfl Try.func16 rfl rfl (SizeR_con _)) ?_
              rw [sizeS_no hz1 hz2]
              refine OpsW.q rfl (q_eql rfl rfl) ?_
              refine OpsW.q rfl (q_move (v := .bool true) rfl) ?_
              refine OpsW.qw rfl rfl (q_move (v := .int _ _) rfl) ?_
              refine OpsW.qw rfl rfl (q_eql rfl rfl) ?_
              refine OpsW.qw rfl rfl (q_move (v := .int _ _) rfl) ?_
              refine OpsW.qw rfl rfl (q_gtr rfl rfl) ?_
              refine OpsW.qw rfl rfl (q_eqlB Try.underlying4 rfl rfl) ?_
              refine OpsW.q rfl (q_and2 rfl rfl rfl) ?_
              refine OpsW.q rfl (q_move (v := .bool true) rfl) ?_
              refine OpsW.qw rfl rfl (q_move (v := .int _ _) rfl) ?_
              refine OpsW.qw rfl rfl (q_gtr rfl rfl) ?_
              refine OpsW.qw rfl rfl (q_move (v := .bool false) rfl) ?_
              refine OpsW.p rfl rfl ?_
              refine OpsW.p rfl rfl ?_
              refine OpsW.p rfl rfl ?_
              refine OpsW.qw rfl rfl (q_and2 (B := false) rfl rfl rfl) ?_
              refine OpsW.qw rfl rfl (q_move (v := .bool false) rfl) ?_
              refine OpsW.qw rfl rfl (q_move (v := .int _ _) rfl) ?_
              refine OpsW.qw rfl rfl (q_eql rfl rfl) ?_
              refine OpsW.qw rfl rfl (q_move (v := .bool true) rfl) ?_
              refine OpsW.qw rfl rfl (q_move (v := S _) rfl) ?_
              refine OpsW.qw rfl rfl (q_eqS rfl rfl) ?_
              refine OpsW.qw rfl rfl (q_and2 rfl rfl rfl) ?_
              refine OpsW.qw rfl rfl (q_move (v := .bool true) rfl) ?_
              refine OpsW.qw rfl rfl (q_move (v := .int _ _) rfl) ?_
              refine OpsW.qw rfl rfl (q_eql rfl rfl) ?_
              refine OpsW.qw rfl rfl (q_and2 rfl rfl rfl) ?_
              refine OpsW.qw rfl rfl (q_or2 rfl rfl rfl) ?_
              refine OpsW.q rfl (q_and2 rfl rfl rfl) ?_
              refine OpsW.q rfl (q_move (v := .bool true) rfl) ?_
              refine OpsW.qw rfl rfl (o_call rfl Try.func10 rfl rfl (awake_con)) ?_
              refine OpsW.q rfl (q_and2 rfl rfl rfl) ?_
              refine OpsW.q rfl (q_assign (v := .bool _) rfl) ?_
              refine OpsW.nil ?_
              refine SeqP.go ?_
              refine AW.ret ?_
              refine RetP.mk1 (H' := H) (v1 := .bool _) rfl rfl  hS17.le ?_
              exact ⟨rfl, rfl⟩
          ·
            rintro _ _ ⟨rfl, rfl⟩
            refine AnyW.onlyQ 8 rfl (by kernel_rfl) rfl (dst_lt rfl) (q_extract (v := S _) rfl rfl) ?_
            refine AnyW.onlyQ 10 rfl (by kernel_rfl) rfl (dst_lt rfl) (q_assign (v := S _) rfl) ?_
            refine AnyW.onlyQ 11 rfl (by kernel_rfl) rfl (dst_lt rfl) (q_assign (v := .int _ _) rfl) ?_
            refine AnyW.done (by kernel_rfl) ?_
            refine SeqP.go ?_
            refine AW.seq ?_
            refine AW.region ?_
            refine OpsW.q rfl (q_move (v := .int _ _) rfl) ?_
            refine OpsW.q rfl (q_move (v := .int _ _) rfl) ?_
            refine OpsW.q rfl (o_call rfl Try.func16 rfl rfl (SizeR_con _)) ?_
            rw [sizeS_no hz1 hz2]
            refine OpsW.q rfl (q_eql rfl rfl) ?_
            refine OpsW.q rfl (q_move (v := .bool true) rfl) ?_
            refine OpsW.qw rfl rfl (q_move (v := .int _ _) rfl) ?_
            refine OpsW.qw rfl rfl (q_eql rfl rfl) ?_
            refine OpsW.qw rfl rfl (q_move (v := .int _ _) rfl) ?_
            refine OpsW.qw rfl rfl (q_gtr rfl rfl) ?_
            refine OpsW.qw rfl rfl (q_eqlB Try.underlying4 rfl rfl) ?_
            refine OpsW.q rfl (q_and2 rfl rfl rfl) ?_
            refine OpsW.q rfl (q_move (v := .bool true) rfl) ?_
            refine OpsW.qw rfl rfl (q_move (v := .int _ _) rfl) ?_
            refine OpsW.qw rfl rfl (q_gtr rfl rfl) ?_
            refine OpsW.qw rfl rfl (q_move (v := .bool false) rfl) ?_
            refine OpsW.p rfl rfl ?_
            refine OpsW.p rfl rfl ?_
            refine OpsW.p rfl rfl ?_
            refine OpsW.qw rfl rfl (q_and2 (B := false) rfl rfl rfl) ?_
            refine OpsW.qw rfl rfl (q_move (v := .bool false) rfl) ?_
            refine OpsW.qw rfl rfl (q_move (v := .int _ _) rfl) ?_
            refine OpsW.qw rfl rfl (q_eql rfl rfl) ?_
            refine OpsW.qw rfl rfl (q_move (v := .bool true) rfl) ?_
            refine OpsW.qw rfl rfl (q_move (v := S _) rfl) ?_
            refine OpsW.qw rfl rfl (q_eqS rfl rfl) ?_
            refine OpsW.qw rfl rfl (q_and2 rfl rfl rfl) ?_
            refine OpsW.qw rfl rfl (q_move (v := .bool true) rfl) ?_
            refine OpsW.qw rfl rfl (q_move (v := .int _ _) rfl) ?_
            refine OpsW.qw rfl rfl (q_eql rfl rfl) ?_
            refine OpsW.qw rfl rfl (q_and2 rfl rfl rfl) ?_
            refine OpsW.qw rfl rfl (q_or2 rfl rfl rfl) ?_
            refine OpsW.q rfl (q_and2 rfl rfl rfl) ?_
            refine OpsW.q rfl (q_move (v := .bool true) rfl) ?_
            refine OpsW.qw rfl rfl (o_call rfl Try.func10 rfl rfl (awake_con)) ?_
            refine OpsW.q rfl (q_and2 rfl rfl rfl) ?_
            refine OpsW.q rfl (q_assign (v := .bool _) rfl) ?_
            refine OpsW.nil ?_
            refine SeqP.go ?_
            refine AW.ret ?_
            refine RetP.mk1 (H' := H) (v1 := .bool _) rfl rfl  hS17.le ?_
            exact ⟨rfl, rfl⟩
        ·
          rintro _ _ ⟨rfl, rfl⟩
          refine AnyW.onlyQ 3 rfl (by kernel_rfl) rfl (dst_lt rfl) (q_stringB (hS17.vec at0) Try.underlying33 Try.underlying5 Try.underlying9 rfl) ?_
          refine AnyW.onlyQ 6 rfl (by kernel_rfl) rfl (dst_lt rfl) (o_call rfl Try.func17 rfl rfl (Seal_con (by decide) (by decide))) ?_
          rw [slSeal_no _ _ _ _ hz1 hz2]
          refine AnyW.onlyQ 7 rfl (by kernel_rfl) rfl (dst_lt rfl) (q_move (v := .tuple _) rfl) ?_
          refine AnyW.two 8 9 rfl rfl (by kernel_rfl) rfl rfl (dst_lt rfl) (dst_lt rfl) (q_extract (v := S _) rfl rfl) (q_extract (v := .int _ _) rfl rfl) ?_ ?_
          ·
            rintro _ _ ⟨rfl, rfl⟩
            refine AnyW.two 9 10 rfl rfl (by kernel_rfl) rfl rfl (dst_lt rfl) (dst_lt rfl) (q_extract (v := .int _ _) rfl rfl) (q_assign (v := S _) rfl) ?_ ?_
            ·
              rintro _ _ ⟨rfl, rfl⟩
              refine AnyW.onlyQ 10 rfl (by kernel_rfl) rfl (dst_lt rfl) (q_assign (v := S _) rfl) ?_
              refine AnyW.onlyQ 11 rfl (by kernel_rfl) rfl (dst_lt rfl) (q_assign (v := .int _ _) rfl) ?_
              refine AnyW.done (by kernel_rfl) ?_
              refine SeqP.go ?_
              refine AW.seq ?_
              refine AW.region ?_
              refine OpsW.q rfl (q_move (v := .int _ _) rfl) ?_
              refine OpsW.q rfl (q_move (v := .int _ _) rfl) ?_
              refine OpsW.q rfl (o_call rfl Try.func16 rfl rfl (SizeR_con _)) ?_
              rw [sizeS_no hz1 hz2]
              refine OpsW.q rfl (q_eql rfl rfl) ?_
              refine OpsW.q rfl (q_move (v := .bool true) rfl) ?_
              refine OpsW.qw rfl rfl (q_move (v := .int _ _) rfl) ?_
              refine OpsW.qw rfl rfl (q_eql rfl rfl) ?_
              refine OpsW.qw rfl rfl (q_move (v := .int _ _) rfl) ?_
              refine OpsW.qw rfl rfl (q_gtr rfl rfl) ?_
              refine OpsW.qw rfl rfl (q_eqlB Try.underlying4 rfl rfl) ?_
              refine OpsW.q rfl (q_and2 rfl rfl rfl) ?_
              refine OpsW.q rfl (q_move (v := .bool true) rfl) ?_
              refine OpsW.qw rfl rfl (q_move (v := .int _ _) rfl) ?_
              refine OpsW.qw rfl rfl (q_gtr rfl rfl) ?_
              refine OpsW.qw rfl rfl (q_move (v := .bool false) rfl) ?_
              refine OpsW.p rfl rfl ?_
              refine OpsW.p rfl rfl ?_
              refine OpsW.p rfl rfl ?_
              refine OpsW.qw rfl rfl (q_and2 (B := false) rfl rfl rfl) ?_
              refine OpsW.qw rfl rfl (q_move (v := .bool false) rfl) ?_
              refine OpsW.qw rfl rfl (q_move (v := .int _ _) rfl) ?_
              refine OpsW.qw rfl rfl (q_eql rfl rfl) ?_
              refine OpsW.qw rfl rfl (q_move (v := .bool true) rfl) ?_
              refine OpsW.qw rfl rfl (q_move (v := S _) rfl) ?_
              refine OpsW.qw rfl rfl (q_eqS rfl rfl) ?_
              refine OpsW.qw rfl rfl (q_and2 rfl rfl rfl) ?_
              refine OpsW.qw rfl rfl (q_move (v := .bool true) rfl) ?_
              refine OpsW.qw rfl rfl (q_move (v := .int _ _) rfl) ?_
              refine OpsW.qw rfl rfl (q_eql rfl rfl) ?_
              refine OpsW.qw rfl rfl (q_and2 rfl rfl rfl) ?_
              refine OpsW.qw rfl rfl (q_or2 rfl rfl rfl) ?_
              refine OpsW.q rfl (q_and2 rfl rfl rfl) ?_
              refine OpsW.q rfl (q_move (v := .bool true) rfl) ?_
              refine OpsW.qw rfl rfl (o_call rfl Try.func10 rfl rfl (awake_con)) ?_
              refine OpsW.q rfl (q_and2 rfl rfl rfl) ?_
              refine OpsW.q rfl (q_assign (v := .bool _) rfl) ?_
              refine OpsW.nil ?_
              refine SeqP.go ?_
              refine AW.ret ?_
              refine RetP.mk1 (H' := H) (v1 := .bool _) rfl rfl  hS17.le ?_
              exact ⟨rfl, rfl⟩
            ·
              rintro _ _ ⟨rfl, rfl⟩
              refine AnyW.onlyQ 9 rfl (by kernel_rfl) rfl (dst_lt rfl) (q_extract (v := .int _ _) rfl rfl) ?_
              refine AnyW.onlyQ 11 rfl (by kernel_rfl) rfl (dst_lt rfl) (q_assign (v := .int _ _) rfl) ?_
              refine AnyW.done (by kernel_rfl) ?_
              refine SeqP.go ?_
              refine AW.seq ?_
              refine AW.region ?_
              refine OpsW.q rfl (q_move (v := .int _ _) rfl) ?_
              refine OpsW.q rfl (q_move (v := .int _ _) rfl) ?_
              refine OpsW.q rfl (o_call rfl Try.func16 rfl rfl (SizeR_con _)) ?_
              rw [sizeS_no hz1 hz2]
              refine OpsW.q rfl (q_eql rfl rfl) ?_
              refine OpsW.q rfl (q_move (v := .bool true) rfl) ?_
              refine OpsW.qw rfl rfl (q_move (v := .int _ _) rfl) ?_
              refine OpsW.qw rfl rfl (q_eql rfl rfl) ?_
              refine OpsW.qw rfl rfl (q_move (v := .int _ _) rfl) ?_
              refine OpsW.qw rfl rfl (q_gtr rfl rfl) ?_
              refine OpsW.qw rfl rfl (q_eqlB Try.underlying4 rfl rfl) ?_
              refine OpsW.q rfl (q_and2 rfl rfl rfl) ?_
              refine OpsW.q rfl (q_move (v := .bool true) rfl) ?_
              refine OpsW.qw rfl rfl (q_move (v := .int _ _) rfl) ?_
              refine OpsW.qw rfl rfl (q_gtr rfl rfl) ?_
              refine OpsW.qw rfl rfl (q_move (v := .bool false) rfl) ?_
              refine OpsW.p rfl rfl ?_
              refine OpsW.p rfl rfl ?_
              refine OpsW.p rfl rfl ?_
              refine OpsW.qw rfl rfl (q_and2 (B := false) rfl rfl rfl) ?_
              refine OpsW.qw rfl rfl (q_move (v := .bool false) rfl) ?_
              refine OpsW.qw rfl rfl (q_move (v := .int _ _) rfl) ?_
              refine OpsW.qw rfl rfl (q_eql rfl rfl) ?_
              refine OpsW.qw rfl rfl (q_move (v := .bool true) rfl) ?_
              refine OpsW.qw rfl rfl (q_move (v := S _) rfl) ?_
              refine OpsW.qw rfl rfl (q_eqS rfl rfl) ?_
              refine OpsW.qw rfl rfl (q_and2 rfl rfl rfl) ?_
              refine OpsW.qw rfl rfl (q_move (v := .bool true) rfl) ?_
              refine OpsW.qw rfl rfl (q_move (v := .int _ _) rfl) ?_
              refine OpsW.qw rfl rfl (q_eql rfl rfl) ?_
              refine OpsW.qw rfl rfl (q_and2 rfl rfl rfl) ?_
              refine OpsW.qw rfl rfl (q_or2 rfl rfl rfl) ?_
              refine OpsW.q rfl (q_and2 rfl rfl rfl) ?_
              refine OpsW.q rfl (q_move (v := .bool true) rfl) ?_
              refine OpsW.qw rfl rfl (o_call rfl Try.func10 rfl rfl (awake_con)) ?_
              refine OpsW.q rfl (q_and2 rfl rfl rfl) ?_
              refine OpsW.q rfl (q_assign (v := .bool _) rfl) ?_
              refine OpsW.nil ?_
              refine SeqP.go ?_
              refine AW.ret ?_
              refine RetP.mk1 (H' := H) (v1 := .bool _) rfl rfl  hS17.le ?_
              exact ⟨rfl, rfl⟩
          ·
            rintro _ _ ⟨rfl, rfl⟩
            refine AnyW.onlyQ 8 rfl (by kernel_rfl) rfl (dst_lt rfl) (q_extract (v := S _) rfl rfl) ?_
            refine AnyW.onlyQ 10 rfl (by kernel_rfl) rfl (dst_lt rfl) (q_assign (v := S _) rfl) ?_
            refine AnyW.onlyQ 11 rfl (by kernel_rfl) rfl (dst_lt rfl) (q_assign (v := .int _ _) rfl) ?_
            refine AnyW.done (by kernel_rfl) ?_
            refine SeqP.go ?_
            refine AW.seq ?_
            refine AW.region ?_
            refine OpsW.q rfl (q_move (v := .int _ _) rfl) ?_
            refine OpsW.q rfl (q_move (v := .int _ _) rfl) ?_
            refine OpsW.q rfl (o_call rfl Try.func16 rfl rfl (SizeR_con _)) ?_
            rw [sizeS_no hz1 hz2]
            refine OpsW.q rfl (q_eql rfl rfl) ?_
            refine OpsW.q rfl (q_move (v := .bool true) rfl) ?_
            refine OpsW.qw rfl rfl (q_move (v := .int _ _) rfl) ?_
            refine OpsW.qw rfl rfl (q_eql rfl rfl) ?_
            refine OpsW.qw rfl rfl (q_move (v := .int _ _) rfl) ?_
            refine OpsW.qw rfl rfl (q_gtr rfl rfl) ?_
            refine OpsW.qw rfl rfl (q_eqlB Try.underlying4 rfl rfl) ?_
            refine OpsW.q rfl (q_and2 rfl rfl rfl) ?_
            refine OpsW.q rfl (q_move (v := .bool true) rfl) ?_
            refine OpsW.qw rfl rfl (q_move (v := .int _ _) rfl) ?_
            refine OpsW.qw rfl rfl (q_gtr rfl rfl) ?_
            refine OpsW.qw rfl rfl (q_move (v := .bool false) rfl) ?_
            refine OpsW.p rfl rfl ?_
            refine OpsW.p rfl rfl ?_
            refine OpsW.p rfl rfl ?_
            refine OpsW.qw rfl rfl (q_and2 (B := false) rfl rfl rfl) ?_
            refine OpsW.qw rfl rfl (q_move (v := .bool false) rfl) ?_
            refine OpsW.qw rfl rfl (q_move (v := .int _ _) rfl) ?_
            refine OpsW.qw rfl rfl (q_eql rfl rfl) ?_
            refine OpsW.qw rfl rfl (q_move (v := .bool true) rfl) ?_
            refine OpsW.qw rfl rfl (q_move (v := S _) rfl) ?_
            refine OpsW.qw rfl rfl (q_eqS rfl rfl) ?_
            refine OpsW.qw rfl rfl (q_and2 rfl rfl rfl) ?_
            refine OpsW.qw rfl rfl (q_move (v := .bool true) rfl) ?_
            refine OpsW.qw rfl rfl (q_move (v := .int _ _) rfl) ?_
            refine OpsW.qw rfl rfl (q_eql rfl rfl) ?_
            refine OpsW.qw rfl rfl (q_and2 rfl rfl rfl) ?_
            refine OpsW.qw rfl rfl (q_or2 rfl rfl rfl) ?_
            refine OpsW.q rfl (q_and2 rfl rfl rfl) ?_
            refine OpsW.q rfl (q_move (v := .bool true) rfl) ?_
            refine OpsW.qw rfl rfl (o_call rfl Try.func10 rfl rfl (awake_con)) ?_
            refine OpsW.q rfl (q_and2 rfl rfl rfl) ?_
            refine OpsW.q rfl (q_assign (v := .bool _) rfl) ?_
            refine OpsW.nil ?_
            refine SeqP.go ?_
            refine AW.ret ?_
            refine RetP.mk1 (H' := H) (v1 := .bool _) rfl rfl  hS17.le ?_
            exact ⟨rfl, rfl⟩
      ·
        rintro _ _ ⟨rfl, rfl⟩
        refine AnyW.only 2 rfl (by kernel_rfl) rfl (dst_lt rfl) (s_makeSliceB (by_ := 1) hS16 Try.underlying33 (by kernel_rfl) (by kernel_rfl) (by kernel_rfl) rfl rfl (by omega) (by omega) (by omega) (by omega) (by omega)) ?_
        rintro v11 H18 hS18
        clear hS16
        refine AnyW.onlyQ 3 rfl (by kernel_rfl) rfl (dst_lt rfl) (q_stringB (hS18.vec at0) Try.underlying33 Try.underlying5 Try.underlying9 rfl) ?_
        refine AnyW.onlyQ 6 rfl (by kernel_rfl) rfl (dst_lt rfl) (o_call rfl Try.func17 rfl rfl (Seal_con (by decide) (by decide))) ?_
        rw [slSeal_no _ _ _ _ hz1 hz2]
        refine AnyW.onlyQ 7 rfl (by kernel_rfl) rfl (dst_lt rfl) (q_move (v := .tuple _) rfl) ?_
        refine AnyW.two 8 9 rfl rfl (by kernel_rfl) rfl rfl (dst_lt rfl) (dst_lt rfl) (q_extract (v := S _) rfl rfl) (q_extract (v := .int _ _) rfl rfl) ?_ ?_
        ·
          rintro _ _ ⟨rfl, rfl⟩
          refine AnyW.two 9 10 rfl rfl (by kernel_rfl) rfl rfl (dst_lt rfl) (dst_lt rfl) (q_extract (v := .int _ _) rfl rfl) (q_assign (v := S _) rfl) ?_ ?_
          ·
            rintro _ _ ⟨rfl, rfl⟩
            refine AnyW.onlyQ 10 rfl (by kernel_rfl) rfl (dst_lt rfl) (q_assign (v := S _) rfl) ?_
            refine AnyW.onlyQ 11 rfl (by kernel_rfl) rfl (dst_lt rfl) (q_assign (v := .int _ _) rfl) ?_
            refine AnyW.done (by kernel_rfl) ?_
            refine SeqP.go ?_
            refine AW.seq ?_
            refine AW.region ?_
            refine OpsW.q rfl (q_move (v := .int _ _) rfl) ?_
            refine OpsW.q rfl (q_move (v := .int _ _) rfl) ?_
            refine OpsW.q rfl (o_call rfl Try.func16 rfl rfl (SizeR_con _)) ?_
            rw [sizeS_no hz1 hz2]
            refine OpsW.q rfl (q_eql rfl rfl) ?_
            refine OpsW.q rfl (q_move (v := .bool true) rfl) ?_
            refine OpsW.qw rfl rfl (q_move (v := .int _ _) rfl) ?_
            refine OpsW.qw rfl rfl (q_eql rfl rfl) ?_
            refine OpsW.qw rfl rfl (q_move (v := .int _ _) rfl) ?_
            refine OpsW.qw rfl rfl (q_gtr rfl rfl) ?_
            refine OpsW.qw rfl rfl (q_eqlB Try.underlying4 rfl rfl) ?_
            refine OpsW.q rfl (q_and2 rfl rfl rfl) ?_
            refine OpsW.q rfl (q_move (v := .bool true) rfl) ?_
            refine OpsW.qw rfl rfl (q_move (v := .int _ _) rfl) ?_
            refine OpsW.qw rfl rfl (q_gtr rfl rfl) ?_
            refine OpsW.qw rfl rfl (q_move (v := .bool false) rfl) ?_
            refine OpsW.p rfl rfl ?_
            refine OpsW.p rfl rfl ?_
            refine OpsW.p rfl rfl ?_
            refine OpsW.qw rfl rfl (q_and2 (B := false) rfl rfl rfl) ?_
            refine OpsW.qw rfl rfl (q_move (v := .bool false) rfl) ?_
            refine OpsW.qw rfl rfl (q_move (v := .int _ _) rfl) ?_
            refine OpsW.qw rfl rfl (q_eql rfl rfl) ?_
            refine OpsW.qw rfl rfl (q_move (v := .bool true) rfl) ?_
            refine OpsW.qw rfl rfl (q_move (v := S _) rfl) ?_
            refine OpsW.qw rfl rfl (q_eqS rfl rfl) ?_
            refine OpsW.qw rfl rfl (q_and2 rfl rfl rfl) ?_
            refine OpsW.qw rfl rfl (q_move (v := .bool true) rfl) ?_
            refine OpsW.qw rfl rfl (q_move (v := .int _ _) rfl) ?_
            refine OpsW.qw rfl rfl (q_eql rfl rfl) ?_
            refine OpsW.qw rfl rfl (q_and2 rfl rfl rfl) ?_
            refine OpsW.qw rfl rfl (q_or2 rfl rfl rfl) ?_
            refine OpsW.q rfl (q_and2 rfl rfl rfl) ?_
            refine OpsW.q rfl (q_move (v := .bool true) rfl) ?_
            refine OpsW.qw rfl rfl (o_call rfl Try.func10 rfl rfl (awake_con)) ?_
            refine OpsW.q rfl (q_and2 rfl rfl rfl) ?_
            refine OpsW.q rfl (q_assign (v := .bool _) rfl) ?_
            refine OpsW.nil ?_
            refine SeqP.go ?_
            refine AW.ret ?_
            refine RetP.mk1 (H' := H) (v1 := .bool _) rfl rfl  hS18.le ?_
            exact ⟨rfl, rfl⟩
          ·
            rintro _ _ ⟨rfl, rfl⟩
            refine AnyW.onlyQ 9 rfl (by kernel_rfl) rfl (dst_lt rfl) (q_extract (v := .int _ _) rfl rfl) ?_
            refine AnyW.onlyQ 11 rfl (by kernel_rfl) rfl (dst_lt rfl) (q_assign (v := .int _ _) rfl) ?_
            refine AnyW.done (by kernel_rfl) ?_
            refine SeqP.go ?_
            refine AW.seq ?_
            refine AW.region ?_
            refine OpsW.q rfl (q_move (v := .int _ _) rfl) ?_
            refine OpsW.q rfl (q_move (v := .int _ _) rfl) ?_
            refine OpsW.q rfl (o_call rfl Try.func16 rfl rfl (SizeR_con _)) ?_
            rw [sizeS_no hz1 hz2]
            refine OpsW.q rfl (q_eql rfl rfl) ?_
            refine OpsW.q rfl (q_move (v := .bool true) rfl) ?_
            refine OpsW.qw rfl rfl (q_move (v := .int _ _) rfl) ?_
            refine OpsW.qw rfl rfl (q_eql rfl rfl) ?_
            refine OpsW.qw rfl rfl (q_move (v := .int _ _) rfl) ?_
            refine OpsW.qw rfl rfl (q_gtr rfl rfl) ?_
            refine OpsW.qw rfl rfl (q_eqlB Try.underlying4 rfl rfl) ?_
            refine OpsW.q rfl (q_and2 rfl rfl rfl) ?_
            refine OpsW.q rfl (q_move (v := .bool true) rfl) ?_
            refine OpsW.qw rfl rfl (q_move (v := .int _ _) rfl) ?_
            refine OpsW.qw rfl rfl (q_gtr rfl rfl) ?_
            refine OpsW.qw rfl rfl (q_move (v := .bool false) rfl) ?_
            refine OpsW.p rfl rfl ?_
            refine OpsW.p rfl rfl ?_
            refine OpsW.p rfl rfl ?_
            refine OpsW.qw rfl rfl (q_and2 (B := false) rfl rfl rfl) ?_
            refine OpsW.qw rfl rfl (q_move (v := .bool false) rfl) ?_
            refine OpsW.qw rfl rfl (q_move (v := .int _ _) rfl) ?_
            refine OpsW.qw rfl rfl (q_eql rfl rfl) ?_
            refine OpsW.qw rfl rfl (q_move (v := .bool true) rfl) ?_
            refine OpsW.qw rfl rfl (q_move (v := S _) rfl) ?_
            refine OpsW.qw rfl rfl (q_eqS rfl rfl) ?_
            refine OpsW.qw rfl rfl (q_and2 rfl rfl rfl) ?_
            refine OpsW.qw rfl rfl (q_move (v := .bool true) rfl) ?_
            refine OpsW.qw rfl rfl (q_move (v := .int _ _) rfl) ?_
            refine OpsW.qw rfl rfl (q_eql rfl rfl) ?_
            refine OpsW.qw rfl rfl (q_and2 rfl rfl rfl) ?_
            refine OpsW.qw rfl rfl (q_or2 rfl rfl rfl) ?_
            refine OpsW.q rfl (q_and2 rfl rfl rfl) ?_
            refine OpsW.q rfl (q_move (v := .bool true) rfl) ?_
            refine OpsW.qw rfl rfl (o_call rfl Try.func10 rfl rfl (awake_con)) ?_
            refine OpsW.q rfl (q_and2 rfl rfl rfl) ?_
            refine OpsW.q rfl (q_assign (v := .bool _) rfl) ?_
            refine OpsW.nil ?_
            refine SeqP.go ?_
            refine AW.ret ?_
            refine RetP.mk1 (H' := H) (v1 := .bool _) rfl rfl  hS18.le ?_
            exact ⟨rfl, rfl⟩
        ·
          rintro _ _ ⟨rfl, rfl⟩
          refine AnyW.onlyQ 8 rfl (by kernel_rfl) rfl (dst_lt rfl) (q_extract (v := S _) rfl rfl) ?_
          refine AnyW.onlyQ 10 rfl (by kernel_rfl) rfl (dst_lt rfl) (q_assign (v := S _) rfl) ?_
          refine AnyW.onlyQ 11 rfl (by kernel_rfl) rfl (dst_lt rfl) (q_assign (v := .int _ _) rfl) ?_
          refine AnyW.done (by kernel_rfl) ?_
          refine SeqP.go ?_
          refine AW.seq ?_
          refine AW.region ?_
          refine OpsW.q rfl (q_move (v := .int _ _) rfl) ?_
          refine OpsW.q rfl (q_move (v := .int _ _) rfl) ?_
          refine OpsW.q rfl (o_call rfl Try.func16 rfl rfl (SizeR_con _)) ?_
          rw [sizeS_no hz1 hz2]
          refine OpsW.q rfl (q_eql rfl rfl) ?_
          refine OpsW.q rfl (q_move (v := .bool true) rfl) ?_
          refine OpsW.qw rfl rfl (q_move (v := .int _ _) rfl) ?_
          refine OpsW.qw rfl rfl (q_eql rfl rfl) ?_
          refine OpsW.qw rfl rfl (q_move (v := .int _ _) rfl) ?_
          refine OpsW.qw rfl rfl (q_gtr rfl rfl) ?_
          refine OpsW.qw rfl rfl (q_eqlB Try.underlying4 rfl rfl) ?_
          refine OpsW.q rfl (q_and2 rfl rfl rfl) ?_
          refine OpsW.q rfl (q_move (v := .bool true) rfl) ?_
          refine OpsW.qw rfl rfl (q_move (v := .int _ _) rfl) ?_
          refine OpsW.qw rfl rfl (q_gtr rfl rfl) ?_
          refine OpsW.qw rfl rfl (q_move (v := .bool false) rfl) ?_
          refine OpsW.p rfl rfl ?_
          refine OpsW.p rfl rfl ?_
          refine OpsW.p rfl rfl ?_
          refine OpsW.qw rfl rfl (q_and2 (B := false) rfl rfl rfl) ?_
          refine OpsW.qw rfl rfl (q_move (v := .bool false) rfl) ?_
          refine OpsW.qw rfl rfl (q_move (v := .int _ _) rfl) ?_
          refine OpsW.qw rfl rfl (q_eql rfl rfl) ?_
          refine OpsW.qw rfl rfl (q_move (v := .bool true) rfl) ?_
          refine OpsW.qw rfl rfl (q_move (v := S _) rfl) ?_
          refine OpsW.qw rfl rfl (q_eqS rfl rfl) ?_
          refine OpsW.qw rfl rfl (q_and2 rfl rfl rfl) ?_
          refine OpsW.qw rfl rfl (q_move (v := .bool true) rfl) ?_
          refine OpsW.qw rfl rfl (q_move (v := .int _ _) rfl) ?_
          refine OpsW.qw rfl rfl (q_eql rfl rfl) ?_
          refine OpsW.qw rfl rfl (q_and2 rfl rfl rfl) ?_
          refine OpsW.qw rfl rfl (q_or2 rfl rfl rfl) ?_
          refine OpsW.q rfl (q_and2 rfl rfl rfl) ?_
          refine OpsW.q rfl (q_move (v := .bool true) rfl) ?_
          refine OpsW.qw rfl rfl (o_call rfl Try.func10 rfl rfl (awake_con)) ?_
          refine OpsW.q rfl (q_and2 rfl rfl rfl) ?_
          refine OpsW.q rfl (q_assign (v := .bool _) rfl) ?_
          refine OpsW.nil ?_
          refine SeqP.go ?_
          refine AW.ret ?_
          refine RetP.mk1 (H' := H) (v1 := .bool _) rfl rfl  hS18.le ?_
          exact ⟨rfl, rfl⟩
end
end Go.Proofs.Ytkfdoicjpoofhaa
end
section
namespace Go.Proofs.Ytkfdoicjpoofhaa
open Go Go.RowKit Go.ChangeShapes Go.WideShapes Go.ChangeAt D
set_option linter.unusedVariables false
set_option maxRecDepth 100000
theorem own : ownKnob Try.prog.godebug = none := by kernel_rfl
theorem laidOut : laidOutB Try.prog = true := by kernel_rfl
theorem len4 {α : Type} {l : List α} (h : l.length = 4) : ∃ a b c d, l = [a, b, c, d] := by
  match l, h with
  | [a, b, c, d], _ => exact ⟨a, b, c, d, rfl⟩
theorem sealOpens_lifted (os : Os) (started : os.Started) (H : Type) (enc : TypeId × Value → H) :
    ReturnsInHanded {} Try.checked os 3 .any (Rows.sealOpensSpec.pre6 enc Try.prog Try.f3 Rows.sealOpensRow.domain false) (Rows.sealOpensSpec.post enc Try.prog Try.f3 false true false false) := by
  refine lifted (C := Try.checked) own started (by kernel_rfl) Try.func3
    (ChangeSpec.witness6 (enc := enc) (C := Try.checked) false ⟨#[], #[.int .i64 0, .agg #[.string ⟨#[]⟩, .string ⟨#[]⟩, .string ⟨#[]⟩, .string ⟨#[]⟩]], []⟩ 8 (by kernel_rfl) (by kernel_rfl) (by kernel_rfl) (by kernel_rfl)) laidOut (by kernel_rfl) rfl (by kernel_rfl) Try.underlying4 ?_ ?_
  · intro ds h
    obtain ⟨d0, d1, rfl⟩ := len2 h
    exact ⟨rfl, rfl, rfl⟩
  · intro W base args ds gs before hval0 hW _
    have hval : ∀ (j : Nat) t v, Try.f3.params[j]? = some t → args[j]? = some v → Value.okWide Try.prog W .any base t v := hval0
    obtain ⟨p_, q_, hA0, hV, rfl, _, _⟩ := hW
    have hA : DataW.TrodAll enc Try.prog W 0 (fun _ => true) true Try.f3.params.toList args.toList ds p_ := hA0
    rw [Try.params3] at hA hval
    obtain ⟨v0, v1, d0, d1, p0_, p1_, rfl, rfl, rfl, h0, h1⟩ := trodAll_two hA
    obtain ⟨s, rfl, lo_s, hi_s⟩ := open_i64 Try.underlying3 (hval 0 _ v0 rfl rfl) h0
    obtain ⟨csx, rfl, hTx⟩ := open_structT Try.underlying23 (hval 1 _ v1 rfl rfl) h1
    have hUx := Try.underlying23
    have hlx := (hTx.struct hUx).1
    rw [show Try.prog.cellsOf 23 = 4 by kernel_rfl] at hlx
    obtain ⟨x0x, x1x, x2x, x3x, rfl⟩ := len4 hlx
    obtain ⟨xk, k0x, _⟩ := (hTx.part hUx 0 0 1 9 rfl (by kernel_rfl)).str Try.underlying9
    obtain ⟨xn, k1x, _⟩ := (hTx.part hUx 1 1 1 9 rfl (by kernel_rfl)).str Try.underlying9
    obtain ⟨xb, k2x, _⟩ := (hTx.part hUx 2 2 1 9 rfl (by kernel_rfl)).str Try.underlying9
    obtain ⟨xd, k3x, _⟩ := (hTx.part hUx 3 3 1 9 rfl (by kernel_rfl)).str Try.underlying9
    simp at k0x k1x k2x k3x
    subst k0x k1x k2x k3x
    exact (opensL_con s xk xn xb xd).mono fun v H' h => h.1
theorem sealOpens_holds : Rows.SealOpensSaid :=
  OpenClaim.holds_of_wide 3 Try.f3 rfl rfl rfl rfl rfl rfl rfl ⟨rfl, rfl, rfl, rfl, rfl⟩ rfl rfl rfl rfl rfl (by kernel_rfl) Try.func3 (by kernel_rfl)
    (of_decide_eq_true (by kernel_rfl)) (by unfold Func.isWrapper; first | (rw [if_pos (by decide +kernel)]; kernel_rfl) | (rw [if_neg (by decide +kernel)]; exact ⟨rfl, rfl⟩))
    (fun os started H enc _ => sealOpens_lifted os started H enc)
theorem sealNonces_lifted (os : Os) (started : os.Started) (H : Type) (enc : TypeId × Value → H) :
    ReturnsInHanded {} Try.checked os 4 .any (Rows.sealNoncesSpec.pre6 enc Try.prog Try.f4 Rows.sealNoncesRow.domain false) (Rows.sealNoncesSpec.post enc Try.prog Try.f4 false true false false) := by
  refine lifted (C := Try.checked) own started (by kernel_rfl) Try.func4
    (ChangeSpec.witness6 (enc := enc) (C := Try.checked) false ⟨#[], #[.string ⟨#[]⟩, .int .i64 0, .int .i64 0], []⟩ 8 (by kernel_rfl) (by kernel_rfl) (by kernel_rfl) (by kernel_rfl)) laidOut (by kernel_rfl) rfl (by kernel_rfl) Try.underlying4 ?_ ?_
  · intro ds h
    obtain ⟨d0, d1, d2, rfl⟩ := len3 h
    exact ⟨rfl, rfl, rfl⟩
  · intro W base args ds gs before hval0 hW _
    have hval : ∀ (j : Nat) t v, Try.f4.params[j]? = some t → args[j]? = some v → Value.okWide Try.prog W .any base t v := hval0
    obtain ⟨p_, q_, hA0, hV, rfl, _, _⟩ := hW
    have hA : DataW.TrodAll enc Try.prog W 0 (fun _ => true) true Try.f4.params.toList args.toList ds p_ := hA0
    rw [Try.params4] at hA hval
    obtain ⟨v0, v1, v2, d0, d1, d2, p0_, p1_, p2_, rfl, rfl, rfl, h0, h1, h2⟩ := trodAll_three hA
    obtain ⟨iv, rfl, hl_iv, rfl⟩ := open_str Try.underlying9 (hval 0 _ v0 rfl rfl) h0
    obtain ⟨n, rfl, lo_n, hi_n⟩ := open_i64 Try.underlying3 (hval 1 _ v1 rfl rfl) h1
    obtain ⟨s, rfl, lo_s, hi_s⟩ := open_i64 Try.underlying3 (hval 2 _ v2 rfl rfl) h2
    exact (noncesL_con hi_n iv s).mono fun v H' h => h.1
theorem sealNonces_holds : Rows.SealNoncesSaid :=
  OpenClaim.holds_of_wide 4 Try.f4 rfl rfl rfl rfl rfl rfl rfl ⟨rfl, rfl, rfl, rfl, rfl⟩ rfl rfl rfl rfl rfl (by kernel_rfl) Try.func4 (by kernel_rfl)
    (of_decide_eq_true (by kernel_rfl)) (by unfold Func.isWrapper; first | (rw [if_pos (by decide +kernel)]; kernel_rfl) | (rw [if_neg (by decide +kernel)]; exact ⟨rfl, rfl⟩))
    (fun os started H enc _ => sealNonces_lifted os started H enc)
theorem sealApart_lifted (os : Os) (started : os.Started) (H : Type) (enc : TypeId × Value → H) :
    ReturnsInHanded {} Try.checked os 5 .any (Rows.sealApartSpec.pre6 enc Try.prog Try.f5 Rows.sealApartRow.domain false) (Rows.sealApartSpec.post enc Try.prog Try.f5 false true false false) := by
  refine lifted (C := Try.checked) own started (by kernel_rfl) Try.func5
    (ChangeSpec.witness6 (enc := enc) (C := Try.checked) false ⟨#[], #[.string ⟨#[]⟩, .int .i64 0, .int .i64 0], []⟩ 8 (by kernel_rfl) (by kernel_rfl) (by kernel_rfl) (by kernel_rfl)) laidOut (by kernel_rfl) rfl (by kernel_rfl) Try.underlying4 ?_ ?_
  · intro ds h
    obtain ⟨d0, d1, d2, rfl⟩ := len3 h
    exact ⟨rfl, rfl, rfl⟩
  · intro W base args ds gs before hval0 hW _
    have hval : ∀ (j : Nat) t v, Try.f5.params[j]? = some t → args[j]? = some v → Value.okWide Try.prog W .any base t v := hval0
    obtain ⟨p_, q_, hA0, hV, rfl, _, _⟩ := hW
    have hA : DataW.TrodAll enc Try.prog W 0 (fun _ => true) true Try.f5.params.toList args.toList ds p_ := hA0
    rw [Try.params5] at hA hval
    obtain ⟨v0, v1, v2, d0, d1, d2, p0_, p1_, p2_, rfl, rfl, rfl, h0, h1, h2⟩ := trodAll_three hA
    obtain ⟨iv, rfl, hl_iv, rfl⟩ := open_str Try.underlying9 (hval 0 _ v0 rfl rfl) h0
    obtain ⟨m, rfl, lo_m, hi_m⟩ := open_i64 Try.underlying3 (hval 1 _ v1 rfl rfl) h1
    obtain ⟨n, rfl, lo_n, hi_n⟩ := open_i64 Try.underlying3 (hval 2 _ v2 rfl rfl) h2
    exact (apartL_con hi_m hi_n iv).mono fun v H' h => h.1
theorem sealApart_holds : Rows.SealApartSaid :=
  OpenClaim.holds_of_wide 5 Try.f5 rfl rfl rfl rfl rfl rfl rfl ⟨rfl, rfl, rfl, rfl, rfl⟩ rfl rfl rfl rfl rfl (by kernel_rfl) Try.func5 (by kernel_rfl)
    (of_decide_eq_true (by kernel_rfl)) (by unfold Func.isWrapper; first | (rw [if_pos (by decide +kernel)]; kernel_rfl) | (rw [if_neg (by decide +kernel)]; exact ⟨rfl, rfl⟩))
    (fun os started H enc _ => sealApart_lifted os started H enc)
theorem sealSeals_lifted (os : Os) (started : os.Started) (H : Type) (enc : TypeId × Value → H) :
    ReturnsInHanded {} Try.checked os 6 .any (Rows.sealSealsSpec.pre6 enc Try.prog Try.f6 Rows.sealSealsRow.domain false) (Rows.sealSealsSpec.post enc Try.prog Try.f6 false true false false) := by
  refine lifted (C := Try.checked) own started (by kernel_rfl) Try.func6
    (ChangeSpec.witness6 (enc := enc) (C := Try.checked) false ⟨#[], #[.int .i64 0, .agg #[.string ⟨#[]⟩, .string ⟨#[]⟩, .string ⟨#[]⟩, .string ⟨#[]⟩]], []⟩ 8 (by kernel_rfl) (by kernel_rfl) (by kernel_rfl) (by kernel_rfl)) laidOut (by kernel_rfl) rfl (by kernel_rfl) Try.underlying4 ?_ ?_
  · intro ds h
    obtain ⟨d0, d1, rfl⟩ := len2 h
    exact ⟨rfl, rfl, rfl⟩
  · intro W base args ds gs before hval0 hW _
    have hval : ∀ (j : Nat) t v, Try.f6.params[j]? = some t → args[j]? = some v → Value.okWide Try.prog W .any base t v := hval0
    obtain ⟨p_, q_, hA0, hV, rfl, _, _⟩ := hW
    have hA : DataW.TrodAll enc Try.prog W 0 (fun _ => true) true Try.f6.params.toList args.toList ds p_ := hA0
    rw [Try.params6] at hA hval
    obtain ⟨v0, v1, d0, d1, p0_, p1_, rfl, rfl, rfl, h0, h1⟩ := trodAll_two hA
    obtain ⟨s, rfl, lo_s, hi_s⟩ := open_i64 Try.underlying3 (hval 0 _ v0 rfl rfl) h0
    obtain ⟨csx, rfl, hTx⟩ := open_structT Try.underlying23 (hval 1 _ v1 rfl rfl) h1
    have hUx := Try.underlying23
    have hlx := (hTx.struct hUx).1
    rw [show Try.prog.cellsOf 23 = 4 by kernel_rfl] at hlx
    obtain ⟨x0x, x1x, x2x, x3x, rfl⟩ := len4 hlx
    obtain ⟨xk, k0x, _⟩ := (hTx.part hUx 0 0 1 9 rfl (by kernel_rfl)).str Try.underlying9
    obtain ⟨xn, k1x, _⟩ := (hTx.part hUx 1 1 1 9 rfl (by kernel_rfl)).str Try.underlying9
    obtain ⟨xb, k2x, _⟩ := (hTx.part hUx 2 2 1 9 rfl (by kernel_rfl)).str Try.underlying9
    obtain ⟨xd, k3x, _⟩ := (hTx.part hUx 3 3 1 9 rfl (by kernel_rfl)).str Try.underlying9
    simp at k0x k1x k2x k3x
    subst k0x k1x k2x k3x
    exact (sealsL_con s xk xn xb xd).mono fun v H' h => h.1
theorem sealSeals_holds : Rows.SealSealsSaid :=
  OpenClaim.holds_of_wide 6 Try.f6 rfl rfl rfl rfl rfl rfl rfl ⟨rfl, rfl, rfl, rfl, rfl⟩ rfl rfl rfl rfl rfl (by kernel_rfl) Try.func6 (by kernel_rfl)
    (of_decide_eq_true (by kernel_rfl)) (by unfold Func.isWrapper; first | (rw [if_pos (by decide +kernel)]; kernel_rfl) | (rw [if_neg (by decide +kernel)]; exact ⟨rfl, rfl⟩))
    (fun os started H enc _ => sealSeals_lifted os started H enc)
theorem sealBack_lifted (os : Os) (started : os.Started) (H : Type) (enc : TypeId × Value → H) :
    ReturnsInHanded {} Try.checked os 7 .any (Rows.sealBackSpec.pre6 enc Try.prog Try.f7 Rows.sealBackRow.domain false) (Rows.sealBackSpec.post enc Try.prog Try.f7 false true false false) := by
  refine lifted (C := Try.checked) own started (by kernel_rfl) Try.func7
    (ChangeSpec.witness6 (enc := enc) (C := Try.checked) false ⟨#[], #[.agg #[.string ⟨#[]⟩, .string ⟨#[]⟩, .string ⟨#[]⟩, .string ⟨#[]⟩], .int .i64 0, .bool false], []⟩ 8 (by kernel_rfl) (by kernel_rfl) (by kernel_rfl) (by kernel_rfl)) laidOut (by kernel_rfl) rfl (by kernel_rfl) Try.underlying4 ?_ ?_
  · intro ds h
    obtain ⟨d0, d1, d2, rfl⟩ := len3 h
    exact ⟨rfl, rfl, rfl⟩
  · intro W base args ds gs before hval0 hW _
    have hval : ∀ (j : Nat) t v, Try.f7.params[j]? = some t → args[j]? = some v → Value.okWide Try.prog W .any base t v := hval0
    obtain ⟨p_, q_, hA0, hV, rfl, _, _⟩ := hW
    have hA : DataW.TrodAll enc Try.prog W 0 (fun _ => true) true Try.f7.params.toList args.toList ds p_ := hA0
    rw [Try.params7] at hA hval
    obtain ⟨v0, v1, v2, d0, d1, d2, p0_, p1_, p2_, rfl, rfl, rfl, h0, h1, h2⟩ := trodAll_three hA
    obtain ⟨csx, rfl, hTx⟩ := open_structT Try.underlying23 (hval 0 _ v0 rfl rfl) h0
    have hUx := Try.underlying23
    have hlx := (hTx.struct hUx).1
    rw [show Try.prog.cellsOf 23 = 4 by kernel_rfl] at hlx
    obtain ⟨x0x, x1x, x2x, x3x, rfl⟩ := len4 hlx
    obtain ⟨xk, k0x, _⟩ := (hTx.part hUx 0 0 1 9 rfl (by kernel_rfl)).str Try.underlying9
    obtain ⟨xn, k1x, _⟩ := (hTx.part hUx 1 1 1 9 rfl (by kernel_rfl)).str Try.underlying9
    obtain ⟨xb, k2x, _⟩ := (hTx.part hUx 2 2 1 9 rfl (by kernel_rfl)).str Try.underlying9
    obtain ⟨xd, k3x, _⟩ := (hTx.part hUx 3 3 1 9 rfl (by kernel_rfl)).str Try.underlying9
    simp at k0x k1x k2x k3x
    subst k0x k1x k2x k3x
    obtain ⟨n, rfl, lo_n, hi_n⟩ := open_i64 Try.underlying3 (hval 1 _ v1 rfl rfl) h1
    obtain ⟨q, rfl, rfl, _⟩ := open_bool Try.underlying4 (hval 2 _ v2 rfl rfl) h2
    exact (backL_con xk xn xb xd n q).mono fun v H' h => h.1
theorem sealBack_holds : Rows.SealBackSaid :=
  OpenClaim.holds_of_wide 7 Try.f7 rfl rfl rfl rfl rfl rfl rfl ⟨rfl, rfl, rfl, rfl, rfl⟩ rfl rfl rfl rfl rfl (by kernel_rfl) Try.func7 (by kernel_rfl)
    (of_decide_eq_true (by kernel_rfl)) (by unfold Func.isWrapper; first | (rw [if_pos (by decide +kernel)]; kernel_rfl) | (rw [if_neg (by decide +kernel)]; exact ⟨rfl, rfl⟩))
    (fun os started H enc _ => sealBack_lifted os started H enc)
theorem sealSizes_lifted (os : Os) (started : os.Started) (H : Type) (enc : TypeId × Value → H) :
    ReturnsInHanded {} Try.checked os 8 .any (Rows.sealSizesSpec.pre6 enc Try.prog Try.f8 Rows.sealSizesRow.domain false) (Rows.sealSizesSpec.post enc Try.prog Try.f8 false true false false) := by
  refine lifted (C := Try.checked) own started (by kernel_rfl) Try.func8
    (ChangeSpec.witness6 (enc := enc) (C := Try.checked) false ⟨#[], #[.int .i64 0], []⟩ 8 (by kernel_rfl) (by kernel_rfl) (by kernel_rfl) (by kernel_rfl)) laidOut (by kernel_rfl) rfl (by kernel_rfl) Try.underlying4 ?_ ?_
  · intro ds h
    obtain ⟨d0, rfl⟩ := len1 h
    exact ⟨rfl, rfl, rfl⟩
  · intro W base args ds gs before hval0 hW _
    have hval : ∀ (j : Nat) t v, Try.f8.params[j]? = some t → args[j]? = some v → Value.okWide Try.prog W .any base t v := hval0
    obtain ⟨p_, q_, hA0, hV, rfl, _, _⟩ := hW
    have hA : DataW.TrodAll enc Try.prog W 0 (fun _ => true) true Try.f8.params.toList args.toList ds p_ := hA0
    rw [Try.params8] at hA hval
    obtain ⟨v0, d0, rfl, rfl, h0⟩ := trodAll_one hA
    obtain ⟨s, rfl, lo_s, hi_s⟩ := open_i64 Try.underlying3 (hval 0 _ v0 rfl rfl) h0
    exact (sizesL_con s).mono fun v H' h => h.1
theorem sealSizes_holds : Rows.SealSizesSaid :=
  OpenClaim.holds_of_wide 8 Try.f8 rfl rfl rfl rfl rfl rfl rfl ⟨rfl, rfl, rfl, rfl, rfl⟩ rfl rfl rfl rfl rfl (by kernel_rfl) Try.func8 (by kernel_rfl)
    (of_decide_eq_true (by kernel_rfl)) (by unfold Func.isWrapper; first | (rw [if_pos (by decide +kernel)]; kernel_rfl) | (rw [if_neg (by decide +kernel)]; exact ⟨rfl, rfl⟩))
    (fun os started H enc _ => sealSizes_lifted os started H enc)
end Go.Proofs.Ytkfdoicjpoofhaa
end
