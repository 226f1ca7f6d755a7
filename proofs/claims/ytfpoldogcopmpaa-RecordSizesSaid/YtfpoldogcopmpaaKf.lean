/-
  The proof's texts, joined, without what the statements do not reach: part 6 of 6. No condition.
-/
import Derived.Test.YtfpoldogcopmpaaRows
import Derived.WalkKit
import Derived.KernelRfl
import Derived.Lib.ConvBytes
import Derived.WalkSpells
import Derived.WalkLawsBesides
import Derived.ProofKit
import Derived.ChangeMaps5
import Derived.ChangeSlices
import Derived.Deep.Strs
import Derived.DataElems
import Derived.OpenShut
import Derived.Test.YtfpoldogcopmpaaProg
import Derived.Shelf.Bits.Mul64
import Derived.Shelf.Strings.Builder1
import Derived.Shelf.Strings.Builder2
import Derived.Shelf.Strings.BuilderF
import Derived.Shelf.Strings.Prefix
import Derived.Shelf.Strings.Repeat
import Derived.Test.YtfpoldogcopmpaaKe
section
namespace Go.Proofs.Ytfpoldogcopmpaa
open Go Go.RowKit D
set_option linter.unusedVariables false
set_option linter.unusedSimpArgs false
set_option maxRecDepth 100000
set_option maxHeartbeats 1000000
section
variable {w0 : World} {H : Hp}
theorem isKind_con (n : Int) : Con Try.prog w0 13 #[.int .i64 n] H (fun v H' => v = .bool (isK n) ∧ H' = H) := by
  refine Con.intro Try.func13 rfl rfl ?_
  refine AW.seq ?_
  refine AW.region ?_
  refine OpsW.q rfl (q_assign (v := .bool _) rfl) ?_
  refine OpsW.nil ?_
  refine SeqP.go ?_
  refine AW.seq ?_
  refine AW.region ?_
  refine OpsW.q rfl (q_move (v := .int _ _) rfl) ?_
  refine OpsW.q rfl (q_geq rfl rfl) ?_
  refine OpsW.qb rfl (q_move (v := .bool _) rfl) ?_
  intro b5 eb5
  refine OpsW.g rfl rfl rfl (fun hB => by simp only [Bool.and_eq_true, beq_iff_eq] at hB; obtain rfl := hB; exact (q_move (v := .int _ _) rfl)) ?_
  refine OpsW.g rfl rfl rfl (fun hB => by simp only [Bool.and_eq_true, beq_iff_eq] at hB; obtain rfl := hB; exact (q_leq rfl rfl)) ?_
  refine OpsW.q rfl (q_and2 rfl rfl rfl) ?_
  refine OpsW.q rfl (q_assign (v := .bool _) rfl) ?_
  refine OpsW.nil ?_
  refine SeqP.go ?_
  refine AW.ret ?_
  refine RetP.mk1 (H' := H) (v1 := .bool _) rfl rfl  (by first | exact (Hp.le_refl _) | exact (Hp.le_set (by first | assumption | exact Hp.set_none (by assumption) (by first | assumption | exact Ne.symm (by assumption)) | exact Hp.set_none (Hp.set_none (by assumption) (by first | assumption | exact Ne.symm (by assumption))) (by first | assumption | exact Ne.symm (by assumption))) (Hp.le_refl _)) | exact (Hp.le_set (by first | assumption | exact Hp.set_none (by assumption) (by first | assumption | exact Ne.symm (by assumption)) | exact Hp.set_none (Hp.set_none (by assumption) (by first | assumption | exact Ne.symm (by assumption))) (by first | assumption | exact Ne.symm (by assumption))) (Hp.le_set (by first | assumption | exact Hp.set_none (by assumption) (by first | assumption | exact Ne.symm (by assumption)) | exact Hp.set_none (Hp.set_none (by assumption) (by first | assumption | exact Ne.symm (by assumption))) (by first | assumption | exact Ne.symm (by assumption))) (Hp.le_refl _))) | exact (Hp.le_set (by first | assumption | exact Hp.set_none (by assumption) (by first | assumption | exact Ne.symm (by assumption)) | exact Hp.set_none (Hp.set_none (by assumption) (by first | assumption | exact Ne.symm (by assumption))) (by first | assumption | exact Ne.symm (by assumption))) (Hp.le_set (by first | assumption | exact Hp.set_none (by assumption) (by first | assumption | exact Ne.symm (by assumption)) | exact Hp.set_none (Hp.set_none (by assumption) (by first | assumption | exact Ne.symm (by assumption))) (by first | assumption | exact Ne.symm (by assumption))) (Hp.le_set (by first | assumption | exact Hp.set_none (by assumption) (by first | assumption | exact Ne.symm (by assumption)) | exact Hp.set_none (Hp.set_none (by assumption) (by first | assumption | exact Ne.symm (by assumption))) (by first | assumption | exact Ne.symm (by assumption))) (Hp.le_refl _)))) | exact (Hp.le_set (by first | assumption | exact Hp.set_none (by assumption) (by first | assumption | exact Ne.symm (by assumption)) | exact Hp.set_none (Hp.set_none (by assumption) (by first | assumption | exact Ne.symm (by assumption))) (by first | assumption | exact Ne.symm (by assumption))) (Hp.le_set (by first | assumption | exact Hp.set_none (by assumption) (by first | assumption | exact Ne.symm (by assumption)) | exact Hp.set_none (Hp.set_none (by assumption) (by first | assumption | exact Ne.symm (by assumption))) (by first | assumption | exact Ne.symm (by assumption))) (Hp.le_set (by first | assumption | exact Hp.set_none (by assumption) (by first | assumption | exact Ne.symm (by assumption)) | exact Hp.set_none (Hp.set_none (by assumption) (by first | assumption | exact Ne.symm (by assumption))) (by first | assumption | exact Ne.symm (by assumption))) (Hp.le_set (by first | assumption | exact Hp.set_none (by assumption) (by first | assumption | exact Ne.symm (by assumption)) | exact Hp.set_none (Hp.set_none (by assumption) (by first | assumption | exact Ne.symm (by assumption))) (by first | assumption | exact Ne.symm (by assumption))) (Hp.le_refl _))))) | exact (Hp.le_set (by first | assumption | exact Hp.set_none (by assumption) (by first | assumption | exact Ne.symm (by assumption)) | exact Hp.set_none (Hp.set_none (by assumption) (by first | assumption | exact Ne.symm (by assumption))) (by first | assumption | exact Ne.symm (by assumption))) (Hp.le_set (by first | assumption | exact Hp.set_none (by assumption) (by first | assumption | exact Ne.symm (by assumption)) | exact Hp.set_none (Hp.set_none (by assumption) (by first | assumption | exact Ne.symm (by assumption))) (by first | assumption | exact Ne.symm (by assumption))) (Hp.le_set (by first | assumption | exact Hp.set_none (by assumption) (by first | assumption | exact Ne.symm (by assumption)) | exact Hp.set_none (Hp.set_none (by assumption) (by first | assumption | exact Ne.symm (by assumption))) (by first | assumption | exact Ne.symm (by assumption))) (Hp.le_set (by first | assumption | exact Hp.set_none (by assumption) (by first | assumption | exact Ne.symm (by assumption)) | exact Hp.set_none (Hp.set_none (by assumption) (by first | assumption | exact Ne.symm (by assumption))) (by first | assumption | exact Ne.symm (by assumption))) (Hp.le_set (by first | assumption | exact Hp.set_none (by assumption) (by first | assumption | exact Ne.symm (by assumption)) | exact Hp.set_none (Hp.set_none (by assumption) (by first | assumption | exact Ne.symm (by assumption))) (by first | assumption | exact Ne.symm (by assumption))) (Hp.le_refl _))))))) ?_
  refine ⟨?_, rfl⟩
  unfold isK; simp_all
theorem head_con (kind n : Int) (hn : 0 ≤ n ∧ n ≤ 1000000) : Con Try.prog w0 16 #[.int .i64 kind, .int .i64 n] H (fun v H' => v = S (headP kind n) ∧ H' = H) := by
  refine Con.intro Try.func16 rfl rfl ?_
  refine AW.seq ?_
  refine AW.region ?_
  refine OpsW.q rfl (q_assign (v := S _) rfl) ?_
  refine OpsW.nil ?_
  refine SeqP.go ?_
  refine AW.seq ?_
  refine AW.region ?_
  refine OpsW.q rfl (q_move (v := .int _ _) rfl) ?_
  refine OpsW.q rfl (q_convInt rfl Try.underlying5 rfl) ?_
  refine OpsW.q rfl (q_move (v := .int _ _) rfl) ?_
  refine OpsW.q rfl (q_shr rfl rfl (by first | omega | decide)) ?_
  refine OpsW.q rfl (q_convInt rfl Try.underlying5 rfl) ?_
  refine OpsW.q rfl (q_move (v := .int _ _) rfl) ?_
  refine OpsW.q rfl (q_convInt rfl Try.underlying5 rfl) ?_
  refine OpsW.m rfl (o_buildSlice (z := .int .u8 0) (vs := nums .u8 [_, _, _, _, _]) Try.underlying44 (by kernel_rfl) (by kernel_rfl) rfl (by rfl) (by rfl) (by decide) rfl (ones_all rfl)) ?_
  rintro _ _ ⟨b12, hb12, rfl, rfl⟩
  refine OpsW.q rfl (q_string0 Try.underlying44 Try.underlying5 Try.underlying9 rfl (by first | exact Hp.set_self | exact (Hp.set_ne (by first | assumption | exact Ne.symm (by assumption))).trans (Hp.set_self) | exact (Hp.set_ne (by first | assumption | exact Ne.symm (by assumption))).trans ((Hp.set_ne (by first | assumption | exact Ne.symm (by assumption))).trans (Hp.set_self)) | exact (Hp.set_ne (by first | assumption | exact Ne.symm (by assumption))).trans ((Hp.set_ne (by first | assumption | exact Ne.symm (by assumption))).trans ((Hp.set_ne (by first | assumption | exact Ne.symm (by assumption))).trans (Hp.set_self))) | exact (Hp.set_ne (by first | assumption | exact Ne.symm (by assumption))).trans ((Hp.set_ne (by first | assumption | exact Ne.symm (by assumption))).trans ((Hp.set_ne (by first | assumption | exact Ne.symm (by assumption))).trans ((Hp.set_ne (by first | assumption | exact Ne.symm (by assumption))).trans (Hp.set_self)))) | exact (by assumption) | exact (Hp.set_ne (by first | assumption | exact Ne.symm (by assumption))).trans ((by assumption)) | exact (Hp.set_ne (by first | assumption | exact Ne.symm (by assumption))).trans ((Hp.set_ne (by first | assumption | exact Ne.symm (by assumption))).trans ((by assumption))) | exact (Hp.set_ne (by first | assumption | exact Ne.symm (by assumption))).trans ((Hp.set_ne (by first | assumption | exact Ne.symm (by assumption))).trans ((Hp.set_ne (by first | assumption | exact Ne.symm (by assumption))).trans ((by assumption))))) (by first | (with_reducible assumption) | omega | (unfold maxLen; omega) | (simp only [nums_length, List.length_set, List.length_replicate, List.length_take, List.length_drop, List.length_append, List.length_cons, List.length_nil, ofB_length, toB_length]; omega) | (simp only [nums_length, List.length_set, List.length_replicate, List.length_take, List.length_drop, List.length_append, List.length_cons, List.length_nil, ofB_length, toB_length]; unfold maxLen; omega) | (simp; done) | (simp; omega) | rfl | decide)) ?_
  refine OpsW.q rfl (q_assign (v := S _) rfl) ?_
  refine OpsW.nil ?_
  refine SeqP.go ?_
  refine AW.ret ?_
  refine RetP.mk1 (H' := H) (v1 := S _) rfl rfl  (by first | exact (Hp.le_refl _) | exact (Hp.le_set (by first | assumption | exact Hp.set_none (by assumption) (by first | assumption | exact Ne.symm (by assumption)) | exact Hp.set_none (Hp.set_none (by assumption) (by first | assumption | exact Ne.symm (by assumption))) (by first | assumption | exact Ne.symm (by assumption))) (Hp.le_refl _)) | exact (Hp.le_set (by first | assumption | exact Hp.set_none (by assumption) (by first | assumption | exact Ne.symm (by assumption)) | exact Hp.set_none (Hp.set_none (by assumption) (by first | assumption | exact Ne.symm (by assumption))) (by first | assumption | exact Ne.symm (by assumption))) (Hp.le_set (by first | assumption | exact Hp.set_none (by assumption) (by first | assumption | exact Ne.symm (by assumption)) | exact Hp.set_none (Hp.set_none (by assumption) (by first | assumption | exact Ne.symm (by assumption))) (by first | assumption | exact Ne.symm (by assumption))) (Hp.le_refl _))) | exact (Hp.le_set (by first | assumption | exact Hp.set_none (by assumption) (by first | assumption | exact Ne.symm (by assumption)) | exact Hp.set_none (Hp.set_none (by assumption) (by first | assumption | exact Ne.symm (by assumption))) (by first | assumption | exact Ne.symm (by assumption))) (Hp.le_set (by first | assumption | exact Hp.set_none (by assumption) (by first | assumption | exact Ne.symm (by assumption)) | exact Hp.set_none (Hp.set_none (by assumption) (by first | assumption | exact Ne.symm (by assumption))) (by first | assumption | exact Ne.symm (by assumption))) (Hp.le_set (by first | assumption | exact Hp.set_none (by assumption) (by first | assumption | exact Ne.symm (by assumption)) | exact Hp.set_none (Hp.set_none (by assumption) (by first | assumption | exact Ne.symm (by assumption))) (by first | assumption | exact Ne.symm (by assumption))) (Hp.le_refl _)))) | exact (Hp.le_set (by first | assumption | exact Hp.set_none (by assumption) (by first | assumption | exact Ne.symm (by assumption)) | exact Hp.set_none (Hp.set_none (by assumption) (by first | assumption | exact Ne.symm (by assumption))) (by first | assumption | exact Ne.symm (by assumption))) (Hp.le_set (by first | assumption | exact Hp.set_none (by assumption) (by first | assumption | exact Ne.symm (by assumption)) | exact Hp.set_none (Hp.set_none (by assumption) (by first | assumption | exact Ne.symm (by assumption))) (by first | assumption | exact Ne.symm (by assumption))) (Hp.le_set (by first | assumption | exact Hp.set_none (by assumption) (by first | assumption | exact Ne.symm (by assumption)) | exact Hp.set_none (Hp.set_none (by assumption) (by first | assumption | exact Ne.symm (by assumption))) (by first | assumption | exact Ne.symm (by assumption))) (Hp.le_set (by first | assumption | exact Hp.set_none (by assumption) (by first | assumption | exact Ne.symm (by assumption)) | exact Hp.set_none (Hp.set_none (by assumption) (by first | assumption | exact Ne.symm (by assumption))) (by first | assumption | exact Ne.symm (by assumption))) (Hp.le_refl _))))) | exact (Hp.le_set (by first | assumption | exact Hp.set_none (by assumption) (by first | assumption | exact Ne.symm (by assumption)) | exact Hp.set_none (Hp.set_none (by assumption) (by first | assumption | exact Ne.symm (by assumption))) (by first | assumption | exact Ne.symm (by assumption))) (Hp.le_set (by first | assumption | exact Hp.set_none (by assumption) (by first | assumption | exact Ne.symm (by assumption)) | exact Hp.set_none (Hp.set_none (by assumption) (by first | assumption | exact Ne.symm (by assumption))) (by first | assumption | exact Ne.symm (by assumption))) (Hp.le_set (by first | assumption | exact Hp.set_none (by assumption) (by first | assumption | exact Ne.symm (by assumption)) | exact Hp.set_none (Hp.set_none (by assumption) (by first | assumption | exact Ne.symm (by assumption))) (by first | assumption | exact Ne.symm (by assumption))) (Hp.le_set (by first | assumption | exact Hp.set_none (by assumption) (by first | assumption | exact Ne.symm (by assumption)) | exact Hp.set_none (Hp.set_none (by assumption) (by first | assumption | exact Ne.symm (by assumption))) (by first | assumption | exact Ne.symm (by assumption))) (Hp.le_set (by first | assumption | exact Hp.set_none (by assumption) (by first | assumption | exact Ne.symm (by assumption)) | exact Hp.set_none (Hp.set_none (by assumption) (by first | assumption | exact Ne.symm (by assumption))) (by first | assumption | exact Ne.symm (by assumption))) (Hp.le_refl _))))))) ?_
  exact ⟨rfl, rfl⟩
theorem frame_con (kind : Int) (body : List UInt8) (hm : body.length ≤ maxLen) : Con Try.prog w0 9 #[.int .i64 kind, S body] H (fun v H' => v = .tuple #[S (frameP kind body).1, .int .i64 (frameP kind body).2] ∧ H' = H) := by
  refine Con.intro Try.func9 rfl rfl ?_
  refine AW.seq ?_
  refine AW.region ?_
  refine OpsW.q rfl (q_assign (v := S _) rfl) ?_
  refine OpsW.q rfl (q_assign (v := .int _ _) rfl) ?_
  refine OpsW.nil ?_
  refine SeqP.go ?_
  refine AW.seq ?_
  refine AW.block ?_
  refine AW.seq ?_
  refine AW.region ?_
  refine OpsW.q rfl (q_move (v := .int _ _) rfl) ?_
  refine OpsW.x rfl (o_call rfl Try.func13 rfl rfl (isKind_con _)) ?_
  refine OpsW.q rfl (q_not rfl) ?_
  refine OpsW.q rfl (q_assign (v := .bool _) rfl) ?_
  refine OpsW.nil ?_
  refine SeqP.go ?_
  refine AW.cond rfl (fun h0 => ?_) (fun h0 => ?_)
  ·
    try simp only [decide_eq_true_eq, decide_eq_false_iff_not, Bool.or_eq_true, Bool.and_eq_true, Bool.or_eq_false_iff, Bool.and_eq_false_imp, Bool.not_eq_true', Bool.not_eq_false', ne_eq, Decidable.not_not, Int.not_lt, Int.not_le, Bool.not_eq_true, Bool.not_eq_false] at h0
    refine AW.seq ?_
    refine AW.region ?_
    refine OpsW.q rfl (q_assign (v := S _) rfl) ?_
    refine OpsW.q rfl (q_assign (v := .int _ _) rfl) ?_
    refine OpsW.nil ?_
    refine SeqP.go ?_
    refine AW.ret ?_
    refine BlockP.ret ?_
    refine SeqP.ret ?_
    refine RetP.mk2 (H' := H) (v1 := S _) (v2 := .int _ _) rfl rfl rfl  (by first | exact (Hp.le_refl _) | exact (Hp.le_set (by first | assumption | exact Hp.set_none (by assumption) (by first | assumption | exact Ne.symm (by assumption)) | exact Hp.set_none (Hp.set_none (by assumption) (by first | assumption | exact Ne.symm (by assumption))) (by first | assumption | exact Ne.symm (by assumption))) (Hp.le_refl _)) | exact (Hp.le_set (by first | assumption | exact Hp.set_none (by assumption) (by first | assumption | exact Ne.symm (by assumption)) | exact Hp.set_none (Hp.set_none (by assumption) (by first | assumption | exact Ne.symm (by assumption))) (by first | assumption | exact Ne.symm (by assumption))) (Hp.le_set (by first | assumption | exact Hp.set_none (by assumption) (by first | assumption | exact Ne.symm (by assumption)) | exact Hp.set_none (Hp.set_none (by assumption) (by first | assumption | exact Ne.symm (by assumption))) (by first | assumption | exact Ne.symm (by assumption))) (Hp.le_refl _))) | exact (Hp.le_set (by first | assumption | exact Hp.set_none (by assumption) (by first | assumption | exact Ne.symm (by assumption)) | exact Hp.set_none (Hp.set_none (by assumption) (by first | assumption | exact Ne.symm (by assumption))) (by first | assumption | exact Ne.symm (by assumption))) (Hp.le_set (by first | assumption | exact Hp.set_none (by assumption) (by first | assumption | exact Ne.symm (by assumption)) | exact Hp.set_none (Hp.set_none (by assumption) (by first | assumption | exact Ne.symm (by assumption))) (by first | assumption | exact Ne.symm (by assumption))) (Hp.le_set (by first | assumption | exact Hp.set_none (by assumption) (by first | assumption | exact Ne.symm (by assumption)) | exact Hp.set_none (Hp.set_none (by assumption) (by first | assumption | exact Ne.symm (by assumption))) (by first | assumption | exact Ne.symm (by assumption))) (Hp.le_refl _)))) | exact (Hp.le_set (by first | assumption | exact Hp.set_none (by assumption) (by first | assumption | exact Ne.symm (by assumption)) | exact Hp.set_none (Hp.set_none (by assumption) (by first | assumption | exact Ne.symm (by assumption))) (by first | assumption | exact Ne.symm (by assumption))) (Hp.le_set (by first | assumption | exact Hp.set_none (by assumption) (by first | assumption | exact Ne.symm (by assumption)) | exact Hp.set_none (Hp.set_none (by assumption) (by first | assumption | exact Ne.symm (by assumption))) (by first | assumption | exact Ne.symm (by assumption))) (Hp.le_set (by first | assumption | exact Hp.set_none (by assumption) (by first | assumption | exact Ne.symm (by assumption)) | exact Hp.set_none (Hp.set_none (by assumption) (by first | assumption | exact Ne.symm (by assumption))) (by first | assumption | exact Ne.symm (by assumption))) (Hp.le_set (by first | assumption | exact Hp.set_none (by assumption) (by first | assumption | exact Ne.symm (by assumption)) | exact Hp.set_none (Hp.set_none (by assumption) (by first | assumption | exact Ne.symm (by assumption))) (by first | assumption | exact Ne.symm (by assumption))) (Hp.le_refl _))))) | exact (Hp.le_set (by first | assumption | exact Hp.set_none (by assumption) (by first | assumption | exact Ne.symm (by assumption)) | exact Hp.set_none (Hp.set_none (by assumption) (by first | assumption | exact Ne.symm (by assumption))) (by first | assumption | exact Ne.symm (by assumption))) (Hp.le_set (by first | assumption | exact Hp.set_none (by assumption) (by first | assumption | exact Ne.symm (by assumption)) | exact Hp.set_none (Hp.set_none (by assumption) (by first | assumption | exact Ne.symm (by assumption))) (by first | assumption | exact Ne.symm (by assumption))) (Hp.le_set (by first | assumption | exact Hp.set_none (by assumption) (by first | assumption | exact Ne.symm (by assumption)) | exact Hp.set_none (Hp.set_none (by assumption) (by first | assumption | exact Ne.symm (by assumption))) (by first | assumption | exact Ne.symm (by assumption))) (Hp.le_set (by first | assumption | exact Hp.set_none (by assumption) (by first | assumption | exact Ne.symm (by assumption)) | exact Hp.set_none (Hp.set_none (by assumption) (by first | assumption | exact Ne.symm (by assumption))) (by first | assumption | exact Ne.symm (by assumption))) (Hp.le_set (by first | assumption | exact Hp.set_none (by assumption) (by first | assumption | exact Ne.symm (by assumption)) | exact Hp.set_none (Hp.set_none (by assumption) (by first | assumption | exact Ne.symm (by assumption))) (by first | assumption | exact Ne.symm (by assumption))) (Hp.le_refl _))))))) ?_
    exact ⟨by first | rw [frameP_kind h0] | rw [frameP_big h0 (by omega)] | rw [frameP_ok h0 (by omega)], rfl⟩
  try simp only [decide_eq_true_eq, decide_eq_false_iff_not, Bool.or_eq_true, Bool.and_eq_true, Bool.or_eq_false_iff, Bool.and_eq_false_imp, Bool.not_eq_true', Bool.not_eq_false', ne_eq, Decidable.not_not, Int.not_lt, Int.not_le, Bool.not_eq_true, Bool.not_eq_false] at h0
  refine AW.seq ?_
  refine AW.region ?_
  refine OpsW.q rfl (q_move (v := S _) rfl) ?_
  refine OpsW.q rfl (q_lenS Try.underlying9 rfl) ?_
  refine OpsW.q rfl (q_gtr rfl rfl) ?_
  refine OpsW.q rfl (q_assign (v := .bool _) rfl) ?_
  refine OpsW.nil ?_
  refine SeqP.go ?_
  refine AW.cond rfl (fun h1 => ?_) (fun h1 => ?_)
  ·
    try simp only [decide_eq_true_eq, decide_eq_false_iff_not, Bool.or_eq_true, Bool.and_eq_true, Bool.or_eq_false_iff, Bool.and_eq_false_imp, Bool.not_eq_true', Bool.not_eq_false', ne_eq, Decidable.not_not, Int.not_lt, Int.not_le, Bool.not_eq_true, Bool.not_eq_false] at h1
    refine AW.seq ?_
    refine AW.region ?_
    refine OpsW.q rfl (q_assign (v := S _) rfl) ?_
    refine OpsW.q rfl (q_assign (v := .int _ _) rfl) ?_
    refine OpsW.nil ?_
    refine SeqP.go ?_
    refine AW.ret ?_
    refine BlockP.ret ?_
    refine SeqP.ret ?_
    refine RetP.mk2 (H' := H) (v1 := S _) (v2 := .int _ _) rfl rfl rfl  (by first | exact (Hp.le_refl _) | exact (Hp.le_set (by first | assumption | exact Hp.set_none (by assumption) (by first | assumption | exact Ne.symm (by assumption)) | exact Hp.set_none (Hp.set_none (by assumption) (by first | assumption | exact Ne.symm (by assumption))) (by first | assumption | exact Ne.symm (by assumption))) (Hp.le_refl _)) | exact (Hp.le_set (by first | assumption | exact Hp.set_none (by assumption) (by first | assumption | exact Ne.symm (by assumption)) | exact Hp.set_none (Hp.set_none (by assumption) (by first | assumption | exact Ne.symm (by assumption))) (by first | assumption | exact Ne.symm (by assumption))) (Hp.le_set (by first | assumption | exact Hp.set_none (by assumption) (by first | assumption | exact Ne.symm (by assumption)) | exact Hp.set_none (Hp.set_none (by assumption) (by first | assumption | exact Ne.symm (by assumption))) (by first | assumption | exact Ne.symm (by assumption))) (Hp.le_refl _))) | exact (Hp.le_set (by first | assumption | exact Hp.set_none (by assumption) (by first | assumption | exact Ne.symm (by assumption)) | exact Hp.set_none (Hp.set_none (by assumption) (by first | assumption | exact Ne.symm (by assumption))) (by first | assumption | exact Ne.symm (by assumption))) (Hp.le_set (by first | assumption | exact Hp.set_none (by assumption) (by first | assumption | exact Ne.symm (by assumption)) | exact Hp.set_none (Hp.set_none (by assumption) (by first | assumption | exact Ne.symm (by assumption))) (by first | assumption | exact Ne.symm (by assumption))) (Hp.le_set (by first | assumption | exact Hp.set_none (by assumption) (by first | assumption | exact Ne.symm (by assumption)) | exact Hp.set_none (Hp.set_none (by assumption) (by first | assumption | exact Ne.symm (by assumption))) (by first | assumption | exact Ne.symm (by assumption))) (Hp.le_refl _)))) | exact (Hp.le_set (by first | assumption | exact Hp.set_none (by assumption) (by first | assumption | exact Ne.symm (by assumption)) | exact Hp.set_none (Hp.set_none (by assumption) (by first | assumption | exact Ne.symm (by assumption))) (by first | assumption | exact Ne.symm (by assumption))) (Hp.le_set (by first | assumption | exact Hp.set_none (by assumption) (by first | assumption | exact Ne.symm (by assumption)) | exact Hp.set_none (Hp.set_none (by assumption) (by first | assumption | exact Ne.symm (by assumption))) (by first | assumption | exact Ne.symm (by assumption))) (Hp.le_set (by first | assumption | exact Hp.set_none (by assumption) (by first | assumption | exact Ne.symm (by assumption)) | exact Hp.set_none (Hp.set_none (by assumption) (by first | assumption | exact Ne.symm (by assumption))) (by first | assumption | exact Ne.symm (by assumption))) (Hp.le_set (by first | assumption | exact Hp.set_none (by assumption) (by first | assumption | exact Ne.symm (by assumption)) | exact Hp.set_none (Hp.set_none (by assumption) (by first | assumption | exact Ne.symm (by assumption))) (by first | assumption | exact Ne.symm (by assumption))) (Hp.le_refl _))))) | exact (Hp.le_set (by first | assumption | exact Hp.set_none (by assumption) (by first | assumption | exact Ne.symm (by assumption)) | exact Hp.set_none (Hp.set_none (by assumption) (by first | assumption | exact Ne.symm (by assumption))) (by first | assumption | exact Ne.symm (by assumption))) (Hp.le_set (by first | assumption | exact Hp.set_none (by assumption) (by first | assumption | exact Ne.symm (by assumption)) | exact Hp.set_none (Hp.set_none (by assumption) (by first | assumption | exact Ne.symm (by assumption))) (by first | assumption | exact Ne.symm (by assumption))) (Hp.le_set (by first | assumption | exact Hp.set_none (by assumption) (by first | assumption | exact Ne.symm (by assumption)) | exact Hp.set_none (Hp.set_none (by assumption) (by first | assumption | exact Ne.symm (by assumption))) (by first | assumption | exact Ne.symm (by assumption))) (Hp.le_set (by first | assumption | exact Hp.set_none (by assumption) (by first | assumption | exact Ne.symm (by assumption)) | exact Hp.set_none (Hp.set_none (by assumption) (by first | assumption | exact Ne.symm (by assumption))) (by first | assumption | exact Ne.symm (by assumption))) (Hp.le_set (by first | assumption | exact Hp.set_none (by assumption) (by first | assumption | exact Ne.symm (by assumption)) | exact Hp.set_none (Hp.set_none (by assumption) (by first | assumption | exact Ne.symm (by assumption))) (by first | assumption | exact Ne.symm (by assumption))) (Hp.le_refl _))))))) ?_
    exact ⟨by first | rw [frameP_kind h0] | rw [frameP_big h0 (by omega)] | rw [frameP_ok h0 (by omega)], rfl⟩
  try simp only [decide_eq_true_eq, decide_eq_false_iff_not, Bool.or_eq_true, Bool.and_eq_true, Bool.or_eq_false_iff, Bool.and_eq_false_imp, Bool.not_eq_true', Bool.not_eq_false', ne_eq, Decidable.not_not, Int.not_lt, Int.not_le, Bool.not_eq_true, Bool.not_eq_false] at h1
  refine AW.skip ?_
  refine BlockP.go ?_
  refine SeqP.go ?_
  refine AW.seq ?_
  refine AW.region ?_
  refine OpsW.q rfl (q_move (v := .int _ _) rfl) ?_
  refine OpsW.q rfl (q_move (v := S _) rfl) ?_
  refine OpsW.q rfl (q_lenS Try.underlying9 rfl) ?_
  refine OpsW.x rfl (o_call rfl Try.func16 rfl rfl (head_con _ _ (by omega))) ?_
  refine OpsW.q rfl (q_move (v := S _) rfl) ?_
  refine OpsW.q rfl (q_cat rfl rfl (by first | (with_reducible assumption) | omega | (unfold maxLen; omega) | (simp only [nums_length, List.length_set, List.length_replicate, List.length_take, List.length_drop, List.length_append, List.length_cons, List.length_nil, ofB_length, toB_length]; omega) | (simp only [nums_length, List.length_set, List.length_replicate, List.length_take, List.length_drop, List.length_append, List.length_cons, List.length_nil, ofB_length, toB_length]; unfold maxLen; omega) | (simp; done) | (simp; omega) | rfl | decide)) ?_
  refine OpsW.q rfl (q_assign (v := S _) rfl) ?_
  refine OpsW.q rfl (q_assign (v := .int _ _) rfl) ?_
  refine OpsW.nil ?_
  refine SeqP.go ?_
  refine AW.ret ?_
  refine RetP.mk2 (H' := H) (v1 := S _) (v2 := .int _ _) rfl rfl rfl  (by first | exact (Hp.le_refl _) | exact (Hp.le_set (by first | assumption | exact Hp.set_none (by assumption) (by first | assumption | exact Ne.symm (by assumption)) | exact Hp.set_none (Hp.set_none (by assumption) (by first | assumption | exact Ne.symm (by assumption))) (by first | assumption | exact Ne.symm (by assumption))) (Hp.le_refl _)) | exact (Hp.le_set (by first | assumption | exact Hp.set_none (by assumption) (by first | assumption | exact Ne.symm (by assumption)) | exact Hp.set_none (Hp.set_none (by assumption) (by first | assumption | exact Ne.symm (by assumption))) (by first | assumption | exact Ne.symm (by assumption))) (Hp.le_set (by first | assumption | exact Hp.set_none (by assumption) (by first | assumption | exact Ne.symm (by assumption)) | exact Hp.set_none (Hp.set_none (by assumption) (by first | assumption | exact Ne.symm (by assumption))) (by first | assumption | exact Ne.symm (by assumption))) (Hp.le_refl _))) | exact (Hp.le_set (by first | assumption | exact Hp.set_none (by assumption) (by first | assumption | exact Ne.symm (by assumption)) | exact Hp.set_none (Hp.set_none (by assumption) (by first | assumption | exact Ne.symm (by assumption))) (by first | assumption | exact Ne.symm (by assumption))) (Hp.le_set (by first | assumption | exact Hp.set_none (by assumption) (by first | assumption | exact Ne.symm (by assumption)) | exact Hp.set_none (Hp.set_none (by assumption) (by first | assumption | exact Ne.symm (by assumption))) (by first | assumption | exact Ne.symm (by assumption))) (Hp.le_set (by first | assumption | exact Hp.set_none (by assumption) (by first | assumption | exact Ne.symm (by assumption)) | exact Hp.set_none (Hp.set_none (by assumption) (by first | assumption | exact Ne.symm (by assumption))) (by first | assumption | exact Ne.symm (by assumption))) (Hp.le_refl _)))) | exact (Hp.le_set (by first | assumption | exact Hp.set_none (by assumption) (by first | assumption | exact Ne.symm (by assumption)) | exact Hp.set_none (Hp.set_none (by assumption) (by first | assumption | exact Ne.symm (by assumption))) (by first | assumption | exact Ne.symm (by assumption))) (Hp.le_set (by first | assumption | exact Hp.set_none (by assumption) (by first | assumption | exact Ne.symm (by assumption)) | exact Hp.set_none (Hp.set_none (by assumption) (by first | assumption | exact Ne.symm (by assumption))) (by first | assumption | exact Ne.symm (by assumption))) (Hp.le_set (by first | assumption | exact Hp.set_none (by assumption) (by first | assumption | exact Ne.symm (by assumption)) | exact Hp.set_none (Hp.set_none (by assumption) (by first | assumption | exact Ne.symm (by assumption))) (by first | assumption | exact Ne.symm (by assumption))) (Hp.le_set (by first | assumption | exact Hp.set_none (by assumption) (by first | assumption | exact Ne.symm (by assumption)) | exact Hp.set_none (Hp.set_none (by assumption) (by first | assumption | exact Ne.symm (by assumption))) (by first | assumption | exact Ne.symm (by assumption))) (Hp.le_refl _))))) | exact (Hp.le_set (by first | assumption | exact Hp.set_none (by assumption) (by first | assumption | exact Ne.symm (by assumption)) | exact Hp.set_none (Hp.set_none (by assumption) (by first | assumption | exact Ne.symm (by assumption))) (by first | assumption | exact Ne.symm (by assumption))) (Hp.le_set (by first | assumption | exact Hp.set_none (by assumption) (by first | assumption | exact Ne.symm (by assumption)) | exact Hp.set_none (Hp.set_none (by assumption) (by first | assumption | exact Ne.symm (by assumption))) (by first | assumption | exact Ne.symm (by assumption))) (Hp.le_set (by first | assumption | exact Hp.set_none (by assumption) (by first | assumption | exact Ne.symm (by assumption)) | exact Hp.set_none (Hp.set_none (by assumption) (by first | assumption | exact Ne.symm (by assumption))) (by first | assumption | exact Ne.symm (by assumption))) (Hp.le_set (by first | assumption | exact Hp.set_none (by assumption) (by first | assumption | exact Ne.symm (by assumption)) | exact Hp.set_none (Hp.set_none (by assumption) (by first | assumption | exact Ne.symm (by assumption))) (by first | assumption | exact Ne.symm (by assumption))) (Hp.le_set (by first | assumption | exact Hp.set_none (by assumption) (by first | assumption | exact Ne.symm (by assumption)) | exact Hp.set_none (Hp.set_none (by assumption) (by first | assumption | exact Ne.symm (by assumption))) (by first | assumption | exact Ne.symm (by assumption))) (Hp.le_refl _))))))) ?_
  exact ⟨by first | rw [frameP_kind h0] | rw [frameP_big h0 (by omega)] | rw [frameP_ok h0 (by omega)], rfl⟩
theorem NewReader_con : Con Try.prog w0 10 #[] H (fun v H' => ∃ b, H b = none ∧ v = .pointer (some ⟨b, 0, none⟩) ∧ H' = H.set b ⟨[S [], .int .i64 0], 2, 49⟩) := by
  refine Con.intro Try.func10 rfl rfl ?_
  refine AW.seq ?_
  refine AW.region ?_
  refine OpsW.q rfl (q_assign (v := .pointer _) rfl) ?_
  refine OpsW.nil ?_
  refine SeqP.go ?_
  refine AW.seq ?_
  refine AW.region ?_
  refine OpsW.q rfl (q_build (cells := #[S [], .int .i64 0]) rfl (by kernel_rfl)) ?_
  refine OpsW.m rfl (o_box (v := .agg _) rfl rfl) ?_
  rintro _ _ ⟨b2, hb2, rfl, rfl⟩
  refine OpsW.q rfl (q_assign (v := .pointer _) rfl) ?_
  refine OpsW.nil ?_
  refine SeqP.go ?_
  refine AW.ret ?_
  refine RetP.mk1 (H' := _) (v1 := .pointer _) rfl rfl  (by first | exact (Hp.le_refl _) | exact (Hp.le_set (by first | assumption | exact Hp.set_none (by assumption) (by first | assumption | exact Ne.symm (by assumption)) | exact Hp.set_none (Hp.set_none (by assumption) (by first | assumption | exact Ne.symm (by assumption))) (by first | assumption | exact Ne.symm (by assumption))) (Hp.le_refl _)) | exact (Hp.le_set (by first | assumption | exact Hp.set_none (by assumption) (by first | assumption | exact Ne.symm (by assumption)) | exact Hp.set_none (Hp.set_none (by assumption) (by first | assumption | exact Ne.symm (by assumption))) (by first | assumption | exact Ne.symm (by assumption))) (Hp.le_set (by first | assumption | exact Hp.set_none (by assumption) (by first | assumption | exact Ne.symm (by assumption)) | exact Hp.set_none (Hp.set_none (by assumption) (by first | assumption | exact Ne.symm (by assumption))) (by first | assumption | exact Ne.symm (by assumption))) (Hp.le_refl _))) | exact (Hp.le_set (by first | assumption | exact Hp.set_none (by assumption) (by first | assumption | exact Ne.symm (by assumption)) | exact Hp.set_none (Hp.set_none (by assumption) (by first | assumption | exact Ne.symm (by assumption))) (by first | assumption | exact Ne.symm (by assumption))) (Hp.le_set (by first | assumption | exact Hp.set_none (by assumption) (by first | assumption | exact Ne.symm (by assumption)) | exact Hp.set_none (Hp.set_none (by assumption) (by first | assumption | exact Ne.symm (by assumption))) (by first | assumption | exact Ne.symm (by assumption))) (Hp.le_set (by first | assumption | exact Hp.set_none (by assumption) (by first | assumption | exact Ne.symm (by assumption)) | exact Hp.set_none (Hp.set_none (by assumption) (by first | assumption | exact Ne.symm (by assumption))) (by first | assumption | exact Ne.symm (by assumption))) (Hp.le_refl _)))) | exact (Hp.le_set (by first | assumption | exact Hp.set_none (by assumption) (by first | assumption | exact Ne.symm (by assumption)) | exact Hp.set_none (Hp.set_none (by assumption) (by first | assumption | exact Ne.symm (by assumption))) (by first | assumption | exact Ne.symm (by assumption))) (Hp.le_set (by first | assumption | exact Hp.set_none (by assumption) (by first | assumption | exact Ne.symm (by assumption)) | exact Hp.set_none (Hp.set_none (by assumption) (by first | assumption | exact Ne.symm (by assumption))) (by first | assumption | exact Ne.symm (by assumption))) (Hp.le_set (by first | assumption | exact Hp.set_none (by assumption) (by first | assumption | exact Ne.symm (by assumption)) | exact Hp.set_none (Hp.set_none (by assumption) (by first | assumption | exact Ne.symm (by assumption))) (by first | assumption | exact Ne.symm (by assumption))) (Hp.le_set (by first | assumption | exact Hp.set_none (by assumption) (by first | assumption | exact Ne.symm (by assumption)) | exact Hp.set_none (Hp.set_none (by assumption) (by first | assumption | exact Ne.symm (by assumption))) (by first | assumption | exact Ne.symm (by assumption))) (Hp.le_refl _))))) | exact (Hp.le_set (by first | assumption | exact Hp.set_none (by assumption) (by first | assumption | exact Ne.symm (by assumption)) | exact Hp.set_none (Hp.set_none (by assumption) (by first | assumption | exact Ne.symm (by assumption))) (by first | assumption | exact Ne.symm (by assumption))) (Hp.le_set (by first | assumption | exact Hp.set_none (by assumption) (by first | assumption | exact Ne.symm (by assumption)) | exact Hp.set_none (Hp.set_none (by assumption) (by first | assumption | exact Ne.symm (by assumption))) (by first | assumption | exact Ne.symm (by assumption))) (Hp.le_set (by first | assumption | exact Hp.set_none (by assumption) (by first | assumption | exact Ne.symm (by assumption)) | exact Hp.set_none (Hp.set_none (by assumption) (by first | assumption | exact Ne.symm (by assumption))) (by first | assumption | exact Ne.symm (by assumption))) (Hp.le_set (by first | assumption | exact Hp.set_none (by assumption) (by first | assumption | exact Ne.symm (by assumption)) | exact Hp.set_none (Hp.set_none (by assumption) (by first | assumption | exact Ne.symm (by assumption))) (by first | assumption | exact Ne.symm (by assumption))) (Hp.le_set (by first | assumption | exact Hp.set_none (by assumption) (by first | assumption | exact Ne.symm (by assumption)) | exact Hp.set_none (Hp.set_none (by assumption) (by first | assumption | exact Ne.symm (by assumption))) (by first | assumption | exact Ne.symm (by assumption))) (Hp.le_refl _))))))) ?_
  exact ⟨_, hb2, rfl, rfl⟩
theorem feed_con {bR : Nat} (s : List UInt8) (e : Int) (d : List UInt8) (hb : H bR = some ⟨[S s, .int .i64 e], 2, 49⟩) (hs : s.length ≤ 1048576) (hd : d.length ≤ 1000000) : Con Try.prog w0 11 #[.pointer (some ⟨bR, 0, none⟩), S d] H
    (fun v H' => v = .int .i64 (feedP s e d).1 ∧ H' = H.set bR ⟨[S (feedP s e d).2, .int .i64 e], 2, 49⟩) := by
  refine Con.intro Try.func11 rfl rfl ?_
  refine AW.seq ?_
  refine AW.region ?_
  refine OpsW.q rfl (q_assign (v := .int _ _) rfl) ?_
  refine OpsW.nil ?_
  refine SeqP.go ?_
  refine AW.seq ?_
  refine AW.block ?_
  refine AW.seq ?_
  refine AW.region ?_
  refine OpsW.q rfl (q_move (v := .pointer _) rfl) ?_
  refine OpsW.q rfl (q_eqlP Try.underlying37 rfl rfl) ?_
  refine OpsW.q rfl (q_assign (v := .bool _) rfl) ?_
  refine OpsW.nil ?_
  refine SeqP.go ?_
  refine AW.cond rfl (fun h0 => ?_) (fun h0 => ?_)
  ·
    exfalso
    try simp only [decide_eq_true_eq, decide_eq_false_iff_not, Bool.or_eq_true, Bool.and_eq_true, Bool.or_eq_false_iff, Bool.and_eq_false_imp, Bool.not_eq_true', Bool.not_eq_false', ne_eq, Decidable.not_not, Int.not_lt, Int.not_le, Bool.not_eq_true, Bool.not_eq_false] at h0
    cases h0
  try simp only [decide_eq_true_eq, decide_eq_false_iff_not, Bool.or_eq_true, Bool.and_eq_true, Bool.or_eq_false_iff, Bool.and_eq_false_imp, Bool.not_eq_true', Bool.not_eq_false', ne_eq, Decidable.not_not, Int.not_lt, Int.not_le, Bool.not_eq_true, Bool.not_eq_false] at h0
  refine AW.seq ?_
  refine AW.region ?_
  refine OpsW.q rfl (q_move (v := .pointer _) rfl) ?_
  refine OpsW.q rfl (q_nilCheck rfl) ?_
  refine OpsW.q rfl (q_fieldAddr (sz := 0) Try.underlying49 rfl (by kernel_rfl) rfl) ?_
  refine OpsW.q rfl (q_load (v := .int _ _) (by kernel_rfl) rfl (by first | exact Hp.set_self | exact (Hp.set_ne (by first | assumption | exact Ne.symm (by assumption))).trans (Hp.set_self) | exact (Hp.set_ne (by first | assumption | exact Ne.symm (by assumption))).trans ((Hp.set_ne (by first | assumption | exact Ne.symm (by assumption))).trans (Hp.set_self)) | exact (Hp.set_ne (by first | assumption | exact Ne.symm (by assumption))).trans ((Hp.set_ne (by first | assumption | exact Ne.symm (by assumption))).trans ((Hp.set_ne (by first | assumption | exact Ne.symm (by assumption))).trans (Hp.set_self))) | exact (Hp.set_ne (by first | assumption | exact Ne.symm (by assumption))).trans ((Hp.set_ne (by first | assumption | exact Ne.symm (by assumption))).trans ((Hp.set_ne (by first | assumption | exact Ne.symm (by assumption))).trans ((Hp.set_ne (by first | assumption | exact Ne.symm (by assumption))).trans (Hp.set_self)))) | exact (by assumption) | exact (Hp.set_ne (by first | assumption | exact Ne.symm (by assumption))).trans ((by assumption)) | exact (Hp.set_ne (by first | assumption | exact Ne.symm (by assumption))).trans ((Hp.set_ne (by first | assumption | exact Ne.symm (by assumption))).trans ((by assumption))) | exact (Hp.set_ne (by first | assumption | exact Ne.symm (by assumption))).trans ((Hp.set_ne (by first | assumption | exact Ne.symm (by assumption))).trans ((Hp.set_ne (by first | assumption | exact Ne.symm (by assumption))).trans ((by assumption))))) rfl) ?_
  refine OpsW.q rfl (q_neq rfl rfl) ?_
  refine OpsW.q rfl (q_assign (v := .bool _) rfl) ?_
  refine OpsW.nil ?_
  refine SeqP.go ?_
  refine AW.cond rfl (fun h1 => ?_) (fun h1 => ?_)
  ·
    try simp only [decide_eq_true_eq, decide_eq_false_iff_not, Bool.or_eq_true, Bool.and_eq_true, Bool.or_eq_false_iff, Bool.and_eq_false_imp, Bool.not_eq_true', Bool.not_eq_false', ne_eq, Decidable.not_not, Int.not_lt, Int.not_le, Bool.not_eq_true, Bool.not_eq_false] at h1
    refine AW.seq ?_
    refine AW.region ?_
    refine OpsW.q rfl (q_move (v := .pointer _) rfl) ?_
    refine OpsW.q rfl (q_nilCheck rfl) ?_
    refine OpsW.q rfl (q_fieldAddr (sz := 0) Try.underlying49 rfl (by kernel_rfl) rfl) ?_
    refine OpsW.q rfl (q_load (v := .int _ _) (by kernel_rfl) rfl (by first | exact Hp.set_self | exact (Hp.set_ne (by first | assumption | exact Ne.symm (by assumption))).trans (Hp.set_self) | exact (Hp.set_ne (by first | assumption | exact Ne.symm (by assumption))).trans ((Hp.set_ne (by first | assumption | exact Ne.symm (by assumption))).trans (Hp.set_self)) | exact (Hp.set_ne (by first | assumption | exact Ne.symm (by assumption))).trans ((Hp.set_ne (by first | assumption | exact Ne.symm (by assumption))).trans ((Hp.set_ne (by first | assumption | exact Ne.symm (by assumption))).trans (Hp.set_self))) | exact (Hp.set_ne (by first | assumption | exact Ne.symm (by assumption))).trans ((Hp.set_ne (by first | assumption | exact Ne.symm (by assumption))).trans ((Hp.set_ne (by first | assumption | exact Ne.symm (by assumption))).trans ((Hp.set_ne (by first | assumption | exact Ne.symm (by assumption))).trans (Hp.set_self)))) | exact (by assumption) | exact (Hp.set_ne (by first | assumption | exact Ne.symm (by assumption))).trans ((by assumption)) | exact (Hp.set_ne (by first | assumption | exact Ne.symm (by assumption))).trans ((Hp.set_ne (by first | assumption | exact Ne.symm (by assumption))).trans ((by assumption))) | exact (Hp.set_ne (by first | assumption | exact Ne.symm (by assumption))).trans ((Hp.set_ne (by first | assumption | exact Ne.symm (by assumption))).trans ((Hp.set_ne (by first | assumption | exact Ne.symm (by assumption))).trans ((by assumption))))) rfl) ?_
    refine OpsW.q rfl (q_assign (v := .int _ _) rfl) ?_
    refine OpsW.nil ?_
    refine SeqP.go ?_
    refine AW.ret ?_
    refine BlockP.ret ?_
    refine SeqP.ret ?_
    refine RetP.mk1 (H' := _) (v1 := .int _ _) rfl rfl  (by first | exact (Hp.le_refl _) | exact (Hp.le_set (by first | assumption | exact Hp.set_none (by assumption) (by first | assumption | exact Ne.symm (by assumption)) | exact Hp.set_none (Hp.set_none (by assumption) (by first | assumption | exact Ne.symm (by assumption))) (by first | assumption | exact Ne.symm (by assumption))) (Hp.le_refl _)) | exact (Hp.le_set (by first | assumption | exact Hp.set_none (by assumption) (by first | assumption | exact Ne.symm (by assumption)) | exact Hp.set_none (Hp.set_none (by assumption) (by first | assumption | exact Ne.symm (by assumption))) (by first | assumption | exact Ne.symm (by assumption))) (Hp.le_set (by first | assumption | exact Hp.set_none (by assumption) (by first | assumption | exact Ne.symm (by assumption)) | exact Hp.set_none (Hp.set_none (by assumption) (by first | assumption | exact Ne.symm (by assumption))) (by first | assumption | exact Ne.symm (by assumption))) (Hp.le_refl _))) | exact (Hp.le_set (by first | assumption | exact Hp.set_none (by assumption) (by first | assumption | exact Ne.symm (by assumption)) | exact Hp.set_none (Hp.set_none (by assumption) (by first | assumption | exact Ne.symm (by assumption))) (by first | assumption | exact Ne.symm (by assumption))) (Hp.le_set (by first | assumption | exact Hp.set_none (by assumption) (by first | assumption | exact Ne.symm (by assumption)) | exact Hp.set_none (Hp.set_none (by assumption) (by first | assumption | exact Ne.symm (by assumption))) (by first | assumption | exact Ne.symm (by assumption))) (Hp.le_set (by first | assumption | exact Hp.set_none (by assumption) (by first | assumption | exact Ne.symm (by assumption)) | exact Hp.set_none (Hp.set_none (by assumption) (by first | assumption | exact Ne.symm (by assumption))) (by first | assumption | exact Ne.symm (by assumption))) (Hp.le_refl _)))) | exact (Hp.le_set (by first | assumption | exact Hp.set_none (by assumption) (by first | assumption | exact Ne.symm (by assumption)) | exact Hp.set_none (Hp.set_none (by assumption) (by first | assumption | exact Ne.symm (by assumption))) (by first | assumption | exact Ne.symm (by assumption))) (Hp.le_set (by first | assumption | exact Hp.set_none (by assumption) (by first | assumption | exact Ne.symm (by assumption)) | exact Hp.set_none (Hp.set_none (by assumption) (by first | assumption | exact Ne.symm (by assumption))) (by first | assumption | exact Ne.symm (by assumption))) (Hp.le_set (by first | assumption | exact Hp.set_none (by assumption) (by first | assumption | exact Ne.symm (by assumption)) | exact Hp.set_none (Hp.set_none (by assumption) (by first | assumption | exact Ne.symm (by assumption))) (by first | assumption | exact Ne.symm (by assumption))) (Hp.le_set (by first | assumption | exact Hp.set_none (by assumption) (by first | assumption | exact Ne.symm (by assumption)) | exact Hp.set_none (Hp.set_none (by assumption) (by first | assumption | exact Ne.symm (by assumption))) (by first | assumption | exact Ne.symm (by assumption))) (Hp.le_refl _))))) | exact (Hp.le_set (by first | assumption | exact Hp.set_none (by assumption) (by first | assumption | exact Ne.symm (by assumption)) | exact Hp.set_none (Hp.set_none (by assumption) (by first | assumption | exact Ne.symm (by assumption))) (by first | assumption | exact Ne.symm (by assumption))) (Hp.le_set (by first | assumption | exact Hp.set_none (by assumption) (by first | assumption | exact Ne.symm (by assumption)) | exact Hp.set_none (Hp.set_none (by assumption) (by first | assumption | exact Ne.symm (by assumption))) (by first | assumption | exact Ne.symm (by assumption))) (Hp.le_set (by first | assumption | exact Hp.set_none (by assumption) (by first | assumption | exact Ne.symm (by assumption)) | exact Hp.set_none (Hp.set_none (by assumption) (by first | assumption | exact Ne.symm (by assumption))) (by first | assumption | exact Ne.symm (by assumption))) (Hp.le_set (by first | assumption | exact Hp.set_none (by assumption) (by first | assumption | exact Ne.symm (by assumption)) | exact Hp.set_none (Hp.set_none (by assumption) (by first | assumption | exact Ne.symm (by assumption))) (by first | assumption | exact Ne.symm (by assumption))) (Hp.le_set (by first | assumption | exact Hp.set_none (by assumption) (by first | assumption | exact Ne.symm (by assumption)) | exact Hp.set_none (Hp.set_none (by assumption) (by first | assumption | exact Ne.symm (by assumption))) (by first | assumption | exact Ne.symm (by assumption))) (Hp.le_refl _))))))) ?_
    refine ⟨?_, ?_⟩
    · first | rw [feedP_err (by assumption)] | rw [feedP_big (by omega)] | rw [feedP_ok (by omega)]
    · first | (rw [feedP_err (by assumption)]; exact (Hp.set_id hb).symm) | (rw [feedP_big (by omega)]; exact (Hp.set_id hb).symm) | (rw [feedP_ok (by omega)] <;> rfl)
  try simp only [decide_eq_true_eq, decide_eq_false_iff_not, Bool.or_eq_true, Bool.and_eq_true, Bool.or_eq_false_iff, Bool.and_eq_false_imp, Bool.not_eq_true', Bool.not_eq_false', ne_eq, Decidable.not_not, Int.not_lt, Int.not_le, Bool.not_eq_true, Bool.not_eq_false] at h1
  obtain rfl := h1
  refine AW.seq ?_
  refine AW.region ?_
  refine OpsW.q rfl (q_move (v := .pointer _) rfl) ?_
  refine OpsW.q rfl (q_nilCheck rfl) ?_
  refine OpsW.q rfl (q_fieldAddr (sz := 0) Try.underlying49 rfl (by kernel_rfl) rfl) ?_
  refine OpsW.q rfl (q_load (v := S _) (by kernel_rfl) rfl (by first | exact Hp.set_self | exact (Hp.set_ne (by first | assumption | exact Ne.symm (by assumption))).trans (Hp.set_self) | exact (Hp.set_ne (by first | assumption | exact Ne.symm (by assumption))).trans ((Hp.set_ne (by first | assumption | exact Ne.symm (by assumption))).trans (Hp.set_self)) | exact (Hp.set_ne (by first | assumption | exact Ne.symm (by assumption))).trans ((Hp.set_ne (by first | assumption | exact Ne.symm (by assumption))).trans ((Hp.set_ne (by first | assumption | exact Ne.symm (by assumption))).trans (Hp.set_self))) | exact (Hp.set_ne (by first | assumption | exact Ne.symm (by assumption))).trans ((Hp.set_ne (by first | assumption | exact Ne.symm (by assumption))).trans ((Hp.set_ne (by first | assumption | exact Ne.symm (by assumption))).trans ((Hp.set_ne (by first | assumption | exact Ne.symm (by assumption))).trans (Hp.set_self)))) | exact (by assumption) | exact (Hp.set_ne (by first | assumption | exact Ne.symm (by assumption))).trans ((by assumption)) | exact (Hp.set_ne (by first | assumption | exact Ne.symm (by assumption))).trans ((Hp.set_ne (by first | assumption | exact Ne.symm (by assumption))).trans ((by assumption))) | exact (Hp.set_ne (by first | assumption | exact Ne.symm (by assumption))).trans ((Hp.set_ne (by first | assumption | exact Ne.symm (by assumption))).trans ((Hp.set_ne (by first | assumption | exact Ne.symm (by assumption))).trans ((by assumption))))) rfl) ?_
  refine OpsW.q rfl (q_lenS Try.underlying9 rfl) ?_
  refine OpsW.q rfl (q_move (v := S _) rfl) ?_
  refine OpsW.q rfl (q_lenS Try.underlying9 rfl) ?_
  refine OpsW.q rfl (q_addI rfl rfl (by omega)) ?_
  refine OpsW.q rfl (q_gtr rfl rfl) ?_
  refine OpsW.q rfl (q_assign (v := .bool _) rfl) ?_
  refine OpsW.nil ?_
  refine SeqP.go ?_
  refine AW.cond rfl (fun h2 => ?_) (fun h2 => ?_)
  ·
    try simp only [decide_eq_true_eq, decide_eq_false_iff_not, Bool.or_eq_true, Bool.and_eq_true, Bool.or_eq_false_iff, Bool.and_eq_false_imp, Bool.not_eq_true', Bool.not_eq_false', ne_eq, Decidable.not_not, Int.not_lt, Int.not_le, Bool.not_eq_true, Bool.not_eq_false] at h2
    refine AW.seq ?_
    refine AW.region ?_
    refine OpsW.q rfl (q_assign (v := .int _ _) rfl) ?_
    refine OpsW.nil ?_
    refine SeqP.go ?_
    refine AW.ret ?_
    refine BlockP.ret ?_
    refine SeqP.ret ?_
    refine RetP.mk1 (H' := _) (v1 := .int _ _) rfl rfl  (by first | exact (Hp.le_refl _) | exact (Hp.le_set (by first | assumption | exact Hp.set_none (by assumption) (by first | assumption | exact Ne.symm (by assumption)) | exact Hp.set_none (Hp.set_none (by assumption) (by first | assumption | exact Ne.symm (by assumption))) (by first | assumption | exact Ne.symm (by assumption))) (Hp.le_refl _)) | exact (Hp.le_set (by first | assumption | exact Hp.set_none (by assumption) (by first | assumption | exact Ne.symm (by assumption)) | exact Hp.set_none (Hp.set_none (by assumption) (by first | assumption | exact Ne.symm (by assumption))) (by first | assumption | exact Ne.symm (by assumption))) (Hp.le_set (by first | assumption | exact Hp.set_none (by assumption) (by first | assumption | exact Ne.symm (by assumption)) | exact Hp.set_none (Hp.set_none (by assumption) (by first | assumption | exact Ne.symm (by assumption))) (by first | assumption | exact Ne.symm (by assumption))) (Hp.le_refl _))) | exact (Hp.le_set (by first | assumption | exact Hp.set_none (by assumption) (by first | assumption | exact Ne.symm (by assumption)) | exact Hp.set_none (Hp.set_none (by assumption) (by first | assumption | exact Ne.symm (by assumption))) (by first | assumption | exact Ne.symm (by assumption))) (Hp.le_set (by first | assumption | exact Hp.set_none (by assumption) (by first | assumption | exact Ne.symm (by assumption)) | exact Hp.set_none (Hp.set_none (by assumption) (by first | assumption | exact Ne.symm (by assumption))) (by first | assumption | exact Ne.symm (by assumption))) (Hp.le_set (by first | assumption | exact Hp.set_none (by assumption) (by first | assumption | exact Ne.symm (by assumption)) | exact Hp.set_none (Hp.set_none (by assumption) (by first | assumption | exact Ne.symm (by assumption))) (by first | assumption | exact Ne.symm (by assumption))) (Hp.le_refl _)))) | exact (Hp.le_set (by first | assumption | exact Hp.set_none (by assumption) (by first | assumption | exact Ne.symm (by assumption)) | exact Hp.set_none (Hp.set_none (by assumption) (by first | assumption | exact Ne.symm (by assumption))) (by first | assumption | exact Ne.symm (by assumption))) (Hp.le_set (by first | assumption | exact Hp.set_none (by assumption) (by first | assumption | exact Ne.symm (by assumption)) | exact Hp.set_none (Hp.set_none (by assumption) (by first | assumption | exact Ne.symm (by assumption))) (by first | assumption | exact Ne.symm (by assumption))) (Hp.le_set (by first | assumption | exact Hp.set_none (by assumption) (by first | assumption | exact Ne.symm (by assumption)) | exact Hp.set_none (Hp.set_none (by assumption) (by first | assumption | exact Ne.symm (by assumption))) (by first | assumption | exact Ne.symm (by assumption))) (Hp.le_set (by first | assumption | exact Hp.set_none (by assumption) (by first | assumption | exact Ne.symm (by assumption)) | exact Hp.set_none (Hp.set_none (by assumption) (by first | assumption | exact Ne.symm (by assumption))) (by first | assumption | exact Ne.symm (by assumption))) (Hp.le_refl _))))) | exact (Hp.le_set (by first | assumption | exact Hp.set_none (by assumption) (by first | assumption | exact Ne.symm (by assumption)) | exact Hp.set_none (Hp.set_none (by assumption) (by first | assumption | exact Ne.symm (by assumption))) (by first | assumption | exact Ne.symm (by assumption))) (Hp.le_set (by first | assumption | exact Hp.set_none (by assumption) (by first | assumption | exact Ne.symm (by assumption)) | exact Hp.set_none (Hp.set_none (by assumption) (by first | assumption | exact Ne.symm (by assumption))) (by first | assumption | exact Ne.symm (by assumption))) (Hp.le_set (by first | assumption | exact Hp.set_none (by assumption) (by first | assumption | exact Ne.symm (by assumption)) | exact Hp.set_none (Hp.set_none (by assumption) (by first | assumption | exact Ne.symm (by assumption))) (by first | assumption | exact Ne.symm (by assumption))) (Hp.le_set (by first | assumption | exact Hp.set_none (by assumption) (by first | assumption | exact Ne.symm (by assumption)) | exact Hp.set_none (Hp.set_none (by assumption) (by first | assumption | exact Ne.symm (by assumption))) (by first | assumption | exact Ne.symm (by assumption))) (Hp.le_set (by first | assumption | exact Hp.set_none (by assumption) (by first | assumption | exact Ne.symm (by assumption)) | exact Hp.set_none (Hp.set_none (by assumption) (by first | assumption | exact Ne.symm (by assumption))) (by first | assumption | exact Ne.symm (by assumption))) (Hp.le_refl _))))))) ?_
    refine ⟨?_, ?_⟩
    · first | rw [feedP_err (by assumption)] | rw [feedP_big (by omega)] | rw [feedP_ok (by omega)]
    · first | (rw [feedP_err (by assumption)]; exact (Hp.set_id hb).symm) | (rw [feedP_big (by omega)]; exact (Hp.set_id hb).symm) | (rw [feedP_ok (by omega)] <;> rfl)
  try simp only [decide_eq_true_eq, decide_eq_false_iff_not, Bool.or_eq_true, Bool.and_eq_true, Bool.or_eq_false_iff, Bool.and_eq_false_imp, Bool.not_eq_true', Bool.not_eq_false', ne_eq, Decidable.not_not, Int.not_lt, Int.not_le, Bool.not_eq_true, Bool.not_eq_false] at h2
  refine AW.skip ?_
  refine BlockP.go ?_
  refine SeqP.go ?_
  refine AW.seq ?_
  refine AW.region ?_
  refine OpsW.q rfl (q_move (v := .pointer _) rfl) ?_
  refine OpsW.q rfl (q_nilCheck rfl) ?_
  refine OpsW.q rfl (q_fieldAddr (sz := 0) Try.underlying49 rfl (by kernel_rfl) rfl) ?_
  refine OpsW.q rfl (q_load (v := S _) (by kernel_rfl) rfl (by first | exact Hp.set_self | exact (Hp.set_ne (by first | assumption | exact Ne.symm (by assumption))).trans (Hp.set_self) | exact (Hp.set_ne (by first | assumption | exact Ne.symm (by assumption))).trans ((Hp.set_ne (by first | assumption | exact Ne.symm (by assumption))).trans (Hp.set_self)) | exact (Hp.set_ne (by first | assumption | exact Ne.symm (by assumption))).trans ((Hp.set_ne (by first | assumption | exact Ne.symm (by assumption))).trans ((Hp.set_ne (by first | assumption | exact Ne.symm (by assumption))).trans (Hp.set_self))) | exact (Hp.set_ne (by first | assumption | exact Ne.symm (by assumption))).trans ((Hp.set_ne (by first | assumption | exact Ne.symm (by assumption))).trans ((Hp.set_ne (by first | assumption | exact Ne.symm (by assumption))).trans ((Hp.set_ne (by first | assumption | exact Ne.symm (by assumption))).trans (Hp.set_self)))) | exact (by assumption) | exact (Hp.set_ne (by first | assumption | exact Ne.symm (by assumption))).trans ((by assumption)) | exact (Hp.set_ne (by first | assumption | exact Ne.symm (by assumption))).trans ((Hp.set_ne (by first | assumption | exact Ne.symm (by assumption))).trans ((by assumption))) | exact (Hp.set_ne (by first | assumption | exact Ne.symm (by assumption))).trans ((Hp.set_ne (by first | assumption | exact Ne.symm (by assumption))).trans ((Hp.set_ne (by first | assumption | exact Ne.symm (by assumption))).trans ((by assumption))))) rfl) ?_
  refine OpsW.q rfl (q_move (v := S _) rfl) ?_
  refine OpsW.q rfl (q_cat rfl rfl (by first | (with_reducible assumption) | omega | (unfold maxLen; omega) | (simp only [nums_length, List.length_set, List.length_replicate, List.length_take, List.length_drop, List.length_append, List.length_cons, List.length_nil, ofB_length, toB_length]; omega) | (simp only [nums_length, List.length_set, List.length_replicate, List.length_take, List.length_drop, List.length_append, List.length_cons, List.length_nil, ofB_length, toB_length]; unfold maxLen; omega) | (simp; done) | (simp; omega) | rfl | decide)) ?_
  refine OpsW.q rfl (q_nilCheck rfl) ?_
  refine OpsW.q rfl (q_fieldAddr (sz := 0) Try.underlying49 rfl (by kernel_rfl) rfl) ?_
  refine OpsW.s (o_store (v := S _) (by kernel_rfl) rfl rfl rfl (by first | exact Hp.set_self | exact (Hp.set_ne (by first | assumption | exact Ne.symm (by assumption))).trans (Hp.set_self) | exact (Hp.set_ne (by first | assumption | exact Ne.symm (by assumption))).trans ((Hp.set_ne (by first | assumption | exact Ne.symm (by assumption))).trans (Hp.set_self)) | exact (Hp.set_ne (by first | assumption | exact Ne.symm (by assumption))).trans ((Hp.set_ne (by first | assumption | exact Ne.symm (by assumption))).trans ((Hp.set_ne (by first | assumption | exact Ne.symm (by assumption))).trans (Hp.set_self))) | exact (Hp.set_ne (by first | assumption | exact Ne.symm (by assumption))).trans ((Hp.set_ne (by first | assumption | exact Ne.symm (by assumption))).trans ((Hp.set_ne (by first | assumption | exact Ne.symm (by assumption))).trans ((Hp.set_ne (by first | assumption | exact Ne.symm (by assumption))).trans (Hp.set_self)))) | exact (by assumption) | exact (Hp.set_ne (by first | assumption | exact Ne.symm (by assumption))).trans ((by assumption)) | exact (Hp.set_ne (by first | assumption | exact Ne.symm (by assumption))).trans ((Hp.set_ne (by first | assumption | exact Ne.symm (by assumption))).trans ((by assumption))) | exact (Hp.set_ne (by first | assumption | exact Ne.symm (by assumption))).trans ((Hp.set_ne (by first | assumption | exact Ne.symm (by assumption))).trans ((Hp.set_ne (by first | assumption | exact Ne.symm (by assumption))).trans ((by assumption))))) (by first | (with_reducible assumption) | omega | (unfold maxLen; omega) | (simp only [nums_length, List.length_set, List.length_replicate, List.length_take, List.length_drop, List.length_append, List.length_cons, List.length_nil, ofB_length, toB_length]; omega) | (simp only [nums_length, List.length_set, List.length_replicate, List.length_take, List.length_drop, List.length_append, List.length_cons, List.length_nil, ofB_length, toB_length]; unfold maxLen; omega) | (simp; done) | (simp; omega) | rfl | decide)) ?_
  refine OpsW.nil ?_
  refine SeqP.go ?_
  refine AW.seq ?_
  refine AW.region ?_
  refine OpsW.q rfl (q_assign (v := .int _ _) rfl) ?_
  refine OpsW.nil ?_
  refine SeqP.go ?_
  refine AW.ret ?_
  refine RetP.mk1 (H' := _) (v1 := .int _ _) rfl rfl  (by first | exact (Hp.le_refl _) | exact (Hp.le_set (by first | assumption | exact Hp.set_none (by assumption) (by first | assumption | exact Ne.symm (by assumption)) | exact Hp.set_none (Hp.set_none (by assumption) (by first | assumption | exact Ne.symm (by assumption))) (by first | assumption | exact Ne.symm (by assumption))) (Hp.le_refl _)) | exact (Hp.le_set (by first | assumption | exact Hp.set_none (by assumption) (by first | assumption | exact Ne.symm (by assumption)) | exact Hp.set_none (Hp.set_none (by assumption) (by first | assumption | exact Ne.symm (by assumption))) (by first | assumption | exact Ne.symm (by assumption))) (Hp.le_set (by first | assumption | exact Hp.set_none (by assumption) (by first | assumption | exact Ne.symm (by assumption)) | exact Hp.set_none (Hp.set_none (by assumption) (by first | assumption | exact Ne.symm (by assumption))) (by first | assumption | exact Ne.symm (by assumption))) (Hp.le_refl _))) | exact (Hp.le_set (by first | assumption | exact Hp.set_none (by assumption) (by first | assumption | exact Ne.symm (by assumption)) | exact Hp.set_none (Hp.set_none (by assumption) (by first | assumption | exact Ne.symm (by assumption))) (by first | assumption | exact Ne.symm (by assumption))) (Hp.le_set (by first | assumption | exact Hp.set_none (by assumption) (by first | assumption | exact Ne.symm (by assumption)) | exact Hp.set_none (Hp.set_none (by assumption) (by first | assumption | exact Ne.symm (by assumption))) (by first | assumption | exact Ne.symm (by assumption))) (Hp.le_set (by first | assumption | exact Hp.set_none (by assumption) (by first | assumption | exact Ne.symm (by assumption)) | exact Hp.set_none (Hp.set_none (by assumption) (by first | assumption | exact Ne.symm (by assumption))) (by first | assumption | exact Ne.symm (by assumption))) (Hp.le_refl _)))) | exact (Hp.le_set (by first | assumption | exact Hp.set_none (by assumption) (by first | assumption | exact Ne.symm (by assumption)) | exact Hp.set_none (Hp.set_none (by assumption) (by first | assumption | exact Ne.symm (by assumption))) (by first | assumption | exact Ne.symm (by assumption))) (Hp.le_set (by first | assumption | exact Hp.set_none (by assumption) (by first | assumption | exact Ne.symm (by assumption)) | exact Hp.set_none (Hp.set_none (by assumption) (by first | assumption | exact Ne.symm (by assumption))) (by first | assumption | exact Ne.symm (by assumption))) (Hp.le_set (by first | assumption | exact Hp.set_none (by assumption) (by first | assumption | exact Ne.symm (by assumption)) | exact Hp.set_none (Hp.set_none (by assumption) (by first | assumption | exact Ne.symm (by assumption))) (by first | assumption | exact Ne.symm (by assumption))) (Hp.le_set (by first | assumption | exact Hp.set_none (by assumption) (by first | assumption | exact Ne.symm (by assumption)) | exact Hp.set_none (Hp.set_none (by assumption) (by first | assumption | exact Ne.symm (by assumption))) (by first | assumption | exact Ne.symm (by assumption))) (Hp.le_refl _))))) | exact (Hp.le_set (by first | assumption | exact Hp.set_none (by assumption) (by first | assumption | exact Ne.symm (by assumption)) | exact Hp.set_none (Hp.set_none (by assumption) (by first | assumption | exact Ne.symm (by assumption))) (by first | assumption | exact Ne.symm (by assumption))) (Hp.le_set (by first | assumption | exact Hp.set_none (by assumption) (by first | assumption | exact Ne.symm (by assumption)) | exact Hp.set_none (Hp.set_none (by assumption) (by first | assumption | exact Ne.symm (by assumption))) (by first | assumption | exact Ne.symm (by assumption))) (Hp.le_set (by first | assumption | exact Hp.set_none (by assumption) (by first | assumption | exact Ne.symm (by assumption)) | exact Hp.set_none (Hp.set_none (by assumption) (by first | assumption | exact Ne.symm (by assumption))) (by first | assumption | exact Ne.symm (by assumption))) (Hp.le_set (by first | assumption | exact Hp.set_none (by assumption) (by first | assumption | exact Ne.symm (by assumption)) | exact Hp.set_none (Hp.set_none (by assumption) (by first | assumption | exact Ne.symm (by assumption))) (by first | assumption | exact Ne.symm (by assumption))) (Hp.le_set (by first | assumption | exact Hp.set_none (by assumption) (by first | assumption | exact Ne.symm (by assumption)) | exact Hp.set_none (Hp.set_none (by assumption) (by first | assumption | exact Ne.symm (by assumption))) (by first | assumption | exact Ne.symm (by assumption))) (Hp.le_refl _))))))) ?_
  refine ⟨?_, ?_⟩
  · first | rw [feedP_err (by assumption)] | rw [feedP_big (by omega)] | rw [feedP_ok (by omega)]
  · first | (rw [feedP_err (by assumption)]; exact (Hp.set_id hb).symm) | (rw [feedP_big (by omega)]; exact (Hp.set_id hb).symm) | (rw [feedP_ok (by omega)] <;> rfl)
theorem size_con {bR : Nat} (s : List UInt8) {e : Int} (hb : H bR = some ⟨[S s, .int .i64 e], 2, 49⟩) (hs : s.length ≤ 1048576) : Con Try.prog w0 18 #[.pointer (some ⟨bR, 0, none⟩)] H (fun v H' => v = .tuple #[.int .i64 (sizeP s).1, .int .i64 (sizeP s).2] ∧ H' = H) := by
  refine Con.intro Try.func18 rfl rfl ?_
  refine AW.seq ?_
  refine AW.region ?_
  refine OpsW.q rfl (q_assign (v := .int _ _) rfl) ?_
  refine OpsW.q rfl (q_assign (v := .int _ _) rfl) ?_
  refine OpsW.nil ?_
  refine SeqP.go ?_
  refine AW.seq ?_
  refine AW.seq ?_
  refine AW.drawF [] 11 13 20 (.int .i64 0) rfl (by kernel_rfl) rfl rfl rfl rfl ?_
  refine SeqC.q rfl (q_move (v := .pointer _) rfl) ?_
  refine SeqC.q rfl (q_nilCheck rfl) ?_
  refine SeqC.q rfl (q_fieldAddr (sz := 0) Try.underlying49 rfl (by kernel_rfl) rfl) ?_
  refine SeqC.q rfl (q_load (v := S _) (by kernel_rfl) rfl (by first | exact Hp.set_self | exact (Hp.set_ne (by first | assumption | exact Ne.symm (by assumption))).trans (Hp.set_self) | exact (Hp.set_ne (by first | assumption | exact Ne.symm (by assumption))).trans ((Hp.set_ne (by first | assumption | exact Ne.symm (by assumption))).trans (Hp.set_self)) | exact (Hp.set_ne (by first | assumption | exact Ne.symm (by assumption))).trans ((Hp.set_ne (by first | assumption | exact Ne.symm (by assumption))).trans ((Hp.set_ne (by first | assumption | exact Ne.symm (by assumption))).trans (Hp.set_self))) | exact (Hp.set_ne (by first | assumption | exact Ne.symm (by assumption))).trans ((Hp.set_ne (by first | assumption | exact Ne.symm (by assumption))).trans ((Hp.set_ne (by first | assumption | exact Ne.symm (by assumption))).trans ((Hp.set_ne (by first | assumption | exact Ne.symm (by assumption))).trans (Hp.set_self)))) | exact (by assumption) | exact (Hp.set_ne (by first | assumption | exact Ne.symm (by assumption))).trans ((by assumption)) | exact (Hp.set_ne (by first | assumption | exact Ne.symm (by assumption))).trans ((Hp.set_ne (by first | assumption | exact Ne.symm (by assumption))).trans ((by assumption))) | exact (Hp.set_ne (by first | assumption | exact Ne.symm (by assumption))).trans ((Hp.set_ne (by first | assumption | exact Ne.symm (by assumption))).trans ((Hp.set_ne (by first | assumption | exact Ne.symm (by assumption))).trans ((by assumption))))) rfl) ?_
  refine SeqC.q rfl (q_move (v := .pointer _) rfl) ?_
  refine SeqC.q rfl (q_nilCheck rfl) ?_
  refine SeqC.q rfl (q_fieldAddr (sz := 0) Try.underlying49 rfl (by kernel_rfl) rfl) ?_
  refine SeqC.q rfl (q_load (v := S _) (by kernel_rfl) rfl (by first | exact Hp.set_self | exact (Hp.set_ne (by first | assumption | exact Ne.symm (by assumption))).trans (Hp.set_self) | exact (Hp.set_ne (by first | assumption | exact Ne.symm (by assumption))).trans ((Hp.set_ne (by first | assumption | exact Ne.symm (by assumption))).trans (Hp.set_self)) | exact (Hp.set_ne (by first | assumption | exact Ne.symm (by assumption))).trans ((Hp.set_ne (by first | assumption | exact Ne.symm (by assumption))).trans ((Hp.set_ne (by first | assumption | exact Ne.symm (by assumption))).trans (Hp.set_self))) | exact (Hp.set_ne (by first | assumption | exact Ne.symm (by assumption))).trans ((Hp.set_ne (by first | assumption | exact Ne.symm (by assumption))).trans ((Hp.set_ne (by first | assumption | exact Ne.symm (by assumption))).trans ((Hp.set_ne (by first | assumption | exact Ne.symm (by assumption))).trans (Hp.set_self)))) | exact (by assumption) | exact (Hp.set_ne (by first | assumption | exact Ne.symm (by assumption))).trans ((by assumption)) | exact (Hp.set_ne (by first | assumption | exact Ne.symm (by assumption))).trans ((Hp.set_ne (by first | assumption | exact Ne.symm (by assumption))).trans ((by assumption))) | exact (Hp.set_ne (by first | assumption | exact Ne.symm (by assumption))).trans ((Hp.set_ne (by first | assumption | exact Ne.symm (by assumption))).trans ((Hp.set_ne (by first | assumption | exact Ne.symm (by assumption))).trans ((by assumption))))) rfl) ?_
  refine SeqC.q rfl (q_lenS Try.underlying9 rfl) ?_
  refine SeqC.q rfl (q_min rfl rfl) ?_
  refine SeqC.q rfl (q_sliceS_hi Try.underlying9 rfl rfl (by first | omega | decide) (by first | omega | decide)) ?_
  rw [show (min 3 (s.length : Int)).toNat = min 3 s.length from by omega]
  refine SeqC.done ?_
  refine OpsW.m rfl (o_bytes rfl Try.underlying44 Try.underlying5 rfl (by first | (with_reducible assumption) | omega | (unfold maxLen; omega) | (simp only [nums_length, List.length_set, List.length_replicate, List.length_take, List.length_drop, List.length_append, List.length_cons, List.length_nil, ofB_length, toB_length]; omega) | (simp only [nums_length, List.length_set, List.length_replicate, List.length_take, List.length_drop, List.length_append, List.length_cons, List.length_nil, ofB_length, toB_length]; unfold maxLen; omega) | (simp; done) | (simp; omega) | rfl | decide)) ?_
  rintro _ _ ⟨b18, c18, hb18, hl18, hc18, rfl, rfl⟩
  have hbR : (H.set b18 ⟨nums .u8 (ofB (s.take (min 3 s.length))), c18, 5⟩) bR = some ⟨[S s, .int .i64 e], 2, 49⟩ := (Hp.set_ne (Hp.ne_of hb18 hb).symm).trans hb
  refine OpsW.q rfl (q_lenV Try.underlying44 rfl) ?_
  refine OpsW.nil ?_
  refine SeqP.go ?_
  refine AW.block ?_
  refine AW.loop (fun m e H' => ∃ (i : Nat) (e0 : Env), m = min 3 s.length - i ∧ (i ≤ min 3 s.length ∧ ∀ j, j < i → ¬ badAt s j) ∧ e = upds e0 [(0, .pointer (some ⟨bR, 0, none⟩)), (18, .slice (some ⟨b18, 0, none⟩) (s.take (min 3 s.length)).length c18), (19, .int .i64 (((s.take (min 3 s.length)).length : Nat) : Int)), (20, .int .i64 (i : Int))] ∧ H' = H.set b18 ⟨nums .u8 (ofB (s.take (min 3 s.length))), c18, 5⟩) _ ⟨0, _, rfl, ⟨Nat.zero_le _, by omega⟩, Slots.eq ⟨(by first | rfl | exact i64_int (by omega) (by omega) (by omega) | assumption), (by first | rfl | exact i64_int (by omega) (by omega) (by omega) | assumption), (by first | rfl | exact i64_int (by omega) (by omega) (by omega) | assumption), (by first | rfl | exact i64_int (by omega) (by omega) (by omega) | assumption),  trivial⟩, rfl⟩ ?_
  rintro m _ _ ⟨i, e0, rfl, hf, rfl, rfl⟩
  have htl : (s.take (min 3 s.length)).length = min 3 s.length := by simp
  obtain ⟨hi3, hno⟩ := hf
  refine AW.seq ?_
  refine AW.region ?_
  refine OpsW.q rfl (q_lss rfl rfl) ?_
  refine OpsW.nil ?_
  refine SeqP.go ?_
  refine AW.seq ?_
  refine AW.cond2 rfl (fun h0 => ?_) (fun h0 => ?_)
  ·
    try simp only [decide_eq_true_eq, decide_eq_false_iff_not, Bool.or_eq_true, Bool.and_eq_true, Bool.or_eq_false_iff, Bool.and_eq_false_imp, Bool.not_eq_true', Bool.not_eq_false', ne_eq, Decidable.not_not, Int.not_lt, Int.not_le, Bool.not_eq_true, Bool.not_eq_false] at h0
    refine AW.exit ?_
    refine SeqP.exit ?_
    refine LoopP.exit ?_
    have hgood : ¬ badP s := fun h => by obtain ⟨j, h1, h2, h3⟩ := badP_iff.1 h; exact hno j (by omega) h3
    refine BlockP.here ?_
    refine SeqP.go ?_
    refine AW.seq ?_
    refine AW.seq ?_
    refine AW.region ?_
    refine OpsW.q rfl (q_move (v := .pointer _) rfl) ?_
    refine OpsW.q rfl (q_nilCheck rfl) ?_
    refine OpsW.q rfl (q_fieldAddr (sz := 0) Try.underlying49 rfl (by kernel_rfl) rfl) ?_
    refine OpsW.q rfl (q_load (v := S _) (by kernel_rfl) rfl (by first | exact Hp.set_self | exact (Hp.set_ne (by first | assumption | exact Ne.symm (by assumption))).trans (Hp.set_self) | exact (Hp.set_ne (by first | assumption | exact Ne.symm (by assumption))).trans ((Hp.set_ne (by first | assumption | exact Ne.symm (by assumption))).trans (Hp.set_self)) | exact (Hp.set_ne (by first | assumption | exact Ne.symm (by assumption))).trans ((Hp.set_ne (by first | assumption | exact Ne.symm (by assumption))).trans ((Hp.set_ne (by first | assumption | exact Ne.symm (by assumption))).trans (Hp.set_self))) | exact (Hp.set_ne (by first | assumption | exact Ne.symm (by assumption))).trans ((Hp.set_ne (by first | assumption | exact Ne.symm (by assumption))).trans ((Hp.set_ne (by first | assumption | exact Ne.symm (by assumption))).trans ((Hp.set_ne (by first | assumption | exact Ne.symm (by assumption))).trans (Hp.set_self)))) | exact (by assumption) | exact (Hp.set_ne (by first | assumption | exact Ne.symm (by assumption))).trans ((by assumption)) | exact (Hp.set_ne (by first | assumption | exact Ne.symm (by assumption))).trans ((Hp.set_ne (by first | assumption | exact Ne.symm (by assumption))).trans ((by assumption))) | exact (Hp.set_ne (by first | assumption | exact Ne.symm (by assumption))).trans ((Hp.set_ne (by first | assumption | exact Ne.symm (by assumption))).trans ((Hp.set_ne (by first | assumption | exact Ne.symm (by assumption))).trans ((by assumption))))) rfl) ?_
    refine OpsW.q rfl (q_lenS Try.underlying9 rfl) ?_
    refine OpsW.q rfl (q_lss rfl rfl) ?_
    refine OpsW.nil ?_
    refine SeqP.go ?_
    refine AW.cond rfl (fun h2 => ?_) (fun h2 => ?_)
    ·
      try simp only [decide_eq_true_eq, decide_eq_false_iff_not, Bool.or_eq_true, Bool.and_eq_true, Bool.or_eq_false_iff, Bool.and_eq_false_imp, Bool.not_eq_true', Bool.not_eq_false', ne_eq, Decidable.not_not, Int.not_lt, Int.not_le, Bool.not_eq_true, Bool.not_eq_false] at h2
      refine AW.seq ?_
      refine AW.region ?_
      refine OpsW.q rfl (q_assign (v := .int _ _) rfl) ?_
      refine OpsW.q rfl (q_assign (v := .int _ _) rfl) ?_
      refine OpsW.nil ?_
      refine SeqP.go ?_
      refine AW.ret ?_
      refine SeqP.ret ?_
      refine RetP.mk2 (H' := H) (v1 := .int _ _) (v2 := .int _ _) rfl rfl rfl  (by first | exact (Hp.le_refl _) | exact (Hp.le_set (by first | assumption | exact Hp.set_none (by assumption) (by first | assumption | exact Ne.symm (by assumption)) | exact Hp.set_none (Hp.set_none (by assumption) (by first | assumption | exact Ne.symm (by assumption))) (by first | assumption | exact Ne.symm (by assumption))) (Hp.le_refl _)) | exact (Hp.le_set (by first | assumption | exact Hp.set_none (by assumption) (by first | assumption | exact Ne.symm (by assumption)) | exact Hp.set_none (Hp.set_none (by assumption) (by first | assumption | exact Ne.symm (by assumption))) (by first | assumption | exact Ne.symm (by assumption))) (Hp.le_set (by first | assumption | exact Hp.set_none (by assumption) (by first | assumption | exact Ne.symm (by assumption)) | exact Hp.set_none (Hp.set_none (by assumption) (by first | assumption | exact Ne.symm (by assumption))) (by first | assumption | exact Ne.symm (by assumption))) (Hp.le_refl _))) | exact (Hp.le_set (by first | assumption | exact Hp.set_none (by assumption) (by first | assumption | exact Ne.symm (by assumption)) | exact Hp.set_none (Hp.set_none (by assumption) (by first | assumption | exact Ne.symm (by assumption))) (by first | assumption | exact Ne.symm (by assumption))) (Hp.le_set (by first | assumption | exact Hp.set_none (by assumption) (by first | assumption | exact Ne.symm (by assumption)) | exact Hp.set_none (Hp.set_none (by assumption) (by first | assumption | exact Ne.symm (by assumption))) (by first | assumption | exact Ne.symm (by assumption))) (Hp.le_set (by first | assumption | exact Hp.set_none (by assumption) (by first | assumption | exact Ne.symm (by assumption)) | exact Hp.set_none (Hp.set_none (by assumption) (by first | assumption | exact Ne.symm (by assumption))) (by first | assumption | exact Ne.symm (by assumption))) (Hp.le_refl _)))) | exact (Hp.le_set (by first | assumption | exact Hp.set_none (by assumption) (by first | assumption | exact Ne.symm (by assumption)) | exact Hp.set_none (Hp.set_none (by assumption) (by first | assumption | exact Ne.symm (by assumption))) (by first | assumption | exact Ne.symm (by assumption))) (Hp.le_set (by first | assumption | exact Hp.set_none (by assumption) (by first | assumption | exact Ne.symm (by assumption)) | exact Hp.set_none (Hp.set_none (by assumption) (by first | assumption | exact Ne.symm (by assumption))) (by first | assumption | exact Ne.symm (by assumption))) (Hp.le_set (by first | assumption | exact Hp.set_none (by assumption) (by first | assumption | exact Ne.symm (by assumption)) | exact Hp.set_none (Hp.set_none (by assumption) (by first | assumption | exact Ne.symm (by assumption))) (by first | assumption | exact Ne.symm (by assumption))) (Hp.le_set (by first | assumption | exact Hp.set_none (by assumption) (by first | assumption | exact Ne.symm (by assumption)) | exact Hp.set_none (Hp.set_none (by assumption) (by first | assumption | exact Ne.symm (by assumption))) (by first | assumption | exact Ne.symm (by assumption))) (Hp.le_refl _))))) | exact (Hp.le_set (by first | assumption | exact Hp.set_none (by assumption) (by first | assumption | exact Ne.symm (by assumption)) | exact Hp.set_none (Hp.set_none (by assumption) (by first | assumption | exact Ne.symm (by assumption))) (by first | assumption | exact Ne.symm (by assumption))) (Hp.le_set (by first | assumption | exact Hp.set_none (by assumption) (by first | assumption | exact Ne.symm (by assumption)) | exact Hp.set_none (Hp.set_none (by assumption) (by first | assumption | exact Ne.symm (by assumption))) (by first | assumption | exact Ne.symm (by assumption))) (Hp.le_set (by first | assumption | exact Hp.set_none (by assumption) (by first | assumption | exact Ne.symm (by assumption)) | exact Hp.set_none (Hp.set_none (by assumption) (by first | assumption | exact Ne.symm (by assumption))) (by first | assumption | exact Ne.symm (by assumption))) (Hp.le_set (by first | assumption | exact Hp.set_none (by assumption) (by first | assumption | exact Ne.symm (by assumption)) | exact Hp.set_none (Hp.set_none (by assumption) (by first | assumption | exact Ne.symm (by assumption))) (by first | assumption | exact Ne.symm (by assumption))) (Hp.le_set (by first | assumption | exact Hp.set_none (by assumption) (by first | assumption | exact Ne.symm (by assumption)) | exact Hp.set_none (Hp.set_none (by assumption) (by first | assumption | exact Ne.symm (by assumption))) (by first | assumption | exact Ne.symm (by assumption))) (Hp.le_refl _))))))) ?_
      exact ⟨by first | rw [sizeP_bad hbad] | rw [sizeP_short hgood (by omega)] | rw [sizeP_big hgood (by omega) (by omega)] | rw [sizeP_wait hgood (by omega) (by omega) (by omega)] | rw [sizeP_ok hgood (by omega) (by omega) (by omega)], rfl⟩
    try simp only [decide_eq_true_eq, decide_eq_false_iff_not, Bool.or_eq_true, Bool.and_eq_true, Bool.or_eq_false_iff, Bool.and_eq_false_imp, Bool.not_eq_true', Bool.not_eq_false', ne_eq, Decidable.not_not, Int.not_lt, Int.not_le, Bool.not_eq_true, Bool.not_eq_false] at h2
    refine AW.skip ?_
    refine SeqP.go ?_
    refine AW.seq ?_
    refine AW.drawK [] 13 rfl (by kernel_rfl) ?_
    refine SeqK.q rfl (q_move (v := .pointer _) rfl) ?_
    refine SeqK.q rfl (q_nilCheck rfl) ?_
    refine SeqK.q rfl (q_fieldAddr (sz := 0) Try.underlying49 rfl (by kernel_rfl) rfl) ?_
    refine SeqK.q rfl (q_load (v := S _) (by kernel_rfl) rfl (by first | exact Hp.set_self | exact (Hp.set_ne (by first | assumption | exact Ne.symm (by assumption))).trans (Hp.set_self) | exact (Hp.set_ne (by first | assumption | exact Ne.symm (by assumption))).trans ((Hp.set_ne (by first | assumption | exact Ne.symm (by assumption))).trans (Hp.set_self)) | exact (Hp.set_ne (by first | assumption | exact Ne.symm (by assumption))).trans ((Hp.set_ne (by first | assumption | exact Ne.symm (by assumption))).trans ((Hp.set_ne (by first | assumption | exact Ne.symm (by assumption))).trans (Hp.set_self))) | exact (Hp.set_ne (by first | assumption | exact Ne.symm (by assumption))).trans ((Hp.set_ne (by first | assumption | exact Ne.symm (by assumption))).trans ((Hp.set_ne (by first | assumption | exact Ne.symm (by assumption))).trans ((Hp.set_ne (by first | assumption | exact Ne.symm (by assumption))).trans (Hp.set_self)))) | exact (by assumption) | exact (Hp.set_ne (by first | assumption | exact Ne.symm (by assumption))).trans ((by assumption)) | exact (Hp.set_ne (by first | assumption | exact Ne.symm (by assumption))).trans ((Hp.set_ne (by first | assumption | exact Ne.symm (by assumption))).trans ((by assumption))) | exact (Hp.set_ne (by first | assumption | exact Ne.symm (by assumption))).trans ((Hp.set_ne (by first | assumption | exact Ne.symm (by assumption))).trans ((Hp.set_ne (by first | assumption | exact Ne.symm (by assumption))).trans ((by assumption))))) rfl) ?_
    refine SeqK.q rfl (q_indexS Try.underlying9 rfl rfl (by first | omega | decide) (by first | omega | decide)) ?_
    refine SeqK.q rfl (q_convInt rfl Try.underlying3 rfl) ?_
    refine SeqK.q rfl (q_shl rfl rfl (by first | omega | decide)) ?_
    refine SeqK.q rfl (q_move (v := .pointer _) rfl) ?_
    refine SeqK.q rfl (q_nilCheck rfl) ?_
    refine SeqK.q rfl (q_fieldAddr (sz := 0) Try.underlying49 rfl (by kernel_rfl) rfl) ?_
    refine SeqK.q rfl (q_load (v := S _) (by kernel_rfl) rfl (by first | exact Hp.set_self | exact (Hp.set_ne (by first | assumption | exact Ne.symm (by assumption))).trans (Hp.set_self) | exact (Hp.set_ne (by first | assumption | exact Ne.symm (by assumption))).trans ((Hp.set_ne (by first | assumption | exact Ne.symm (by assumption))).trans (Hp.set_self)) | exact (Hp.set_ne (by first | assumption | exact Ne.symm (by assumption))).trans ((Hp.set_ne (by first | assumption | exact Ne.symm (by assumption))).trans ((Hp.set_ne (by first | assumption | exact Ne.symm (by assumption))).trans (Hp.set_self))) | exact (Hp.set_ne (by first | assumption | exact Ne.symm (by assumption))).trans ((Hp.set_ne (by first | assumption | exact Ne.symm (by assumption))).trans ((Hp.set_ne (by first | assumption | exact Ne.symm (by assumption))).trans ((Hp.set_ne (by first | assumption | exact Ne.symm (by assumption))).trans (Hp.set_self)))) | exact (by assumption) | exact (Hp.set_ne (by first | assumption | exact Ne.symm (by assumption))).trans ((by assumption)) | exact (Hp.set_ne (by first | assumption | exact Ne.symm (by assumption))).trans ((Hp.set_ne (by first | assumption | exact Ne.symm (by assumption))).trans ((by assumption))) | exact (Hp.set_ne (by first | assumption | exact Ne.symm (by assumption))).trans ((Hp.set_ne (by first | assumption | exact Ne.symm (by assumption))).trans ((Hp.set_ne (by first | assumption | exact Ne.symm (by assumption))).trans ((by assumption))))) rfl) ?_
    refine SeqK.q rfl (q_indexS Try.underlying9 rfl rfl (by first | omega | decide) (by first | omega | decide)) ?_
    refine SeqK.q rfl (q_convInt rfl Try.underlying3 rfl) ?_
    refine SeqK.done ?_
    refine OpsW.q rfl (q_or rfl rfl) ?_
    rw [show ior IntKind.i64 (IntKind.i64.wrap (IntKind.i64.wrap (bt s (Int.toNat 3)) * 2 ^ min (Int.toNat 8) IntKind.i64.bits)) (IntKind.i64.wrap (bt s (Int.toNat 4))) = 256 * bt s 3 + bt s 4 from two_bytes (bt_range s 3) (bt_range s 4)]
    have hb3 := bt_range s 3
    have hb4 := bt_range s 4
    refine OpsW.q rfl (q_assign (v := .int _ _) rfl) ?_
    refine OpsW.nil ?_
    refine SeqP.go ?_
    refine AW.seq ?_
    refine AW.block ?_
    refine AW.seq ?_
    refine AW.region ?_
    refine OpsW.q rfl (q_move (v := .int _ _) rfl) ?_
    refine OpsW.q rfl (q_gtr rfl rfl) ?_
    refine OpsW.q rfl (q_assign (v := .bool _) rfl) ?_
    refine OpsW.nil ?_
    refine SeqP.go ?_
    refine AW.cond rfl (fun h3 => ?_) (fun h3 => ?_)
    ·
      try simp only [decide_eq_true_eq, decide_eq_false_iff_not, Bool.or_eq_true, Bool.and_eq_true, Bool.or_eq_false_iff, Bool.and_eq_false_imp, Bool.not_eq_true', Bool.not_eq_false', ne_eq, Decidable.not_not, Int.not_lt, Int.not_le, Bool.not_eq_true, Bool.not_eq_false] at h3
      refine AW.seq ?_
      refine AW.region ?_
      refine OpsW.q rfl (q_assign (v := .int _ _) rfl) ?_
      refine OpsW.q rfl (q_assign (v := .int _ _) rfl) ?_
      refine OpsW.nil ?_
      refine SeqP.go ?_
      refine AW.ret ?_
      refine BlockP.ret ?_
      refine SeqP.ret ?_
      refine RetP.mk2 (H' := H) (v1 := .int _ _) (v2 := .int _ _) rfl rfl rfl  (by first | exact (Hp.le_refl _) | exact (Hp.le_set (by first | assumption | exact Hp.set_none (by assumption) (by first | assumption | exact Ne.symm (by assumption)) | exact Hp.set_none (Hp.set_none (by assumption) (by first | assumption | exact Ne.symm (by assumption))) (by first | assumption | exact Ne.symm (by assumption))) (Hp.le_refl _)) | exact (Hp.le_set (by first | assumption | exact Hp.set_none (by assumption) (by first | assumption | exact Ne.symm (by assumption)) | exact Hp.set_none (Hp.set_none (by assumption) (by first | assumption | exact Ne.symm (by assumption))) (by first | assumption | exact Ne.symm (by assumption))) (Hp.le_set (by first | assumption | exact Hp.set_none (by assumption) (by first | assumption | exact Ne.symm (by assumption)) | exact Hp.set_none (Hp.set_none (by assumption) (by first | assumption | exact Ne.symm (by assumption))) (by first | assumption | exact Ne.symm (by assumption))) (Hp.le_refl _))) | exact (Hp.le_set (by first | assumption | exact Hp.set_none (by assumption) (by first | assumption | exact Ne.symm (by assumption)) | exact Hp.set_none (Hp.set_none (by assumption) (by first | assumption | exact Ne.symm (by assumption))) (by first | assumption | exact Ne.symm (by assumption))) (Hp.le_set (by first | assumption | exact Hp.set_none (by assumption) (by first | assumption | exact Ne.symm (by assumption)) | exact Hp.set_none (Hp.set_none (by assumption) (by first | assumption | exact Ne.symm (by assumption))) (by first | assumption | exact Ne.symm (by assumption))) (Hp.le_set (by first | assumption | exact Hp.set_none (by assumption) (by first | assumption | exact Ne.symm (by assumption)) | exact Hp.set_none (Hp.set_none (by assumption) (by first | assumption | exact Ne.symm (by assumption))) (by first | assumption | exact Ne.symm (by assumption))) (Hp.le_refl _)))) | exact (Hp.le_set (by first | assumption | exact Hp.set_none (by assumption) (by first | assumption | exact Ne.symm (by assumption)) | exact Hp.set_none (Hp.set_none (by assumption) (by first | assumption | exact Ne.symm (by assumption))) (by first | assumption | exact Ne.symm (by assumption))) (Hp.le_set (by first | assumption | exact Hp.set_none (by assumption) (by first | assumption | exact Ne.symm (by assumption)) | exact Hp.set_none (Hp.set_none (by assumption) (by first | assumption | exact Ne.symm (by assumption))) (by first | assumption | exact Ne.symm (by assumption))) (Hp.le_set (by first | assumption | exact Hp.set_none (by assumption) (by first | assumption | exact Ne.symm (by assumption)) | exact Hp.set_none (Hp.set_none (by assumption) (by first | assumption | exact Ne.symm (by assumption))) (by first | assumption | exact Ne.symm (by assumption))) (Hp.le_set (by first | assumption | exact Hp.set_none (by assumption) (by first | assumption | exact Ne.symm (by assumption)) | exact Hp.set_none (Hp.set_none (by assumption) (by first | assumption | exact Ne.symm (by assumption))) (by first | assumption | exact Ne.symm (by assumption))) (Hp.le_refl _))))) | exact (Hp.le_set (by first | assumption | exact Hp.set_none (by assumption) (by first | assumption | exact Ne.symm (by assumption)) | exact Hp.set_none (Hp.set_none (by assumption) (by first | assumption | exact Ne.symm (by assumption))) (by first | assumption | exact Ne.symm (by assumption))) (Hp.le_set (by first | assumption | exact Hp.set_none (by assumption) (by first | assumption | exact Ne.symm (by assumption)) | exact Hp.set_none (Hp.set_none (by assumption) (by first | assumption | exact Ne.symm (by assumption))) (by first | assumption | exact Ne.symm (by assumption))) (Hp.le_set (by first | assumption | exact Hp.set_none (by assumption) (by first | assumption | exact Ne.symm (by assumption)) | exact Hp.set_none (Hp.set_none (by assumption) (by first | assumption | exact Ne.symm (by assumption))) (by first | assumption | exact Ne.symm (by assumption))) (Hp.le_set (by first | assumption | exact Hp.set_none (by assumption) (by first | assumption | exact Ne.symm (by assumption)) | exact Hp.set_none (Hp.set_none (by assumption) (by first | assumption | exact Ne.symm (by assumption))) (by first | assumption | exact Ne.symm (by assumption))) (Hp.le_set (by first | assumption | exact Hp.set_none (by assumption) (by first | assumption | exact Ne.symm (by assumption)) | exact Hp.set_none (Hp.set_none (by assumption) (by first | assumption | exact Ne.symm (by assumption))) (by first | assumption | exact Ne.symm (by assumption))) (Hp.le_refl _))))))) ?_
      exact ⟨by first | rw [sizeP_bad hbad] | rw [sizeP_short hgood (by omega)] | rw [sizeP_big hgood (by omega) (by omega)] | rw [sizeP_wait hgood (by omega) (by omega) (by omega)] | rw [sizeP_ok hgood (by omega) (by omega) (by omega)], rfl⟩
    try simp only [decide_eq_true_eq, decide_eq_false_iff_not, Bool.or_eq_true, Bool.and_eq_true, Bool.or_eq_false_iff, Bool.and_eq_false_imp, Bool.not_eq_true', Bool.not_eq_false', ne_eq, Decidable.not_not, Int.not_lt, Int.not_le, Bool.not_eq_true, Bool.not_eq_false] at h3
    refine AW.seq ?_
    refine AW.region ?_
    refine OpsW.q rfl (q_move (v := .pointer _) rfl) ?_
    refine OpsW.q rfl (q_nilCheck rfl) ?_
    refine OpsW.q rfl (q_fieldAddr (sz := 0) Try.underlying49 rfl (by kernel_rfl) rfl) ?_
    refine OpsW.q rfl (q_load (v := S _) (by kernel_rfl) rfl (by first | exact Hp.set_self | exact (Hp.set_ne (by first | assumption | exact Ne.symm (by assumption))).trans (Hp.set_self) | exact (Hp.set_ne (by first | assumption | exact Ne.symm (by assumption))).trans ((Hp.set_ne (by first | assumption | exact Ne.symm (by assumption))).trans (Hp.set_self)) | exact (Hp.set_ne (by first | assumption | exact Ne.symm (by assumption))).trans ((Hp.set_ne (by first | assumption | exact Ne.symm (by assumption))).trans ((Hp.set_ne (by first | assumption | exact Ne.symm (by assumption))).trans (Hp.set_self))) | exact (Hp.set_ne (by first | assumption | exact Ne.symm (by assumption))).trans ((Hp.set_ne (by first | assumption | exact Ne.symm (by assumption))).trans ((Hp.set_ne (by first | assumption | exact Ne.symm (by assumption))).trans ((Hp.set_ne (by first | assumption | exact Ne.symm (by assumption))).trans (Hp.set_self)))) | exact (by assumption) | exact (Hp.set_ne (by first | assumption | exact Ne.symm (by assumption))).trans ((by assumption)) | exact (Hp.set_ne (by first | assumption | exact Ne.symm (by assumption))).trans ((Hp.set_ne (by first | assumption | exact Ne.symm (by assumption))).trans ((by assumption))) | exact (Hp.set_ne (by first | assumption | exact Ne.symm (by assumption))).trans ((Hp.set_ne (by first | assumption | exact Ne.symm (by assumption))).trans ((Hp.set_ne (by first | assumption | exact Ne.symm (by assumption))).trans ((by assumption))))) rfl) ?_
    refine OpsW.q rfl (q_lenS Try.underlying9 rfl) ?_
    refine OpsW.q rfl (q_move (v := .int _ _) rfl) ?_
    refine OpsW.q rfl (q_addI rfl rfl (by omega)) ?_
    refine OpsW.q rfl (q_lss rfl rfl) ?_
    refine OpsW.q rfl (q_assign (v := .bool _) rfl) ?_
    refine OpsW.nil ?_
    refine SeqP.go ?_
    refine AW.cond rfl (fun h4 => ?_) (fun h4 => ?_)
    ·
      try simp only [decide_eq_true_eq, decide_eq_false_iff_not, Bool.or_eq_true, Bool.and_eq_true, Bool.or_eq_false_iff, Bool.and_eq_false_imp, Bool.not_eq_true', Bool.not_eq_false', ne_eq, Decidable.not_not, Int.not_lt, Int.not_le, Bool.not_eq_true, Bool.not_eq_false] at h4
      refine AW.seq ?_
      refine AW.region ?_
      refine OpsW.q rfl (q_assign (v := .int _ _) rfl) ?_
      refine OpsW.q rfl (q_assign (v := .int _ _) rfl) ?_
      refine OpsW.nil ?_
      refine SeqP.go ?_
      refine AW.ret ?_
      refine BlockP.ret ?_
      refine SeqP.ret ?_
      refine RetP.mk2 (H' := H) (v1 := .int _ _) (v2 := .int _ _) rfl rfl rfl  (by first | exact (Hp.le_refl _) | exact (Hp.le_set (by first | assumption | exact Hp.set_none (by assumption) (by first | assumption | exact Ne.symm (by assumption)) | exact Hp.set_none (Hp.set_none (by assumption) (by first | assumption | exact Ne.symm (by assumption))) (by first | assumption | exact Ne.symm (by assumption))) (Hp.le_refl _)) | exact (Hp.le_set (by first | assumption | exact Hp.set_none (by assumption) (by first | assumption | exact Ne.symm (by assumption)) | exact Hp.set_none (Hp.set_none (by assumption) (by first | assumption | exact Ne.symm (by assumption))) (by first | assumption | exact Ne.symm (by assumption))) (Hp.le_set (by first | assumption | exact Hp.set_none (by assumption) (by first | assumption | exact Ne.symm (by assumption)) | exact Hp.set_none (Hp.set_none (by assumption) (by first | assumption | exact Ne.symm (by assumption))) (by first | assumption | exact Ne.symm (by assumption))) (Hp.le_refl _))) | exact (Hp.le_set (by first | assumption | exact Hp.set_none (by assumption) (by first | assumption | exact Ne.symm (by assumption)) | exact Hp.set_none (Hp.set_none (by assumption) (by first | assumption | exact Ne.symm (by assumption))) (by first | assumption | exact Ne.symm (by assumption))) (Hp.le_set (by first | assumption | exact Hp.set_none (by assumption) (by first | assumption | exact Ne.symm (by assumption)) | exact Hp.set_none (Hp.set_none (by assumption) (by first | assumption | exact Ne.symm (by assumption))) (by first | assumption | exact Ne.symm (by assumption))) (Hp.le_set (by first | assumption | exact Hp.set_none (by assumption) (by first | assumption | exact Ne.symm (by assumption)) | exact Hp.set_none (Hp.set_none (by assumption) (by first | assumption | exact Ne.symm (by assumption))) (by first | assumption | exact Ne.symm (by assumption))) (Hp.le_refl _)))) | exact (Hp.le_set (by first | assumption | exact Hp.set_none (by assumption) (by first | assumption | exact Ne.symm (by assumption)) | exact Hp.set_none (Hp.set_none (by assumption) (by first | assumption | exact Ne.symm (by assumption))) (by first | assumption | exact Ne.symm (by assumption))) (Hp.le_set (by first | assumption | exact Hp.set_none (by assumption) (by first | assumption | exact Ne.symm (by assumption)) | exact Hp.set_none (Hp.set_none (by assumption) (by first | assumption | exact Ne.symm (by assumption))) (by first | assumption | exact Ne.symm (by assumption))) (Hp.le_set (by first | assumption | exact Hp.set_none (by assumption) (by first | assumption | exact Ne.symm (by assumption)) | exact Hp.set_none (Hp.set_none (by assumption) (by first | assumption | exact Ne.symm (by assumption))) (by first | assumption | exact Ne.symm (by assumption))) (Hp.le_set (by first | assumption | exact Hp.set_none (by assumption) (by first | assumption | exact Ne.symm (by assumption)) | exact Hp.set_none (Hp.set_none (by assumption) (by first | assumption | exact Ne.symm (by assumption))) (by first | assumption | exact Ne.symm (by assumption))) (Hp.le_refl _))))) | exact (Hp.le_set (by first | assumption | exact Hp.set_none (by assumption) (by first | assumption | exact Ne.symm (by assumption)) | exact Hp.set_none (Hp.set_none (by assumption) (by first | assumption | exact Ne.symm (by assumption))) (by first | assumption | exact Ne.symm (by assumption))) (Hp.le_set (by first | assumption | exact Hp.set_none (by assumption) (by first | assumption | exact Ne.symm (by assumption)) | exact Hp.set_none (Hp.set_none (by assumption) (by first | assumption | exact Ne.symm (by assumption))) (by first | assumption | exact Ne.symm (by assumption))) (Hp.le_set (by first | assumption | exact Hp.set_none (by assumption) (by first | assumption | exact Ne.symm (by assumption)) | exact Hp.set_none (Hp.set_none (by assumption) (by first | assumption | exact Ne.symm (by assumption))) (by first | assumption | exact Ne.symm (by assumption))) (Hp.le_set (by first | assumption | exact Hp.set_none (by assumption) (by first | assumption | exact Ne.symm (by assumption)) | exact Hp.set_none (Hp.set_none (by assumption) (by first | assumption | exact Ne.symm (by assumption))) (by first | assumption | exact Ne.symm (by assumption))) (Hp.le_set (by first | assumption | exact Hp.set_none (by assumption) (by first | assumption | exact Ne.symm (by assumption)) | exact Hp.set_none (Hp.set_none (by assumption) (by first | assumption | exact Ne.symm (by assumption))) (by first | assumption | exact Ne.symm (by assumption))) (Hp.le_refl _))))))) ?_
      exact ⟨by first | rw [sizeP_bad hbad] | rw [sizeP_short hgood (by omega)] | rw [sizeP_big hgood (by omega) (by omega)] | rw [sizeP_wait hgood (by omega) (by omega) (by omega)] | rw [sizeP_ok hgood (by omega) (by omega) (by omega)], rfl⟩
    try simp only [decide_eq_true_eq, decide_eq_false_iff_not, Bool.or_eq_true, Bool.and_eq_true, Bool.or_eq_false_iff, Bool.and_eq_false_imp, Bool.not_eq_true', Bool.not_eq_false', ne_eq, Decidable.not_not, Int.not_lt, Int.not_le, Bool.not_eq_true, Bool.not_eq_false] at h4
    refine AW.skip ?_
    refine BlockP.go ?_
    refine SeqP.go ?_
    refine AW.seq ?_
    refine AW.region ?_
    refine OpsW.q rfl (q_move (v := .int _ _) rfl) ?_
    refine OpsW.q rfl (q_assign (v := .int _ _) rfl) ?_
    refine OpsW.q rfl (q_assign (v := .int _ _) rfl) ?_
    refine OpsW.nil ?_
    refine SeqP.go ?_
    refine AW.ret ?_
    refine RetP.mk2 (H' := H) (v1 := .int _ _) (v2 := .int _ _) rfl rfl rfl  (by first | exact (Hp.le_refl _) | exact (Hp.le_set (by first | assumption | exact Hp.set_none (by assumption) (by first | assumption | exact Ne.symm (by assumption)) | exact Hp.set_none (Hp.set_none (by assumption) (by first | assumption | exact Ne.symm (by assumption))) (by first | assumption | exact Ne.symm (by assumption))) (Hp.le_refl _)) | exact (Hp.le_set (by first | assumption | exact Hp.set_none (by assumption) (by first | assumption | exact Ne.symm (by assumption)) | exact Hp.set_none (Hp.set_none (by assumption) (by first | assumption | exact Ne.symm (by assumption))) (by first | assumption | exact Ne.symm (by assumption))) (Hp.le_set (by first | assumption | exact Hp.set_none (by assumption) (by first | assumption | exact Ne.symm (by assumption)) | exact Hp.set_none (Hp.set_none (by assumption) (by first | assumption | exact Ne.symm (by assumption))) (by first | assumption | exact Ne.symm (by assumption))) (Hp.le_refl _))) | exact (Hp.le_set (by first | assumption | exact Hp.set_none (by assumption) (by first | assumption | exact Ne.symm (by assumption)) | exact Hp.set_none (Hp.set_none (by assumption) (by first | assumption | exact Ne.symm (by assumption))) (by first | assumption | exact Ne.symm (by assumption))) (Hp.le_set (by first | assumption | exact Hp.set_none (by assumption) (by first | assumption | exact Ne.symm (by assumption)) | exact Hp.set_none (Hp.set_none (by assumption) (by first | assumption | exact Ne.symm (by assumption))) (by first | assumption | exact Ne.symm (by assumption))) (Hp.le_set (by first | assumption | exact Hp.set_none (by assumption) (by first | assumption | exact Ne.symm (by assumption)) | exact Hp.set_none (Hp.set_none (by assumption) (by first | assumption | exact Ne.symm (by assumption))) (by first | assumption | exact Ne.symm (by assumption))) (Hp.le_refl _)))) | exact (Hp.le_set (by first | assumption | exact Hp.set_none (by assumption) (by first | assumption | exact Ne.symm (by assumption)) | exact Hp.set_none (Hp.set_none (by assumption) (by first | assumption | exact Ne.symm (by assumption))) (by first | assumption | exact Ne.symm (by assumption))) (Hp.le_set (by first | assumption | exact Hp.set_none (by assumption) (by first | assumption | exact Ne.symm (by assumption)) | exact Hp.set_none (Hp.set_none (by assumption) (by first | assumption | exact Ne.symm (by assumption))) (by first | assumption | exact Ne.symm (by assumption))) (Hp.le_set (by first | assumption | exact Hp.set_none (by assumption) (by first | assumption | exact Ne.symm (by assumption)) | exact Hp.set_none (Hp.set_none (by assumption) (by first | assumption | exact Ne.symm (by assumption))) (by first | assumption | exact Ne.symm (by assumption))) (Hp.le_set (by first | assumption | exact Hp.set_none (by assumption) (by first | assumption | exact Ne.symm (by assumption)) | exact Hp.set_none (Hp.set_none (by assumption) (by first | assumption | exact Ne.symm (by assumption))) (by first | assumption | exact Ne.symm (by assumption))) (Hp.le_refl _))))) | exact (Hp.le_set (by first | assumption | exact Hp.set_none (by assumption) (by first | assumption | exact Ne.symm (by assumption)) | exact Hp.set_none (Hp.set_none (by assumption) (by first | assumption | exact Ne.symm (by assumption))) (by first | assumption | exact Ne.symm (by assumption))) (Hp.le_set (by first | assumption | exact Hp.set_none (by assumption) (by first | assumption | exact Ne.symm (by assumption)) | exact Hp.set_none (Hp.set_none (by assumption) (by first | assumption | exact Ne.symm (by assumption))) (by first | assumption | exact Ne.symm (by assumption))) (Hp.le_set (by first | assumption | exact Hp.set_none (by assumption) (by first | assumption | exact Ne.symm (by assumption)) | exact Hp.set_none (Hp.set_none (by assumption) (by first | assumption | exact Ne.symm (by assumption))) (by first | assumption | exact Ne.symm (by assumption))) (Hp.le_set (by first | assumption | exact Hp.set_none (by assumption) (by first | assumption | exact Ne.symm (by assumption)) | exact Hp.set_none (Hp.set_none (by assumption) (by first | assumption | exact Ne.symm (by assumption))) (by first | assumption | exact Ne.symm (by assumption))) (Hp.le_set (by first | assumption | exact Hp.set_none (by assumption) (by first | assumption | exact Ne.symm (by assumption)) | exact Hp.set_none (Hp.set_none (by assumption) (by first | assumption | exact Ne.symm (by assumption))) (by first | assumption | exact Ne.symm (by assumption))) (Hp.le_refl _))))))) ?_
    exact ⟨by first | rw [sizeP_bad hbad] | rw [sizeP_short hgood (by omega)] | rw [sizeP_big hgood (by omega) (by omega)] | rw [sizeP_wait hgood (by omega) (by omega) (by omega)] | rw [sizeP_ok hgood (by omega) (by omega) (by omega)], rfl⟩
  try simp only [decide_eq_true_eq, decide_eq_false_iff_not, Bool.or_eq_true, Bool.and_eq_true, Bool.or_eq_false_iff, Bool.and_eq_false_imp, Bool.not_eq_true', Bool.not_eq_false', ne_eq, Decidable.not_not, Int.not_lt, Int.not_le, Bool.not_eq_true, Bool.not_eq_false] at h0
  refine AW.skip ?_
  refine SeqP.go ?_
  refine AW.seq ?_
  refine AW.block ?_
  refine AW.seq ?_
  refine AW.region ?_
  refine OpsW.q rfl (q_move (v := .int _ _) rfl) ?_
  refine OpsW.q rfl (q_indexAddrV0 Try.underlying44 (by kernel_rfl) rfl rfl (by first | omega | decide) (by first | omega | decide)) ?_
  refine OpsW.q rfl (q_loadN (by kernel_rfl) rfl (by first | exact Hp.set_self | exact (Hp.set_ne (by first | assumption | exact Ne.symm (by assumption))).trans (Hp.set_self) | exact (Hp.set_ne (by first | assumption | exact Ne.symm (by assumption))).trans ((Hp.set_ne (by first | assumption | exact Ne.symm (by assumption))).trans (Hp.set_self)) | exact (Hp.set_ne (by first | assumption | exact Ne.symm (by assumption))).trans ((Hp.set_ne (by first | assumption | exact Ne.symm (by assumption))).trans ((Hp.set_ne (by first | assumption | exact Ne.symm (by assumption))).trans (Hp.set_self))) | exact (Hp.set_ne (by first | assumption | exact Ne.symm (by assumption))).trans ((Hp.set_ne (by first | assumption | exact Ne.symm (by assumption))).trans ((Hp.set_ne (by first | assumption | exact Ne.symm (by assumption))).trans ((Hp.set_ne (by first | assumption | exact Ne.symm (by assumption))).trans (Hp.set_self)))) | exact (by assumption) | exact (Hp.set_ne (by first | assumption | exact Ne.symm (by assumption))).trans ((by assumption)) | exact (Hp.set_ne (by first | assumption | exact Ne.symm (by assumption))).trans ((Hp.set_ne (by first | assumption | exact Ne.symm (by assumption))).trans ((by assumption))) | exact (Hp.set_ne (by first | assumption | exact Ne.symm (by assumption))).trans ((Hp.set_ne (by first | assumption | exact Ne.symm (by assumption))).trans ((Hp.set_ne (by first | assumption | exact Ne.symm (by assumption))).trans ((by assumption))))) (by first | (with_reducible assumption) | omega | (unfold maxLen; omega) | (simp only [nums_length, List.length_set, List.length_replicate, List.length_take, List.length_drop, List.length_append, List.length_cons, List.length_nil, ofB_length, toB_length]; omega) | (simp only [nums_length, List.length_set, List.length_replicate, List.length_take, List.length_drop, List.length_append, List.length_cons, List.length_nil, ofB_length, toB_length]; unfold maxLen; omega) | (simp; done) | (simp; omega) | rfl | decide)) ?_
  rw [show (ofB (s.take (min 3 s.length))).getD (i : Int).toNat 0 = bt s i from by rw [ofB_getD, Int.toNat_natCast, bt_take s (by omega)]]
  refine OpsW.q rfl (q_assign (v := .int _ _) rfl) ?_
  refine OpsW.q rfl (q_assign (v := .int _ _) rfl) ?_
  refine OpsW.nil ?_
  refine SeqP.go ?_
  refine AW.seq ?_
  refine AW.region ?_
  refine OpsW.q rfl (q_move (v := .int _ _) rfl) ?_
  refine OpsW.q rfl (q_eql rfl rfl) ?_
  refine OpsW.qb rfl (q_move (v := .bool _) rfl) ?_
  intro b27 eb27
  refine OpsW.g rfl rfl rfl (fun hB => by simp only [Bool.and_eq_true, beq_iff_eq] at hB; obtain rfl := hB; exact (q_move (v := .int _ _) rfl)) ?_
  refine OpsW.g rfl rfl rfl (fun hB => by simp only [Bool.and_eq_true, beq_iff_eq] at hB; obtain rfl := hB; exact (q_convInt rfl Try.underlying3 rfl)) ?_
  rw [wrap_i64 (x := bt s i) (by have := bt_range s i; omega) (by have := bt_range s i; omega)]
  refine OpsW.g rfl rfl rfl (fun hB => by simp only [Bool.and_eq_true, beq_iff_eq] at hB; obtain rfl := hB; exact (o_call rfl Try.func13 rfl rfl (isKind_con _))) ?_
  refine OpsW.g rfl rfl rfl (fun hB => by simp only [Bool.and_eq_true, beq_iff_eq] at hB; obtain rfl := hB; exact (q_not rfl)) ?_
  refine OpsW.q rfl (q_and2 rfl rfl rfl) ?_
  refine OpsW.qb rfl (q_move (v := .bool _) rfl) ?_
  intro b33 eb33
  refine OpsW.g rfl rfl rfl (fun hB => by simp only [Bool.and_eq_true, beq_iff_eq] at hB; obtain rfl := hB; exact (q_move (v := .int _ _) rfl)) ?_
  refine OpsW.g rfl rfl rfl (fun hB => by simp only [Bool.and_eq_true, beq_iff_eq] at hB; obtain rfl := hB; exact (q_gtr rfl rfl)) ?_
  refine OpsW.gb rfl rfl rfl (fun hB => by simp only [Bool.and_eq_true, beq_iff_eq] at hB; obtain rfl := hB; exact (q_move (v := .bool _) rfl)) ?_
  intro b36 eb36
  refine OpsW.gg rfl rfl rfl (fun hB => by simp only [Bool.and_eq_true, beq_iff_eq] at hB; obtain ⟨rfl, rfl⟩ := hB; exact (q_move (v := .int _ _) rfl)) ?_
  refine OpsW.gg rfl rfl rfl (fun hB => by simp only [Bool.and_eq_true, beq_iff_eq] at hB; obtain ⟨rfl, rfl⟩ := hB; exact (q_neq rfl rfl)) ?_
  refine OpsW.g rfl rfl rfl (fun hB => by simp only [Bool.and_eq_true, beq_iff_eq] at hB; obtain rfl := hB; exact (q_and2 rfl rfl rfl)) ?_
  refine OpsW.q rfl (q_or2 rfl rfl rfl) ?_
  refine OpsW.nil ?_
  refine SeqP.go ?_
  refine AW.cond rfl (fun h1 => ?_) (fun h1 => ?_)
  ·
    try simp only [eb27, eb33, eb36, decide_eq_true_eq, decide_eq_false_iff_not, Bool.or_eq_true, Bool.and_eq_true, Bool.or_eq_false_iff, Bool.and_eq_false_imp, Bool.not_eq_true', Bool.not_eq_false', ne_eq, Decidable.not_not, Int.not_lt, Int.not_le, Bool.not_eq_true, Bool.not_eq_false] at h1
    have hbad : badP s := badP_of (i := i) (by omega) (by omega) (badAt_of (by simp_all))
    refine AW.seq ?_
    refine AW.region ?_
    refine OpsW.q rfl (q_assign (v := .int _ _) rfl) ?_
    refine OpsW.q rfl (q_assign (v := .int _ _) rfl) ?_
    refine OpsW.nil ?_
    refine SeqP.go ?_
    refine AW.ret ?_
    refine BlockP.ret ?_
    refine SeqP.ret ?_
    refine LoopP.ret ?_
    refine BlockP.ret ?_
    refine SeqP.ret ?_
    refine RetP.mk2 (H' := H) (v1 := .int _ _) (v2 := .int _ _) rfl rfl rfl  (by first | exact (Hp.le_refl _) | exact (Hp.le_set (by first | assumption | exact Hp.set_none (by assumption) (by first | assumption | exact Ne.symm (by assumption)) | exact Hp.set_none (Hp.set_none (by assumption) (by first | assumption | exact Ne.symm (by assumption))) (by first | assumption | exact Ne.symm (by assumption))) (Hp.le_refl _)) | exact (Hp.le_set (by first | assumption | exact Hp.set_none (by assumption) (by first | assumption | exact Ne.symm (by assumption)) | exact Hp.set_none (Hp.set_none (by assumption) (by first | assumption | exact Ne.symm (by assumption))) (by first | assumption | exact Ne.symm (by assumption))) (Hp.le_set (by first | assumption | exact Hp.set_none (by assumption) (by first | assumption | exact Ne.symm (by assumption)) | exact Hp.set_none (Hp.set_none (by assumption) (by first | assumption | exact Ne.symm (by assumption))) (by first | assumption | exact Ne.symm (by assumption))) (Hp.le_refl _))) | exact (Hp.le_set (by first | assumption | exact Hp.set_none (by assumption) (by first | assumption | exact Ne.symm (by assumption)) | exact Hp.set_none (Hp.set_none (by assumption) (by first | assumption | exact Ne.symm (by assumption))) (by first | assumption | exact Ne.symm (by assumption))) (Hp.le_set (by first | assumption | exact Hp.set_none (by assumption) (by first | assumption | exact Ne.symm (by assumption)) | exact Hp.set_none (Hp.set_none (by assumption) (by first | assumption | exact Ne.symm (by assumption))) (by first | assumption | exact Ne.symm (by assumption))) (Hp.le_set (by first | assumption | exact Hp.set_none (by assumption) (by first | assumption | exact Ne.symm (by assumption)) | exact Hp.set_none (Hp.set_none (by assumption) (by first | assumption | exact Ne.symm (by assumption))) (by first | assumption | exact Ne.symm (by assumption))) (Hp.le_refl _)))) | exact (Hp.le_set (by first | assumption | exact Hp.set_none (by assumption) (by first | assumption | exact Ne.symm (by assumption)) | exact Hp.set_none (Hp.set_none (by assumption) (by first | assumption | exact Ne.symm (by assumption))) (by first | assumption | exact Ne.symm (by assumption))) (Hp.le_set (by first | assumption | exact Hp.set_none (by assumption) (by first | assumption | exact Ne.symm (by assumption)) | exact Hp.set_none (Hp.set_none (by assumption) (by first | assumption | exact Ne.symm (by assumption))) (by first | assumption | exact Ne.symm (by assumption))) (Hp.le_set (by first | assumption | exact Hp.set_none (by assumption) (by first | assumption | exact Ne.symm (by assumption)) | exact Hp.set_none (Hp.set_none (by assumption) (by first | assumption | exact Ne.symm (by assumption))) (by first | assumption | exact Ne.symm (by assumption))) (Hp.le_set (by first | assumption | exact Hp.set_none (by assumption) (by first | assumption | exact Ne.symm (by assumption)) | exact Hp.set_none (Hp.set_none (by assumption) (by first | assumption | exact Ne.symm (by assumption))) (by first | assumption | exact Ne.symm (by assumption))) (Hp.le_refl _))))) | exact (Hp.le_set (by first | assumption | exact Hp.set_none (by assumption) (by first | assumption | exact Ne.symm (by assumption)) | exact Hp.set_none (Hp.set_none (by assumption) (by first | assumption | exact Ne.symm (by assumption))) (by first | assumption | exact Ne.symm (by assumption))) (Hp.le_set (by first | assumption | exact Hp.set_none (by assumption) (by first | assumption | exact Ne.symm (by assumption)) | exact Hp.set_none (Hp.set_none (by assumption) (by first | assumption | exact Ne.symm (by assumption))) (by first | assumption | exact Ne.symm (by assumption))) (Hp.le_set (by first | assumption | exact Hp.set_none (by assumption) (by first | assumption | exact Ne.symm (by assumption)) | exact Hp.set_none (Hp.set_none (by assumption) (by first | assumption | exact Ne.symm (by assumption))) (by first | assumption | exact Ne.symm (by assumption))) (Hp.le_set (by first | assumption | exact Hp.set_none (by assumption) (by first | assumption | exact Ne.symm (by assumption)) | exact Hp.set_none (Hp.set_none (by assumption) (by first | assumption | exact Ne.symm (by assumption))) (by first | assumption | exact Ne.symm (by assumption))) (Hp.le_set (by first | assumption | exact Hp.set_none (by assumption) (by first | assumption | exact Ne.symm (by assumption)) | exact Hp.set_none (Hp.set_none (by assumption) (by first | assumption | exact Ne.symm (by assumption))) (by first | assumption | exact Ne.symm (by assumption))) (Hp.le_refl _))))))) ?_
    exact ⟨by first | rw [sizeP_bad hbad] | rw [sizeP_short hgood (by omega)] | rw [sizeP_big hgood (by omega) (by omega)] | rw [sizeP_wait hgood (by omega) (by omega) (by omega)] | rw [sizeP_ok hgood (by omega) (by omega) (by omega)], rfl⟩
  try simp only [eb27, eb33, eb36, decide_eq_true_eq, decide_eq_false_iff_not, Bool.or_eq_true, Bool.and_eq_true, Bool.or_eq_false_iff, Bool.and_eq_false_imp, Bool.not_eq_true', Bool.not_eq_false', ne_eq, Decidable.not_not, Int.not_lt, Int.not_le, Bool.not_eq_true, Bool.not_eq_false] at h1
  have hok : ¬ badAt s i := by simp_all [badAt] <;> omega
  refine AW.skip ?_
  refine BlockP.go ?_
  refine SeqP.go ?_
  refine AW.region ?_
  refine OpsW.q rfl (q_addI rfl rfl (by omega)) ?_
  refine OpsW.q rfl (q_move (v := .int _ _) rfl) ?_
  refine OpsW.nil ?_
  exact LoopP.go _ (by omega) ⟨i + 1, _, rfl, ⟨by omega, fun j hj => (Nat.lt_or_ge j i).elim (fun hji => hno j hji) (fun hji => by rw [show j = i from by omega]; exact hok)⟩, Slots.eq ⟨(by first | rfl | exact i64_int (by omega) (by omega) (by omega) | assumption), (by first | rfl | exact i64_int (by omega) (by omega) (by omega) | assumption), (by first | rfl | exact i64_int (by omega) (by omega) (by omega) | assumption), (by first | rfl | exact i64_int (by omega) (by omega) (by omega) | assumption),  trivial⟩, rfl⟩
theorem next_con {bR : Nat} (s : List UInt8) (e : Int) (hb : H bR = some ⟨[S s, .int .i64 e], 2, 49⟩) (hs : s.length ≤ 1048576) : Con Try.prog w0 12 #[.pointer (some ⟨bR, 0, none⟩)] H
    (fun v H' => v = .tuple #[.int .i64 (nextP s e).1.1, S (nextP s e).1.2.1, .int .i64 (nextP s e).1.2.2] ∧ H' = H.set bR ⟨[S (nextP s e).2.1, .int .i64 (nextP s e).2.2], 2, 49⟩) := by
  refine Con.intro Try.func12 rfl rfl ?_
  refine AW.seq ?_
  refine AW.region ?_
  refine OpsW.q rfl (q_assign (v := .int _ _) rfl) ?_
  refine OpsW.q rfl (q_assign (v := S _) rfl) ?_
  refine OpsW.q rfl (q_assign (v := .int _ _) rfl) ?_
  refine OpsW.nil ?_
  refine SeqP.go ?_
  refine AW.seq ?_
  refine AW.block ?_
  refine AW.seq ?_
  refine AW.region ?_
  refine OpsW.q rfl (q_move (v := .pointer _) rfl) ?_
  refine OpsW.q rfl (q_eqlP Try.underlying37 rfl rfl) ?_
  refine OpsW.q rfl (q_assign (v := .bool _) rfl) ?_
  refine OpsW.nil ?_
  refine SeqP.go ?_
  refine AW.cond rfl (fun h0 => ?_) (fun h0 => ?_)
  ·
    exfalso
    try simp only [decide_eq_true_eq, decide_eq_false_iff_not, Bool.or_eq_true, Bool.and_eq_true, Bool.or_eq_false_iff, Bool.and_eq_false_imp, Bool.not_eq_true', Bool.not_eq_false', ne_eq, Decidable.not_not, Int.not_lt, Int.not_le, Bool.not_eq_true, Bool.not_eq_false] at h0
    cases h0
  try simp only [decide_eq_true_eq, decide_eq_false_iff_not, Bool.or_eq_true, Bool.and_eq_true, Bool.or_eq_false_iff, Bool.and_eq_false_imp, Bool.not_eq_true', Bool.not_eq_false', ne_eq, Decidable.not_not, Int.not_lt, Int.not_le, Bool.not_eq_true, Bool.not_eq_false] at h0
  refine AW.seq ?_
  refine AW.region ?_
  refine OpsW.q rfl (q_move (v := .pointer _) rfl) ?_
  refine OpsW.q rfl (q_nilCheck rfl) ?_
  refine OpsW.q rfl (q_fieldAddr (sz := 0) Try.underlying49 rfl (by kernel_rfl) rfl) ?_
  refine OpsW.q rfl (q_load (v := .int _ _) (by kernel_rfl) rfl (by first | exact Hp.set_self | exact (Hp.set_ne (by first | assumption | exact Ne.symm (by assumption))).trans (Hp.set_self) | exact (Hp.set_ne (by first | assumption | exact Ne.symm (by assumption))).trans ((Hp.set_ne (by first | assumption | exact Ne.symm (by assumption))).trans (Hp.set_self)) | exact (Hp.set_ne (by first | assumption | exact Ne.symm (by assumption))).trans ((Hp.set_ne (by first | assumption | exact Ne.symm (by assumption))).trans ((Hp.set_ne (by first | assumption | exact Ne.symm (by assumption))).trans (Hp.set_self))) | exact (Hp.set_ne (by first | assumption | exact Ne.symm (by assumption))).trans ((Hp.set_ne (by first | assumption | exact Ne.symm (by assumption))).trans ((Hp.set_ne (by first | assumption | exact Ne.symm (by assumption))).trans ((Hp.set_ne (by first | assumption | exact Ne.symm (by assumption))).trans (Hp.set_self)))) | exact (by assumption) | exact (Hp.set_ne (by first | assumption | exact Ne.symm (by assumption))).trans ((by assumption)) | exact (Hp.set_ne (by first | assumption | exact Ne.symm (by assumption))).trans ((Hp.set_ne (by first | assumption | exact Ne.symm (by assumption))).trans ((by assumption))) | exact (Hp.set_ne (by first | assumption | exact Ne.symm (by assumption))).trans ((Hp.set_ne (by first | assumption | exact Ne.symm (by assumption))).trans ((Hp.set_ne (by first | assumption | exact Ne.symm (by assumption))).trans ((by assumption))))) rfl) ?_
  refine OpsW.q rfl (q_neq rfl rfl) ?_
  refine OpsW.q rfl (q_assign (v := .bool _) rfl) ?_
  refine OpsW.nil ?_
  refine SeqP.go ?_
  refine AW.cond rfl (fun h1 => ?_) (fun h1 => ?_)
  ·
    try simp only [decide_eq_true_eq, decide_eq_false_iff_not, Bool.or_eq_true, Bool.and_eq_true, Bool.or_eq_false_iff, Bool.and_eq_false_imp, Bool.not_eq_true', Bool.not_eq_false', ne_eq, Decidable.not_not, Int.not_lt, Int.not_le, Bool.not_eq_true, Bool.not_eq_false] at h1
    refine AW.seq ?_
    refine AW.drawK [] 6 rfl (by kernel_rfl) ?_
    refine SeqK.q rfl (q_move (v := .pointer _) rfl) ?_
    refine SeqK.q rfl (q_nilCheck rfl) ?_
    refine SeqK.q rfl (q_fieldAddr (sz := 0) Try.underlying49 rfl (by kernel_rfl) rfl) ?_
    refine SeqK.q rfl (q_load (v := .int _ _) (by kernel_rfl) rfl (by first | exact Hp.set_self | exact (Hp.set_ne (by first | assumption | exact Ne.symm (by assumption))).trans (Hp.set_self) | exact (Hp.set_ne (by first | assumption | exact Ne.symm (by assumption))).trans ((Hp.set_ne (by first | assumption | exact Ne.symm (by assumption))).trans (Hp.set_self)) | exact (Hp.set_ne (by first | assumption | exact Ne.symm (by assumption))).trans ((Hp.set_ne (by first | assumption | exact Ne.symm (by assumption))).trans ((Hp.set_ne (by first | assumption | exact Ne.symm (by assumption))).trans (Hp.set_self))) | exact (Hp.set_ne (by first | assumption | exact Ne.symm (by assumption))).trans ((Hp.set_ne (by first | assumption | exact Ne.symm (by assumption))).trans ((Hp.set_ne (by first | assumption | exact Ne.symm (by assumption))).trans ((Hp.set_ne (by first | assumption | exact Ne.symm (by assumption))).trans (Hp.set_self)))) | exact (by assumption) | exact (Hp.set_ne (by first | assumption | exact Ne.symm (by assumption))).trans ((by assumption)) | exact (Hp.set_ne (by first | assumption | exact Ne.symm (by assumption))).trans ((Hp.set_ne (by first | assumption | exact Ne.symm (by assumption))).trans ((by assumption))) | exact (Hp.set_ne (by first | assumption | exact Ne.symm (by assumption))).trans ((Hp.set_ne (by first | assumption | exact Ne.symm (by assumption))).trans ((Hp.set_ne (by first | assumption | exact Ne.symm (by assumption))).trans ((by assumption))))) rfl) ?_
    refine SeqK.q rfl (q_assign (v := .int _ _) rfl) ?_
    refine SeqK.q rfl (q_assign (v := S _) rfl) ?_
    refine SeqK.done ?_
    refine OpsW.q rfl (q_assign (v := .int _ _) rfl) ?_
    refine OpsW.nil ?_
    refine SeqP.go ?_
    refine AW.ret ?_
    refine BlockP.ret ?_
    refine SeqP.ret ?_
    refine RetP.mk3 (H' := _) (v1 := .int _ _) (v2 := S _) (v3 := .int _ _) rfl rfl rfl rfl  (by first | exact (Hp.le_refl _) | exact (Hp.le_set (by first | assumption | exact Hp.set_none (by assumption) (by first | assumption | exact Ne.symm (by assumption)) | exact Hp.set_none (Hp.set_none (by assumption) (by first | assumption | exact Ne.symm (by assumption))) (by first | assumption | exact Ne.symm (by assumption))) (Hp.le_refl _)) | exact (Hp.le_set (by first | assumption | exact Hp.set_none (by assumption) (by first | assumption | exact Ne.symm (by assumption)) | exact Hp.set_none (Hp.set_none (by assumption) (by first | assumption | exact Ne.symm (by assumption))) (by first | assumption | exact Ne.symm (by assumption))) (Hp.le_set (by first | assumption | exact Hp.set_none (by assumption) (by first | assumption | exact Ne.symm (by assumption)) | exact Hp.set_none (Hp.set_none (by assumption) (by first | assumption | exact Ne.symm (by assumption))) (by first | assumption | exact Ne.symm (by assumption))) (Hp.le_refl _))) | exact (Hp.le_set (by first | assumption | exact Hp.set_none (by assumption) (by first | assumption | exact Ne.symm (by assumption)) | exact Hp.set_none (Hp.set_none (by assumption) (by first | assumption | exact Ne.symm (by assumption))) (by first | assumption | exact Ne.symm (by assumption))) (Hp.le_set (by first | assumption | exact Hp.set_none (by assumption) (by first | assumption | exact Ne.symm (by assumption)) | exact Hp.set_none (Hp.set_none (by assumption) (by first | assumption | exact Ne.symm (by assumption))) (by first | assumption | exact Ne.symm (by assumption))) (Hp.le_set (by first | assumption | exact Hp.set_none (by assumption) (by first | assumption | exact Ne.symm (by assumption)) | exact Hp.set_none (Hp.set_none (by assumption) (by first | assumption | exact Ne.symm (by assumption))) (by first | assumption | exact Ne.symm (by assumption))) (Hp.le_refl _)))) | exact (Hp.le_set (by first | assumption | exact Hp.set_none (by assumption) (by first | assumption | exact Ne.symm (by assumption)) | exact Hp.set_none (Hp.set_none (by assumption) (by first | assumption | exact Ne.symm (by assumption))) (by first | assumption | exact Ne.symm (by assumption))) (Hp.le_set (by first | assumption | exact Hp.set_none (by assumption) (by first | assumption | exact Ne.symm (by assumption)) | exact Hp.set_none (Hp.set_none (by assumption) (by first | assumption | exact Ne.symm (by assumption))) (by first | assumption | exact Ne.symm (by assumption))) (Hp.le_set (by first | assumption | exact Hp.set_none (by assumption) (by first | assumption | exact Ne.symm (by assumption)) | exact Hp.set_none (Hp.set_none (by assumption) (by first | assumption | exact Ne.symm (by assumption))) (by first | assumption | exact Ne.symm (by assumption))) (Hp.le_set (by first | assumption | exact Hp.set_none (by assumption) (by first | assumption | exact Ne.symm (by assumption)) | exact Hp.set_none (Hp.set_none (by assumption) (by first | assumption | exact Ne.symm (by assumption))) (by first | assumption | exact Ne.symm (by assumption))) (Hp.le_refl _))))) | exact (Hp.le_set (by first | assumption | exact Hp.set_none (by assumption) (by first | assumption | exact Ne.symm (by assumption)) | exact Hp.set_none (Hp.set_none (by assumption) (by first | assumption | exact Ne.symm (by assumption))) (by first | assumption | exact Ne.symm (by assumption))) (Hp.le_set (by first | assumption | exact Hp.set_none (by assumption) (by first | assumption | exact Ne.symm (by assumption)) | exact Hp.set_none (Hp.set_none (by assumption) (by first | assumption | exact Ne.symm (by assumption))) (by first | assumption | exact Ne.symm (by assumption))) (Hp.le_set (by first | assumption | exact Hp.set_none (by assumption) (by first | assumption | exact Ne.symm (by assumption)) | exact Hp.set_none (Hp.set_none (by assumption) (by first | assumption | exact Ne.symm (by assumption))) (by first | assumption | exact Ne.symm (by assumption))) (Hp.le_set (by first | assumption | exact Hp.set_none (by assumption) (by first | assumption | exact Ne.symm (by assumption)) | exact Hp.set_none (Hp.set_none (by assumption) (by first | assumption | exact Ne.symm (by assumption))) (by first | assumption | exact Ne.symm (by assumption))) (Hp.le_set (by first | assumption | exact Hp.set_none (by assumption) (by first | assumption | exact Ne.symm (by assumption)) | exact Hp.set_none (Hp.set_none (by assumption) (by first | assumption | exact Ne.symm (by assumption))) (by first | assumption | exact Ne.symm (by assumption))) (Hp.le_refl _))))))) ?_
    first | exact ⟨by rw [nextP_err (by assumption)], by rw [nextP_err (by assumption)]; exact (Hp.set_id hb).symm⟩ | exact ⟨by rw [nextP_wrong (by assumption) (by assumption)], by rw [nextP_wrong (by assumption) (by assumption)] <;> rfl⟩ | exact ⟨by rw [nextP_busy (by assumption)] <;> simp_all, by rw [nextP_busy (by assumption)]; exact (Hp.set_id hb).symm⟩ | exact ⟨by rw [nextP_ok (by assumption)] <;> rfl, by rw [nextP_ok (by assumption)] <;> rfl⟩
  try simp only [decide_eq_true_eq, decide_eq_false_iff_not, Bool.or_eq_true, Bool.and_eq_true, Bool.or_eq_false_iff, Bool.and_eq_false_imp, Bool.not_eq_true', Bool.not_eq_false', ne_eq, Decidable.not_not, Int.not_lt, Int.not_le, Bool.not_eq_true, Bool.not_eq_false] at h1
  obtain rfl := h1
  refine AW.skip ?_
  refine BlockP.go ?_
  refine SeqP.go ?_
  refine AW.seq ?_
  refine AW.region ?_
  refine OpsW.q rfl (q_move (v := .pointer _) rfl) ?_
  refine OpsW.x rfl (o_call rfl Try.func18 rfl rfl (size_con s hb hs)) ?_
  refine OpsW.q rfl (q_move (v := .tuple _) rfl) ?_
  refine OpsW.q rfl (q_extract (v := .int _ _) rfl rfl) ?_
  refine OpsW.q rfl (q_extract (v := .int _ _) rfl rfl) ?_
  refine OpsW.q rfl (q_assign (v := .int _ _) rfl) ?_
  refine OpsW.q rfl (q_assign (v := .int _ _) rfl) ?_
  refine OpsW.nil ?_
  refine SeqP.go ?_
  refine AW.seq ?_
  refine AW.seq ?_
  refine AW.region ?_
  refine OpsW.q rfl (q_move (v := .int _ _) rfl) ?_
  refine OpsW.q rfl (q_neq rfl rfl) ?_
  refine OpsW.nil ?_
  refine SeqP.go ?_
  refine AW.cond rfl (fun h2 => ?_) (fun h2 => ?_)
  ·
    try simp only [decide_eq_true_eq, decide_eq_false_iff_not, Bool.or_eq_true, Bool.and_eq_true, Bool.or_eq_false_iff, Bool.and_eq_false_imp, Bool.not_eq_true', Bool.not_eq_false', ne_eq, Decidable.not_not, Int.not_lt, Int.not_le, Bool.not_eq_true, Bool.not_eq_false] at h2
    refine AW.seq ?_
    refine AW.seq ?_
    refine AW.region ?_
    refine OpsW.q rfl (q_move (v := .int _ _) rfl) ?_
    refine OpsW.q rfl (q_neq rfl rfl) ?_
    refine OpsW.nil ?_
    refine SeqP.go ?_
    refine AW.cond rfl (fun h3 => ?_) (fun h3 => ?_)
    ·
      try simp only [decide_eq_true_eq, decide_eq_false_iff_not, Bool.or_eq_true, Bool.and_eq_true, Bool.or_eq_false_iff, Bool.and_eq_false_imp, Bool.not_eq_true', Bool.not_eq_false', ne_eq, Decidable.not_not, Int.not_lt, Int.not_le, Bool.not_eq_true, Bool.not_eq_false] at h3
      refine AW.region ?_
      refine OpsW.q rfl (q_move (v := .pointer _) rfl) ?_
      refine OpsW.q rfl (q_move (v := .int _ _) rfl) ?_
      refine OpsW.q rfl (q_nilCheck rfl) ?_
      refine OpsW.q rfl (q_fieldAddr (sz := 0) Try.underlying49 rfl (by kernel_rfl) rfl) ?_
      refine OpsW.s (o_store (v := .int _ _) (by kernel_rfl) rfl rfl rfl (by first | exact Hp.set_self | exact (Hp.set_ne (by first | assumption | exact Ne.symm (by assumption))).trans (Hp.set_self) | exact (Hp.set_ne (by first | assumption | exact Ne.symm (by assumption))).trans ((Hp.set_ne (by first | assumption | exact Ne.symm (by assumption))).trans (Hp.set_self)) | exact (Hp.set_ne (by first | assumption | exact Ne.symm (by assumption))).trans ((Hp.set_ne (by first | assumption | exact Ne.symm (by assumption))).trans ((Hp.set_ne (by first | assumption | exact Ne.symm (by assumption))).trans (Hp.set_self))) | exact (Hp.set_ne (by first | assumption | exact Ne.symm (by assumption))).trans ((Hp.set_ne (by first | assumption | exact Ne.symm (by assumption))).trans ((Hp.set_ne (by first | assumption | exact Ne.symm (by assumption))).trans ((Hp.set_ne (by first | assumption | exact Ne.symm (by assumption))).trans (Hp.set_self)))) | exact (by assumption) | exact (Hp.set_ne (by first | assumption | exact Ne.symm (by assumption))).trans ((by assumption)) | exact (Hp.set_ne (by first | assumption | exact Ne.symm (by assumption))).trans ((Hp.set_ne (by first | assumption | exact Ne.symm (by assumption))).trans ((by assumption))) | exact (Hp.set_ne (by first | assumption | exact Ne.symm (by assumption))).trans ((Hp.set_ne (by first | assumption | exact Ne.symm (by assumption))).trans ((Hp.set_ne (by first | assumption | exact Ne.symm (by assumption))).trans ((by assumption))))) (by first | (with_reducible assumption) | omega | (unfold maxLen; omega) | (simp only [nums_length, List.length_set, List.length_replicate, List.length_take, List.length_drop, List.length_append, List.length_cons, List.length_nil, ofB_length, toB_length]; omega) | (simp only [nums_length, List.length_set, List.length_replicate, List.length_take, List.length_drop, List.length_append, List.length_cons, List.length_nil, ofB_length, toB_length]; unfold maxLen; omega) | (simp; done) | (simp; omega) | rfl | decide)) ?_
      refine OpsW.nil ?_
      refine SeqP.go ?_
      refine AW.seq ?_
      refine AW.region ?_
      refine OpsW.q rfl (q_move (v := .int _ _) rfl) ?_
      refine OpsW.q rfl (q_assign (v := .int _ _) rfl) ?_
      refine OpsW.q rfl (q_assign (v := S _) rfl) ?_
      refine OpsW.q rfl (q_assign (v := .int _ _) rfl) ?_
      refine OpsW.nil ?_
      refine SeqP.go ?_
      refine AW.ret ?_
      refine SeqP.ret ?_
      refine RetP.mk3 (H' := _) (v1 := .int _ _) (v2 := S _) (v3 := .int _ _) rfl rfl rfl rfl  (by first | exact (Hp.le_refl _) | exact (Hp.le_set (by first | assumption | exact Hp.set_none (by assumption) (by first | assumption | exact Ne.symm (by assumption)) | exact Hp.set_none (Hp.set_none (by assumption) (by first | assumption | exact Ne.symm (by assumption))) (by first | assumption | exact Ne.symm (by assumption))) (Hp.le_refl _)) | exact (Hp.le_set (by first | assumption | exact Hp.set_none (by assumption) (by first | assumption | exact Ne.symm (by assumption)) | exact Hp.set_none (Hp.set_none (by assumption) (by first | assumption | exact Ne.symm (by assumption))) (by first | assumption | exact Ne.symm (by assumption))) (Hp.le_set (by first | assumption | exact Hp.set_none (by assumption) (by first | assumption | exact Ne.symm (by assumption)) | exact Hp.set_none (Hp.set_none (by assumption) (by first | assumption | exact Ne.symm (by assumption))) (by first | assumption | exact Ne.symm (by assumption))) (Hp.le_refl _))) | exact (Hp.le_set (by first | assumption | exact Hp.set_none (by assumption) (by first | assumption | exact Ne.symm (by assumption)) | exact Hp.set_none (Hp.set_none (by assumption) (by first | assumption | exact Ne.symm (by assumption))) (by first | assumption | exact Ne.symm (by assumption))) (Hp.le_set (by first | assumption | exact Hp.set_none (by assumption) (by first | assumption | exact Ne.symm (by assumption)) | exact Hp.set_none (Hp.set_none (by assumption) (by first | assumption | exact Ne.symm (by assumption))) (by first | assumption | exact Ne.symm (by assumption))) (Hp.le_set (by first | assumption | exact Hp.set_none (by assumption) (by first | assumption | exact Ne.symm (by assumption)) | exact Hp.set_none (Hp.set_none (by assumption) (by first | assumption | exact Ne.symm (by assumption))) (by first | assumption | exact Ne.symm (by assumption))) (Hp.le_refl _)))) | exact (Hp.le_set (by first | assumption | exact Hp.set_none (by assumption) (by first | assumption | exact Ne.symm (by assumption)) | exact Hp.set_none (Hp.set_none (by assumption) (by first | assumption | exact Ne.symm (by assumption))) (by first | assumption | exact Ne.symm (by assumption))) (Hp.le_set (by first | assumption | exact Hp.set_none (by assumption) (by first | assumption | exact Ne.symm (by assumption)) | exact Hp.set_none (Hp.set_none (by assumption) (by first | assumption | exact Ne.symm (by assumption))) (by first | assumption | exact Ne.symm (by assumption))) (Hp.le_set (by first | assumption | exact Hp.set_none (by assumption) (by first | assumption | exact Ne.symm (by assumption)) | exact Hp.set_none (Hp.set_none (by assumption) (by first | assumption | exact Ne.symm (by assumption))) (by first | assumption | exact Ne.symm (by assumption))) (Hp.le_set (by first | assumption | exact Hp.set_none (by assumption) (by first | assumption | exact Ne.symm (by assumption)) | exact Hp.set_none (Hp.set_none (by assumption) (by first | assumption | exact Ne.symm (by assumption))) (by first | assumption | exact Ne.symm (by assumption))) (Hp.le_refl _))))) | exact (Hp.le_set (by first | assumption | exact Hp.set_none (by assumption) (by first | assumption | exact Ne.symm (by assumption)) | exact Hp.set_none (Hp.set_none (by assumption) (by first | assumption | exact Ne.symm (by assumption))) (by first | assumption | exact Ne.symm (by assumption))) (Hp.le_set (by first | assumption | exact Hp.set_none (by assumption) (by first | assumption | exact Ne.symm (by assumption)) | exact Hp.set_none (Hp.set_none (by assumption) (by first | assumption | exact Ne.symm (by assumption))) (by first | assumption | exact Ne.symm (by assumption))) (Hp.le_set (by first | assumption | exact Hp.set_none (by assumption) (by first | assumption | exact Ne.symm (by assumption)) | exact Hp.set_none (Hp.set_none (by assumption) (by first | assumption | exact Ne.symm (by assumption))) (by first | assumption | exact Ne.symm (by assumption))) (Hp.le_set (by first | assumption | exact Hp.set_none (by assumption) (by first | assumption | exact Ne.symm (by assumption)) | exact Hp.set_none (Hp.set_none (by assumption) (by first | assumption | exact Ne.symm (by assumption))) (by first | assumption | exact Ne.symm (by assumption))) (Hp.le_set (by first | assumption | exact Hp.set_none (by assumption) (by first | assumption | exact Ne.symm (by assumption)) | exact Hp.set_none (Hp.set_none (by assumption) (by first | assumption | exact Ne.symm (by assumption))) (by first | assumption | exact Ne.symm (by assumption))) (Hp.le_refl _))))))) ?_
      first | exact ⟨by rw [nextP_err (by assumption)], by rw [nextP_err (by assumption)]; exact (Hp.set_id hb).symm⟩ | exact ⟨by rw [nextP_wrong (by assumption) (by assumption)], by rw [nextP_wrong (by assumption) (by assumption)] <;> rfl⟩ | exact ⟨by rw [nextP_busy (by assumption)] <;> simp_all, by rw [nextP_busy (by assumption)]; exact (Hp.set_id hb).symm⟩ | exact ⟨by rw [nextP_ok (by assumption)] <;> rfl, by rw [nextP_ok (by assumption)] <;> rfl⟩
    try simp only [decide_eq_true_eq, decide_eq_false_iff_not, Bool.or_eq_true, Bool.and_eq_true, Bool.or_eq_false_iff, Bool.and_eq_false_imp, Bool.not_eq_true', Bool.not_eq_false', ne_eq, Decidable.not_not, Int.not_lt, Int.not_le, Bool.not_eq_true, Bool.not_eq_false] at h3
    refine AW.skip ?_
    refine SeqP.go ?_
    refine AW.seq ?_
    refine AW.region ?_
    refine OpsW.q rfl (q_move (v := .int _ _) rfl) ?_
    refine OpsW.q rfl (q_assign (v := .int _ _) rfl) ?_
    refine OpsW.q rfl (q_assign (v := S _) rfl) ?_
    refine OpsW.q rfl (q_assign (v := .int _ _) rfl) ?_
    refine OpsW.nil ?_
    refine SeqP.go ?_
    refine AW.ret ?_
    refine SeqP.ret ?_
    refine RetP.mk3 (H' := _) (v1 := .int _ _) (v2 := S _) (v3 := .int _ _) rfl rfl rfl rfl  (by first | exact (Hp.le_refl _) | exact (Hp.le_set (by first | assumption | exact Hp.set_none (by assumption) (by first | assumption | exact Ne.symm (by assumption)) | exact Hp.set_none (Hp.set_none (by assumption) (by first | assumption | exact Ne.symm (by assumption))) (by first | assumption | exact Ne.symm (by assumption))) (Hp.le_refl _)) | exact (Hp.le_set (by first | assumption | exact Hp.set_none (by assumption) (by first | assumption | exact Ne.symm (by assumption)) | exact Hp.set_none (Hp.set_none (by assumption) (by first | assumption | exact Ne.symm (by assumption))) (by first | assumption | exact Ne.symm (by assumption))) (Hp.le_set (by first | assumption | exact Hp.set_none (by assumption) (by first | assumption | exact Ne.symm (by assumption)) | exact Hp.set_none (Hp.set_none (by assumption) (by first | assumption | exact Ne.symm (by assumption))) (by first | assumption | exact Ne.symm (by assumption))) (Hp.le_refl _))) | exact (Hp.le_set (by first | assumption | exact Hp.set_none (by assumption) (by first | assumption | exact Ne.symm (by assumption)) | exact Hp.set_none (Hp.set_none (by assumption) (by first | assumption | exact Ne.symm (by assumption))) (by first | assumption | exact Ne.symm (by assumption))) (Hp.le_set (by first | assumption | exact Hp.set_none (by assumption) (by first | assumption | exact Ne.symm (by assumption)) | exact Hp.set_none (Hp.set_none (by assumption) (by first | assumption | exact Ne.symm (by assumption))) (by first | assumption | exact Ne.symm (by assumption))) (Hp.le_set (by first | assumption | exact Hp.set_none (by assumption) (by first | assumption | exact Ne.symm (by assumption)) | exact Hp.set_none (Hp.set_none (by assumption) (by first | assumption | exact Ne.symm (by assumption))) (by first | assumption | exact Ne.symm (by assumption))) (Hp.le_refl _)))) | exact (Hp.le_set (by first | assumption | exact Hp.set_none (by assumption) (by first | assumption | exact Ne.symm (by assumption)) | exact Hp.set_none (Hp.set_none (by assumption) (by first | assumption | exact Ne.symm (by assumption))) (by first | assumption | exact Ne.symm (by assumption))) (Hp.le_set (by first | assumption | exact Hp.set_none (by assumption) (by first | assumption | exact Ne.symm (by assumption)) | exact Hp.set_none (Hp.set_none (by assumption) (by first | assumption | exact Ne.symm (by assumption))) (by first | assumption | exact Ne.symm (by assumption))) (Hp.le_set (by first | assumption | exact Hp.set_none (by assumption) (by first | assumption | exact Ne.symm (by assumption)) | exact Hp.set_none (Hp.set_none (by assumption) (by first | assumption | exact Ne.symm (by assumption))) (by first | assumption | exact Ne.symm (by assumption))) (Hp.le_set (by first | assumption | exact Hp.set_none (by assumption) (by first | assumption | exact Ne.symm (by assumption)) | exact Hp.set_none (Hp.set_none (by assumption) (by first | assumption | exact Ne.symm (by assumption))) (by first | assumption | exact Ne.symm (by assumption))) (Hp.le_refl _))))) | exact (Hp.le_set (by first | assumption | exact Hp.set_none (by assumption) (by first | assumption | exact Ne.symm (by assumption)) | exact Hp.set_none (Hp.set_none (by assumption) (by first | assumption | exact Ne.symm (by assumption))) (by first | assumption | exact Ne.symm (by assumption))) (Hp.le_set (by first | assumption | exact Hp.set_none (by assumption) (by first | assumption | exact Ne.symm (by assumption)) | exact Hp.set_none (Hp.set_none (by assumption) (by first | assumption | exact Ne.symm (by assumption))) (by first | assumption | exact Ne.symm (by assumption))) (Hp.le_set (by first | assumption | exact Hp.set_none (by assumption) (by first | assumption | exact Ne.symm (by assumption)) | exact Hp.set_none (Hp.set_none (by assumption) (by first | assumption | exact Ne.symm (by assumption))) (by first | assumption | exact Ne.symm (by assumption))) (Hp.le_set (by first | assumption | exact Hp.set_none (by assumption) (by first | assumption | exact Ne.symm (by assumption)) | exact Hp.set_none (Hp.set_none (by assumption) (by first | assumption | exact Ne.symm (by assumption))) (by first | assumption | exact Ne.symm (by assumption))) (Hp.le_set (by first | assumption | exact Hp.set_none (by assumption) (by first | assumption | exact Ne.symm (by assumption)) | exact Hp.set_none (Hp.set_none (by assumption) (by first | assumption | exact Ne.symm (by assumption))) (by first | assumption | exact Ne.symm (by assumption))) (Hp.le_refl _))))))) ?_
    first | exact ⟨by rw [nextP_err (by assumption)], by rw [nextP_err (by assumption)]; exact (Hp.set_id hb).symm⟩ | exact ⟨by rw [nextP_wrong (by assumption) (by assumption)], by rw [nextP_wrong (by assumption) (by assumption)] <;> rfl⟩ | exact ⟨by rw [nextP_busy (by assumption)] <;> simp_all, by rw [nextP_busy (by assumption)]; exact (Hp.set_id hb).symm⟩ | exact ⟨by rw [nextP_ok (by assumption)] <;> rfl, by rw [nextP_ok (by assumption)] <;> rfl⟩
  try simp only [decide_eq_true_eq, decide_eq_false_iff_not, Bool.or_eq_true, Bool.and_eq_true, Bool.or_eq_false_iff, Bool.and_eq_false_imp, Bool.not_eq_true', Bool.not_eq_false', ne_eq, Decidable.not_not, Int.not_lt, Int.not_le, Bool.not_eq_true, Bool.not_eq_false] at h2
  obtain ⟨hz1, hz2, hz3, hz4, hz5, hz6⟩ := sizeP_zero h2
  have hb0 := bt_range s 0
  refine AW.skip ?_
  refine SeqP.go ?_
  refine AW.seq ?_
  refine AW.drawK [] 14 rfl (by kernel_rfl) ?_
  refine SeqK.q rfl (q_move (v := .pointer _) rfl) ?_
  refine SeqK.q rfl (q_nilCheck rfl) ?_
  refine SeqK.q rfl (q_fieldAddr (sz := 0) Try.underlying49 rfl (by kernel_rfl) rfl) ?_
  refine SeqK.q rfl (q_load (v := S _) (by kernel_rfl) rfl (by first | exact Hp.set_self | exact (Hp.set_ne (by first | assumption | exact Ne.symm (by assumption))).trans (Hp.set_self) | exact (Hp.set_ne (by first | assumption | exact Ne.symm (by assumption))).trans ((Hp.set_ne (by first | assumption | exact Ne.symm (by assumption))).trans (Hp.set_self)) | exact (Hp.set_ne (by first | assumption | exact Ne.symm (by assumption))).trans ((Hp.set_ne (by first | assumption | exact Ne.symm (by assumption))).trans ((Hp.set_ne (by first | assumption | exact Ne.symm (by assumption))).trans (Hp.set_self))) | exact (Hp.set_ne (by first | assumption | exact Ne.symm (by assumption))).trans ((Hp.set_ne (by first | assumption | exact Ne.symm (by assumption))).trans ((Hp.set_ne (by first | assumption | exact Ne.symm (by assumption))).trans ((Hp.set_ne (by first | assumption | exact Ne.symm (by assumption))).trans (Hp.set_self)))) | exact (by assumption) | exact (Hp.set_ne (by first | assumption | exact Ne.symm (by assumption))).trans ((by assumption)) | exact (Hp.set_ne (by first | assumption | exact Ne.symm (by assumption))).trans ((Hp.set_ne (by first | assumption | exact Ne.symm (by assumption))).trans ((by assumption))) | exact (Hp.set_ne (by first | assumption | exact Ne.symm (by assumption))).trans ((Hp.set_ne (by first | assumption | exact Ne.symm (by assumption))).trans ((Hp.set_ne (by first | assumption | exact Ne.symm (by assumption))).trans ((by assumption))))) rfl) ?_
  refine SeqK.q rfl (q_indexS Try.underlying9 rfl rfl (by first | omega | decide) (by first | omega | decide)) ?_
  refine SeqK.q rfl (q_convInt rfl Try.underlying3 rfl) ?_
  rw [wrap_i64 (x := bt s (0 : Int).toNat) (by have := bt_range s 0; exact Int.le_trans (by decide) this.1) (by have := bt_range s 0; exact Int.le_trans this.2 (by decide))]
  refine SeqK.q rfl (q_move (v := .pointer _) rfl) ?_
  refine SeqK.q rfl (q_nilCheck rfl) ?_
  refine SeqK.q rfl (q_fieldAddr (sz := 0) Try.underlying49 rfl (by kernel_rfl) rfl) ?_
  refine SeqK.q rfl (q_load (v := S _) (by kernel_rfl) rfl (by first | exact Hp.set_self | exact (Hp.set_ne (by first | assumption | exact Ne.symm (by assumption))).trans (Hp.set_self) | exact (Hp.set_ne (by first | assumption | exact Ne.symm (by assumption))).trans ((Hp.set_ne (by first | assumption | exact Ne.symm (by assumption))).trans (Hp.set_self)) | exact (Hp.set_ne (by first | assumption | exact Ne.symm (by assumption))).trans ((Hp.set_ne (by first | assumption | exact Ne.symm (by assumption))).trans ((Hp.set_ne (by first | assumption | exact Ne.symm (by assumption))).trans (Hp.set_self))) | exact (Hp.set_ne (by first | assumption | exact Ne.symm (by assumption))).trans ((Hp.set_ne (by first | assumption | exact Ne.symm (by assumption))).trans ((Hp.set_ne (by first | assumption | exact Ne.symm (by assumption))).trans ((Hp.set_ne (by first | assumption | exact Ne.symm (by assumption))).trans (Hp.set_self)))) | exact (by assumption) | exact (Hp.set_ne (by first | assumption | exact Ne.symm (by assumption))).trans ((by assumption)) | exact (Hp.set_ne (by first | assumption | exact Ne.symm (by assumption))).trans ((Hp.set_ne (by first | assumption | exact Ne.symm (by assumption))).trans ((by assumption))) | exact (Hp.set_ne (by first | assumption | exact Ne.symm (by assumption))).trans ((Hp.set_ne (by first | assumption | exact Ne.symm (by assumption))).trans ((Hp.set_ne (by first | assumption | exact Ne.symm (by assumption))).trans ((by assumption))))) rfl) ?_
  refine SeqK.q rfl (q_move (v := .int _ _) rfl) ?_
  refine SeqK.q rfl (q_addI rfl rfl (by omega)) ?_
  refine SeqK.q rfl (q_sliceS Try.underlying9 rfl rfl rfl (by first | omega | decide) (by first | omega | decide) (by first | omega | decide)) ?_
  refine SeqK.q rfl (q_assign (v := .int _ _) rfl) ?_
  refine SeqK.done ?_
  refine OpsW.q rfl (q_assign (v := S _) rfl) ?_
  refine OpsW.nil ?_
  refine SeqP.go ?_
  refine AW.seq ?_
  refine AW.region ?_
  refine OpsW.q rfl (q_move (v := .pointer _) rfl) ?_
  refine OpsW.q rfl (q_move (v := .pointer _) rfl) ?_
  refine OpsW.q rfl (q_nilCheck rfl) ?_
  refine OpsW.q rfl (q_fieldAddr (sz := 0) Try.underlying49 rfl (by kernel_rfl) rfl) ?_
  refine OpsW.q rfl (q_load (v := S _) (by kernel_rfl) rfl (by first | exact Hp.set_self | exact (Hp.set_ne (by first | assumption | exact Ne.symm (by assumption))).trans (Hp.set_self) | exact (Hp.set_ne (by first | assumption | exact Ne.symm (by assumption))).trans ((Hp.set_ne (by first | assumption | exact Ne.symm (by assumption))).trans (Hp.set_self)) | exact (Hp.set_ne (by first | assumption | exact Ne.symm (by assumption))).trans ((Hp.set_ne (by first | assumption | exact Ne.symm (by assumption))).trans ((Hp.set_ne (by first | assumption | exact Ne.symm (by assumption))).trans (Hp.set_self))) | exact (Hp.set_ne (by first | assumption | exact Ne.symm (by assumption))).trans ((Hp.set_ne (by first | assumption | exact Ne.symm (by assumption))).trans ((Hp.set_ne (by first | assumption | exact Ne.symm (by assumption))).trans ((Hp.set_ne (by first | assumption | exact Ne.symm (by assumption))).trans (Hp.set_self)))) | exact (by assumption) | exact (Hp.set_ne (by first | assumption | exact Ne.symm (by assumption))).trans ((by assumption)) | exact (Hp.set_ne (by first | assumption | exact Ne.symm (by assumption))).trans ((Hp.set_ne (by first | assumption | exact Ne.symm (by assumption))).trans ((by assumption))) | exact (Hp.set_ne (by first | assumption | exact Ne.symm (by assumption))).trans ((Hp.set_ne (by first | assumption | exact Ne.symm (by assumption))).trans ((Hp.set_ne (by first | assumption | exact Ne.symm (by assumption))).trans ((by assumption))))) rfl) ?_
  refine OpsW.q rfl (q_move (v := .int _ _) rfl) ?_
  refine OpsW.q rfl (q_addI rfl rfl (by omega)) ?_
  refine OpsW.q rfl (q_sliceS_lo Try.underlying9 rfl rfl (by first | omega | decide) (by first | omega | decide)) ?_
  refine OpsW.q rfl (q_nilCheck rfl) ?_
  refine OpsW.q rfl (q_fieldAddr (sz := 0) Try.underlying49 rfl (by kernel_rfl) rfl) ?_
  refine OpsW.s (o_store (v := S _) (by kernel_rfl) rfl rfl rfl (by first | exact Hp.set_self | exact (Hp.set_ne (by first | assumption | exact Ne.symm (by assumption))).trans (Hp.set_self) | exact (Hp.set_ne (by first | assumption | exact Ne.symm (by assumption))).trans ((Hp.set_ne (by first | assumption | exact Ne.symm (by assumption))).trans (Hp.set_self)) | exact (Hp.set_ne (by first | assumption | exact Ne.symm (by assumption))).trans ((Hp.set_ne (by first | assumption | exact Ne.symm (by assumption))).trans ((Hp.set_ne (by first | assumption | exact Ne.symm (by assumption))).trans (Hp.set_self))) | exact (Hp.set_ne (by first | assumption | exact Ne.symm (by assumption))).trans ((Hp.set_ne (by first | assumption | exact Ne.symm (by assumption))).trans ((Hp.set_ne (by first | assumption | exact Ne.symm (by assumption))).trans ((Hp.set_ne (by first | assumption | exact Ne.symm (by assumption))).trans (Hp.set_self)))) | exact (by assumption) | exact (Hp.set_ne (by first | assumption | exact Ne.symm (by assumption))).trans ((by assumption)) | exact (Hp.set_ne (by first | assumption | exact Ne.symm (by assumption))).trans ((Hp.set_ne (by first | assumption | exact Ne.symm (by assumption))).trans ((by assumption))) | exact (Hp.set_ne (by first | assumption | exact Ne.symm (by assumption))).trans ((Hp.set_ne (by first | assumption | exact Ne.symm (by assumption))).trans ((Hp.set_ne (by first | assumption | exact Ne.symm (by assumption))).trans ((by assumption))))) (by first | (with_reducible assumption) | omega | (unfold maxLen; omega) | (simp only [nums_length, List.length_set, List.length_replicate, List.length_take, List.length_drop, List.length_append, List.length_cons, List.length_nil, ofB_length, toB_length]; omega) | (simp only [nums_length, List.length_set, List.length_replicate, List.length_take, List.length_drop, List.length_append, List.length_cons, List.length_nil, ofB_length, toB_length]; unfold maxLen; omega) | (simp; done) | (simp; omega) | rfl | decide)) ?_
  refine OpsW.nil ?_
  refine SeqP.go ?_
  refine AW.seq ?_
  refine AW.region ?_
  refine OpsW.q rfl (q_move (v := .int _ _) rfl) ?_
  refine OpsW.q rfl (q_move (v := S _) rfl) ?_
  refine OpsW.q rfl (q_assign (v := .int _ _) rfl) ?_
  refine OpsW.q rfl (q_assign (v := S _) rfl) ?_
  refine OpsW.q rfl (q_assign (v := .int _ _) rfl) ?_
  refine OpsW.nil ?_
  refine SeqP.go ?_
  refine AW.ret ?_
  refine RetP.mk3 (H' := _) (v1 := .int _ _) (v2 := S _) (v3 := .int _ _) rfl rfl rfl rfl  (by first | exact (Hp.le_refl _) | exact (Hp.le_set (by first | assumption | exact Hp.set_none (by assumption) (by first | assumption | exact Ne.symm (by assumption)) | exact Hp.set_none (Hp.set_none (by assumption) (by first | assumption | exact Ne.symm (by assumption))) (by first | assumption | exact Ne.symm (by assumption))) (Hp.le_refl _)) | exact (Hp.le_set (by first | assumption | exact Hp.set_none (by assumption) (by first | assumption | exact Ne.symm (by assumption)) | exact Hp.set_none (Hp.set_none (by assumption) (by first | assumption | exact Ne.symm (by assumption))) (by first | assumption | exact Ne.symm (by assumption))) (Hp.le_set (by first | assumption | exact Hp.set_none (by assumption) (by first | assumption | exact Ne.symm (by assumption)) | exact Hp.set_none (Hp.set_none (by assumption) (by first | assumption | exact Ne.symm (by assumption))) (by first | assumption | exact Ne.symm (by assumption))) (Hp.le_refl _))) | exact (Hp.le_set (by first | assumption | exact Hp.set_none (by assumption) (by first | assumption | exact Ne.symm (by assumption)) | exact Hp.set_none (Hp.set_none (by assumption) (by first | assumption | exact Ne.symm (by assumption))) (by first | assumption | exact Ne.symm (by assumption))) (Hp.le_set (by first | assumption | exact Hp.set_none (by assumption) (by first | assumption | exact Ne.symm (by assumption)) | exact Hp.set_none (Hp.set_none (by assumption) (by first | assumption | exact Ne.symm (by assumption))) (by first | assumption | exact Ne.symm (by assumption))) (Hp.le_set (by first | assumption | exact Hp.set_none (by assumption) (by first | assumption | exact Ne.symm (by assumption)) | exact Hp.set_none (Hp.set_none (by assumption) (by first | assumption | exact Ne.symm (by assumption))) (by first | assumption | exact Ne.symm (by assumption))) (Hp.le_refl _)))) | exact (Hp.le_set (by first | assumption | exact Hp.set_none (by assumption) (by first | assumption | exact Ne.symm (by assumption)) | exact Hp.set_none (Hp.set_none (by assumption) (by first | assumption | exact Ne.symm (by assumption))) (by first | assumption | exact Ne.symm (by assumption))) (Hp.le_set (by first | assumption | exact Hp.set_none (by assumption) (by first | assumption | exact Ne.symm (by assumption)) | exact Hp.set_none (Hp.set_none (by assumption) (by first | assumption | exact Ne.symm (by assumption))) (by first | assumption | exact Ne.symm (by assumption))) (Hp.le_set (by first | assumption | exact Hp.set_none (by assumption) (by first | assumption | exact Ne.symm (by assumption)) | exact Hp.set_none (Hp.set_none (by assumption) (by first | assumption | exact Ne.symm (by assumption))) (by first | assumption | exact Ne.symm (by assumption))) (Hp.le_set (by first | assumption | exact Hp.set_none (by assumption) (by first | assumption | exact Ne.symm (by assumption)) | exact Hp.set_none (Hp.set_none (by assumption) (by first | assumption | exact Ne.symm (by assumption))) (by first | assumption | exact Ne.symm (by assumption))) (Hp.le_refl _))))) | exact (Hp.le_set (by first | assumption | exact Hp.set_none (by assumption) (by first | assumption | exact Ne.symm (by assumption)) | exact Hp.set_none (Hp.set_none (by assumption) (by first | assumption | exact Ne.symm (by assumption))) (by first | assumption | exact Ne.symm (by assumption))) (Hp.le_set (by first | assumption | exact Hp.set_none (by assumption) (by first | assumption | exact Ne.symm (by assumption)) | exact Hp.set_none (Hp.set_none (by assumption) (by first | assumption | exact Ne.symm (by assumption))) (by first | assumption | exact Ne.symm (by assumption))) (Hp.le_set (by first | assumption | exact Hp.set_none (by assumption) (by first | assumption | exact Ne.symm (by assumption)) | exact Hp.set_none (Hp.set_none (by assumption) (by first | assumption | exact Ne.symm (by assumption))) (by first | assumption | exact Ne.symm (by assumption))) (Hp.le_set (by first | assumption | exact Hp.set_none (by assumption) (by first | assumption | exact Ne.symm (by assumption)) | exact Hp.set_none (Hp.set_none (by assumption) (by first | assumption | exact Ne.symm (by assumption))) (by first | assumption | exact Ne.symm (by assumption))) (Hp.le_set (by first | assumption | exact Hp.set_none (by assumption) (by first | assumption | exact Ne.symm (by assumption)) | exact Hp.set_none (Hp.set_none (by assumption) (by first | assumption | exact Ne.symm (by assumption))) (by first | assumption | exact Ne.symm (by assumption))) (Hp.le_refl _))))))) ?_
  first | exact ⟨by rw [nextP_err (by assumption)], by rw [nextP_err (by assumption)]; exact (Hp.set_id hb).symm⟩ | exact ⟨by rw [nextP_wrong (by assumption) (by assumption)], by rw [nextP_wrong (by assumption) (by assumption)] <;> rfl⟩ | exact ⟨by rw [nextP_busy (by assumption)] <;> simp_all, by rw [nextP_busy (by assumption)]; exact (Hp.set_id hb).symm⟩ | exact ⟨by rw [nextP_ok (by assumption)] <;> rfl, by rw [nextP_ok (by assumption)] <;> rfl⟩
end
end Go.Proofs.Ytfpoldogcopmpaa
end
section
namespace Go.Proofs.Ytfpoldogcopmpaa
open Go Go.Proofs Go.Shelf
def Try.lays105_ren : Go.Shelf.Ren := ⟨fun | 105 => 15 | 212 => 20 | 99 => 21 | 165 => 22 | 166 => 23 | 170 => 24 | 169 => 25 | 263 => 29 | 264 => 30 | 206 => 31 | 240 => 32 | 241 => 33 | 276 => 44 | 277 => 45 | n => n, fun | 9 => 9 | 3 => 3 | 4 => 4 | 20 => 20 | 0 => 0 | 46 => 53 | 109 => 54 | 5 => 5 | 72 => 59 | 76 => 63 | 51 => 69 | 146 => 70 | 53 => 72 | 148 => 73 | 70 => 57 | 37 => 44 | 75 => 62 | 127 => 75 | 164 => 91 | 80 => 65 | n => n, fun | n => n⟩
theorem Try.lays105 : Go.Proofs.Lays.n105 Try.prog Try.lays105_ren := {
  mixed := by kernel_rfl
  f99 := Try.func21.trans (congrArg some (by kernel_rfl))
  f105 := Try.func15.trans (congrArg some (by kernel_rfl))
  f165 := Try.func22.trans (congrArg some (by kernel_rfl))
  f166 := Try.func23.trans (congrArg some (by kernel_rfl))
  f169 := Try.func25.trans (congrArg some (by kernel_rfl))
  f170 := Try.func24.trans (congrArg some (by kernel_rfl))
  f206 := Try.func31.trans (congrArg some (by kernel_rfl))
  f212 := Try.func20.trans (congrArg some (by kernel_rfl))
  f240 := Try.func32.trans (congrArg some (by kernel_rfl))
  f241 := Try.func33.trans (congrArg some (by kernel_rfl))
  f263 := Try.func29.trans (congrArg some (by kernel_rfl))
  f264 := Try.func30.trans (congrArg some (by kernel_rfl))
  f276 := Try.func44.trans (congrArg some (by kernel_rfl))
  f277 := Try.func45.trans (congrArg some (by kernel_rfl))
  t0 := Try.underlying0
  a0 := Try.isAgg0
  z0 := Try.sizeOf0
  v0 := Try.zeroValue0
  t3 := Try.underlying3
  a3 := Try.isAgg3
  z3 := Try.sizeOf3
  v3 := Try.zeroValue3
  t4 := Try.underlying4
  a4 := Try.isAgg4
  z4 := Try.sizeOf4
  v4 := Try.zeroValue4
  t5 := Try.underlying5
  a5 := Try.isAgg5
  z5 := Try.sizeOf5
  v5 := Try.zeroValue5
  t9 := Try.underlying9
  a9 := Try.isAgg9
  z9 := Try.sizeOf9
  v9 := Try.zeroValue9
  t20 := Try.underlying20
  a20 := Try.isAgg20
  z20 := Try.sizeOf20
  v20 := Try.zeroValue20
  t37 := Try.underlying44
  a37 := Try.isAgg44
  z37 := Try.sizeOf44
  v37 := Try.zeroValue44
  t46 := Try.underlying53
  a46 := Try.isAgg53
  z46 := Try.sizeOf53
  v46 := Try.zeroValue53
  t51 := Try.underlying69
  a51 := Try.isAgg69
  z51 := Try.sizeOf69
  v51 := Try.zeroValue69
  t53 := Try.underlying72
  a53 := Try.isAgg72
  z53 := Try.sizeOf72
  v53 := Try.zeroValue72
  t70 := Try.underlying57
  a70 := Try.isAgg57
  z70 := Try.sizeOf57
  v70 := Try.zeroValue57
  t72 := Try.underlying59
  a72 := Try.isAgg59
  z72 := Try.sizeOf59
  v72 := Try.zeroValue59
  t75 := Try.underlying62
  a75 := Try.isAgg62
  z75 := Try.sizeOf62
  v75 := Try.zeroValue62
  t76 := Try.underlying63
  a76 := Try.isAgg63
  z76 := Try.sizeOf63
  v76 := Try.zeroValue63
  t109 := Try.underlying54
  a109 := Try.isAgg54
  z109 := Try.sizeOf54
  v109 := Try.zeroValue54
  t127 := Try.underlying75
  a127 := Try.isAgg75
  z127 := Try.sizeOf75
  v127 := Try.zeroValue75
  t146 := Try.underlying70
  a146 := Try.isAgg70
  z146 := Try.sizeOf70
  v146 := Try.zeroValue70
  t148 := Try.underlying73
  a148 := Try.isAgg73
  z148 := Try.sizeOf73
  v148 := Try.zeroValue73
  t164 := Try.underlying91
  a164 := Try.isAgg91
  z164 := Try.sizeOf91
  v164 := Try.zeroValue91 }
theorem Try.Builder_Extra_105 : Builder.Extra Try.prog Try.lays105_ren := {
  sizeBuilder := by kernel_rfl
  liesBuilder := by kernel_rfl
  t5 := Try.underlying5
  a5 := Try.isAgg5
  z5 := Try.sizeOf5
  v5 := Try.zeroValue5
  infoByte := by kernel_rfl
  cellsByte := by kernel_rfl
  sizeByte := by kernel_rfl
  neB5 := by decide }
open Go.RowKit Go.Lib in
theorem Try.strings_Repeat (s : ByteArray) (c : Nat) (w : World) (hc : c ≤ 9223372036854775807) (hlen : s.size * c ≤ 140737488355328) :
    Calls Try.prog 15 #[.string s, .int .i64 c] w fun e w' => e = .returned (.string ⟨(Lib.repeatL s.data.toList c).toArray⟩) ∧ Below w.heap.size w w' := Any.strings_Repeat Try.lays105 Try.Builder_Extra_105 s c w hc hlen
end Go.Proofs.Ytfpoldogcopmpaa
end
section
namespace Go.Proofs.Ytfpoldogcopmpaa.D
open Go Go.RowKit
set_option linter.unusedVariables false
set_option linter.unusedSimpArgs false
section
variable {P : Program} {w0 : World} {n : Nat} {ops : Array Oper} {Q : Post} {H : Hp} {e : Env} {b : Array Bool} {fuel : Nat}
def AnyW (P : Program) (w0 : World) (n : Nat) (ops : Array Oper) (Q : Post) (fuel : Nat) (b : Array Bool) (e : Env) (H : Hp) : Prop :=
  ∀ a w, Fr n e a → Own w0 H w → wpAny P .any ops (lift w0 n Q) fuel b a w
theorem AW.steps {id : Nat} (hm : P.follows .mixedOrders = true) (m : Nat) (hs : ops.size = m) (h : AnyW P w0 n ops Q m (Array.replicate m false) e H) : AW P w0 n (.region id ops true) Q e H := by
  intro a w hf ho
  refine wp_region_any hm ?_
  rw [hs]
  exact h a _ hf ho.drew
/-- In every world. -/
def QV (P : Program) (ρ : Operand → Value) (o : Oper) (v : Value) : Prop := ∀ w, (execOp ρ o).run P w = .ok (.value v) w
theorem AnyW.first {o : Oper} {v : Value} (i : Nat) (hi : ops[i]? = some o) (hsel : Region.noSelect ops = true) (hf : Region.free .any ops b i = true) (hr : (Region.ready .any ops b).contains i = true) (hg : o.guard = none) (hd : dstOk n o.dst = true)
    (h : QV P (D.ev e) o v) (hk : AnyW P w0 n ops Q fuel (b.setIfInBounds i true) (putE e o.dst v) H) : AnyW P w0 n ops Q (fuel + 1) b e H := by
  intro a w hfr ho
  have he : a.eval = D.ev e := funext hfr.ev
  refine wpAny_take hi hsel hf hr (fun c a w h => h.1.elim) (.inl ⟨by simp [Region.wanted, hg], fun w => by rw [he]; exact h w⟩) ?_
  exact hk _ _ (hfr.put hd v) ho
theorem AnyW.only {o : Oper} {R : Value → Hp → Prop} (i : Nat) (hi : ops[i]? = some o) (hr : Region.ready .any ops b = [i]) (hg : o.guard = none) (hd : dstOk n o.dst = true)
    (h : OpR P w0 (D.ev e) o H R) (hk : ∀ v H', R v H' → AnyW P w0 n ops Q fuel (b.setIfInBounds i true) (putE e o.dst v) H') : AnyW P w0 n ops Q (fuel + 1) b e H := by
  intro a w hfr ho
  refine ⟨fun g => absurd (hr.symm.trans g) (by simp), fun j hj => ?_⟩
  rw [hr] at hj
  obtain rfl : j = i := by simpa using hj
  unfold wpOp
  rw [hi]
  simp only [show Region.wanted o (yielded ops a.tmps) = true from by simp [Region.wanted, hg], if_true]
  exact .inl (Res.wp (ops := ops) (Q := Q) hfr ho h fun v H' w' hv ho' => hk v H' hv _ _ (hfr.put hd v) ho')
theorem AnyW.onlyQ {o : Oper} {v : Value} (i : Nat) (hi : ops[i]? = some o) (hr : Region.ready .any ops b = [i]) (hg : o.guard = none) (hd : dstOk n o.dst = true)
    (h : QS P w0 (D.ev e) o H v) (hk : AnyW P w0 n ops Q fuel (b.setIfInBounds i true) (putE e o.dst v) H) : AnyW P w0 n ops Q (fuel + 1) b e H :=
  AnyW.only i hi hr hg hd h (by rintro _ _ ⟨rfl, rfl⟩; exact hk)
/-- Two may come up. -/
theorem AnyW.two {o1 o2 : Oper} {R1 R2 : Value → Hp → Prop} (i j : Nat) (hi : ops[i]? = some o1) (hj : ops[j]? = some o2) (hr : Region.ready .any ops b = [i, j]) (g1 : o1.guard = none) (g2 : o2.guard = none) (d1 : dstOk n o1.dst = true) (d2 : dstOk n o2.dst = true)
    (h1 : OpR P w0 (D.ev e) o1 H R1) (h2 : OpR P w0 (D.ev e) o2 H R2) (k1 : ∀ v H', R1 v H' → AnyW P w0 n ops Q fuel (b.setIfInBounds i true) (putE e o1.dst v) H') (k2 : ∀ v H', R2 v H' → AnyW P w0 n ops Q fuel (b.setIfInBounds j true) (putE e o2.dst v) H') :
    AnyW P w0 n ops Q (fuel + 1) b e H := by
  intro a w hfr ho
  refine ⟨fun g => absurd (hr.symm.trans g) (by simp), fun q hq => ?_⟩
  rw [hr] at hq
  rcases List.mem_cons.1 hq with rfl | hq
  · unfold wpOp
    rw [hi]
    simp only [show Region.wanted o1 (yielded ops a.tmps) = true from by simp [Region.wanted, g1], if_true]
    exact .inl (Res.wp (ops := ops) (Q := Q) hfr ho h1 fun v H' w' hv ho' => k1 v H' hv _ _ (hfr.put d1 v) ho')
  · obtain rfl : q = j := by simpa using hq
    unfold wpOp
    rw [hj]
    simp only [show Region.wanted o2 (yielded ops a.tmps) = true from by simp [Region.wanted, g2], if_true]
    exact .inl (Res.wp (ops := ops) (Q := Q) hfr ho h2 fun v H' w' hv ho' => k2 v H' hv _ _ (hfr.put d2 v) ho')
theorem AnyW.done (hr : Region.ready .any ops b = []) (h : Q .normal e H) : AnyW P w0 n ops Q 0 b e H := fun a w hf ho => ⟨hr, trivial, e, H, hf, ho, h⟩
variable {ρ : Operand → Value} {d : Option Tmp} {ty : TypeId} {pos : String} {af : Array Edge} {g : Option (Nat × Bool)}
theorem v_move {x : Operand} {v : Value} (hx : ρ x = v) : QV P ρ ⟨d, .move x, ty, pos, af, g⟩ v := fun w => by subst hx; rfl
end
end Go.Proofs.Ytfpoldogcopmpaa.D
end
section
namespace Go.Proofs.Ytfpoldogcopmpaa
open Go Go.RowKit D
set_option linter.unusedVariables false
set_option linter.unusedSimpArgs false
set_option maxRecDepth 100000
set_option maxHeartbeats 2000000
section
variable {w0 : World} {H : Hp} {H0 : Hp}
theorem repeatL_zero (c : Nat) : Lib.repeatL [(0 : UInt8)] c = List.replicate c 0 := by
  simpa using Lib.repeatL_replicate 0 1 c
theorem D.Own.below' {w0 w w' : World} {H : Hp} (h : Own w0 H w) (hb : Below w.heap.size w w') : Own w0 H w' := by
  refine ⟨h.below.trans (hb.mono h.below.size), fun b o ho => ?_⟩
  obtain ⟨h1, c, fr, h2, h3⟩ := h.fits b o ho
  refine ⟨h1, c, fr, ?_, h3⟩
  rw [hb.block b (Array.getElem?_eq_some_iff.1 h2).1]
  exact h2
theorem Repeat_con {c : Int} (h0 : 0 ≤ c) (h1 : c ≤ 1000000) : Con Try.prog w0 15 #[S [0], .int .i64 c] H (fun v H' => v = S (List.replicate c.toNat 0) ∧ H' = H) := by
  intro w ho
  obtain ⟨k, rfl⟩ := Int.eq_ofNat_of_zero_le h0
  refine (Try.strings_Repeat ⟨#[0]⟩ k w (by omega) (by show 1 * k ≤ _; omega)).mono ?_
  rintro e w' ⟨rfl, hb⟩
  refine ⟨_, H, rfl, ho.below' hb, ?_, rfl⟩
  show Value.string _ = _
  rw [repeatL_zero, Int.toNat_natCast]; rfl
theorem NewBox_s (suite : Int) (key iv : List UInt8) : Con Try.prog w0 4 #[.int .i64 suite, S key, S iv] H (fun v H' => (¬ boxE suite key iv = 0 ∧ v = .tuple #[.pointer none, .int .i64 (boxE suite key iv)] ∧ H' = H) ∨ (boxE suite key iv = 0 ∧ ∃ b, v = .tuple #[.pointer (some ⟨b, 0, none⟩), .int .i64 0] ∧ Sep H [.blk b (bxBlk ⟨suite, key, iv, 0⟩)] H')) := by
  have hS0 : Sep H [] H := Sep.refl
  refine Con.intro Try.func4 rfl rfl ?_
  refine AW.seq ?_
  refine AW.region ?_
  refine OpsW.q rfl (q_assign (v := .pointer _) rfl) ?_
  refine OpsW.q rfl (q_assign (v := .int _ _) rfl) ?_
  refine OpsW.nil ?_
  refine SeqP.go ?_
  refine AW.seq ?_
  refine AW.seq ?_
  refine AW.region ?_
  refine OpsW.q rfl (q_move (v := .int _ _) rfl) ?_
  refine OpsW.q rfl (o_call rfl Try.func8 rfl rfl (Size_con _)) ?_
  refine OpsW.q rfl (q_assign (v := .int _ _) rfl) ?_
  refine OpsW.nil ?_
  refine SeqP.go ?_
  refine AW.block ?_
  refine AW.seq ?_
  refine AW.region ?_
  refine OpsW.q rfl (q_move (v := .int _ _) rfl) ?_
  refine OpsW.q rfl (q_eql rfl rfl) ?_
  refine OpsW.q rfl (q_assign (v := .bool _) rfl) ?_
  refine OpsW.nil ?_
  refine SeqP.go ?_
  refine AW.cond rfl (fun h0 => ?_) (fun h0 => ?_)
  ·
    try simp only [decide_eq_true_eq, decide_eq_false_iff_not, Bool.or_eq_true, Bool.and_eq_true, Bool.or_eq_false_iff, Bool.and_eq_false_imp, Bool.not_eq_true', Bool.not_eq_false', ne_eq, Decidable.not_not, Int.not_lt, Int.not_le, Bool.not_eq_true, Bool.not_eq_false] at h0
    have he := boxE_arg (key := key) (iv := iv) h0
    refine AW.seq ?_
    refine AW.region ?_
    refine OpsW.q rfl (q_assign (v := .pointer _) rfl) ?_
    refine OpsW.q rfl (q_assign (v := .int _ _) rfl) ?_
    refine OpsW.nil ?_
    refine SeqP.go ?_
    refine AW.ret ?_
    refine BlockP.ret ?_
    refine SeqP.ret ?_
    refine RetP.mk2 (H' := H) (v1 := .pointer _) (v2 := .int _ _) rfl rfl rfl  (Hp.le_refl _) ?_
    exact .inl ⟨by rw [he]; decide, by rw [he], rfl⟩
  try simp only [decide_eq_true_eq, decide_eq_false_iff_not, Bool.or_eq_true, Bool.and_eq_true, Bool.or_eq_false_iff, Bool.and_eq_false_imp, Bool.not_eq_true', Bool.not_eq_false', ne_eq, Decidable.not_not, Int.not_lt, Int.not_le, Bool.not_eq_true, Bool.not_eq_false] at h0
  refine AW.seq ?_
  refine AW.region ?_
  refine OpsW.q rfl (q_move (v := S _) rfl) ?_
  refine OpsW.q rfl (q_lenS Try.underlying9 rfl) ?_
  refine OpsW.q rfl (q_move (v := .int _ _) rfl) ?_
  refine OpsW.q rfl (q_neq rfl rfl) ?_
  refine OpsW.qb rfl (q_move (v := .bool _) rfl) ?_
  intro b19 eb19
  refine OpsW.g rfl rfl rfl (fun hB => by simp only [Bool.and_eq_true, beq_iff_eq] at hB; obtain rfl := hB; exact (q_move (v := S _) rfl)) ?_
  refine OpsW.g rfl rfl rfl (fun hB => by simp only [Bool.and_eq_true, beq_iff_eq] at hB; obtain rfl := hB; exact (q_lenS Try.underlying9 rfl)) ?_
  refine OpsW.g rfl rfl rfl (fun hB => by simp only [Bool.and_eq_true, beq_iff_eq] at hB; obtain rfl := hB; exact (q_neq rfl rfl)) ?_
  refine OpsW.q rfl (q_or2 rfl rfl rfl) ?_
  refine OpsW.q rfl (q_assign (v := .bool _) rfl) ?_
  refine OpsW.nil ?_
  refine SeqP.go ?_
  refine AW.cond rfl (fun h1 => ?_) (fun h1 => ?_)
  ·
    try simp only [eb19, decide_eq_true_eq, decide_eq_false_iff_not, Bool.or_eq_true, Bool.and_eq_true, Bool.or_eq_false_iff, Bool.and_eq_false_imp, Bool.not_eq_true', Bool.not_eq_false', ne_eq, Decidable.not_not, Int.not_lt, Int.not_le, Bool.not_eq_true, Bool.not_eq_false] at h1
    have he := boxE_key (key := key) (iv := iv) h0 (by simp_all <;> omega)
    refine AW.seq ?_
    refine AW.region ?_
    refine OpsW.q rfl (q_assign (v := .pointer _) rfl) ?_
    refine OpsW.q rfl (q_assign (v := .int _ _) rfl) ?_
    refine OpsW.nil ?_
    refine SeqP.go ?_
    refine AW.ret ?_
    refine BlockP.ret ?_
    refine SeqP.ret ?_
    refine RetP.mk2 (H' := H) (v1 := .pointer _) (v2 := .int _ _) rfl rfl rfl  (Hp.le_refl _) ?_
    exact .inl ⟨by rw [he]; decide, by rw [he], rfl⟩
  try simp only [eb19, decide_eq_true_eq, decide_eq_false_iff_not, Bool.or_eq_true, Bool.and_eq_true, Bool.or_eq_false_iff, Bool.and_eq_false_imp, Bool.not_eq_true', Bool.not_eq_false', ne_eq, Decidable.not_not, Int.not_lt, Int.not_le, Bool.not_eq_true, Bool.not_eq_false] at h1
  have he := boxE_ok (key := key) (iv := iv) h0 (by simp_all <;> omega)
  refine AW.skip ?_
  refine BlockP.go ?_
  refine SeqP.go ?_
  refine AW.seq ?_
  refine AW.region ?_
  refine OpsW.q rfl (q_move (v := .int _ _) rfl) ?_
  refine OpsW.q rfl (q_move (v := S _) rfl) ?_
  refine OpsW.q rfl (q_move (v := S _) rfl) ?_
  refine OpsW.q rfl (q_build (cells := #[.int .i64 suite, S key, S iv, .int .i64 0]) rfl (by kernel_rfl)) ?_
  refine OpsW.m rfl (s_box (v := .agg _) hS0 rfl rfl) ?_
  rintro _ H1 ⟨b28, rfl, hS1⟩
  clear hS0
  refine OpsW.q rfl (q_assign (v := .pointer _) rfl) ?_
  refine OpsW.q rfl (q_assign (v := .int _ _) rfl) ?_
  refine OpsW.nil ?_
  refine SeqP.go ?_
  refine AW.ret ?_
  refine RetP.mk2 (H' := H1) (v1 := .pointer _) (v2 := .int _ _) rfl rfl rfl  (Hp.le_refl _) ?_
  exact .inr ⟨he, b28, rfl, hS1⟩
theorem nonce_con {b : Nat} {x : BoxS} (hb : H b = some (bxBlk x)) (hn0 : 0 ≤ x.n) (hn1 : x.n ≤ 9223372036854775807) : Con Try.prog w0 14 #[.pointer (some ⟨b, 0, none⟩)] H (fun v H' => v = .tuple #[S (bxNonce x).1, .int .i64 (bxNonce x).2] ∧ H' = H) := by
  have hS0 : Sep H [] H := Sep.refl
  refine Con.intro Try.func14 rfl rfl ?_
  refine AW.seq ?_
  refine AW.region ?_
  refine OpsW.q rfl (q_assign (v := S _) rfl) ?_
  refine OpsW.q rfl (q_assign (v := .int _ _) rfl) ?_
  refine OpsW.nil ?_
  refine SeqP.go ?_
  refine AW.seq ?_
  refine AW.seq ?_
  refine AW.region ?_
  refine OpsW.q rfl (q_move (v := .pointer _) rfl) ?_
  refine OpsW.q rfl (q_nilCheck rfl) ?_
  refine OpsW.q rfl (q_fieldAddr (sz := 0) Try.underlying35 rfl (by kernel_rfl) rfl) ?_
  refine OpsW.q rfl (q_load (v := .int _ _) (by kernel_rfl) rfl (hS0.old hb) rfl) ?_
  refine OpsW.q rfl (q_geq rfl rfl) ?_
  refine OpsW.nil ?_
  refine SeqP.go ?_
  refine AW.cond rfl (fun h0 => ?_) (fun h0 => ?_)
  ·
    try simp only [decide_eq_true_eq, decide_eq_false_iff_not, Bool.or_eq_true, Bool.and_eq_true, Bool.or_eq_false_iff, Bool.and_eq_false_imp, Bool.not_eq_true', Bool.not_eq_false', ne_eq, Decidable.not_not, Int.not_lt, Int.not_le, Bool.not_eq_true, Bool.not_eq_false] at h0
    rw [bxNonce_seq (by omega)]
    refine AW.seq ?_
    refine AW.region ?_
    refine OpsW.q rfl (q_assign (v := S _) rfl) ?_
    refine OpsW.q rfl (q_assign (v := .int _ _) rfl) ?_
    refine OpsW.nil ?_
    refine SeqP.go ?_
    refine AW.ret ?_
    refine SeqP.ret ?_
    refine RetP.mk2 (H' := H) (v1 := S _) (v2 := .int _ _) rfl rfl rfl  hS0.le ?_
    exact ⟨rfl, rfl⟩
  try simp only [decide_eq_true_eq, decide_eq_false_iff_not, Bool.or_eq_true, Bool.and_eq_true, Bool.or_eq_false_iff, Bool.and_eq_false_imp, Bool.not_eq_true', Bool.not_eq_false', ne_eq, Decidable.not_not, Int.not_lt, Int.not_le, Bool.not_eq_true, Bool.not_eq_false] at h0
  rw [bxNonce_go (by omega)]
  refine AW.skip ?_
  refine SeqP.go ?_
  refine AW.seq ?_
  refine AW.drawK [] 11 rfl (by kernel_rfl) ?_
  refine SeqK.q rfl (q_move (v := .pointer _) rfl) ?_
  refine SeqK.q rfl (q_nilCheck rfl) ?_
  refine SeqK.q rfl (q_fieldAddr (sz := 0) Try.underlying35 rfl (by kernel_rfl) rfl) ?_
  refine SeqK.q rfl (q_load (v := S _) (by kernel_rfl) rfl (hS0.old hb) rfl) ?_
  refine SeqK.q rfl (q_move (v := .pointer _) rfl) ?_
  refine SeqK.q rfl (q_nilCheck rfl) ?_
  refine SeqK.q rfl (q_fieldAddr (sz := 0) Try.underlying35 rfl (by kernel_rfl) rfl) ?_
  refine SeqK.q rfl (q_load (v := .int _ _) (by kernel_rfl) rfl (hS0.old hb) rfl) ?_
  refine SeqK.q rfl (o_call rfl Try.func19 rfl rfl (Nonce_con (by omega))) ?_
  refine SeqK.q rfl (q_extract (v := S _) rfl rfl) ?_
  refine SeqK.q rfl (q_extract (v := .int _ _) rfl rfl) ?_
  refine SeqK.done ?_
  refine OpsW.q rfl (q_assign (v := S _) rfl) ?_
  refine OpsW.q rfl (q_assign (v := .int _ _) rfl) ?_
  refine OpsW.nil ?_
  refine SeqP.go ?_
  refine AW.ret ?_
  refine RetP.mk2 (H' := H) (v1 := S _) (v2 := .int _ _) rfl rfl rfl  hS0.le ?_
  exact ⟨rfl, rfl⟩
theorem bSeal_s {b : Nat} {x : BoxS} {plain : List UInt8} (hS0 : Sep H0 [.blk b (bxBlk x)] H) (hbok : BoxOk x) (kind pad : Int) (hp : plain.length ≤ maxLen) : Con Try.prog w0 6 #[.pointer (some ⟨b, 0, none⟩), .int .i64 kind, S plain, .int .i64 pad] H (fun v H' => v = .tuple #[S (bxSeal x kind plain pad).1, .int .i64 (bxSeal x kind plain pad).2] ∧ Sep H0 [.blk b (bxBlk (bxAfter x kind plain pad))] H') := by
  obtain ⟨hb1, hb2, hn0, hn1⟩ := hbok
  replace hS0 : Sep H0 [.blk b ⟨[.int .i64 x.suite, S x.key, S x.iv, .int .i64 x.n], 4, 35⟩] H := hS0
  refine Con.intro Try.func6 rfl rfl ?_
  refine AW.seq ?_
  refine AW.region ?_
  refine OpsW.q rfl (q_assign (v := S _) rfl) ?_
  refine OpsW.q rfl (q_assign (v := .int _ _) rfl) ?_
  refine OpsW.nil ?_
  refine SeqP.go ?_
  refine AW.seq ?_
  refine AW.block ?_
  refine AW.seq ?_
  refine AW.region ?_
  refine OpsW.q rfl (q_move (v := .pointer _) rfl) ?_
  refine OpsW.q rfl (q_eqlP Try.underlying24 rfl rfl) ?_
  refine OpsW.q rfl (q_assign (v := .bool _) rfl) ?_
  refine OpsW.nil ?_
  refine SeqP.go ?_
  refine AW.cond rfl (fun h0 => ?_) (fun h0 => ?_)
  ·
    exfalso
    try simp only [decide_eq_true_eq, decide_eq_false_iff_not, Bool.or_eq_true, Bool.and_eq_true, Bool.or_eq_false_iff, Bool.and_eq_false_imp, Bool.not_eq_true', Bool.not_eq_false', ne_eq, Decidable.not_not, Int.not_lt, Int.not_le, Bool.not_eq_true, Bool.not_eq_false] at h0
    first | contradiction | (simp at *; done) | simp_all
  try simp only [decide_eq_true_eq, decide_eq_false_iff_not, Bool.or_eq_true, Bool.and_eq_true, Bool.or_eq_false_iff, Bool.and_eq_false_imp, Bool.not_eq_true', Bool.not_eq_false', ne_eq, Decidable.not_not, Int.not_lt, Int.not_le, Bool.not_eq_true, Bool.not_eq_false] at h0
  refine AW.seq ?_
  refine AW.region ?_
  refine OpsW.q rfl (q_move (v := .int _ _) rfl) ?_
  refine OpsW.q rfl (o_call rfl Try.func13 rfl rfl (isKind_con _)) ?_
  refine OpsW.q rfl (q_not rfl) ?_
  refine OpsW.qb rfl (q_move (v := .bool _) rfl) ?_
  intro b22 eb22
  refine OpsW.g rfl rfl rfl (fun hB => by simp only [Bool.and_eq_true, beq_iff_eq] at hB; obtain rfl := hB; exact (q_move (v := .int _ _) rfl)) ?_
  refine OpsW.g rfl rfl rfl (fun hB => by simp only [Bool.and_eq_true, beq_iff_eq] at hB; obtain rfl := hB; exact (q_lss rfl rfl)) ?_
  refine OpsW.q rfl (q_or2 rfl rfl rfl) ?_
  refine OpsW.q rfl (q_assign (v := .bool _) rfl) ?_
  refine OpsW.nil ?_
  refine SeqP.go ?_
  refine AW.cond rfl (fun h1 => ?_) (fun h1 => ?_)
  ·
    try simp only [eb22, decide_eq_true_eq, decide_eq_false_iff_not, Bool.or_eq_true, Bool.and_eq_true, Bool.or_eq_false_iff, Bool.and_eq_false_imp, Bool.not_eq_true', Bool.not_eq_false', ne_eq, Decidable.not_not, Int.not_lt, Int.not_le, Bool.not_eq_true, Bool.not_eq_false] at h1
    have hbad : isK kind = false ∨ pad < 0 := by simp_all
    obtain ⟨e1, e2⟩ := bx_arg (x := x) (plain := plain) hbad
    rw [e1, e2]
    refine AW.seq ?_
    refine AW.region ?_
    refine OpsW.q rfl (q_assign (v := S _) rfl) ?_
    refine OpsW.q rfl (q_assign (v := .int _ _) rfl) ?_
    refine OpsW.nil ?_
    refine SeqP.go ?_
    refine AW.ret ?_
    refine BlockP.ret ?_
    refine SeqP.ret ?_
    refine RetP.mk2 (H' := _) (v1 := S _) (v2 := .int _ _) rfl rfl rfl  (Hp.le_refl _) ?_
    exact ⟨rfl, hS0⟩
  try simp only [eb22, decide_eq_true_eq, decide_eq_false_iff_not, Bool.or_eq_true, Bool.and_eq_true, Bool.or_eq_false_iff, Bool.and_eq_false_imp, Bool.not_eq_true', Bool.not_eq_false', ne_eq, Decidable.not_not, Int.not_lt, Int.not_le, Bool.not_eq_true, Bool.not_eq_false] at h1
  have hgood : isK kind = true ∧ 0 ≤ pad := by simp_all
  refine AW.seq ?_
  refine AW.region ?_
  refine OpsW.q rfl (q_move (v := S _) rfl) ?_
  refine OpsW.q rfl (q_lenS Try.underlying9 rfl) ?_
  refine OpsW.q rfl (q_gtr rfl rfl) ?_
  refine OpsW.qb rfl (q_move (v := .bool _) rfl) ?_
  intro b30 eb30
  refine OpsW.g rfl rfl rfl (fun hB => by simp only [Bool.and_eq_true, beq_iff_eq] at hB; obtain rfl := hB; exact (q_move (v := .int _ _) rfl)) ?_
  refine OpsW.g rfl rfl rfl (fun hB => by simp only [Bool.and_eq_true, beq_iff_eq] at hB; obtain rfl := hB; exact (q_move (v := S _) rfl)) ?_
  refine OpsW.g rfl rfl rfl (fun hB => by simp only [Bool.and_eq_true, beq_iff_eq] at hB; obtain rfl := hB; exact (q_lenS Try.underlying9 rfl)) ?_
  refine OpsW.g rfl rfl rfl (fun hB => by simp only [Bool.and_eq_true, beq_iff_eq] at hB; obtain rfl := hB; (try simp only [eb22, Bool.true_eq, Bool.false_eq, decide_eq_true_eq, Bool.and_eq_true, Bool.or_eq_true, Bool.or_eq_false_iff, Bool.not_eq_true', decide_eq_false_iff_not, Int.not_lt, Int.not_le] at eb30); exact (q_subI rfl rfl (by omega))) ?_
  refine OpsW.g rfl rfl rfl (fun hB => by simp only [Bool.and_eq_true, beq_iff_eq] at hB; obtain rfl := hB; exact (q_gtr rfl rfl)) ?_
  refine OpsW.q rfl (q_or2 rfl rfl rfl) ?_
  refine OpsW.q rfl (q_assign (v := .bool _) rfl) ?_
  refine OpsW.nil ?_
  refine SeqP.go ?_
  refine AW.cond rfl (fun h2 => ?_) (fun h2 => ?_)
  ·
    try simp only [eb22, eb30, decide_eq_true_eq, decide_eq_false_iff_not, Bool.or_eq_true, Bool.and_eq_true, Bool.or_eq_false_iff, Bool.and_eq_false_imp, Bool.not_eq_true', Bool.not_eq_false', ne_eq, Decidable.not_not, Int.not_lt, Int.not_le, Bool.not_eq_true, Bool.not_eq_false] at h2
    have hbig : 16384 < (plain.length : Int) ∨ 16600 - (plain.length : Int) < pad := by simp_all
    obtain ⟨e1, e2⟩ := bx_big (x := x) hgood hbig
    rw [e1, e2]
    refine AW.seq ?_
    refine AW.region ?_
    refine OpsW.q rfl (q_assign (v := S _) rfl) ?_
    refine OpsW.q rfl (q_assign (v := .int _ _) rfl) ?_
    refine OpsW.nil ?_
    refine SeqP.go ?_
    refine AW.ret ?_
    refine BlockP.ret ?_
    refine SeqP.ret ?_
    refine RetP.mk2 (H' := _) (v1 := S _) (v2 := .int _ _) rfl rfl rfl  (Hp.le_refl _) ?_
    exact ⟨rfl, hS0⟩
  try simp only [eb22, eb30, decide_eq_true_eq, decide_eq_false_iff_not, Bool.or_eq_true, Bool.and_eq_true, Bool.or_eq_false_iff, Bool.and_eq_false_imp, Bool.not_eq_true', Bool.not_eq_false', ne_eq, Decidable.not_not, Int.not_lt, Int.not_le, Bool.not_eq_true, Bool.not_eq_false] at h2
  have hok : ¬ (16384 < (plain.length : Int) ∨ 16600 - (plain.length : Int) < pad) := by simp_all
  have hil := bxInner_length kind plain hgood.2
  refine AW.skip ?_
  refine BlockP.go ?_
  refine SeqP.go ?_
  refine AW.seq ?_
  refine AW.region ?_
  refine OpsW.q rfl (q_move (v := .pointer _) rfl) ?_
  refine OpsW.q rfl (o_call rfl Try.func14 rfl rfl (nonce_con (hS0.blk at0) hn0 (by omega))) ?_
  refine OpsW.q rfl (q_move (v := .tuple _) rfl) ?_
  refine OpsW.q rfl (q_extract (v := S _) rfl rfl) ?_
  refine OpsW.q rfl (q_extract (v := .int _ _) rfl rfl) ?_
  refine OpsW.q rfl (q_assign (v := S _) rfl) ?_
  refine OpsW.q rfl (q_assign (v := .int _ _) rfl) ?_
  refine OpsW.nil ?_
  refine SeqP.go ?_
  refine AW.seq ?_
  refine AW.seq ?_
  refine AW.region ?_
  refine OpsW.q rfl (q_move (v := .int _ _) rfl) ?_
  refine OpsW.q rfl (q_neq rfl rfl) ?_
  refine OpsW.nil ?_
  refine SeqP.go ?_
  refine AW.cond rfl (fun h3 => ?_) (fun h3 => ?_)
  ·
    try simp only [eb22, eb30, decide_eq_true_eq, decide_eq_false_iff_not, Bool.or_eq_true, Bool.and_eq_true, Bool.or_eq_false_iff, Bool.and_eq_false_imp, Bool.not_eq_true', Bool.not_eq_false', ne_eq, Decidable.not_not, Int.not_lt, Int.not_le, Bool.not_eq_true, Bool.not_eq_false] at h3
    obtain ⟨e1, e2⟩ := bx_nonce (x := x) hgood hok h3
    rw [e1, e2]
    refine AW.seq ?_
    refine AW.region ?_
    refine OpsW.q rfl (q_move (v := .int _ _) rfl) ?_
    refine OpsW.q rfl (q_assign (v := S _) rfl) ?_
    refine OpsW.q rfl (q_assign (v := .int _ _) rfl) ?_
    refine OpsW.nil ?_
    refine SeqP.go ?_
    refine AW.ret ?_
    refine SeqP.ret ?_
    refine RetP.mk2 (H' := _) (v1 := S _) (v2 := .int _ _) rfl rfl rfl  (Hp.le_refl _) ?_
    exact ⟨rfl, hS0⟩
  try simp only [eb22, eb30, decide_eq_true_eq, decide_eq_false_iff_not, Bool.or_eq_true, Bool.and_eq_true, Bool.or_eq_false_iff, Bool.and_eq_false_imp, Bool.not_eq_true', Bool.not_eq_false', ne_eq, Decidable.not_not, Int.not_lt, Int.not_le, Bool.not_eq_true, Bool.not_eq_false] at h3
  have h3z : (bxNonce x).2 = 0 := by simpa using h3
  have hxn : x.n < 65536 := by rcases Int.lt_or_le x.n 65536 with g | g; (exact g); (rw [bxNonce_seq g] at h3z; cases h3z)
  obtain ⟨e1, e2, e3, e4⟩ := bx_full (x := x) ⟨hb1, hb2, hn0, hn1⟩ hxn hgood hok
  refine AW.skip ?_
  refine SeqP.go ?_
  refine AW.seq ?_
  refine AW.steps rfl 10 rfl ?_
  refine AnyW.first 0 rfl (by kernel_rfl) (by kernel_rfl) (by kernel_rfl) rfl (dst_lt rfl) (v_move (v := S _) rfl) ?_
  refine AnyW.first 1 rfl (by kernel_rfl) (by kernel_rfl) (by kernel_rfl) rfl (dst_lt rfl) (v_move (v := .int _ _) rfl) ?_
  refine AnyW.first 6 rfl (by kernel_rfl) (by kernel_rfl) (by kernel_rfl) rfl (dst_lt rfl) (v_move (v := .int _ _) rfl) ?_
  refine AnyW.two 2 7 rfl rfl (by kernel_rfl) rfl rfl (dst_lt rfl) (dst_lt rfl) (q_convInt rfl Try.underlying5 rfl) (o_call rfl Try.func15 rfl rfl (Repeat_con (by omega) (by omega))) ?_ ?_
  ·
    rintro _ _ ⟨rfl, rfl⟩
    refine AnyW.two 3 7 rfl rfl (by kernel_rfl) rfl rfl (dst_lt rfl) (dst_lt rfl) (s_buildSlice (z := .int .u8 0) (vs := nums .u8 [_]) hS0 Try.underlying44 (by kernel_rfl) (by kernel_rfl) rfl (by rfl) (by rfl) (by decide) rfl (nums_one _ _) rfl) (o_call rfl Try.func15 rfl rfl (Repeat_con (by omega) (by omega))) ?_ ?_
    ·
      rintro v48 H1 hS1
      clear hS0
      refine AnyW.two 4 7 rfl rfl (by kernel_rfl) rfl rfl (dst_lt rfl) (dst_lt rfl) (q_stringVec (hS1.vec at0) Try.underlying44 Try.underlying5 Try.underlying9 rfl) (o_call rfl Try.func15 rfl rfl (Repeat_con (by omega) (by omega))) ?_ ?_
      ·
        rintro _ _ ⟨rfl, rfl⟩
        refine AnyW.two 5 7 rfl rfl (by kernel_rfl) rfl rfl (dst_lt rfl) (dst_lt rfl) (q_cat rfl rfl (by first | (with_reducible assumption) | omega | (unfold maxLen; omega) | (simp only [nums_length, List.length_set, List.length_replicate, List.length_take, List.length_drop, List.length_append, List.length_cons, List.length_nil, ofB_length, toB_length]; omega) | (simp only [nums_length, List.length_set, List.length_replicate, List.length_take, List.length_drop, List.length_append, List.length_cons, List.length_nil, ofB_length, toB_length]; unfold maxLen; omega) | (simp; done) | (simp; omega) | rfl | decide)) (o_call rfl Try.func15 rfl rfl (Repeat_con (by omega) (by omega))) ?_ ?_
        ·
          rintro _ _ ⟨rfl, rfl⟩
          refine AnyW.onlyQ 7 rfl (by kernel_rfl) rfl (dst_lt rfl) (o_call rfl Try.func15 rfl rfl (Repeat_con (by omega) (by omega))) ?_
          refine AnyW.onlyQ 8 rfl (by kernel_rfl) rfl (dst_lt rfl) (q_cat rfl rfl (by first | (with_reducible assumption) | omega | (unfold maxLen; omega) | (simp only [nums_length, List.length_set, List.length_replicate, List.length_take, List.length_drop, List.length_append, List.length_cons, List.length_nil, ofB_length, toB_length]; omega) | (simp only [nums_length, List.length_set, List.length_replicate, List.length_take, List.length_drop, List.length_append, List.length_cons, List.length_nil, ofB_length, toB_length]; unfold maxLen; omega) | (simp; done) | (simp; omega) | rfl | decide)) ?_
          rw [show plain ++ toB [IntKind.u8.wrap kind] ++ List.replicate pad.toNat 0 = bxInner kind plain pad from rfl]
          refine AnyW.onlyQ 9 rfl (by kernel_rfl) rfl (dst_lt rfl) (q_assign (v := S _) rfl) ?_
          refine AnyW.done (by kernel_rfl) ?_
          refine SeqP.go ?_
          refine AW.seq ?_
          refine AW.region ?_
          refine OpsW.q rfl (q_move (v := S _) rfl) ?_
          refine OpsW.q rfl (q_lenS Try.underlying9 rfl) ?_
          refine OpsW.q rfl (q_addI rfl rfl (by omega)) ?_
          refine OpsW.q rfl (o_call rfl Try.func16 rfl rfl (head_con _ _ (by omega))) ?_
          rw [show headP 23 (((bxInner kind plain pad).length : Int) + 16) = bxHead kind plain pad from rfl]
          have hhl := bxHead_length kind plain pad
          refine OpsW.q rfl (q_assign (v := S _) rfl) ?_
          refine OpsW.nil ?_
          refine SeqP.go ?_
          refine AW.seq ?_
          refine AW.drawK [] 16 rfl (by kernel_rfl) ?_
          refine SeqK.q rfl (q_move (v := .pointer _) rfl) ?_
          refine SeqK.q rfl (q_nilCheck rfl) ?_
          refine SeqK.q rfl (q_fieldAddr (sz := 0) Try.underlying35 rfl (by kernel_rfl) rfl) ?_
          refine SeqK.q rfl (q_load (v := .int _ _) (by kernel_rfl) rfl (hS1.blk at1) rfl) ?_
          refine SeqK.q rfl (q_move (v := .pointer _) rfl) ?_
          refine SeqK.q rfl (q_nilCheck rfl) ?_
          refine SeqK.q rfl (q_fieldAddr (sz := 0) Try.underlying35 rfl (by kernel_rfl) rfl) ?_
          refine SeqK.q rfl (q_load (v := S _) (by kernel_rfl) rfl (hS1.blk at1) rfl) ?_
          refine SeqK.q rfl (q_move (v := S _) rfl) ?_
          refine SeqK.q rfl (q_move (v := S _) rfl) ?_
          refine SeqK.q rfl (q_move (v := S _) rfl) ?_
          refine SeqK.q rfl (o_call rfl Try.func17 rfl rfl (Seal_con (by omega) (by omega))) ?_
          refine SeqK.q rfl (q_move (v := .tuple _) rfl) ?_
          rw [show slSeal x.suite x.key (bxNonce x).1 (bxHead kind plain pad) (bxInner kind plain pad) = bxSealed x kind plain pad from rfl]
          refine SeqK.q rfl (q_extract (v := S _) rfl rfl) ?_
          refine SeqK.q rfl (q_extract (v := .int _ _) rfl rfl) ?_
          refine SeqK.q rfl (q_assign (v := S _) rfl) ?_
          refine SeqK.done ?_
          refine OpsW.q rfl (q_assign (v := .int _ _) rfl) ?_
          refine OpsW.nil ?_
          refine SeqP.go ?_
          refine AW.seq ?_
          refine AW.seq ?_
          refine AW.region ?_
          refine OpsW.q rfl (q_move (v := .int _ _) rfl) ?_
          refine OpsW.q rfl (q_neq rfl rfl) ?_
          refine OpsW.nil ?_
          refine SeqP.go ?_
          refine AW.cond rfl (fun h4 => ?_) (fun h4 => ?_)
          ·
            try simp only [eb22, eb30, decide_eq_true_eq, decide_eq_false_iff_not, Bool.or_eq_true, Bool.and_eq_true, Bool.or_eq_false_iff, Bool.and_eq_false_imp, Bool.not_eq_true', Bool.not_eq_false', ne_eq, Decidable.not_not, Int.not_lt, Int.not_le, Bool.not_eq_true, Bool.not_eq_false] at h4
            obtain ⟨e1, e2⟩ := bx_seal (x := x) hgood hok h3z h4
            rw [e1, e2]
            refine AW.seq ?_
            refine AW.region ?_
            refine OpsW.q rfl (q_move (v := .int _ _) rfl) ?_
            refine OpsW.q rfl (q_assign (v := S _) rfl) ?_
            refine OpsW.q rfl (q_assign (v := .int _ _) rfl) ?_
            refine OpsW.nil ?_
            refine SeqP.go ?_
            refine AW.ret ?_
            refine SeqP.ret ?_
            refine RetP.mk2 (H' := _) (v1 := S _) (v2 := .int _ _) rfl rfl rfl  (Hp.le_refl _) ?_
            exact ⟨rfl, hS1.tail⟩
          try simp only [eb22, eb30, decide_eq_true_eq, decide_eq_false_iff_not, Bool.or_eq_true, Bool.and_eq_true, Bool.or_eq_false_iff, Bool.and_eq_false_imp, Bool.not_eq_true', Bool.not_eq_false', ne_eq, Decidable.not_not, Int.not_lt, Int.not_le, Bool.not_eq_true, Bool.not_eq_false] at h4
          rw [e1, e2]
          refine AW.skip ?_
          refine SeqP.go ?_
          refine AW.seq ?_
          refine AW.region ?_
          refine OpsW.q rfl (q_move (v := .pointer _) rfl) ?_
          refine OpsW.q rfl (q_nilCheck rfl) ?_
          refine OpsW.q rfl (q_fieldAddr (sz := 0) Try.underlying35 rfl (by kernel_rfl) rfl) ?_
          refine OpsW.q rfl (q_load (v := .int _ _) (by kernel_rfl) rfl (hS1.blk at1) rfl) ?_
          refine OpsW.q rfl (q_addI rfl rfl (by omega)) ?_
          refine OpsW.q rfl (q_nilCheck rfl) ?_
          refine OpsW.q rfl (q_fieldAddr (sz := 0) Try.underlying35 rfl (by kernel_rfl) rfl) ?_
          refine OpsW.ms (s_storeC (v := .int _ _) hS1 at1 (by kernel_rfl) rfl rfl rfl (by first | (with_reducible assumption) | omega | (unfold maxLen; omega) | (simp only [nums_length, List.length_set, List.length_replicate, List.length_take, List.length_drop, List.length_append, List.length_cons, List.length_nil, ofB_length, toB_length]; omega) | (simp only [nums_length, List.length_set, List.length_replicate, List.length_take, List.length_drop, List.length_append, List.length_cons, List.length_nil, ofB_length, toB_length]; unfold maxLen; omega) | (simp; done) | (simp; omega) | rfl | decide)) ?_
          rintro _ H2 ⟨rfl, hS2⟩
          clear hS1
          refine OpsW.nil ?_
          refine SeqP.go ?_
          refine AW.seq ?_
          refine AW.region ?_
          refine OpsW.q rfl (q_move (v := S _) rfl) ?_
          refine OpsW.q rfl (q_move (v := S _) rfl) ?_
          refine OpsW.q rfl (q_cat rfl rfl (by first | (with_reducible assumption) | omega | (unfold maxLen; omega) | (simp only [nums_length, List.length_set, List.length_replicate, List.length_take, List.length_drop, List.length_append, List.length_cons, List.length_nil, ofB_length, toB_length]; omega) | (simp only [nums_length, List.length_set, List.length_replicate, List.length_take, List.length_drop, List.length_append, List.length_cons, List.length_nil, ofB_length, toB_length]; unfold maxLen; omega) | (simp; done) | (simp; omega) | rfl | decide)) ?_
          refine OpsW.q rfl (q_assign (v := S _) rfl) ?_
          refine OpsW.q rfl (q_assign (v := .int _ _) rfl) ?_
          refine OpsW.nil ?_
          refine SeqP.go ?_
          refine AW.ret ?_
          refine RetP.mk2 (H' := _) (v1 := S _) (v2 := .int _ _) rfl rfl rfl  (Hp.le_refl _) ?_
          exact ⟨rfl, hS2.tail⟩
        ·
          rintro _ _ ⟨rfl, rfl⟩
          refine AnyW.onlyQ 5 rfl (by kernel_rfl) rfl (dst_lt rfl) (q_cat rfl rfl (by first | (with_reducible assumption) | omega | (unfold maxLen; omega) | (simp only [nums_length, List.length_set, List.length_replicate, List.length_take, List.length_drop, List.length_append, List.length_cons, List.length_nil, ofB_length, toB_length]; omega) | (simp only [nums_length, List.length_set, List.length_replicate, List.length_take, List.length_drop, List.length_append, List.length_cons, List.length_nil, ofB_length, toB_length]; unfold maxLen; omega) | (simp; done) | (simp; omega) | rfl | decide)) ?_
          refine AnyW.onlyQ 8 rfl (by kernel_rfl) rfl (dst_lt rfl) (q_cat rfl rfl (by first | (with_reducible assumption) | omega | (unfold maxLen; omega) | (simp only [nums_length, List.length_set, List.length_replicate, List.length_take, List.length_drop, List.length_append, List.length_cons, List.length_nil, ofB_length, toB_length]; omega) | (simp only [nums_length, List.length_set, List.length_replicate, List.length_take, List.length_drop, List.length_append, List.length_cons, List.length_nil, ofB_length, toB_length]; unfold maxLen; omega) | (simp; done) | (simp; omega) | rfl | decide)) ?_
          rw [show plain ++ toB [IntKind.u8.wrap kind] ++ List.replicate pad.toNat 0 = bxInner kind plain pad from rfl]
          refine AnyW.onlyQ 9 rfl (by kernel_rfl) rfl (dst_lt rfl) (q_assign (v := S _) rfl) ?_
          refine AnyW.done (by kernel_rfl) ?_
          refine SeqP.go ?_
          refine AW.seq ?_
          refine AW.region ?_
          refine OpsW.q rfl (q_move (v := S _) rfl) ?_
          refine OpsW.q rfl (q_lenS Try.underlying9 rfl) ?_
          refine OpsW.q rfl (q_addI rfl rfl (by omega)) ?_
          refine OpsW.q rfl (o_call rfl Try.func16 rfl rfl (head_con _ _ (by omega))) ?_
          rw [show headP 23 (((bxInner kind plain pad).length : Int) + 16) = bxHead kind plain pad from rfl]
          have hhl := bxHead_length kind plain pad
          refine OpsW.q rfl (q_assign (v := S _) rfl) ?_
          refine OpsW.nil ?_
          refine SeqP.go ?_
          refine AW.seq ?_
          refine AW.drawK [] 16 rfl (by kernel_rfl) ?_
          refine SeqK.q rfl (q_move (v := .pointer _) rfl) ?_
          refine SeqK.q rfl (q_nilCheck rfl) ?_
          refine SeqK.q rfl (q_fieldAddr (sz := 0) Try.underlying35 rfl (by kernel_rfl) rfl) ?_
          refine SeqK.q rfl (q_load (v := .int _ _) (by kernel_rfl) rfl (hS1.blk at1) rfl) ?_
          refine SeqK.q rfl (q_move (v := .pointer _) rfl) ?_
          refine SeqK.q rfl (q_nilCheck rfl) ?_
          refine SeqK.q rfl (q_fieldAddr (sz := 0) Try.underlying35 rfl (by kernel_rfl) rfl) ?_
          refine SeqK.q rfl (q_load (v := S _) (by kernel_rfl) rfl (hS1.blk at1) rfl) ?_
          refine SeqK.q rfl (q_move (v := S _) rfl) ?_
          refine SeqK.q rfl (q_move (v := S _) rfl) ?_
          refine SeqK.q rfl (q_move (v := S _) rfl) ?_
          refine SeqK.q rfl (o_call rfl Try.func17 rfl rfl (Seal_con (by omega) (by omega))) ?_
          refine SeqK.q rfl (q_move (v := .tuple _) rfl) ?_
          rw [show slSeal x.suite x.key (bxNonce x).1 (bxHead kind plain pad) (bxInner kind plain pad) = bxSealed x kind plain pad from rfl]
          refine SeqK.q rfl (q_extract (v := S _) rfl rfl) ?_
          refine SeqK.q rfl (q_extract (v := .int _ _) rfl rfl) ?_
          refine SeqK.q rfl (q_assign (v := S _) rfl) ?_
          refine SeqK.done ?_
          refine OpsW.q rfl (q_assign (v := .int _ _) rfl) ?_
          refine OpsW.nil ?_
          refine SeqP.go ?_
          refine AW.seq ?_
          refine AW.seq ?_
          refine AW.region ?_
          refine OpsW.q rfl (q_move (v := .int _ _) rfl) ?_
          refine OpsW.q rfl (q_neq rfl rfl) ?_
          refine OpsW.nil ?_
          refine SeqP.go ?_
          refine AW.cond rfl (fun h4 => ?_) (fun h4 => ?_)
          ·
            try simp only [eb22, eb30, decide_eq_true_eq, decide_eq_false_iff_not, Bool.or_eq_true, Bool.and_eq_true, Bool.or_eq_false_iff, Bool.and_eq_false_imp, Bool.not_eq_true', Bool.not_eq_false', ne_eq, Decidable.not_not, Int.not_lt, Int.not_le, Bool.not_eq_true, Bool.not_eq_false] at h4
            obtain ⟨e1, e2⟩ := bx_seal (x := x) hgood hok h3z h4
            rw [e1, e2]
            refine AW.seq ?_
            refine AW.region ?_
            refine OpsW.q rfl (q_move (v := .int _ _) rfl) ?_
            refine OpsW.q rfl (q_assign (v := S _) rfl) ?_
            refine OpsW.q rfl (q_assign (v := .int _ _) rfl) ?_
            refine OpsW.nil ?_
            refine SeqP.go ?_
            refine AW.ret ?_
            refine SeqP.ret ?_
            refine RetP.mk2 (H' := _) (v1 := S _) (v2 := .int _ _) rfl rfl rfl  (Hp.le_refl _) ?_
            exact ⟨rfl, hS1.tail⟩
          try simp only [eb22, eb30, decide_eq_true_eq, decide_eq_false_iff_not, Bool.or_eq_true, Bool.and_eq_true, Bool.or_eq_false_iff, Bool.and_eq_false_imp, Bool.not_eq_true', Bool.not_eq_false', ne_eq, Decidable.not_not, Int.not_lt, Int.not_le, Bool.not_eq_true, Bool.not_eq_false] at h4
          rw [e1, e2]
          refine AW.skip ?_
          refine SeqP.go ?_
          refine AW.seq ?_
          refine AW.region ?_
          refine OpsW.q rfl (q_move (v := .pointer _) rfl) ?_
          refine OpsW.q rfl (q_nilCheck rfl) ?_
          refine OpsW.q rfl (q_fieldAddr (sz := 0) Try.underlying35 rfl (by kernel_rfl) rfl) ?_
          refine OpsW.q rfl (q_load (v := .int _ _) (by kernel_rfl) rfl (hS1.blk at1) rfl) ?_
          refine OpsW.q rfl (q_addI rfl rfl (by omega)) ?_
          refine OpsW.q rfl (q_nilCheck rfl) ?_
          refine OpsW.q rfl (q_fieldAddr (sz := 0) Try.underlying35 rfl (by kernel_rfl) rfl) ?_
          refine OpsW.ms (s_storeC (v := .int _ _) hS1 at1 (by kernel_rfl) rfl rfl rfl (by first | (with_reducible assumption) | omega | (unfold maxLen; omega) | (simp only [nums_length, List.length_set, List.length_replicate, List.length_take, List.length_drop, List.length_append, List.length_cons, List.length_nil, ofB_length, toB_length]; omega) | (simp only [nums_length, List.length_set, List.length_replicate, List.length_take, List.length_drop, List.length_append, List.length_cons, List.length_nil, ofB_length, toB_length]; unfold maxLen; omega) | (simp; done) | (simp; omega) | rfl | decide)) ?_
          rintro _ H3 ⟨rfl, hS3⟩
          clear hS1
          refine OpsW.nil ?_
          refine SeqP.go ?_
          refine AW.seq ?_
          refine AW.region ?_
          refine OpsW.q rfl (q_move (v := S _) rfl) ?_
          refine OpsW.q rfl (q_move (v := S _) rfl) ?_
          refine OpsW.q rfl (q_cat rfl rfl (by first | (with_reducible assumption) | omega | (unfold maxLen; omega) | (simp only [nums_length, List.length_set, List.length_replicate, List.length_take, List.length_drop, List.length_append, List.length_cons, List.length_nil, ofB_length, toB_length]; omega) | (simp only [nums_length, List.length_set, List.length_replicate, List.length_take, List.length_drop, List.length_append, List.length_cons, List.length_nil, ofB_length, toB_length]; unfold maxLen; omega) | (simp; done) | (simp; omega) | rfl | decide)) ?_
          refine OpsW.q rfl (q_assign (v := S _) rfl) ?_
          refine OpsW.q rfl (q_assign (v := .int _ _) rfl) ?_
          refine OpsW.nil ?_
          refine SeqP.go ?_
          refine AW.ret ?_
          refine RetP.mk2 (H' := _) (v1 := S _) (v2 := .int _ _) rfl rfl rfl  (Hp.le_refl _) ?_
          exact ⟨rfl, hS3.tail⟩
      ·
        rintro _ _ ⟨rfl, rfl⟩
        refine AnyW.onlyQ 4 rfl (by kernel_rfl) rfl (dst_lt rfl) (q_stringVec (hS1.vec at0) Try.underlying44 Try.underlying5 Try.underlying9 rfl) ?_
        refine AnyW.onlyQ 5 rfl (by kernel_rfl) rfl (dst_lt rfl) (q_cat rfl rfl (by first | (with_reducible assumption) | omega | (unfold maxLen; omega) | (simp only [nums_length, List.length_set, List.length_replicate, List.length_take, List.length_drop, List.length_append, List.length_cons, List.length_nil, ofB_length, toB_length]; omega) | (simp only [nums_length, List.length_set, List.length_replicate, List.length_take, List.length_drop, List.length_append, List.length_cons, List.length_nil, ofB_length, toB_length]; unfold maxLen; omega) | (simp; done) | (simp; omega) | rfl | decide)) ?_
        refine AnyW.onlyQ 8 rfl (by kernel_rfl) rfl (dst_lt rfl) (q_cat rfl rfl (by first | (with_reducible assumption) | omega | (unfold maxLen; omega) | (simp only [nums_length, List.length_set, List.length_replicate, List.length_take, List.length_drop, List.length_append, List.length_cons, List.length_nil, ofB_length, toB_length]; omega) | (simp only [nums_length, List.length_set, List.length_replicate, List.length_take, List.length_drop, List.length_append, List.length_cons, List.length_nil, ofB_length, toB_length]; unfold maxLen; omega) | (simp; done) | (simp; omega) | rfl | decide)) ?_
        rw [show plain ++ toB [IntKind.u8.wrap kind] ++ List.replicate pad.toNat 0 = bxInner kind plain pad from rfl]
        refine AnyW.onlyQ 9 rfl (by kernel_rfl) rfl (dst_lt rfl) (q_assign (v := S _) rfl) ?_
        refine AnyW.done (by kernel_rfl) ?_
        refine SeqP.go ?_
        refine AW.seq ?_
        refine AW.region ?_
        refine OpsW.q rfl (q_move (v := S _) rfl) ?_
        refine OpsW.q rfl (q_lenS Try.underlying9 rfl) ?_
        refine OpsW.q rfl (q_addI rfl rfl (by omega)) ?_
        refine OpsW.q rfl (o_call rfl Try.func16 rfl rfl (head_con _ _ (by omega))) ?_
        rw [show headP 23 (((bxInner kind plain pad).length : Int) + 16) = bxHead kind plain pad from rfl]
        have hhl := bxHead_length kind plain pad
        refine OpsW.q rfl (q_assign (v := S _) rfl) ?_
        refine OpsW.nil ?_
        refine SeqP.go ?_
        refine AW.seq ?_
        refine AW.drawK [] 16 rfl (by kernel_rfl) ?_
        refine SeqK.q rfl (q_move (v := .pointer _) rfl) ?_
        refine SeqK.q rfl (q_nilCheck rfl) ?_
        refine SeqK.q rfl (q_fieldAddr (sz := 0) Try.underlying35 rfl (by kernel_rfl) rfl) ?_
        refine SeqK.q rfl (q_load (v := .int _ _) (by kernel_rfl) rfl (hS1.blk at1) rfl) ?_
        refine SeqK.q rfl (q_move (v := .pointer _) rfl) ?_
        refine SeqK.q rfl (q_nilCheck rfl) ?_
        refine SeqK.q rfl (q_fieldAddr (sz := 0) Try.underlying35 rfl (by kernel_rfl) rfl) ?_
        refine SeqK.q rfl (q_load (v := S _) (by kernel_rfl) rfl (hS1.blk at1) rfl) ?_
        refine SeqK.q rfl (q_move (v := S _) rfl) ?_
        refine SeqK.q rfl (q_move (v := S _) rfl) ?_
        refine SeqK.q rfl (q_move (v := S _) rfl) ?_
        refine SeqK.q rfl (o_call rfl Try.func17 rfl rfl (Seal_con (by omega) (by omega))) ?_
        refine SeqK.q rfl (q_move (v := .tuple _) rfl) ?_
        rw [show slSeal x.suite x.key (bxNonce x).1 (bxHead kind plain pad) (bxInner kind plain pad) = bxSealed x kind plain pad from rfl]
        refine SeqK.q rfl (q_extract (v := S _) rfl rfl) ?_
        refine SeqK.q rfl (q_extract (v := .int _ _) rfl rfl) ?_
        refine SeqK.q rfl (q_assign (v := S _) rfl) ?_
        refine SeqK.done ?_
        refine OpsW.q rfl (q_assign (v := .int _ _) rfl) ?_
        refine OpsW.nil ?_
        refine SeqP.go ?_
        refine AW.seq ?_
        refine AW.seq ?_
        refine AW.region ?_
        refine OpsW.q rfl (q_move (v := .int _ _) rfl) ?_
        refine OpsW.q rfl (q_neq rfl rfl) ?_
        refine OpsW.nil ?_
        refine SeqP.go ?_
        refine AW.cond rfl (fun h4 => ?_) (fun h4 => ?_)
        ·
          try simp only [eb22, eb30, decide_eq_true_eq, decide_eq_false_iff_not, Bool.or_eq_true, Bool.and_eq_true, Bool.or_eq_false_iff, Bool.and_eq_false_imp, Bool.not_eq_true', Bool.not_eq_false', ne_eq, Decidable.not_not, Int.not_lt, Int.not_le, Bool.not_eq_true, Bool.not_eq_false] at h4
          obtain ⟨e1, e2⟩ := bx_seal (x := x) hgood hok h3z h4
          rw [e1, e2]
          refine AW.seq ?_
          refine AW.region ?_
          refine OpsW.q rfl (q_move (v := .int _ _) rfl) ?_
          refine OpsW.q rfl (q_assign (v := S _) rfl) ?_
          refine OpsW.q rfl (q_assign (v := .int _ _) rfl) ?_
          refine OpsW.nil ?_
          refine SeqP.go ?_
          refine AW.ret ?_
          refine SeqP.ret ?_
          refine RetP.mk2 (H' := _) (v1 := S _) (v2 := .int _ _) rfl rfl rfl  (Hp.le_refl _) ?_
          exact ⟨rfl, hS1.tail⟩
        try simp only [eb22, eb30, decide_eq_true_eq, decide_eq_false_iff_not, Bool.or_eq_true, Bool.and_eq_true, Bool.or_eq_false_iff, Bool.and_eq_false_imp, Bool.not_eq_true', Bool.not_eq_false', ne_eq, Decidable.not_not, Int.not_lt, Int.not_le, Bool.not_eq_true, Bool.not_eq_false] at h4
        rw [e1, e2]
        refine AW.skip ?_
        refine SeqP.go ?_
        refine AW.seq ?_
        refine AW.region ?_
        refine OpsW.q rfl (q_move (v := .pointer _) rfl) ?_
        refine OpsW.q rfl (q_nilCheck rfl) ?_
        refine OpsW.q rfl (q_fieldAddr (sz := 0) Try.underlying35 rfl (by kernel_rfl) rfl) ?_
        refine OpsW.q rfl (q_load (v := .int _ _) (by kernel_rfl) rfl (hS1.blk at1) rfl) ?_
        refine OpsW.q rfl (q_addI rfl rfl (by omega)) ?_
        refine OpsW.q rfl (q_nilCheck rfl) ?_
        refine OpsW.q rfl (q_fieldAddr (sz := 0) Try.underlying35 rfl (by kernel_rfl) rfl) ?_
        refine OpsW.ms (s_storeC (v := .int _ _) hS1 at1 (by kernel_rfl) rfl rfl rfl (by first | (with_reducible assumption) | omega | (unfold maxLen; omega) | (simp only [nums_length, List.length_set, List.length_replicate, List.length_take, List.length_drop, List.length_append, List.length_cons, List.length_nil, ofB_length, toB_length]; omega) | (simp only [nums_length, List.length_set, List.length_replicate, List.length_take, List.length_drop, List.length_append, List.length_cons, List.length_nil, ofB_length, toB_length]; unfold maxLen; omega) | (simp; done) | (simp; omega) | rfl | decide)) ?_
        rintro _ H4 ⟨rfl, hS4⟩
        clear hS1
        refine OpsW.nil ?_
        refine SeqP.go ?_
        refine AW.seq ?_
        refine AW.region ?_
        refine OpsW.q rfl (q_move (v := S _) rfl) ?_
        refine OpsW.q rfl (q_move (v := S _) rfl) ?_
        refine OpsW.q rfl (q_cat rfl rfl (by first | (with_reducible assumption) | omega | (unfold maxLen; omega) | (simp only [nums_length, List.length_set, List.length_replicate, List.length_take, List.length_drop, List.length_append, List.length_cons, List.length_nil, ofB_length, toB_length]; omega) | (simp only [nums_length, List.length_set, List.length_replicate, List.length_take, List.length_drop, List.length_append, List.length_cons, List.length_nil, ofB_length, toB_length]; unfold maxLen; omega) | (simp; done) | (simp; omega) | rfl | decide)) ?_
        refine OpsW.q rfl (q_assign (v := S _) rfl) ?_
        refine OpsW.q rfl (q_assign (v := .int _ _) rfl) ?_
        refine OpsW.nil ?_
        refine SeqP.go ?_
        refine AW.ret ?_
        refine RetP.mk2 (H' := _) (v1 := S _) (v2 := .int _ _) rfl rfl rfl  (Hp.le_refl _) ?_
        exact ⟨rfl, hS4.tail⟩
    ·
      rintro _ _ ⟨rfl, rfl⟩
      refine AnyW.only 3 rfl (by kernel_rfl) rfl (dst_lt rfl) (s_buildSlice (z := .int .u8 0) (vs := nums .u8 [_]) hS0 Try.underlying44 (by kernel_rfl) (by kernel_rfl) rfl (by rfl) (by rfl) (by decide) rfl (nums_one _ _) rfl) ?_
      rintro v48 H5 hS5
      clear hS0
      refine AnyW.onlyQ 4 rfl (by kernel_rfl) rfl (dst_lt rfl) (q_stringVec (hS5.vec at0) Try.underlying44 Try.underlying5 Try.underlying9 rfl) ?_
      refine AnyW.onlyQ 5 rfl (by kernel_rfl) rfl (dst_lt rfl) (q_cat rfl rfl (by first | (with_reducible assumption) | omega | (unfold maxLen; omega) | (simp only [nums_length, List.length_set, List.length_replicate, List.length_take, List.length_drop, List.length_append, List.length_cons, List.length_nil, ofB_length, toB_length]; omega) | (simp only [nums_length, List.length_set, List.length_replicate, List.length_take, List.length_drop, List.length_append, List.length_cons, List.length_nil, ofB_length, toB_length]; unfold maxLen; omega) | (simp; done) | (simp; omega) | rfl | decide)) ?_
      refine AnyW.onlyQ 8 rfl (by kernel_rfl) rfl (dst_lt rfl) (q_cat rfl rfl (by first | (with_reducible assumption) | omega | (unfold maxLen; omega) | (simp only [nums_length, List.length_set, List.length_replicate, List.length_take, List.length_drop, List.length_append, List.length_cons, List.length_nil, ofB_length, toB_length]; omega) | (simp only [nums_length, List.length_set, List.length_replicate, List.length_take, List.length_drop, List.length_append, List.length_cons, List.length_nil, ofB_length, toB_length]; unfold maxLen; omega) | (simp; done) | (simp; omega) | rfl | decide)) ?_
      rw [show plain ++ toB [IntKind.u8.wrap kind] ++ List.replicate pad.toNat 0 = bxInner kind plain pad from rfl]
      refine AnyW.onlyQ 9 rfl (by kernel_rfl) rfl (dst_lt rfl) (q_assign (v := S _) rfl) ?_
      refine AnyW.done (by kernel_rfl) ?_
      refine SeqP.go ?_
      refine AW.seq ?_
      refine AW.region ?_
      refine OpsW.q rfl (q_move (v := S _) rfl) ?_
      refine OpsW.q rfl (q_lenS Try.underlying9 rfl) ?_
      refine OpsW.q rfl (q_addI rfl rfl (by omega)) ?_
      refine OpsW.q rfl (o_call rfl Try.func16 rfl rfl (head_con _ _ (by omega))) ?_
      rw [show headP 23 (((bxInner kind plain pad).length : Int) + 16) = bxHead kind plain pad from rfl]
      have hhl := bxHead_length kind plain pad
      refine OpsW.q rfl (q_assign (v := S _) rfl) ?_
      refine OpsW.nil ?_
      refine SeqP.go ?_
      refine AW.seq ?_
      refine AW.drawK [] 16 rfl (by kernel_rfl) ?_
      refine SeqK.q rfl (q_move (v := .pointer _) rfl) ?_
      refine SeqK.q rfl (q_nilCheck rfl) ?_
      refine SeqK.q rfl (q_fieldAddr (sz := 0) Try.underlying35 rfl (by kernel_rfl) rfl) ?_
      refine SeqK.q rfl (q_load (v := .int _ _) (by kernel_rfl) rfl (hS5.blk at1) rfl) ?_
      refine SeqK.q rfl (q_move (v := .pointer _) rfl) ?_
      refine SeqK.q rfl (q_nilCheck rfl) ?_
      refine SeqK.q rfl (q_fieldAddr (sz := 0) Try.underlying35 rfl (by kernel_rfl) rfl) ?_
      refine SeqK.q rfl (q_load (v := S _) (by kernel_rfl) rfl (hS5.blk at1) rfl) ?_
      refine SeqK.q rfl (q_move (v := S _) rfl) ?_
      refine SeqK.q rfl (q_move (v := S _) rfl) ?_
      refine SeqK.q rfl (q_move (v := S _) rfl) ?_
      refine SeqK.q rfl (o_call rfl Try.func17 rfl rfl (Seal_con (by omega) (by omega))) ?_
      refine SeqK.q rfl (q_move (v := .tuple _) rfl) ?_
      rw [show slSeal x.suite x.key (bxNonce x).1 (bxHead kind plain pad) (bxInner kind plain pad) = bxSealed x kind plain pad from rfl]
      refine SeqK.q rfl (q_extract (v := S _) rfl rfl) ?_
      refine SeqK.q rfl (q_extract (v := .int _ _) rfl rfl) ?_
      refine SeqK.q rfl (q_assign (v := S _) rfl) ?_
      refine SeqK.done ?_
      refine OpsW.q rfl (q_assign (v := .int _ _) rfl) ?_
      refine OpsW.nil ?_
      refine SeqP.go ?_
      refine AW.seq ?_
      refine AW.seq ?_
      refine AW.region ?_
      refine OpsW.q rfl (q_move (v := .int _ _) rfl) ?_
      refine OpsW.q rfl (q_neq rfl rfl) ?_
      refine OpsW.nil ?_
      refine SeqP.go ?_
      refine AW.cond rfl (fun h4 => ?_) (fun h4 => ?_)
      ·
        try simp only [eb22, eb30, decide_eq_true_eq, decide_eq_false_iff_not, Bool.or_eq_true, Bool.and_eq_true, Bool.or_eq_false_iff, Bool.and_eq_false_imp, Bool.not_eq_true', Bool.not_eq_false', ne_eq, Decidable.not_not, Int.not_lt, Int.not_le, Bool.not_eq_true, Bool.not_eq_false] at h4
        obtain ⟨e1, e2⟩ := bx_seal (x := x) hgood hok h3z h4
        rw [e1, e2]
        refine AW.seq ?_
        refine AW.region ?_
        refine OpsW.q rfl (q_move (v := .int _ _) rfl) ?_
        refine OpsW.q rfl (q_assign (v := S _) rfl) ?_
        refine OpsW.q rfl (q_assign (v := .int _ _) rfl) ?_
        refine OpsW.nil ?_
        refine SeqP.go ?_
        refine AW.ret ?_
        refine SeqP.ret ?_
        refine RetP.mk2 (H' := _) (v1 := S _) (v2 := .int _ _) rfl rfl rfl  (Hp.le_refl _) ?_
        exact ⟨rfl, hS5.tail⟩
      try simp only [eb22, eb30, decide_eq_true_eq, decide_eq_false_iff_not, Bool.or_eq_true, Bool.and_eq_true, Bool.or_eq_false_iff, Bool.and_eq_false_imp, Bool.not_eq_true', Bool.not_eq_false', ne_eq, Decidable.not_not, Int.not_lt, Int.not_le, Bool.not_eq_true, Bool.not_eq_false] at h4
      rw [e1, e2]
      refine AW.skip ?_
      refine SeqP.go ?_
      refine AW.seq ?_
      refine AW.region ?_
      refine OpsW.q rfl (q_move (v := .pointer _) rfl) ?_
      refine OpsW.q rfl (q_nilCheck rfl) ?_
      refine OpsW.q rfl (q_fieldAddr (sz := 0) Try.underlying35 rfl (by kernel_rfl) rfl) ?_
      refine OpsW.q rfl (q_load (v := .int _ _) (by kernel_rfl) rfl (hS5.blk at1) rfl) ?_
      refine OpsW.q rfl (q_addI rfl rfl (by omega)) ?_
      refine OpsW.q rfl (q_nilCheck rfl) ?_
      refine OpsW.q rfl (q_fieldAddr (sz := 0) Try.underlying35 rfl (by kernel_rfl) rfl) ?_
      refine OpsW.ms (s_storeC (v := .int _ _) hS5 at1 (by kernel_rfl) rfl rfl rfl (by first | (with_reducible assumption) | omega | (unfold maxLen; omega) | (simp only [nums_length, List.length_set, List.length_replicate, List.length_take, List.length_drop, List.length_append, List.length_cons, List.length_nil, ofB_length, toB_length]; omega) | (simp only [nums_length, List.length_set, List.length_replicate, List.length_take, List.length_drop, List.length_append, List.length_cons, List.length_nil, ofB_length, toB_length]; unfold maxLen; omega) | (simp; done) | (simp; omega) | rfl | decide)) ?_
      rintro _ H6 ⟨rfl, hS6⟩
      clear hS5
      refine OpsW.nil ?_
      refine SeqP.go ?_
      refine AW.seq ?_
      refine AW.region ?_
      refine OpsW.q rfl (q_move (v := S _) rfl) ?_
      refine OpsW.q rfl (q_move (v := S _) rfl) ?_
      refine OpsW.q rfl (q_cat rfl rfl (by first | (with_reducible assumption) | omega | (unfold maxLen; omega) | (simp only [nums_length, List.length_set, List.length_replicate, List.length_take, List.length_drop, List.length_append, List.length_cons, List.length_nil, ofB_length, toB_length]; omega) | (simp only [nums_length, List.length_set, List.length_replicate, List.length_take, List.length_drop, List.length_append, List.length_cons, List.length_nil, ofB_length, toB_length]; unfold maxLen; omega) | (simp; done) | (simp; omega) | rfl | decide)) ?_
      refine OpsW.q rfl (q_assign (v := S _) rfl) ?_
      refine OpsW.q rfl (q_assign (v := .int _ _) rfl) ?_
      refine OpsW.nil ?_
      refine SeqP.go ?_
      refine AW.ret ?_
      refine RetP.mk2 (H' := _) (v1 := S _) (v2 := .int _ _) rfl rfl rfl  (Hp.le_refl _) ?_
      exact ⟨rfl, hS6.tail⟩
  ·
    rintro _ _ ⟨rfl, rfl⟩
    refine AnyW.onlyQ 2 rfl (by kernel_rfl) rfl (dst_lt rfl) (q_convInt rfl Try.underlying5 rfl) ?_
    refine AnyW.only 3 rfl (by kernel_rfl) rfl (dst_lt rfl) (s_buildSlice (z := .int .u8 0) (vs := nums .u8 [_]) hS0 Try.underlying44 (by kernel_rfl) (by kernel_rfl) rfl (by rfl) (by rfl) (by decide) rfl (nums_one _ _) rfl) ?_
    rintro v48 H7 hS7
    clear hS0
    refine AnyW.onlyQ 4 rfl (by kernel_rfl) rfl (dst_lt rfl) (q_stringVec (hS7.vec at0) Try.underlying44 Try.underlying5 Try.underlying9 rfl) ?_
    refine AnyW.onlyQ 5 rfl (by kernel_rfl) rfl (dst_lt rfl) (q_cat rfl rfl (by first | (with_reducible assumption) | omega | (unfold maxLen; omega) | (simp only [nums_length, List.length_set, List.length_replicate, List.length_take, List.length_drop, List.length_append, List.length_cons, List.length_nil, ofB_length, toB_length]; omega) | (simp only [nums_length, List.length_set, List.length_replicate, List.length_take, List.length_drop, List.length_append, List.length_cons, List.length_nil, ofB_length, toB_length]; unfold maxLen; omega) | (simp; done) | (simp; omega) | rfl | decide)) ?_
    refine AnyW.onlyQ 8 rfl (by kernel_rfl) rfl (dst_lt rfl) (q_cat rfl rfl (by first | (with_reducible assumption) | omega | (unfold maxLen; omega) | (simp only [nums_length, List.length_set, List.length_replicate, List.length_take, List.length_drop, List.length_append, List.length_cons, List.length_nil, ofB_length, toB_length]; omega) | (simp only [nums_length, List.length_set, List.length_replicate, List.length_take, List.length_drop, List.length_append, List.length_cons, List.length_nil, ofB_length, toB_length]; unfold maxLen; omega) | (simp; done) | (simp; omega) | rfl | decide)) ?_
    rw [show plain ++ toB [IntKind.u8.wrap kind] ++ List.replicate pad.toNat 0 = bxInner kind plain pad from rfl]
    refine AnyW.onlyQ 9 rfl (by kernel_rfl) rfl (dst_lt rfl) (q_assign (v := S _) rfl) ?_
    refine AnyW.done (by kernel_rfl) ?_
    refine SeqP.go ?_
    refine AW.seq ?_
    refine AW.region ?_
    refine OpsW.q rfl (q_move (v := S _) rfl) ?_
    refine OpsW.q rfl (q_lenS Try.underlying9 rfl) ?_
    refine OpsW.q rfl (q_addI rfl rfl (by omega)) ?_
    refine OpsW.q rfl (o_call rfl Try.func16 rfl rfl (head_con _ _ (by omega))) ?_
    rw [show headP 23 (((bxInner kind plain pad).length : Int) + 16) = bxHead kind plain pad from rfl]
    have hhl := bxHead_length kind plain pad
    refine OpsW.q rfl (q_assign (v := S _) rfl) ?_
    refine OpsW.nil ?_
    refine SeqP.go ?_
    refine AW.seq ?_
    refine AW.drawK [] 16 rfl (by kernel_rfl) ?_
    refine SeqK.q rfl (q_move (v := .pointer _) rfl) ?_
    refine SeqK.q rfl (q_nilCheck rfl) ?_
    refine SeqK.q rfl (q_fieldAddr (sz := 0) Try.underlying35 rfl (by kernel_rfl) rfl) ?_
    refine SeqK.q rfl (q_load (v := .int _ _) (by kernel_rfl) rfl (hS7.blk at1) rfl) ?_
    refine SeqK.q rfl (q_move (v := .pointer _) rfl) ?_
    refine SeqK.q rfl (q_nilCheck rfl) ?_
    refine SeqK.q rfl (q_fieldAddr (sz := 0) Try.underlying35 rfl (by kernel_rfl) rfl) ?_
    refine SeqK.q rfl (q_load (v := S _) (by kernel_rfl) rfl (hS7.blk at1) rfl) ?_
    refine SeqK.q rfl (q_move (v := S _) rfl) ?_
    refine SeqK.q rfl (q_move (v := S _) rfl) ?_
    refine SeqK.q rfl (q_move (v := S _) rfl) ?_
    refine SeqK.q rfl (o_call rfl Try.func17 rfl rfl (Seal_con (by omega) (by omega))) ?_
    refine SeqK.q rfl (q_move (v := .tuple _) rfl) ?_
    rw [show slSeal x.suite x.key (bxNonce x).1 (bxHead kind plain pad) (bxInner kind plain pad) = bxSealed x kind plain pad from rfl]
    refine SeqK.q rfl (q_extract (v := S _) rfl rfl) ?_
    refine SeqK.q rfl (q_extract (v := .int _ _) rfl rfl) ?_
    refine SeqK.q rfl (q_assign (v := S _) rfl) ?_
    refine SeqK.done ?_
    refine OpsW.q rfl (q_assign (v := .int _ _) rfl) ?_
    refine OpsW.nil ?_
    refine SeqP.go ?_
    refine AW.seq ?_
    refine AW.seq ?_
    refine AW.region ?_
    refine OpsW.q rfl (q_move (v := .int _ _) rfl) ?_
    refine OpsW.q rfl (q_neq rfl rfl) ?_
    refine OpsW.nil ?_
    refine SeqP.go ?_
    refine AW.cond rfl (fun h4 => ?_) (fun h4 => ?_)
    ·
      try simp only [eb22, eb30, decide_eq_true_eq, decide_eq_false_iff_not, Bool.or_eq_true, Bool.and_eq_true, Bool.or_eq_false_iff, Bool.and_eq_false_imp, Bool.not_eq_true', Bool.not_eq_false', ne_eq, Decidable.not_not, Int.not_lt, Int.not_le, Bool.not_eq_true, Bool.not_eq_false] at h4
      obtain ⟨e1, e2⟩ := bx_seal (x := x) hgood hok h3z h4
      rw [e1, e2]
      refine AW.seq ?_
      refine AW.region ?_
      refine OpsW.q rfl (q_move (v := .int _ _) rfl) ?_
      refine OpsW.q rfl (q_assign (v := S _) rfl) ?_
      refine OpsW.q rfl (q_assign (v := .int _ _) rfl) ?_
      refine OpsW.nil ?_
      refine SeqP.go ?_
      refine AW.ret ?_
      refine SeqP.ret ?_
      refine RetP.mk2 (H' := _) (v1 := S _) (v2 := .int _ _) rfl rfl rfl  (Hp.le_refl _) ?_
      exact ⟨rfl, hS7.tail⟩
    try simp only [eb22, eb30, decide_eq_true_eq, decide_eq_false_iff_not, Bool.or_eq_true, Bool.and_eq_true, Bool.or_eq_false_iff, Bool.and_eq_false_imp, Bool.not_eq_true', Bool.not_eq_false', ne_eq, Decidable.not_not, Int.not_lt, Int.not_le, Bool.not_eq_true, Bool.not_eq_false] at h4
    rw [e1, e2]
    refine AW.skip ?_
    refine SeqP.go ?_
    refine AW.seq ?_
    refine AW.region ?_
    refine OpsW.q rfl (q_move (v := .pointer _) rfl) ?_
    refine OpsW.q rfl (q_nilCheck rfl) ?_
    refine OpsW.q rfl (q_fieldAddr (sz := 0) Try.underlying35 rfl (by kernel_rfl) rfl) ?_
    refine OpsW.q rfl (q_load (v := .int _ _) (by kernel_rfl) rfl (hS7.blk at1) rfl) ?_
    refine OpsW.q rfl (q_addI rfl rfl (by omega)) ?_
    refine OpsW.q rfl (q_nilCheck rfl) ?_
    refine OpsW.q rfl (q_fieldAddr (sz := 0) Try.underlying35 rfl (by kernel_rfl) rfl) ?_
    refine OpsW.ms (s_storeC (v := .int _ _) hS7 at1 (by kernel_rfl) rfl rfl rfl (by first | (with_reducible assumption) | omega | (unfold maxLen; omega) | (simp only [nums_length, List.length_set, List.length_replicate, List.length_take, List.length_drop, List.length_append, List.length_cons, List.length_nil, ofB_length, toB_length]; omega) | (simp only [nums_length, List.length_set, List.length_replicate, List.length_take, List.length_drop, List.length_append, List.length_cons, List.length_nil, ofB_length, toB_length]; unfold maxLen; omega) | (simp; done) | (simp; omega) | rfl | decide)) ?_
    rintro _ H8 ⟨rfl, hS8⟩
    clear hS7
    refine OpsW.nil ?_
    refine SeqP.go ?_
    refine AW.seq ?_
    refine AW.region ?_
    refine OpsW.q rfl (q_move (v := S _) rfl) ?_
    refine OpsW.q rfl (q_move (v := S _) rfl) ?_
    refine OpsW.q rfl (q_cat rfl rfl (by first | (with_reducible assumption) | omega | (unfold maxLen; omega) | (simp only [nums_length, List.length_set, List.length_replicate, List.length_take, List.length_drop, List.length_append, List.length_cons, List.length_nil, ofB_length, toB_length]; omega) | (simp only [nums_length, List.length_set, List.length_replicate, List.length_take, List.length_drop, List.length_append, List.length_cons, List.length_nil, ofB_length, toB_length]; unfold maxLen; omega) | (simp; done) | (simp; omega) | rfl | decide)) ?_
    refine OpsW.q rfl (q_assign (v := S _) rfl) ?_
    refine OpsW.q rfl (q_assign (v := .int _ _) rfl) ?_
    refine OpsW.nil ?_
    refine SeqP.go ?_
    refine AW.ret ?_
    refine RetP.mk2 (H' := _) (v1 := S _) (v2 := .int _ _) rfl rfl rfl  (Hp.le_refl _) ?_
    exact ⟨rfl, hS8.tail⟩
theorem Count_con {b : Nat} {x : BoxS} (hb : H b = some (bxBlk x)) : Con Try.prog w0 7 #[.pointer (some ⟨b, 0, none⟩)] H (fun v H' => v = .int .i64 x.n ∧ H' = H) := by
  have hS0 : Sep H [] H := Sep.refl
  refine Con.intro Try.func7 rfl rfl ?_
  refine AW.seq ?_
  refine AW.region ?_
  refine OpsW.q rfl (q_assign (v := .int _ _) rfl) ?_
  refine OpsW.nil ?_
  refine SeqP.go ?_
  refine AW.seq ?_
  refine AW.seq ?_
  refine AW.region ?_
  refine OpsW.q rfl (q_move (v := .pointer _) rfl) ?_
  refine OpsW.q rfl (q_eqlP Try.underlying24 rfl rfl) ?_
  refine OpsW.nil ?_
  refine SeqP.go ?_
  refine AW.cond rfl (fun h0 => ?_) (fun h0 => ?_)
  ·
    exfalso
    try simp only [decide_eq_true_eq, decide_eq_false_iff_not, Bool.or_eq_true, Bool.and_eq_true, Bool.or_eq_false_iff, Bool.and_eq_false_imp, Bool.not_eq_true', Bool.not_eq_false', ne_eq, Decidable.not_not, Int.not_lt, Int.not_le, Bool.not_eq_true, Bool.not_eq_false] at h0
    first | contradiction | (simp at *; done) | simp_all
  try simp only [decide_eq_true_eq, decide_eq_false_iff_not, Bool.or_eq_true, Bool.and_eq_true, Bool.or_eq_false_iff, Bool.and_eq_false_imp, Bool.not_eq_true', Bool.not_eq_false', ne_eq, Decidable.not_not, Int.not_lt, Int.not_le, Bool.not_eq_true, Bool.not_eq_false] at h0
  refine AW.skip ?_
  refine SeqP.go ?_
  refine AW.seq ?_
  refine AW.region ?_
  refine OpsW.q rfl (q_move (v := .pointer _) rfl) ?_
  refine OpsW.q rfl (q_nilCheck rfl) ?_
  refine OpsW.q rfl (q_fieldAddr (sz := 0) Try.underlying35 rfl (by kernel_rfl) rfl) ?_
  refine OpsW.q rfl (q_load (v := .int _ _) (by kernel_rfl) rfl (hS0.old hb) rfl) ?_
  refine OpsW.q rfl (q_assign (v := .int _ _) rfl) ?_
  refine OpsW.nil ?_
  refine SeqP.go ?_
  refine AW.ret ?_
  refine RetP.mk1 (H' := H) (v1 := .int _ _) rfl rfl  hS0.le ?_
  exact ⟨rfl, rfl⟩
end
end Go.Proofs.Ytfpoldogcopmpaa
end
section
namespace Go.Proofs.Ytfpoldogcopmpaa
open Go Go.RowKit D
set_option linter.unusedVariables false
set_option linter.unusedSimpArgs false
set_option maxRecDepth 100000
theorem awF1 : feedP [] 0 [22, 3] = (0, [22, 3]) := feedP_ok (by decide)
theorem awN1 : nextP [22, 3] 0 = ((0, [], 33), ([22, 3], 0)) := nextP_busy (by rw [sizeP_short (badP_not3 (by decide +kernel)) (by decide)])
theorem awF2 : feedP [22, 3] 0 [4] = (0, [22, 3, 4]) := feedP_ok (by decide)
theorem awN2 : nextP [22, 3, 4] 0 = ((0, [], 11), ([22, 3, 4], 11)) := by
  have h := sizeP_bad (s := [22, 3, 4]) (badP_of3 (by decide) (by decide +kernel))
  rw [nextP_wrong (by rw [h]; decide) (by rw [h]; decide), h]
theorem awFr : frameP 22 [97, 98] = ([22, 3, 3, 0, 2, 97, 98], 0) := by
  rw [frameP_ok (by decide +kernel) (by decide)]
  rfl
def fr (ss : List (List UInt8)) (i : Nat) : List UInt8 := headP (20 + (i : Int) % 4) (ss.getD i []).length ++ ss.getD i []
end Go.Proofs.Ytfpoldogcopmpaa
end
section
namespace Go.Proofs.Ytfpoldogcopmpaa
open Go Go.RowKit D
set_option linter.unusedVariables false
set_option linter.unusedSimpArgs false
set_option maxRecDepth 100000
set_option maxHeartbeats 1000000
section
variable {w0 : World} {H : Hp}
theorem feed_at {bR : Nat} (s : List UInt8) (e : Int) (d : List UInt8) (hs : s.length ≤ 1048576) (hd : d.length ≤ 1000000) : Con Try.prog w0 11 #[.pointer (some ⟨bR, 0, none⟩), S d] (H.set bR ⟨[S s, .int .i64 e], 2, 49⟩)
    (fun v H' => v = .int .i64 (feedP s e d).1 ∧ H' = H.set bR ⟨[S (feedP s e d).2, .int .i64 e], 2, 49⟩) := (feed_con s e d Hp.set_self hs hd).mono (by rintro _ _ ⟨h1, h2⟩; exact ⟨h1, h2.trans Hp.set_set⟩)
theorem next_at {bR : Nat} (s : List UInt8) (e : Int) (hs : s.length ≤ 1048576) : Con Try.prog w0 12 #[.pointer (some ⟨bR, 0, none⟩)] (H.set bR ⟨[S s, .int .i64 e], 2, 49⟩)
    (fun v H' => v = .tuple #[.int .i64 (nextP s e).1.1, S (nextP s e).1.2.1, .int .i64 (nextP s e).1.2.2] ∧ H' = H.set bR ⟨[S (nextP s e).2.1, .int .i64 (nextP s e).2.2], 2, 49⟩) := (next_con s e Hp.set_self hs).mono (by rintro _ _ ⟨h1, h2⟩; exact ⟨h1, h2.trans Hp.set_set⟩)
theorem awake_con : Con Try.prog w0 5 #[] H (fun v H' => v = .bool true ∧ H' = H) := by
  refine Con.intro Try.func5 rfl rfl ?_
  refine AW.seq ?_
  refine AW.region ?_
  refine OpsW.q rfl (q_assign (v := .bool _) rfl) ?_
  refine OpsW.nil ?_
  refine SeqP.go ?_
  refine AW.seq ?_
  refine AW.region ?_
  refine OpsW.x rfl (o_call rfl Try.func9 rfl rfl (frame_con 22 [97, 98] (by decide))) ?_
  rw [awFr]
  refine OpsW.q rfl (q_move (v := .tuple _) rfl) ?_
  refine OpsW.q rfl (q_extract (v := S _) rfl rfl) ?_
  refine OpsW.q rfl (q_extract (v := .int _ _) rfl rfl) ?_
  refine OpsW.q rfl (q_assign (v := S _) rfl) ?_
  refine OpsW.q rfl (q_assign (v := .int _ _) rfl) ?_
  refine OpsW.nil ?_
  refine SeqP.go ?_
  refine AW.seq ?_
  refine AW.region ?_
  refine OpsW.m rfl (o_call rfl Try.func10 rfl rfl (NewReader_con)) ?_
  rintro _ _ ⟨b14, hb14, rfl, rfl⟩
  refine OpsW.q rfl (q_assign (v := .pointer _) rfl) ?_
  refine OpsW.nil ?_
  refine SeqP.go ?_
  refine AW.seq ?_
  refine AW.seq ?_
  refine AW.region ?_
  refine OpsW.q rfl (q_move (v := .pointer _) rfl) ?_
  refine OpsW.q rfl (q_eqlP Try.underlying37 rfl rfl) ?_
  refine OpsW.nil ?_
  refine SeqP.go ?_
  refine AW.cond rfl (fun h0 => ?_) (fun h0 => ?_)
  ·
    exfalso
    try simp only [decide_eq_true_eq, decide_eq_false_iff_not, Bool.or_eq_true, Bool.and_eq_true, Bool.or_eq_false_iff, Bool.and_eq_false_imp, Bool.not_eq_true', Bool.not_eq_false', ne_eq, Decidable.not_not, Int.not_lt, Int.not_le, Bool.not_eq_true, Bool.not_eq_false] at h0
    cases h0
  try simp only [decide_eq_true_eq, decide_eq_false_iff_not, Bool.or_eq_true, Bool.and_eq_true, Bool.or_eq_false_iff, Bool.and_eq_false_imp, Bool.not_eq_true', Bool.not_eq_false', ne_eq, Decidable.not_not, Int.not_lt, Int.not_le, Bool.not_eq_true, Bool.not_eq_false] at h0
  refine AW.skip ?_
  refine SeqP.go ?_
  refine AW.seq ?_
  refine AW.region ?_
  refine OpsW.q rfl (q_move (v := .pointer _) rfl) ?_
  refine OpsW.x rfl (o_call rfl Try.func11 rfl rfl (feed_at [] 0 [22, 3] (by decide) (by decide))) ?_
  rw [awF1]
  refine OpsW.nil ?_
  refine SeqP.go ?_
  refine AW.seq ?_
  refine AW.region ?_
  refine OpsW.q rfl (q_move (v := .pointer _) rfl) ?_
  refine OpsW.x rfl (o_call rfl Try.func12 rfl rfl (next_at [22, 3] 0 (by decide))) ?_
  rw [awN1]
  refine OpsW.q rfl (q_move (v := .tuple _) rfl) ?_
  refine OpsW.q rfl (q_extract (v := .int _ _) rfl rfl) ?_
  refine OpsW.q rfl (q_extract (v := S _) rfl rfl) ?_
  refine OpsW.q rfl (q_extract (v := .int _ _) rfl rfl) ?_
  refine OpsW.q rfl (q_assign (v := .int _ _) rfl) ?_
  refine OpsW.q rfl (q_assign (v := S _) rfl) ?_
  refine OpsW.q rfl (q_assign (v := .int _ _) rfl) ?_
  refine OpsW.nil ?_
  refine SeqP.go ?_
  refine AW.seq ?_
  refine AW.region ?_
  refine OpsW.q rfl (q_move (v := .pointer _) rfl) ?_
  refine OpsW.x rfl (o_call rfl Try.func11 rfl rfl (feed_at [22, 3] 0 [4] (by decide) (by decide))) ?_
  rw [awF2]
  refine OpsW.nil ?_
  refine SeqP.go ?_
  refine AW.seq ?_
  refine AW.region ?_
  refine OpsW.q rfl (q_move (v := .pointer _) rfl) ?_
  refine OpsW.x rfl (o_call rfl Try.func12 rfl rfl (next_at [22, 3, 4] 0 (by decide))) ?_
  rw [awN2]
  refine OpsW.q rfl (q_move (v := .tuple _) rfl) ?_
  refine OpsW.q rfl (q_extract (v := .int _ _) rfl rfl) ?_
  refine OpsW.q rfl (q_extract (v := S _) rfl rfl) ?_
  refine OpsW.q rfl (q_extract (v := .int _ _) rfl rfl) ?_
  refine OpsW.q rfl (q_assign (v := .int _ _) rfl) ?_
  refine OpsW.q rfl (q_assign (v := S _) rfl) ?_
  refine OpsW.q rfl (q_assign (v := .int _ _) rfl) ?_
  refine OpsW.nil ?_
  refine SeqP.go ?_
  refine AW.seq ?_
  refine AW.region ?_
  refine OpsW.q rfl (q_move (v := .int _ _) rfl) ?_
  refine OpsW.q rfl (q_eql rfl rfl) ?_
  refine OpsW.qb rfl (q_move (v := .bool _) rfl) ?_
  intro b35 eb35
  refine OpsW.g rfl rfl rfl (fun hB => by simp only [Bool.and_eq_true, beq_iff_eq] at hB; obtain rfl := hB; exact (q_move (v := S _) rfl)) ?_
  refine OpsW.g rfl rfl rfl (fun hB => by simp only [Bool.and_eq_true, beq_iff_eq] at hB; obtain rfl := hB; exact (q_eqS rfl rfl)) ?_
  refine OpsW.q rfl (q_and2 rfl rfl rfl) ?_
  refine OpsW.qb rfl (q_move (v := .bool _) rfl) ?_
  intro b39 eb39
  refine OpsW.g rfl rfl rfl (fun hB => by simp only [Bool.and_eq_true, beq_iff_eq] at hB; obtain rfl := hB; exact (q_move (v := .int _ _) rfl)) ?_
  refine OpsW.g rfl rfl rfl (fun hB => by simp only [Bool.and_eq_true, beq_iff_eq] at hB; obtain rfl := hB; exact (q_eql rfl rfl)) ?_
  refine OpsW.q rfl (q_and2 rfl rfl rfl) ?_
  refine OpsW.qb rfl (q_move (v := .bool _) rfl) ?_
  intro b43 eb43
  refine OpsW.g rfl rfl rfl (fun hB => by simp only [Bool.and_eq_true, beq_iff_eq] at hB; obtain rfl := hB; exact (q_move (v := .int _ _) rfl)) ?_
  refine OpsW.g rfl rfl rfl (fun hB => by simp only [Bool.and_eq_true, beq_iff_eq] at hB; obtain rfl := hB; exact (q_eql rfl rfl)) ?_
  refine OpsW.q rfl (q_and2 rfl rfl rfl) ?_
  refine OpsW.q rfl (q_assign (v := .bool _) rfl) ?_
  refine OpsW.nil ?_
  refine SeqP.go ?_
  refine AW.ret ?_
  refine RetP.mk1 (H' := H) (v1 := .bool _) rfl rfl  (by first | exact (Hp.le_refl _) | exact (Hp.le_set (by first | assumption | exact Hp.set_none (by assumption) (by first | assumption | exact Ne.symm (by assumption)) | exact Hp.set_none (Hp.set_none (by assumption) (by first | assumption | exact Ne.symm (by assumption))) (by first | assumption | exact Ne.symm (by assumption))) (Hp.le_refl _)) | exact (Hp.le_set (by first | assumption | exact Hp.set_none (by assumption) (by first | assumption | exact Ne.symm (by assumption)) | exact Hp.set_none (Hp.set_none (by assumption) (by first | assumption | exact Ne.symm (by assumption))) (by first | assumption | exact Ne.symm (by assumption))) (Hp.le_set (by first | assumption | exact Hp.set_none (by assumption) (by first | assumption | exact Ne.symm (by assumption)) | exact Hp.set_none (Hp.set_none (by assumption) (by first | assumption | exact Ne.symm (by assumption))) (by first | assumption | exact Ne.symm (by assumption))) (Hp.le_refl _))) | exact (Hp.le_set (by first | assumption | exact Hp.set_none (by assumption) (by first | assumption | exact Ne.symm (by assumption)) | exact Hp.set_none (Hp.set_none (by assumption) (by first | assumption | exact Ne.symm (by assumption))) (by first | assumption | exact Ne.symm (by assumption))) (Hp.le_set (by first | assumption | exact Hp.set_none (by assumption) (by first | assumption | exact Ne.symm (by assumption)) | exact Hp.set_none (Hp.set_none (by assumption) (by first | assumption | exact Ne.symm (by assumption))) (by first | assumption | exact Ne.symm (by assumption))) (Hp.le_set (by first | assumption | exact Hp.set_none (by assumption) (by first | assumption | exact Ne.symm (by assumption)) | exact Hp.set_none (Hp.set_none (by assumption) (by first | assumption | exact Ne.symm (by assumption))) (by first | assumption | exact Ne.symm (by assumption))) (Hp.le_refl _)))) | exact (Hp.le_set (by first | assumption | exact Hp.set_none (by assumption) (by first | assumption | exact Ne.symm (by assumption)) | exact Hp.set_none (Hp.set_none (by assumption) (by first | assumption | exact Ne.symm (by assumption))) (by first | assumption | exact Ne.symm (by assumption))) (Hp.le_set (by first | assumption | exact Hp.set_none (by assumption) (by first | assumption | exact Ne.symm (by assumption)) | exact Hp.set_none (Hp.set_none (by assumption) (by first | assumption | exact Ne.symm (by assumption))) (by first | assumption | exact Ne.symm (by assumption))) (Hp.le_set (by first | assumption | exact Hp.set_none (by assumption) (by first | assumption | exact Ne.symm (by assumption)) | exact Hp.set_none (Hp.set_none (by assumption) (by first | assumption | exact Ne.symm (by assumption))) (by first | assumption | exact Ne.symm (by assumption))) (Hp.le_set (by first | assumption | exact Hp.set_none (by assumption) (by first | assumption | exact Ne.symm (by assumption)) | exact Hp.set_none (Hp.set_none (by assumption) (by first | assumption | exact Ne.symm (by assumption))) (by first | assumption | exact Ne.symm (by assumption))) (Hp.le_refl _))))) | exact (Hp.le_set (by first | assumption | exact Hp.set_none (by assumption) (by first | assumption | exact Ne.symm (by assumption)) | exact Hp.set_none (Hp.set_none (by assumption) (by first | assumption | exact Ne.symm (by assumption))) (by first | assumption | exact Ne.symm (by assumption))) (Hp.le_set (by first | assumption | exact Hp.set_none (by assumption) (by first | assumption | exact Ne.symm (by assumption)) | exact Hp.set_none (Hp.set_none (by assumption) (by first | assumption | exact Ne.symm (by assumption))) (by first | assumption | exact Ne.symm (by assumption))) (Hp.le_set (by first | assumption | exact Hp.set_none (by assumption) (by first | assumption | exact Ne.symm (by assumption)) | exact Hp.set_none (Hp.set_none (by assumption) (by first | assumption | exact Ne.symm (by assumption))) (by first | assumption | exact Ne.symm (by assumption))) (Hp.le_set (by first | assumption | exact Hp.set_none (by assumption) (by first | assumption | exact Ne.symm (by assumption)) | exact Hp.set_none (Hp.set_none (by assumption) (by first | assumption | exact Ne.symm (by assumption))) (by first | assumption | exact Ne.symm (by assumption))) (Hp.le_set (by first | assumption | exact Hp.set_none (by assumption) (by first | assumption | exact Ne.symm (by assumption)) | exact Hp.set_none (Hp.set_none (by assumption) (by first | assumption | exact Ne.symm (by assumption))) (by first | assumption | exact Ne.symm (by assumption))) (Hp.le_refl _))))))) ?_
  refine ⟨?_, rfl⟩
  simp_all
end
end Go.Proofs.Ytfpoldogcopmpaa
end
section
namespace Go.Proofs.Ytfpoldogcopmpaa
open Go Go.RowKit D
set_option linter.unusedVariables false
set_option linter.unusedSimpArgs false
set_option maxRecDepth 100000
set_option maxHeartbeats 2000000
section
variable {w0 : World} {H : Hp} {H0 : Hp}
theorem NewBox_ok {suite : Int} {key iv : List UInt8} (h : boxE suite key iv = 0) : Con Try.prog w0 4 #[.int .i64 suite, S key, S iv] H (fun v H' => ∃ b, v = .tuple #[.pointer (some ⟨b, 0, none⟩), .int .i64 0] ∧ Sep H [.blk b (bxBlk ⟨suite, key, iv, 0⟩)] H') :=
  (NewBox_s suite key iv).mono fun _ _ h1 => h1.elim (fun h2 => absurd h h2.1) (fun h2 => h2.2)
theorem NewBox_bad {suite : Int} {key iv : List UInt8} (h : ¬ boxE suite key iv = 0) : Con Try.prog w0 4 #[.int .i64 suite, S key, S iv] H (fun v H' => v = .tuple #[.pointer none, .int .i64 (boxE suite key iv)] ∧ H' = H) :=
  (NewBox_s suite key iv).mono fun _ _ h1 => h1.elim (fun h2 => h2.2) (fun h2 => absurd h2.1 h)
theorem bSeal_e {b : Nat} {suite : Int} {key iv text : List UInt8} {pad : Int} {i : Nat} (hS0 : Sep H0 [.blk b (bxBlk ⟨suite, key, iv, i⟩)] H) (h : BoxOk ⟨suite, key, iv, 0⟩) (hi : i < 3) (ht : text.length ≤ 2000) (hp : 0 ≤ pad ∧ pad ≤ 200) :
    Con Try.prog w0 6 #[.pointer (some ⟨b, 0, none⟩), .int .i64 23, S text, .int .i64 pad] H (fun v H' => v = .tuple #[S (bxSeal ⟨suite, key, iv, i⟩ 23 text pad).1, .int .i64 0] ∧ Sep H0 [.blk b (bxBlk ⟨suite, key, iv, ((i + 1 : Nat) : Int)⟩)] H') := by
  obtain ⟨e1, e2, _, _⟩ := bx_row h hi ht hp
  have := bSeal_s (w0 := w0) (plain := text) hS0 ⟨h.1, h.2.1, by show (0 : Int) ≤ (i : Int); omega, by show (i : Int) ≤ 65536; omega⟩ 23 pad (by unfold maxLen; omega)
  rw [e1, e2] at this
  exact this
theorem sizes_con (suite : Int) (key iv text : List UInt8) (pad : Int) : Con Try.prog w0 3 #[.agg #[.int .i64 suite, S key, S iv], S text, .int .i64 pad] H (fun v H' => v = .bool true ∧ H' = H) := by
  have hS0 : Sep H [] H := Sep.refl
  refine Con.intro Try.func3 rfl rfl ?_
  refine AW.seq ?_
  refine AW.region ?_
  refine OpsW.m rfl (s_box (v := .agg _) hS0 rfl rfl) ?_
  rintro _ H1 ⟨b3, rfl, hS1⟩
  clear hS0
  refine OpsW.q rfl (q_assign (v := .bool _) rfl) ?_
  refine OpsW.nil ?_
  refine SeqP.go ?_
  refine AW.seq ?_
  by_cases hz : boxE suite key iv = 0
  ·
    have hok := box_ok hz
    refine AW.region ?_
    refine OpsW.q rfl (q_fieldAddr (sz := 0) Try.underlying23 rfl (by kernel_rfl) rfl) ?_
    refine OpsW.q rfl (q_load (v := .int _ _) (by kernel_rfl) rfl (hS1.blk at0) rfl) ?_
    refine OpsW.q rfl (q_fieldAddr (sz := 0) Try.underlying23 rfl (by kernel_rfl) rfl) ?_
    refine OpsW.q rfl (q_load (v := S _) (by kernel_rfl) rfl (hS1.blk at0) rfl) ?_
    refine OpsW.q rfl (q_fieldAddr (sz := 0) Try.underlying23 rfl (by kernel_rfl) rfl) ?_
    refine OpsW.q rfl (q_load (v := S _) (by kernel_rfl) rfl (hS1.blk at0) rfl) ?_
    refine OpsW.m rfl (o_call rfl Try.func4 rfl rfl (NewBox_ok hz)) ?_
    rintro _ H2 ⟨b19, rfl, hR2⟩
    have hS2 := hS1.join hR2
    simp only [List.cons_append, List.nil_append] at hS2
    clear hR2 hS1
    refine OpsW.q rfl (q_move (v := .tuple _) rfl) ?_
    refine OpsW.q rfl (q_extract (v := .pointer _) rfl rfl) ?_
    refine OpsW.q rfl (q_extract (v := .int _ _) rfl rfl) ?_
    refine OpsW.q rfl (q_assign (v := .pointer _) rfl) ?_
    refine OpsW.q rfl (q_assign (v := .int _ _) rfl) ?_
    refine OpsW.nil ?_
    refine SeqP.go ?_
    refine AW.seq ?_
    refine AW.seq ?_
    refine AW.region ?_
    refine OpsW.q rfl (q_move (v := .int _ _) rfl) ?_
    refine OpsW.q rfl (q_neq rfl rfl) ?_
    refine OpsW.qb rfl (q_move (v := .bool _) rfl) ?_
    intro b24 eb24
    refine OpsW.g rfl rfl rfl (fun hB => by simp only [Bool.and_eq_true, beq_iff_eq] at hB; obtain rfl := hB; exact (q_move (v := S _) rfl)) ?_
    refine OpsW.g rfl rfl rfl (fun hB => by simp only [Bool.and_eq_true, beq_iff_eq] at hB; obtain rfl := hB; exact (q_lenS Try.underlying9 rfl)) ?_
    refine OpsW.g rfl rfl rfl (fun hB => by simp only [Bool.and_eq_true, beq_iff_eq] at hB; obtain rfl := hB; exact (q_gtr rfl rfl)) ?_
    refine OpsW.q rfl (q_or2 rfl rfl rfl) ?_
    refine OpsW.qb rfl (q_move (v := .bool _) rfl) ?_
    intro b29 eb29
    refine OpsW.g rfl rfl rfl (fun hB => by simp only [Bool.and_eq_true, beq_iff_eq] at hB; obtain rfl := hB; exact (q_move (v := .int _ _) rfl)) ?_
    refine OpsW.g rfl rfl rfl (fun hB => by simp only [Bool.and_eq_true, beq_iff_eq] at hB; obtain rfl := hB; exact (q_lss rfl rfl)) ?_
    refine OpsW.q rfl (q_or2 rfl rfl rfl) ?_
    refine OpsW.qb rfl (q_move (v := .bool _) rfl) ?_
    intro b33 eb33
    refine OpsW.g rfl rfl rfl (fun hB => by simp only [Bool.and_eq_true, beq_iff_eq] at hB; obtain rfl := hB; exact (q_move (v := .int _ _) rfl)) ?_
    refine OpsW.g rfl rfl rfl (fun hB => by simp only [Bool.and_eq_true, beq_iff_eq] at hB; obtain rfl := hB; exact (q_gtr rfl rfl)) ?_
    refine OpsW.q rfl (q_or2 rfl rfl rfl) ?_
    refine OpsW.nil ?_
    refine SeqP.go ?_
    refine AW.cond rfl (fun h0 => ?_) (fun h0 => ?_)
    ·
      try simp only [eb24, eb29, eb33, decide_eq_true_eq, decide_eq_false_iff_not, Bool.or_eq_true, Bool.and_eq_true, Bool.or_eq_false_iff, Bool.and_eq_false_imp, Bool.not_eq_true', Bool.not_eq_false', ne_eq, Decidable.not_not, Int.not_lt, Int.not_le, Bool.not_eq_true, Bool.not_eq_false] at h0
      refine AW.seq ?_
      refine AW.region ?_
      refine OpsW.q rfl (q_move (v := .int _ _) rfl) ?_
      refine OpsW.q rfl (q_eql rfl rfl) ?_
      refine OpsW.qb rfl (q_move (v := .bool _) rfl) ?_
      intro b39 eb39
      refine OpsW.g rfl rfl rfl (fun hB => by simp only [Bool.and_eq_true, beq_iff_eq] at hB; obtain rfl := hB; exact (q_move (v := .pointer _) rfl)) ?_
      refine OpsW.g rfl rfl rfl (fun hB => by simp only [Bool.and_eq_true, beq_iff_eq] at hB; obtain rfl := hB; exact (q_eqlP Try.underlying24 rfl rfl)) ?_
      refine OpsW.q rfl (q_or2 rfl rfl rfl) ?_
      refine OpsW.qb rfl (q_move (v := .bool _) rfl) ?_
      intro b43 eb43
      refine OpsW.g rfl rfl rfl (fun hB => by simp only [Bool.and_eq_true, beq_iff_eq] at hB; obtain rfl := hB; exact (o_call rfl Try.func5 rfl rfl (awake_con))) ?_
      refine OpsW.q rfl (q_and2 rfl rfl rfl) ?_
      refine OpsW.q rfl (q_assign (v := .bool _) rfl) ?_
      refine OpsW.nil ?_
      refine SeqP.go ?_
      refine AW.ret ?_
      refine SeqP.ret ?_
      refine RetP.mk1 (H' := H) (v1 := .bool _) rfl rfl  hS2.le ?_
      refine ⟨?_, rfl⟩
      simp_all
    try simp only [eb24, eb29, eb33, decide_eq_true_eq, decide_eq_false_iff_not, Bool.or_eq_true, Bool.and_eq_true, Bool.or_eq_false_iff, Bool.and_eq_false_imp, Bool.not_eq_true', Bool.not_eq_false', ne_eq, Decidable.not_not, Int.not_lt, Int.not_le, Bool.not_eq_true, Bool.not_eq_false] at h0
    have hin : text.length ≤ 2000 ∧ (0 ≤ pad ∧ pad ≤ 200) := by simp_all <;> omega
    refine AW.skip ?_
    refine SeqP.go ?_
    refine AW.seq ?_
    refine AW.seq ?_
    refine AW.region ?_
    refine OpsW.q rfl (q_assign (v := .int _ _) rfl) ?_
    refine OpsW.nil ?_
    refine SeqP.go ?_
    refine AW.block ?_
    refine AW.loop (fun m_ e_ H_ => ∃ (i : Nat) (e0 : Env), m_ = 3 - i ∧ (i ≤ 3) ∧ e_ = upds e0 [(1, S text), (2, .int .i64 pad), (7, .pointer (some ⟨b19, 0, none⟩)), (9, .int .i64 (i : Int))] ∧ Sep H [.blk b19 (bxBlk ⟨suite, key, iv, (i : Int)⟩), .blk b3 ⟨[.int .i64 suite, S key, S iv], 3, 23⟩] H_) _ ⟨0, _, rfl, (by omega), Slots.eq ⟨(by first | rfl | exact i64_int (by omega) (by omega) (by omega) | assumption), (by first | rfl | exact i64_int (by omega) (by omega) (by omega) | assumption), (by first | rfl | exact i64_int (by omega) (by omega) (by omega) | assumption), (by first | rfl | exact i64_int (by omega) (by omega) (by omega) | assumption),  trivial⟩, hS2⟩ ?_
    rintro m_ _ Hl0 ⟨i, e0, rfl, hf, rfl, hSl0⟩
    try clear hS2
    refine AW.seq ?_
    refine AW.seq ?_
    refine AW.region ?_
    refine OpsW.q rfl (q_move (v := .int _ _) rfl) ?_
    refine OpsW.q rfl (q_lss rfl rfl) ?_
    refine OpsW.nil ?_
    refine SeqP.go ?_
    refine AW.cond2 rfl (fun h1 => ?_) (fun h1 => ?_)
    ·
      try simp only [eb24, eb29, eb33, decide_eq_true_eq, decide_eq_false_iff_not, Bool.or_eq_true, Bool.and_eq_true, Bool.or_eq_false_iff, Bool.and_eq_false_imp, Bool.not_eq_true', Bool.not_eq_false', ne_eq, Decidable.not_not, Int.not_lt, Int.not_le, Bool.not_eq_true, Bool.not_eq_false] at h1
      refine AW.exit ?_
      refine SeqP.exit ?_
      refine LoopP.exit ?_
      refine BlockP.here ?_
      refine SeqP.go ?_
      refine AW.seq ?_
      refine AW.region ?_
      refine OpsW.q rfl (o_call rfl Try.func5 rfl rfl (awake_con)) ?_
      refine OpsW.q rfl (q_assign (v := .bool _) rfl) ?_
      refine OpsW.nil ?_
      refine SeqP.go ?_
      refine AW.ret ?_
      refine RetP.mk1 (H' := H) (v1 := .bool _) rfl rfl  hSl0.le ?_
      refine ⟨?_, rfl⟩
      simp_all
    try simp only [eb24, eb29, eb33, decide_eq_true_eq, decide_eq_false_iff_not, Bool.or_eq_true, Bool.and_eq_true, Bool.or_eq_false_iff, Bool.and_eq_false_imp, Bool.not_eq_true', Bool.not_eq_false', ne_eq, Decidable.not_not, Int.not_lt, Int.not_le, Bool.not_eq_true, Bool.not_eq_false] at h1
    refine AW.skip ?_
    refine SeqP.go ?_
    refine AW.seq ?_
    refine AW.block ?_
    refine AW.seq ?_
    refine AW.region ?_
    refine OpsW.q rfl (q_move (v := .pointer _) rfl) ?_
    refine OpsW.q rfl (q_move (v := S _) rfl) ?_
    refine OpsW.q rfl (q_move (v := .int _ _) rfl) ?_
    obtain ⟨Hf3, le3, hA3, hB3⟩ := hSl0.framed at0
    refine OpsW.m rfl (o_call rfl Try.func6 rfl rfl (bSeal_e hA3 hok (by omega) hin.1 hin.2)) ?_
    rintro _ H3 ⟨rfl, hR3⟩
    have hS3 := hB3 _ _ hR3
    clear hR3 hB3 hA3
    clear hSl0
    refine OpsW.q rfl (q_move (v := .tuple _) rfl) ?_
    refine OpsW.q rfl (q_extract (v := S _) rfl rfl) ?_
    refine OpsW.q rfl (q_extract (v := .int _ _) rfl rfl) ?_
    refine OpsW.q rfl (q_assign (v := S _) rfl) ?_
    refine OpsW.q rfl (q_assign (v := .int _ _) rfl) ?_
    refine OpsW.nil ?_
    refine SeqP.go ?_
    refine AW.seq ?_
    refine AW.region ?_
    refine OpsW.q rfl (q_move (v := .int _ _) rfl) ?_
    refine OpsW.q rfl (q_neq rfl rfl) ?_
    refine OpsW.qb rfl (q_move (v := .bool _) rfl) ?_
    intro b59 eb59
    refine OpsW.g rfl rfl rfl (fun hB => by simp only [Bool.and_eq_true, beq_iff_eq] at hB; obtain rfl := hB; exact (q_move (v := S _) rfl)) ?_
    refine OpsW.g rfl rfl rfl (fun hB => by simp only [Bool.and_eq_true, beq_iff_eq] at hB; obtain rfl := hB; exact (q_lenS Try.underlying9 rfl)) ?_
    refine OpsW.g rfl rfl rfl (fun hB => by simp only [Bool.and_eq_true, beq_iff_eq] at hB; obtain rfl := hB; exact (q_move (v := S _) rfl)) ?_
    refine OpsW.g rfl rfl rfl (fun hB => by simp only [Bool.and_eq_true, beq_iff_eq] at hB; obtain rfl := hB; exact (q_lenS Try.underlying9 rfl)) ?_
    refine OpsW.g rfl rfl rfl (fun hB => by simp only [Bool.and_eq_true, beq_iff_eq] at hB; obtain rfl := hB; exact (q_move (v := .int _ _) rfl)) ?_
    refine OpsW.g rfl rfl rfl (fun hB => by simp only [Bool.and_eq_true, beq_iff_eq] at hB; obtain rfl := hB; (try simp only [eb24, eb29, eb33, Bool.true_eq, Bool.false_eq, decide_eq_true_eq, Bool.and_eq_true, Bool.or_eq_true, Bool.or_eq_false_iff, Bool.not_eq_true', decide_eq_false_iff_not, Int.not_lt, Int.not_le] at eb59); exact (q_addI rfl rfl (by omega))) ?_
    refine OpsW.g rfl rfl rfl (fun hB => by simp only [Bool.and_eq_true, beq_iff_eq] at hB; obtain rfl := hB; (try simp only [eb24, eb29, eb33, Bool.true_eq, Bool.false_eq, decide_eq_true_eq, Bool.and_eq_true, Bool.or_eq_true, Bool.or_eq_false_iff, Bool.not_eq_true', decide_eq_false_iff_not, Int.not_lt, Int.not_le] at eb59); exact (q_addI rfl rfl (by omega))) ?_
    refine OpsW.g rfl rfl rfl (fun hB => by simp only [Bool.and_eq_true, beq_iff_eq] at hB; obtain rfl := hB; exact (q_neq rfl rfl)) ?_
    refine OpsW.q rfl (q_or2 rfl rfl rfl) ?_
    refine OpsW.qb rfl (q_move (v := .bool _) rfl) ?_
    intro b69 eb69
    refine OpsW.g rfl rfl rfl (fun hB => by simp only [Bool.and_eq_true, beq_iff_eq] at hB; obtain rfl := hB; exact (q_move (v := S _) rfl)) ?_
    refine OpsW.g rfl rfl rfl (fun hB => by simp only [Bool.and_eq_true, beq_iff_eq] at hB; obtain rfl := hB; (try simp only [eb24, eb29, eb33, eb59, Bool.true_eq, Bool.false_eq, decide_eq_true_eq, Bool.and_eq_true, Bool.or_eq_true, Bool.or_eq_false_iff, Bool.not_eq_true', decide_eq_false_iff_not, Int.not_lt, Int.not_le] at eb69); exact (q_indexS Try.underlying9 rfl rfl (by first | omega | decide) (by first | omega | decide))) ?_
    refine OpsW.g rfl rfl rfl (fun hB => by simp only [Bool.and_eq_true, beq_iff_eq] at hB; obtain rfl := hB; exact (q_neq rfl rfl)) ?_
    refine OpsW.q rfl (q_or2 rfl rfl rfl) ?_
    refine OpsW.qb rfl (q_move (v := .bool _) rfl) ?_
    intro b74 eb74
    refine OpsW.g rfl rfl rfl (fun hB => by simp only [Bool.and_eq_true, beq_iff_eq] at hB; obtain rfl := hB; exact (q_move (v := .pointer _) rfl)) ?_
    refine OpsW.g rfl rfl rfl (fun hB => by simp only [Bool.and_eq_true, beq_iff_eq] at hB; obtain rfl := hB; exact (o_call rfl Try.func7 rfl rfl (Count_con (hS3.blk at0)))) ?_
    refine OpsW.g rfl rfl rfl (fun hB => by simp only [Bool.and_eq_true, beq_iff_eq] at hB; obtain rfl := hB; exact (q_move (v := .int _ _) rfl)) ?_
    refine OpsW.g rfl rfl rfl (fun hB => by simp only [Bool.and_eq_true, beq_iff_eq] at hB; obtain rfl := hB; (try simp only [eb24, eb29, eb33, eb59, eb69, Bool.true_eq, Bool.false_eq, decide_eq_true_eq, Bool.and_eq_true, Bool.or_eq_true, Bool.or_eq_false_iff, Bool.not_eq_true', decide_eq_false_iff_not, Int.not_lt, Int.not_le] at eb74); exact (q_addI rfl rfl (by omega))) ?_
    refine OpsW.g rfl rfl rfl (fun hB => by simp only [Bool.and_eq_true, beq_iff_eq] at hB; obtain rfl := hB; exact (q_neq rfl rfl)) ?_
    refine OpsW.q rfl (q_or2 rfl rfl rfl) ?_
    refine OpsW.nil ?_
    refine SeqP.go ?_
    refine AW.cond rfl (fun h2 => ?_) (fun h2 => ?_)
    ·
      exfalso
      try simp only [eb24, eb29, eb33, eb59, eb69, eb74, decide_eq_true_eq, decide_eq_false_iff_not, Bool.or_eq_true, Bool.and_eq_true, Bool.or_eq_false_iff, Bool.and_eq_false_imp, Bool.not_eq_true', Bool.not_eq_false', ne_eq, Decidable.not_not, Int.not_lt, Int.not_le, Bool.not_eq_true, Bool.not_eq_false] at h2
      obtain ⟨r1, r2, r3, r4⟩ := bx_row hok (i := i) (by omega) hin.1 hin.2
      simp_all
    try simp only [eb24, eb29, eb33, eb59, eb69, eb74, decide_eq_true_eq, decide_eq_false_iff_not, Bool.or_eq_true, Bool.and_eq_true, Bool.or_eq_false_iff, Bool.and_eq_false_imp, Bool.not_eq_true', Bool.not_eq_false', ne_eq, Decidable.not_not, Int.not_lt, Int.not_le, Bool.not_eq_true, Bool.not_eq_false] at h2
    refine AW.skip ?_
    refine BlockP.go ?_
    refine SeqP.go ?_
    refine AW.region ?_
    refine OpsW.q rfl (q_move (v := .int _ _) rfl) ?_
    refine OpsW.q rfl (q_addI rfl rfl (by omega)) ?_
    refine OpsW.q rfl (q_assign (v := .int _ _) rfl) ?_
    refine OpsW.nil ?_
    exact LoopP.go _ (by omega) ⟨i + 1, _, rfl, (by omega), Slots.eq ⟨(by first | rfl | exact i64_int (by omega) (by omega) (by omega) | assumption), (by first | rfl | exact i64_int (by omega) (by omega) (by omega) | assumption), (by first | rfl | exact i64_int (by omega) (by omega) (by omega) | assumption), (by first | rfl | exact i64_int (by omega) (by omega) (by omega) | assumption),  trivial⟩, hS3⟩
  ·
    refine AW.region ?_
    refine OpsW.q rfl (q_fieldAddr (sz := 0) Try.underlying23 rfl (by kernel_rfl) rfl) ?_
    refine OpsW.q rfl (q_load (v := .int _ _) (by kernel_rfl) rfl (hS1.blk at0) rfl) ?_
    refine OpsW.q rfl (q_fieldAddr (sz := 0) Try.underlying23 rfl (by kernel_rfl) rfl) ?_
    refine OpsW.q rfl (q_load (v := S _) (by kernel_rfl) rfl (hS1.blk at0) rfl) ?_
    refine OpsW.q rfl (q_fieldAddr (sz := 0) Try.underlying23 rfl (by kernel_rfl) rfl) ?_
    refine OpsW.q rfl (q_load (v := S _) (by kernel_rfl) rfl (hS1.blk at0) rfl) ?_
    refine OpsW.q rfl (o_call rfl Try.func4 rfl rfl (NewBox_bad hz)) ?_
    refine OpsW.q rfl (q_move (v := .tuple _) rfl) ?_
    refine OpsW.q rfl (q_extract (v := .pointer _) rfl rfl) ?_
    refine OpsW.q rfl (q_extract (v := .int _ _) rfl rfl) ?_
    refine OpsW.q rfl (q_assign (v := .pointer _) rfl) ?_
    refine OpsW.q rfl (q_assign (v := .int _ _) rfl) ?_
    refine OpsW.nil ?_
    refine SeqP.go ?_
    refine AW.seq ?_
    refine AW.seq ?_
    refine AW.region ?_
    refine OpsW.q rfl (q_move (v := .int _ _) rfl) ?_
    refine OpsW.q rfl (q_neq rfl rfl) ?_
    refine OpsW.qb rfl (q_move (v := .bool _) rfl) ?_
    intro b24 eb24
    refine OpsW.g rfl rfl rfl (fun hB => by simp only [Bool.and_eq_true, beq_iff_eq] at hB; obtain rfl := hB; exact (q_move (v := S _) rfl)) ?_
    refine OpsW.g rfl rfl rfl (fun hB => by simp only [Bool.and_eq_true, beq_iff_eq] at hB; obtain rfl := hB; exact (q_lenS Try.underlying9 rfl)) ?_
    refine OpsW.g rfl rfl rfl (fun hB => by simp only [Bool.and_eq_true, beq_iff_eq] at hB; obtain rfl := hB; exact (q_gtr rfl rfl)) ?_
    refine OpsW.q rfl (q_or2 rfl rfl rfl) ?_
    refine OpsW.qb rfl (q_move (v := .bool _) rfl) ?_
    intro b29 eb29
    refine OpsW.g rfl rfl rfl (fun hB => by simp only [Bool.and_eq_true, beq_iff_eq] at hB; obtain rfl := hB; exact (q_move (v := .int _ _) rfl)) ?_
    refine OpsW.g rfl rfl rfl (fun hB => by simp only [Bool.and_eq_true, beq_iff_eq] at hB; obtain rfl := hB; exact (q_lss rfl rfl)) ?_
    refine OpsW.q rfl (q_or2 rfl rfl rfl) ?_
    refine OpsW.qb rfl (q_move (v := .bool _) rfl) ?_
    intro b33 eb33
    refine OpsW.g rfl rfl rfl (fun hB => by simp only [Bool.and_eq_true, beq_iff_eq] at hB; obtain rfl := hB; exact (q_move (v := .int _ _) rfl)) ?_
    refine OpsW.g rfl rfl rfl (fun hB => by simp only [Bool.and_eq_true, beq_iff_eq] at hB; obtain rfl := hB; exact (q_gtr rfl rfl)) ?_
    refine OpsW.q rfl (q_or2 rfl rfl rfl) ?_
    refine OpsW.nil ?_
    refine SeqP.go ?_
    refine AW.cond rfl (fun h0 => ?_) (fun h0 => ?_)
    ·
      try simp only [eb24, eb29, eb33, decide_eq_true_eq, decide_eq_false_iff_not, Bool.or_eq_true, Bool.and_eq_true, Bool.or_eq_false_iff, Bool.and_eq_false_imp, Bool.not_eq_true', Bool.not_eq_false', ne_eq, Decidable.not_not, Int.not_lt, Int.not_le, Bool.not_eq_true, Bool.not_eq_false] at h0
      refine AW.seq ?_
      refine AW.region ?_
      refine OpsW.q rfl (q_move (v := .int _ _) rfl) ?_
      refine OpsW.q rfl (q_eql rfl rfl) ?_
      refine OpsW.qb rfl (q_move (v := .bool _) rfl) ?_
      intro b39 eb39
      refine OpsW.g rfl rfl rfl (fun hB => by simp only [Bool.and_eq_true, beq_iff_eq] at hB; obtain rfl := hB; exact (q_move (v := .pointer _) rfl)) ?_
      refine OpsW.g rfl rfl rfl (fun hB => by simp only [Bool.and_eq_true, beq_iff_eq] at hB; obtain rfl := hB; exact (q_eqlP Try.underlying24 rfl rfl)) ?_
      refine OpsW.q rfl (q_or2 rfl rfl rfl) ?_
      refine OpsW.qb rfl (q_move (v := .bool _) rfl) ?_
      intro b43 eb43
      refine OpsW.g rfl rfl rfl (fun hB => by simp only [Bool.and_eq_true, beq_iff_eq] at hB; obtain rfl := hB; exact (o_call rfl Try.func5 rfl rfl (awake_con))) ?_
      refine OpsW.q rfl (q_and2 rfl rfl rfl) ?_
      refine OpsW.q rfl (q_assign (v := .bool _) rfl) ?_
      refine OpsW.nil ?_
      refine SeqP.go ?_
      refine AW.ret ?_
      refine SeqP.ret ?_
      refine RetP.mk1 (H' := H) (v1 := .bool _) rfl rfl  hS1.le ?_
      refine ⟨?_, rfl⟩
      simp_all
    exfalso
    try simp only [eb24, eb29, eb33, decide_eq_true_eq, decide_eq_false_iff_not, Bool.or_eq_true, Bool.and_eq_true, Bool.or_eq_false_iff, Bool.and_eq_false_imp, Bool.not_eq_true', Bool.not_eq_false', ne_eq, Decidable.not_not, Int.not_lt, Int.not_le, Bool.not_eq_true, Bool.not_eq_false] at h0
    simp_all
end
end Go.Proofs.Ytfpoldogcopmpaa
end
section
namespace Go.Proofs.Ytfpoldogcopmpaa
open Go Go.RowKit Go.ChangeShapes Go.WideShapes Go.ChangeAt D
set_option linter.unusedVariables false
set_option maxRecDepth 100000
theorem own : ownKnob Try.prog.godebug = none := by kernel_rfl
theorem laidOut : laidOutB Try.prog = true := by kernel_rfl
theorem recordSizes_lifted (os : Os) (started : os.Started) (H : Type) (enc : TypeId × Value → H) :
    ReturnsInHanded {} Try.checked os 3 .any (Rows.recordSizesSpec.pre6 enc Try.prog Try.f3 Rows.recordSizesRow.domain false) (Rows.recordSizesSpec.post enc Try.prog Try.f3 false true false false) := by
  refine lifted (C := Try.checked) own started (by kernel_rfl) Try.func3
    (ChangeSpec.witness6 (enc := enc) (C := Try.checked) false ⟨#[], #[.agg #[.int .i64 0, .string ⟨#[]⟩, .string ⟨#[]⟩], .string ⟨#[]⟩, .int .i64 0], []⟩ 8 (by kernel_rfl) (by kernel_rfl) (by kernel_rfl) (by kernel_rfl)) laidOut (by kernel_rfl) rfl (by kernel_rfl) Try.underlying4 ?_ ?_
  · intro ds h
    obtain ⟨d0, d1, d2, rfl⟩ := len3 h
    exact ⟨rfl, rfl, rfl⟩
  · intro W base args ds gs before hval0 hW _
    have hval : ∀ (j : Nat) t v, Try.f3.params[j]? = some t → args[j]? = some v → Value.okWide Try.prog W .any base t v := hval0
    obtain ⟨p_, q_, hA0, hV, rfl, _, _⟩ := hW
    have hA : DataW.TrodAll enc Try.prog W 0 (fun _ => true) true Try.f3.params.toList args.toList ds p_ := hA0
    rw [Try.params3] at hA hval
    obtain ⟨v0, v1, v2, d0, d1, d2, p0_, p1_, p2_, rfl, rfl, rfl, h0, h1, h2⟩ := trodAll_three hA
    obtain ⟨csx, rfl, hTx⟩ := open_structT Try.underlying23 (hval 0 _ v0 rfl rfl) h0
    have hUx := Try.underlying23
    have hlx := (hTx.struct hUx).1
    rw [show Try.prog.cellsOf 23 = 3 by kernel_rfl] at hlx
    obtain ⟨x0x, x1x, x2x, rfl⟩ := len3 hlx
    obtain ⟨xs, k0x, _⟩ := (hTx.part hUx 0 0 1 3 rfl (by kernel_rfl)).i64 Try.underlying3
    obtain ⟨xk, k1x, _⟩ := (hTx.part hUx 1 1 1 9 rfl (by kernel_rfl)).str Try.underlying9
    obtain ⟨xi, k2x, _⟩ := (hTx.part hUx 2 2 1 9 rfl (by kernel_rfl)).str Try.underlying9
    simp at k0x k1x k2x
    subst k0x k1x k2x
    obtain ⟨s, rfl, hl_s, rfl⟩ := open_str Try.underlying9 (hval 1 _ v1 rfl rfl) h1
    obtain ⟨p, rfl, lo_p, hi_p⟩ := open_i64 Try.underlying3 (hval 2 _ v2 rfl rfl) h2
    exact (sizes_con xs xk xi s p).mono fun v H' h => h.1
theorem recordSizes_holds : Rows.RecordSizesSaid :=
  OpenClaim.holds_of_wide 3 Try.f3 rfl rfl rfl rfl rfl rfl rfl ⟨rfl, rfl, rfl, rfl, rfl⟩ rfl rfl rfl rfl rfl (by kernel_rfl) Try.func3 (by kernel_rfl)
    (of_decide_eq_true (by kernel_rfl)) (by unfold Func.isWrapper; first | (rw [if_pos (by decide +kernel)]; kernel_rfl) | (rw [if_neg (by decide +kernel)]; exact ⟨rfl, rfl⟩))
    (fun os started H enc _ => recordSizes_lifted os started H enc)
end Go.Proofs.Ytfpoldogcopmpaa
end
