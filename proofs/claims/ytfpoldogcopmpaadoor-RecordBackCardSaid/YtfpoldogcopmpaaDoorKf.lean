/-
  The proof's texts, joined, without what the statements do not reach: part 6 of 7. No condition.
-/
import Derived.Test.YtfpoldogcopmpaaDoorCards
import Derived.Test.YtfpoldogcopmpaaDoorTie
import Derived.WalkKit
import Derived.KernelRfl
import Derived.Lib.ConvBytes
import Derived.WalkSpells
import Derived.WalkLawsBesides
import Derived.ProofKit
import Derived.ChangeMaps5
import Derived.ChangeSlices
import Derived.Deep.Strs
import Derived.Handed
import Derived.LaidLaws
import Derived.LaidMore
import Derived.Lay
import Derived.SevenTiedAt
import Derived.Stop.Joined
import Derived.DataElems
import Derived.OpenShut
import Derived.Test.YtfpoldogcopmpaaDoorProg
import Derived.Lib.TrimByte
import Derived.Shelf.Bits.Mul64
import Derived.Shelf.Small.Strs
import Derived.Shelf.Small.Utf8
import Derived.Shelf.Strings.AsciiSet
import Derived.Shelf.Strings.Builder1
import Derived.Shelf.Strings.Builder2
import Derived.Shelf.Strings.BuilderF
import Derived.Shelf.Strings.Prefix
import Derived.Shelf.Strings.Repeat
import Derived.Shelf.Strings.Runes
import Derived.Shelf.Strings.Search1
import Derived.Shelf.Strings.Trim
import Derived.Shelf.Unicode.Decode
import Derived.Shelf.Unicode.DecodeAny
import Derived.Shelf.Unicode.DecodeLast
import Derived.Shelf.Unicode.DecodeSlow
import Derived.Test.YtfpoldogcopmpaaDoorKe
section
namespace Go.Proofs.YtfpoldogcopmpaaDoor
open Go Go.RowKit D
set_option linter.unusedVariables false
set_option linter.unusedSimpArgs false
set_option maxRecDepth 100000
set_option maxHeartbeats 1000000
section
variable {w0 : World} {H : Hp}
theorem isKind_con (n : Int) : Con Tryd.prog w0 13 #[.int .i64 n] H (fun v H' => v = .bool (isK n) ∧ H' = H) := by
  refine Con.intro Tryd.func13 rfl rfl ?_
  refine AW.seq ?_
  refine AW.region ?_
  refine OpsW.q rfl (q_assign (v := .bool _) rfl) ?_
  refine OpsW.nil ?_
  refine SeqP.go ?_
  refine AW.seq ?_
  refine AW.region ?_
  refine OpsW.q rfl (q_move (v := .int _ _) rfl) ?_
  refine OpsW.q rfl (q_geq rfl rfl) ?_
  refine OpsW.qb rfl (q_move (v := .bool _) rfl) ?_
  intro b5 eb5
  refine OpsW.g rfl rfl rfl (fun hB => by simp only [Bool.and_eq_true, beq_iff_eq] at hB; obtain rfl := hB; exact (q_move (v := .int _ _) rfl)) ?_
  refine OpsW.g rfl rfl rfl (fun hB => by simp only [Bool.and_eq_true, beq_iff_eq] at hB; obtain rfl := hB; exact (q_leq rfl rfl)) ?_
  refine OpsW.q rfl (q_and2 rfl rfl rfl) ?_
  refine OpsW.q rfl (q_assign (v := .bool _) rfl) ?_
  refine OpsW.nil ?_
  refine SeqP.go ?_
  refine AW.ret ?_
  refine RetP.mk1 (H' := H) (v1 := .bool _) rfl rfl  (by first | exact (Hp.le_refl _) | exact (Hp.le_set (by first | assumption | exact Hp.set_none (by assumption) (by first | assumption | exact Ne.symm (by assumption)) | exact Hp.set_none (Hp.set_none (by assumption) (by first | assumption | exact Ne.symm (by assumption))) (by first | assumption | exact Ne.symm (by assumption))) (Hp.le_refl _)) | exact (Hp.le_set (by first | assumption | exact Hp.set_none (by assumption) (by first | assumption | exact Ne.symm (by assumption)) | exact Hp.set_none (Hp.set_none (by assumption) (by first | assumption | exact Ne.symm (by assumption))) (by first | assumption | exact Ne.symm (by assumption))) (Hp.le_set (by first | assumption | exact Hp.set_none (by assumption) (by first | assumption | exact Ne.symm (by assumption)) | exact Hp.set_none (Hp.set_none (by assumption) (by first | assumption | exact Ne.symm (by assumption))) (by first | assumption | exact Ne.symm (by assumption))) (Hp.le_refl _))) | exact (Hp.le_set (by first | assumption | exact Hp.set_none (by assumption) (by first | assumption | exact Ne.symm (by assumption)) | exact Hp.set_none (Hp.set_none (by assumption) (by first | assumption | exact Ne.symm (by assumption))) (by first | assumption | exact Ne.symm (by assumption))) (Hp.le_set (by first | assumption | exact Hp.set_none (by assumption) (by first | assumption | exact Ne.symm (by assumption)) | exact Hp.set_none (Hp.set_none (by assumption) (by first | assumption | exact Ne.symm (by assumption))) (by first | assumption | exact Ne.symm (by assumption))) (Hp.le_set (by first | assumption | exact Hp.set_none (by assumption) (by first | assumption | exact Ne.symm (by assumption)) | exact Hp.set_none (Hp.set_none (by assumption) (by first | assumption | exact Ne.symm (by assumption))) (by first | assumption | exact Ne.symm (by assumption))) (Hp.le_refl _)))) | exact (Hp.le_set (by first | assumption | exact Hp.set_none (by assumption) (by first | assumption | exact Ne.symm (by assumption)) | exact Hp.set_none (Hp.set_none (by assumption) (by first | assumption | exact Ne.symm (by assumption))) (by first | assumption | exact Ne.symm (by assumption))) (Hp.le_set (by first | assumption | exact Hp.set_none (by assumption) (by first | assumption | exact Ne.symm (by assumption)) | exact Hp.set_none (Hp.set_none (by assumption) (by first | assumption | exact Ne.symm (by assumption))) (by first | assumption | exact Ne.symm (by assumption))) (Hp.le_set (by first | assumption | exact Hp.set_none (by assumption) (by first | assumption | exact Ne.symm (by assumption)) | exact Hp.set_none (Hp.set_none (by assumption) (by first | assumption | exact Ne.symm (by assumption))) (by first | assumption | exact Ne.symm (by assumption))) (Hp.le_set (by first | assumption | exact Hp.set_none (by assumption) (by first | assumption | exact Ne.symm (by assumption)) | exact Hp.set_none (Hp.set_none (by assumption) (by first | assumption | exact Ne.symm (by assumption))) (by first | assumption | exact Ne.symm (by assumption))) (Hp.le_refl _))))) | exact (Hp.le_set (by first | assumption | exact Hp.set_none (by assumption) (by first | assumption | exact Ne.symm (by assumption)) | exact Hp.set_none (Hp.set_none (by assumption) (by first | assumption | exact Ne.symm (by assumption))) (by first | assumption | exact Ne.symm (by assumption))) (Hp.le_set (by first | assumption | exact Hp.set_none (by assumption) (by first | assumption | exact Ne.symm (by assumption)) | exact Hp.set_none (Hp.set_none (by assumption) (by first | assumption | exact Ne.symm (by assumption))) (by first | assumption | exact Ne.symm (by assumption))) (Hp.le_set (by first | assumption | exact Hp.set_none (by assumption) (by first | assumption | exact Ne.symm (by assumption)) | exact Hp.set_none (Hp.set_none (by assumption) (by first | assumption | exact Ne.symm (by assumption))) (by first | assumption | exact Ne.symm (by assumption))) (Hp.le_set (by first | assumption | exact Hp.set_none (by assumption) (by first | assumption | exact Ne.symm (by assumption)) | exact Hp.set_none (Hp.set_none (by assumption) (by first | assumption | exact Ne.symm (by assumption))) (by first | assumption | exact Ne.symm (by assumption))) (Hp.le_set (by first | assumption | exact Hp.set_none (by assumption) (by first | assumption | exact Ne.symm (by assumption)) | exact Hp.set_none (Hp.set_none (by assumption) (by first | assumption | exact Ne.symm (by assumption))) (by first | assumption | exact Ne.symm (by assumption))) (Hp.le_refl _))))))) ?_
  refine ⟨?_, rfl⟩
  unfold isK; simp_all
theorem head_con (kind n : Int) (hn : 0 ≤ n ∧ n ≤ 1000000) : Con Tryd.prog w0 16 #[.int .i64 kind, .int .i64 n] H (fun v H' => v = S (headP kind n) ∧ H' = H) := by
  refine Con.intro Tryd.func16 rfl rfl ?_
  refine AW.seq ?_
  refine AW.region ?_
  refine OpsW.q rfl (q_assign (v := S _) rfl) ?_
  refine OpsW.nil ?_
  refine SeqP.go ?_
  refine AW.seq ?_
  refine AW.region ?_
  refine OpsW.q rfl (q_move (v := .int _ _) rfl) ?_
  refine OpsW.q rfl (q_convInt rfl Tryd.underlying5 rfl) ?_
  refine OpsW.q rfl (q_move (v := .int _ _) rfl) ?_
  refine OpsW.q rfl (q_shr rfl rfl (by first | omega | decide)) ?_
  refine OpsW.q rfl (q_convInt rfl Tryd.underlying5 rfl) ?_
  refine OpsW.q rfl (q_move (v := .int _ _) rfl) ?_
  refine OpsW.q rfl (q_convInt rfl Tryd.underlying5 rfl) ?_
  refine OpsW.m rfl (o_buildSlice (z := .int .u8 0) (vs := nums .u8 [_, _, _, _, _]) Tryd.underlying39 (by kernel_rfl) (by kernel_rfl) rfl (by rfl) (by rfl) (by decide) rfl (ones_all rfl)) ?_
  rintro _ _ ⟨b12, hb12, rfl, rfl⟩
  refine OpsW.q rfl (q_string0 Tryd.underlying39 Tryd.underlying5 Tryd.underlying9 rfl (by first | exact Hp.set_self | exact (Hp.set_ne (by first | assumption | exact Ne.symm (by assumption))).trans (Hp.set_self) | exact (Hp.set_ne (by first | assumption | exact Ne.symm (by assumption))).trans ((Hp.set_ne (by first | assumption | exact Ne.symm (by assumption))).trans (Hp.set_self)) | exact (Hp.set_ne (by first | assumption | exact Ne.symm (by assumption))).trans ((Hp.set_ne (by first | assumption | exact Ne.symm (by assumption))).trans ((Hp.set_ne (by first | assumption | exact Ne.symm (by assumption))).trans (Hp.set_self))) | exact (Hp.set_ne (by first | assumption | exact Ne.symm (by assumption))).trans ((Hp.set_ne (by first | assumption | exact Ne.symm (by assumption))).trans ((Hp.set_ne (by first | assumption | exact Ne.symm (by assumption))).trans ((Hp.set_ne (by first | assumption | exact Ne.symm (by assumption))).trans (Hp.set_self)))) | exact (by assumption) | exact (Hp.set_ne (by first | assumption | exact Ne.symm (by assumption))).trans ((by assumption)) | exact (Hp.set_ne (by first | assumption | exact Ne.symm (by assumption))).trans ((Hp.set_ne (by first | assumption | exact Ne.symm (by assumption))).trans ((by assumption))) | exact (Hp.set_ne (by first | assumption | exact Ne.symm (by assumption))).trans ((Hp.set_ne (by first | assumption | exact Ne.symm (by assumption))).trans ((Hp.set_ne (by first | assumption | exact Ne.symm (by assumption))).trans ((by assumption))))) (by first | (with_reducible assumption) | omega | (unfold maxLen; omega) | (simp only [nums_length, List.length_set, List.length_replicate, List.length_take, List.length_drop, List.length_append, List.length_cons, List.length_nil, ofB_length, toB_length]; omega) | (simp only [nums_length, List.length_set, List.length_replicate, List.length_take, List.length_drop, List.length_append, List.length_cons, List.length_nil, ofB_length, toB_length]; unfold maxLen; omega) | (simp; done) | (simp; omega) | rfl | decide)) ?_
  refine OpsW.q rfl (q_assign (v := S _) rfl) ?_
  refine OpsW.nil ?_
  refine SeqP.go ?_
  refine AW.ret ?_
  refine RetP.mk1 (H' := H) (v1 := S _) rfl rfl  (by first | exact (Hp.le_refl _) | exact (Hp.le_set (by first | assumption | exact Hp.set_none (by assumption) (by first | assumption | exact Ne.symm (by assumption)) | exact Hp.set_none (Hp.set_none (by assumption) (by first | assumption | exact Ne.symm (by assumption))) (by first | assumption | exact Ne.symm (by assumption))) (Hp.le_refl _)) | exact (Hp.le_set (by first | assumption | exact Hp.set_none (by assumption) (by first | assumption | exact Ne.symm (by assumption)) | exact Hp.set_none (Hp.set_none (by assumption) (by first | assumption | exact Ne.symm (by assumption))) (by first | assumption | exact Ne.symm (by assumption))) (Hp.le_set (by first | assumption | exact Hp.set_none (by assumption) (by first | assumption | exact Ne.symm (by assumption)) | exact Hp.set_none (Hp.set_none (by assumption) (by first | assumption | exact Ne.symm (by assumption))) (by first | assumption | exact Ne.symm (by assumption))) (Hp.le_refl _))) | exact (Hp.le_set (by first | assumption | exact Hp.set_none (by assumption) (by first | assumption | exact Ne.symm (by assumption)) | exact Hp.set_none (Hp.set_none (by assumption) (by first | assumption | exact Ne.symm (by assumption))) (by first | assumption | exact Ne.symm (by assumption))) (Hp.le_set (by first | assumption | exact Hp.set_none (by assumption) (by first | assumption | exact Ne.symm (by assumption)) | exact Hp.set_none (Hp.set_none (by assumption) (by first | assumption | exact Ne.symm (by assumption))) (by first | assumption | exact Ne.symm (by assumption))) (Hp.le_set (by first | assumption | exact Hp.set_none (by assumption) (by first | assumption | exact Ne.symm (by assumption)) | exact Hp.set_none (Hp.set_none (by assumption) (by first | assumption | exact Ne.symm (by assumption))) (by first | assumption | exact Ne.symm (by assumption))) (Hp.le_refl _)))) | exact (Hp.le_set (by first | assumption | exact Hp.set_none (by assumption) (by first | assumption | exact Ne.symm (by assumption)) | exact Hp.set_none (Hp.set_none (by assumption) (by first | assumption | exact Ne.symm (by assumption))) (by first | assumption | exact Ne.symm (by assumption))) (Hp.le_set (by first | assumption | exact Hp.set_none (by assumption) (by first | assumption | exact Ne.symm (by assumption)) | exact Hp.set_none (Hp.set_none (by assumption) (by first | assumption | exact Ne.symm (by assumption))) (by first | assumption | exact Ne.symm (by assumption))) (Hp.le_set (by first | assumption | exact Hp.set_none (by assumption) (by first | assumption | exact Ne.symm (by assumption)) | exact Hp.set_none (Hp.set_none (by assumption) (by first | assumption | exact Ne.symm (by assumption))) (by first | assumption | exact Ne.symm (by assumption))) (Hp.le_set (by first | assumption | exact Hp.set_none (by assumption) (by first | assumption | exact Ne.symm (by assumption)) | exact Hp.set_none (Hp.set_none (by assumption) (by first | assumption | exact Ne.symm (by assumption))) (by first | assumption | exact Ne.symm (by assumption))) (Hp.le_refl _))))) | exact (Hp.le_set (by first | assumption | exact Hp.set_none (by assumption) (by first | assumption | exact Ne.symm (by assumption)) | exact Hp.set_none (Hp.set_none (by assumption) (by first | assumption | exact Ne.symm (by assumption))) (by first | assumption | exact Ne.symm (by assumption))) (Hp.le_set (by first | assumption | exact Hp.set_none (by assumption) (by first | assumption | exact Ne.symm (by assumption)) | exact Hp.set_none (Hp.set_none (by assumption) (by first | assumption | exact Ne.symm (by assumption))) (by first | assumption | exact Ne.symm (by assumption))) (Hp.le_set (by first | assumption | exact Hp.set_none (by assumption) (by first | assumption | exact Ne.symm (by assumption)) | exact Hp.set_none (Hp.set_none (by assumption) (by first | assumption | exact Ne.symm (by assumption))) (by first | assumption | exact Ne.symm (by assumption))) (Hp.le_set (by first | assumption | exact Hp.set_none (by assumption) (by first | assumption | exact Ne.symm (by assumption)) | exact Hp.set_none (Hp.set_none (by assumption) (by first | assumption | exact Ne.symm (by assumption))) (by first | assumption | exact Ne.symm (by assumption))) (Hp.le_set (by first | assumption | exact Hp.set_none (by assumption) (by first | assumption | exact Ne.symm (by assumption)) | exact Hp.set_none (Hp.set_none (by assumption) (by first | assumption | exact Ne.symm (by assumption))) (by first | assumption | exact Ne.symm (by assumption))) (Hp.le_refl _))))))) ?_
  exact ⟨rfl, rfl⟩
theorem frame_con (kind : Int) (body : List UInt8) (hm : body.length ≤ maxLen) : Con Tryd.prog w0 20 #[.int .i64 kind, S body] H (fun v H' => v = .tuple #[S (frameP kind body).1, .int .i64 (frameP kind body).2] ∧ H' = H) := by
  refine Con.intro Tryd.func20 rfl rfl ?_
  refine AW.seq ?_
  refine AW.region ?_
  refine OpsW.q rfl (q_assign (v := S _) rfl) ?_
  refine OpsW.q rfl (q_assign (v := .int _ _) rfl) ?_
  refine OpsW.nil ?_
  refine SeqP.go ?_
  refine AW.seq ?_
  refine AW.block ?_
  refine AW.seq ?_
  refine AW.region ?_
  refine OpsW.q rfl (q_move (v := .int _ _) rfl) ?_
  refine OpsW.x rfl (o_call rfl Tryd.func13 rfl rfl (isKind_con _)) ?_
  refine OpsW.q rfl (q_not rfl) ?_
  refine OpsW.q rfl (q_assign (v := .bool _) rfl) ?_
  refine OpsW.nil ?_
  refine SeqP.go ?_
  refine AW.cond rfl (fun h0 => ?_) (fun h0 => ?_)
  ·
    try simp only [decide_eq_true_eq, decide_eq_false_iff_not, Bool.or_eq_true, Bool.and_eq_true, Bool.or_eq_false_iff, Bool.and_eq_false_imp, Bool.not_eq_true', Bool.not_eq_false', ne_eq, Decidable.not_not, Int.not_lt, Int.not_le, Bool.not_eq_true, Bool.not_eq_false] at h0
    refine AW.seq ?_
    refine AW.region ?_
    refine OpsW.q rfl (q_assign (v := S _) rfl) ?_
    refine OpsW.q rfl (q_assign (v := .int _ _) rfl) ?_
    refine OpsW.nil ?_
    refine SeqP.go ?_
    refine AW.ret ?_
    refine BlockP.ret ?_
    refine SeqP.ret ?_
    refine RetP.mk2 (H' := H) (v1 := S _) (v2 := .int _ _) rfl rfl rfl  (by first | exact (Hp.le_refl _) | exact (Hp.le_set (by first | assumption | exact Hp.set_none (by assumption) (by first | assumption | exact Ne.symm (by assumption)) | exact Hp.set_none (Hp.set_none (by assumption) (by first | assumption | exact Ne.symm (by assumption))) (by first | assumption | exact Ne.symm (by assumption))) (Hp.le_refl _)) | exact (Hp.le_set (by first | assumption | exact Hp.set_none (by assumption) (by first | assumption | exact Ne.symm (by assumption)) | exact Hp.set_none (Hp.set_none (by assumption) (by first | assumption | exact Ne.symm (by assumption))) (by first | assumption | exact Ne.symm (by assumption))) (Hp.le_set (by first | assumption | exact Hp.set_none (by assumption) (by first | assumption | exact Ne.symm (by assumption)) | exact Hp.set_none (Hp.set_none (by assumption) (by first | assumption | exact Ne.symm (by assumption))) (by first | assumption | exact Ne.symm (by assumption))) (Hp.le_refl _))) | exact (Hp.le_set (by first | assumption | exact Hp.set_none (by assumption) (by first | assumption | exact Ne.symm (by assumption)) | exact Hp.set_none (Hp.set_none (by assumption) (by first | assumption | exact Ne.symm (by assumption))) (by first | assumption | exact Ne.symm (by assumption))) (Hp.le_set (by first | assumption | exact Hp.set_none (by assumption) (by first | assumption | exact Ne.symm (by assumption)) | exact Hp.set_none (Hp.set_none (by assumption) (by first | assumption | exact Ne.symm (by assumption))) (by first | assumption | exact Ne.symm (by assumption))) (Hp.le_set (by first | assumption | exact Hp.set_none (by assumption) (by first | assumption | exact Ne.symm (by assumption)) | exact Hp.set_none (Hp.set_none (by assumption) (by first | assumption | exact Ne.symm (by assumption))) (by first | assumption | exact Ne.symm (by assumption))) (Hp.le_refl _)))) | exact (Hp.le_set (by first | assumption | exact Hp.set_none (by assumption) (by first | assumption | exact Ne.symm (by assumption)) | exact Hp.set_none (Hp.set_none (by assumption) (by first | assumption | exact Ne.symm (by assumption))) (by first | assumption | exact Ne.symm (by assumption))) (Hp.le_set (by first | assumption | exact Hp.set_none (by assumption) (by first | assumption | exact Ne.symm (by assumption)) | exact Hp.set_none (Hp.set_none (by assumption) (by first | assumption | exact Ne.symm (by assumption))) (by first | assumption | exact Ne.symm (by assumption))) (Hp.le_set (by first | assumption | exact Hp.set_none (by assumption) (by first | assumption | exact Ne.symm (by assumption)) | exact Hp.set_none (Hp.set_none (by assumption) (by first | assumption | exact Ne.symm (by assumption))) (by first | assumption | exact Ne.symm (by assumption))) (Hp.le_set (by first | assumption | exact Hp.set_none (by assumption) (by first | assumption | exact Ne.symm (by assumption)) | exact Hp.set_none (Hp.set_none (by assumption) (by first | assumption | exact Ne.symm (by assumption))) (by first | assumption | exact Ne.symm (by assumption))) (Hp.le_refl _))))) | exact (Hp.le_set (by first | assumption | exact Hp.set_none (by assumption) (by first | assumption | exact Ne.symm (by assumption)) | exact Hp.set_none (Hp.set_none (by assumption) (by first | assumption | exact Ne.symm (by assumption))) (by first | assumption | exact Ne.symm (by assumption))) (Hp.le_set (by first | assumption | exact Hp.set_none (by assumption) (by first | assumption | exact Ne.symm (by assumption)) | exact Hp.set_none (Hp.set_none (by assumption) (by first | assumption | exact Ne.symm (by assumption))) (by first | assumption | exact Ne.symm (by assumption))) (Hp.le_set (by first | assumption | exact Hp.set_none (by assumption) (by first | assumption | exact Ne.symm (by assumption)) | exact Hp.set_none (Hp.set_none (by assumption) (by first | assumption | exact Ne.symm (by assumption))) (by first | assumption | exact Ne.symm (by assumption))) (Hp.le_set (by first | assumption | exact Hp.set_none (by assumption) (by first | assumption | exact Ne.symm (by assumption)) | exact Hp.set_none (Hp.set_none (by assumption) (by first | assumption | exact Ne.symm (by assumption))) (by first | assumption | exact Ne.symm (by assumption))) (Hp.le_set (by first | assumption | exact Hp.set_none (by assumption) (by first | assumption | exact Ne.symm (by assumption)) | exact Hp.set_none (Hp.set_none (by assumption) (by first | assumption | exact Ne.symm (by assumption))) (by first | assumption | exact Ne.symm (by assumption))) (Hp.le_refl _))))))) ?_
    exact ⟨by first | rw [frameP_kind h0] | rw [frameP_big h0 (by omega)] | rw [frameP_ok h0 (by omega)], rfl⟩
  try simp only [decide_eq_true_eq, decide_eq_false_iff_not, Bool.or_eq_true, Bool.and_eq_true, Bool.or_eq_false_iff, Bool.and_eq_false_imp, Bool.not_eq_true', Bool.not_eq_false', ne_eq, Decidable.not_not, Int.not_lt, Int.not_le, Bool.not_eq_true, Bool.not_eq_false] at h0
  refine AW.seq ?_
  refine AW.region ?_
  refine OpsW.q rfl (q_move (v := S _) rfl) ?_
  refine OpsW.q rfl (q_lenS Tryd.underlying9 rfl) ?_
  refine OpsW.q rfl (q_gtr rfl rfl) ?_
  refine OpsW.q rfl (q_assign (v := .bool _) rfl) ?_
  refine OpsW.nil ?_
  refine SeqP.go ?_
  refine AW.cond rfl (fun h1 => ?_) (fun h1 => ?_)
  ·
    try simp only [decide_eq_true_eq, decide_eq_false_iff_not, Bool.or_eq_true, Bool.and_eq_true, Bool.or_eq_false_iff, Bool.and_eq_false_imp, Bool.not_eq_true', Bool.not_eq_false', ne_eq, Decidable.not_not, Int.not_lt, Int.not_le, Bool.not_eq_true, Bool.not_eq_false] at h1
    refine AW.seq ?_
    refine AW.region ?_
    refine OpsW.q rfl (q_assign (v := S _) rfl) ?_
    refine OpsW.q rfl (q_assign (v := .int _ _) rfl) ?_
    refine OpsW.nil ?_
    refine SeqP.go ?_
    refine AW.ret ?_
    refine BlockP.ret ?_
    refine SeqP.ret ?_
    refine RetP.mk2 (H' := H) (v1 := S _) (v2 := .int _ _) rfl rfl rfl  (by first | exact (Hp.le_refl _) | exact (Hp.le_set (by first | assumption | exact Hp.set_none (by assumption) (by first | assumption | exact Ne.symm (by assumption)) | exact Hp.set_none (Hp.set_none (by assumption) (by first | assumption | exact Ne.symm (by assumption))) (by first | assumption | exact Ne.symm (by assumption))) (Hp.le_refl _)) | exact (Hp.le_set (by first | assumption | exact Hp.set_none (by assumption) (by first | assumption | exact Ne.symm (by assumption)) | exact Hp.set_none (Hp.set_none (by assumption) (by first | assumption | exact Ne.symm (by assumption))) (by first | assumption | exact Ne.symm (by assumption))) (Hp.le_set (by first | assumption | exact Hp.set_none (by assumption) (by first | assumption | exact Ne.symm (by assumption)) | exact Hp.set_none (Hp.set_none (by assumption) (by first | assumption | exact Ne.symm (by assumption))) (by first | assumption | exact Ne.symm (by assumption))) (Hp.le_refl _))) | exact (Hp.le_set (by first | assumption | exact Hp.set_none (by assumption) (by first | assumption | exact Ne.symm (by assumption)) | exact Hp.set_none (Hp.set_none (by assumption) (by first | assumption | exact Ne.symm (by assumption))) (by first | assumption | exact Ne.symm (by assumption))) (Hp.le_set (by first | assumption | exact Hp.set_none (by assumption) (by first | assumption | exact Ne.symm (by assumption)) | exact Hp.set_none (Hp.set_none (by assumption) (by first | assumption | exact Ne.symm (by assumption))) (by first | assumption | exact Ne.symm (by assumption))) (Hp.le_set (by first | assumption | exact Hp.set_none (by assumption) (by first | assumption | exact Ne.symm (by assumption)) | exact Hp.set_none (Hp.set_none (by assumption) (by first | assumption | exact Ne.symm (by assumption))) (by first | assumption | exact Ne.symm (by assumption))) (Hp.le_refl _)))) | exact (Hp.le_set (by first | assumption | exact Hp.set_none (by assumption) (by first | assumption | exact Ne.symm (by assumption)) | exact Hp.set_none (Hp.set_none (by assumption) (by first | assumption | exact Ne.symm (by assumption))) (by first | assumption | exact Ne.symm (by assumption))) (Hp.le_set (by first | assumption | exact Hp.set_none (by assumption) (by first | assumption | exact Ne.symm (by assumption)) | exact Hp.set_none (Hp.set_none (by assumption) (by first | assumption | exact Ne.symm (by assumption))) (by first | assumption | exact Ne.symm (by assumption))) (Hp.le_set (by first | assumption | exact Hp.set_none (by assumption) (by first | assumption | exact Ne.symm (by assumption)) | exact Hp.set_none (Hp.set_none (by assumption) (by first | assumption | exact Ne.symm (by assumption))) (by first | assumption | exact Ne.symm (by assumption))) (Hp.le_set (by first | assumption | exact Hp.set_none (by assumption) (by first | assumption | exact Ne.symm (by assumption)) | exact Hp.set_none (Hp.set_none (by assumption) (by first | assumption | exact Ne.symm (by assumption))) (by first | assumption | exact Ne.symm (by assumption))) (Hp.le_refl _))))) | exact (Hp.le_set (by first | assumption | exact Hp.set_none (by assumption) (by first | assumption | exact Ne.symm (by assumption)) | exact Hp.set_none (Hp.set_none (by assumption) (by first | assumption | exact Ne.symm (by assumption))) (by first | assumption | exact Ne.symm (by assumption))) (Hp.le_set (by first | assumption | exact Hp.set_none (by assumption) (by first | assumption | exact Ne.symm (by assumption)) | exact Hp.set_none (Hp.set_none (by assumption) (by first | assumption | exact Ne.symm (by assumption))) (by first | assumption | exact Ne.symm (by assumption))) (Hp.le_set (by first | assumption | exact Hp.set_none (by assumption) (by first | assumption | exact Ne.symm (by assumption)) | exact Hp.set_none (Hp.set_none (by assumption) (by first | assumption | exact Ne.symm (by assumption))) (by first | assumption | exact Ne.symm (by assumption))) (Hp.le_set (by first | assumption | exact Hp.set_none (by assumption) (by first | assumption | exact Ne.symm (by assumption)) | exact Hp.set_none (Hp.set_none (by assumption) (by first | assumption | exact Ne.symm (by assumption))) (by first | assumption | exact Ne.symm (by assumption))) (Hp.le_set (by first | assumption | exact Hp.set_none (by assumption) (by first | assumption | exact Ne.symm (by assumption)) | exact Hp.set_none (Hp.set_none (by assumption) (by first | assumption | exact Ne.symm (by assumption))) (by first | assumption | exact Ne.symm (by assumption))) (Hp.le_refl _))))))) ?_
    exact ⟨by first | rw [frameP_kind h0] | rw [frameP_big h0 (by omega)] | rw [frameP_ok h0 (by omega)], rfl⟩
  try simp only [decide_eq_true_eq, decide_eq_false_iff_not, Bool.or_eq_true, Bool.and_eq_true, Bool.or_eq_false_iff, Bool.and_eq_false_imp, Bool.not_eq_true', Bool.not_eq_false', ne_eq, Decidable.not_not, Int.not_lt, Int.not_le, Bool.not_eq_true, Bool.not_eq_false] at h1
  refine AW.skip ?_
  refine BlockP.go ?_
  refine SeqP.go ?_
  refine AW.seq ?_
  refine AW.region ?_
  refine OpsW.q rfl (q_move (v := .int _ _) rfl) ?_
  refine OpsW.q rfl (q_move (v := S _) rfl) ?_
  refine OpsW.q rfl (q_lenS Tryd.underlying9 rfl) ?_
  refine OpsW.x rfl (o_call rfl Tryd.func16 rfl rfl (head_con _ _ (by omega))) ?_
  refine OpsW.q rfl (q_move (v := S _) rfl) ?_
  refine OpsW.q rfl (q_cat rfl rfl (by first | (with_reducible assumption) | omega | (unfold maxLen; omega) | (simp only [nums_length, List.length_set, List.length_replicate, List.length_take, List.length_drop, List.length_append, List.length_cons, List.length_nil, ofB_length, toB_length]; omega) | (simp only [nums_length, List.length_set, List.length_replicate, List.length_take, List.length_drop, List.length_append, List.length_cons, List.length_nil, ofB_length, toB_length]; unfold maxLen; omega) | (simp; done) | (simp; omega) | rfl | decide)) ?_
  refine OpsW.q rfl (q_assign (v := S _) rfl) ?_
  refine OpsW.q rfl (q_assign (v := .int _ _) rfl) ?_
  refine OpsW.nil ?_
  refine SeqP.go ?_
  refine AW.ret ?_
  refine RetP.mk2 (H' := H) (v1 := S _) (v2 := .int _ _) rfl rfl rfl  (by first | exact (Hp.le_refl _) | exact (Hp.le_set (by first | assumption | exact Hp.set_none (by assumption) (by first | assumption | exact Ne.symm (by assumption)) | exact Hp.set_none (Hp.set_none (by assumption) (by first | assumption | exact Ne.symm (by assumption))) (by first | assumption | exact Ne.symm (by assumption))) (Hp.le_refl _)) | exact (Hp.le_set (by first | assumption | exact Hp.set_none (by assumption) (by first | assumption | exact Ne.symm (by assumption)) | exact Hp.set_none (Hp.set_none (by assumption) (by first | assumption | exact Ne.symm (by assumption))) (by first | assumption | exact Ne.symm (by assumption))) (Hp.le_set (by first | assumption | exact Hp.set_none (by assumption) (by first | assumption | exact Ne.symm (by assumption)) | exact Hp.set_none (Hp.set_none (by assumption) (by first | assumption | exact Ne.symm (by assumption))) (by first | assumption | exact Ne.symm (by assumption))) (Hp.le_refl _))) | exact (Hp.le_set (by first | assumption | exact Hp.set_none (by assumption) (by first | assumption | exact Ne.symm (by assumption)) | exact Hp.set_none (Hp.set_none (by assumption) (by first | assumption | exact Ne.symm (by assumption))) (by first | assumption | exact Ne.symm (by assumption))) (Hp.le_set (by first | assumption | exact Hp.set_none (by assumption) (by first | assumption | exact Ne.symm (by assumption)) | exact Hp.set_none (Hp.set_none (by assumption) (by first | assumption | exact Ne.symm (by assumption))) (by first | assumption | exact Ne.symm (by assumption))) (Hp.le_set (by first | assumption | exact Hp.set_none (by assumption) (by first | assumption | exact Ne.symm (by assumption)) | exact Hp.set_none (Hp.set_none (by assumption) (by first | assumption | exact Ne.symm (by assumption))) (by first | assumption | exact Ne.symm (by assumption))) (Hp.le_refl _)))) | exact (Hp.le_set (by first | assumption | exact Hp.set_none (by assumption) (by first | assumption | exact Ne.symm (by assumption)) | exact Hp.set_none (Hp.set_none (by assumption) (by first | assumption | exact Ne.symm (by assumption))) (by first | assumption | exact Ne.symm (by assumption))) (Hp.le_set (by first | assumption | exact Hp.set_none (by assumption) (by first | assumption | exact Ne.symm (by assumption)) | exact Hp.set_none (Hp.set_none (by assumption) (by first | assumption | exact Ne.symm (by assumption))) (by first | assumption | exact Ne.symm (by assumption))) (Hp.le_set (by first | assumption | exact Hp.set_none (by assumption) (by first | assumption | exact Ne.symm (by assumption)) | exact Hp.set_none (Hp.set_none (by assumption) (by first | assumption | exact Ne.symm (by assumption))) (by first | assumption | exact Ne.symm (by assumption))) (Hp.le_set (by first | assumption | exact Hp.set_none (by assumption) (by first | assumption | exact Ne.symm (by assumption)) | exact Hp.set_none (Hp.set_none (by assumption) (by first | assumption | exact Ne.symm (by assumption))) (by first | assumption | exact Ne.symm (by assumption))) (Hp.le_refl _))))) | exact (Hp.le_set (by first | assumption | exact Hp.set_none (by assumption) (by first | assumption | exact Ne.symm (by assumption)) | exact Hp.set_none (Hp.set_none (by assumption) (by first | assumption | exact Ne.symm (by assumption))) (by first | assumption | exact Ne.symm (by assumption))) (Hp.le_set (by first | assumption | exact Hp.set_none (by assumption) (by first | assumption | exact Ne.symm (by assumption)) | exact Hp.set_none (Hp.set_none (by assumption) (by first | assumption | exact Ne.symm (by assumption))) (by first | assumption | exact Ne.symm (by assumption))) (Hp.le_set (by first | assumption | exact Hp.set_none (by assumption) (by first | assumption | exact Ne.symm (by assumption)) | exact Hp.set_none (Hp.set_none (by assumption) (by first | assumption | exact Ne.symm (by assumption))) (by first | assumption | exact Ne.symm (by assumption))) (Hp.le_set (by first | assumption | exact Hp.set_none (by assumption) (by first | assumption | exact Ne.symm (by assumption)) | exact Hp.set_none (Hp.set_none (by assumption) (by first | assumption | exact Ne.symm (by assumption))) (by first | assumption | exact Ne.symm (by assumption))) (Hp.le_set (by first | assumption | exact Hp.set_none (by assumption) (by first | assumption | exact Ne.symm (by assumption)) | exact Hp.set_none (Hp.set_none (by assumption) (by first | assumption | exact Ne.symm (by assumption))) (by first | assumption | exact Ne.symm (by assumption))) (Hp.le_refl _))))))) ?_
  exact ⟨by first | rw [frameP_kind h0] | rw [frameP_big h0 (by omega)] | rw [frameP_ok h0 (by omega)], rfl⟩
theorem NewReader_con : Con Tryd.prog w0 21 #[] H (fun v H' => ∃ b, H b = none ∧ v = .pointer (some ⟨b, 0, none⟩) ∧ H' = H.set b ⟨[S [], .int .i64 0], 2, 42⟩) := by
  refine Con.intro Tryd.func21 rfl rfl ?_
  refine AW.seq ?_
  refine AW.region ?_
  refine OpsW.q rfl (q_assign (v := .pointer _) rfl) ?_
  refine OpsW.nil ?_
  refine SeqP.go ?_
  refine AW.seq ?_
  refine AW.region ?_
  refine OpsW.q rfl (q_build (cells := #[S [], .int .i64 0]) rfl (by kernel_rfl)) ?_
  refine OpsW.m rfl (o_box (v := .agg _) rfl rfl) ?_
  rintro _ _ ⟨b2, hb2, rfl, rfl⟩
  refine OpsW.q rfl (q_assign (v := .pointer _) rfl) ?_
  refine OpsW.nil ?_
  refine SeqP.go ?_
  refine AW.ret ?_
  refine RetP.mk1 (H' := _) (v1 := .pointer _) rfl rfl  (by first | exact (Hp.le_refl _) | exact (Hp.le_set (by first | assumption | exact Hp.set_none (by assumption) (by first | assumption | exact Ne.symm (by assumption)) | exact Hp.set_none (Hp.set_none (by assumption) (by first | assumption | exact Ne.symm (by assumption))) (by first | assumption | exact Ne.symm (by assumption))) (Hp.le_refl _)) | exact (Hp.le_set (by first | assumption | exact Hp.set_none (by assumption) (by first | assumption | exact Ne.symm (by assumption)) | exact Hp.set_none (Hp.set_none (by assumption) (by first | assumption | exact Ne.symm (by assumption))) (by first | assumption | exact Ne.symm (by assumption))) (Hp.le_set (by first | assumption | exact Hp.set_none (by assumption) (by first | assumption | exact Ne.symm (by assumption)) | exact Hp.set_none (Hp.set_none (by assumption) (by first | assumption | exact Ne.symm (by assumption))) (by first | assumption | exact Ne.symm (by assumption))) (Hp.le_refl _))) | exact (Hp.le_set (by first | assumption | exact Hp.set_none (by assumption) (by first | assumption | exact Ne.symm (by assumption)) | exact Hp.set_none (Hp.set_none (by assumption) (by first | assumption | exact Ne.symm (by assumption))) (by first | assumption | exact Ne.symm (by assumption))) (Hp.le_set (by first | assumption | exact Hp.set_none (by assumption) (by first | assumption | exact Ne.symm (by assumption)) | exact Hp.set_none (Hp.set_none (by assumption) (by first | assumption | exact Ne.symm (by assumption))) (by first | assumption | exact Ne.symm (by assumption))) (Hp.le_set (by first | assumption | exact Hp.set_none (by assumption) (by first | assumption | exact Ne.symm (by assumption)) | exact Hp.set_none (Hp.set_none (by assumption) (by first | assumption | exact Ne.symm (by assumption))) (by first | assumption | exact Ne.symm (by assumption))) (Hp.le_refl _)))) | exact (Hp.le_set (by first | assumption | exact Hp.set_none (by assumption) (by first | assumption | exact Ne.symm (by assumption)) | exact Hp.set_none (Hp.set_none (by assumption) (by first | assumption | exact Ne.symm (by assumption))) (by first | assumption | exact Ne.symm (by assumption))) (Hp.le_set (by first | assumption | exact Hp.set_none (by assumption) (by first | assumption | exact Ne.symm (by assumption)) | exact Hp.set_none (Hp.set_none (by assumption) (by first | assumption | exact Ne.symm (by assumption))) (by first | assumption | exact Ne.symm (by assumption))) (Hp.le_set (by first | assumption | exact Hp.set_none (by assumption) (by first | assumption | exact Ne.symm (by assumption)) | exact Hp.set_none (Hp.set_none (by assumption) (by first | assumption | exact Ne.symm (by assumption))) (by first | assumption | exact Ne.symm (by assumption))) (Hp.le_set (by first | assumption | exact Hp.set_none (by assumption) (by first | assumption | exact Ne.symm (by assumption)) | exact Hp.set_none (Hp.set_none (by assumption) (by first | assumption | exact Ne.symm (by assumption))) (by first | assumption | exact Ne.symm (by assumption))) (Hp.le_refl _))))) | exact (Hp.le_set (by first | assumption | exact Hp.set_none (by assumption) (by first | assumption | exact Ne.symm (by assumption)) | exact Hp.set_none (Hp.set_none (by assumption) (by first | assumption | exact Ne.symm (by assumption))) (by first | assumption | exact Ne.symm (by assumption))) (Hp.le_set (by first | assumption | exact Hp.set_none (by assumption) (by first | assumption | exact Ne.symm (by assumption)) | exact Hp.set_none (Hp.set_none (by assumption) (by first | assumption | exact Ne.symm (by assumption))) (by first | assumption | exact Ne.symm (by assumption))) (Hp.le_set (by first | assumption | exact Hp.set_none (by assumption) (by first | assumption | exact Ne.symm (by assumption)) | exact Hp.set_none (Hp.set_none (by assumption) (by first | assumption | exact Ne.symm (by assumption))) (by first | assumption | exact Ne.symm (by assumption))) (Hp.le_set (by first | assumption | exact Hp.set_none (by assumption) (by first | assumption | exact Ne.symm (by assumption)) | exact Hp.set_none (Hp.set_none (by assumption) (by first | assumption | exact Ne.symm (by assumption))) (by first | assumption | exact Ne.symm (by assumption))) (Hp.le_set (by first | assumption | exact Hp.set_none (by assumption) (by first | assumption | exact Ne.symm (by assumption)) | exact Hp.set_none (Hp.set_none (by assumption) (by first | assumption | exact Ne.symm (by assumption))) (by first | assumption | exact Ne.symm (by assumption))) (Hp.le_refl _))))))) ?_
  exact ⟨_, hb2, rfl, rfl⟩
theorem feed_con {bR : Nat} (s : List UInt8) (e : Int) (d : List UInt8) (hb : H bR = some ⟨[S s, .int .i64 e], 2, 42⟩) (hs : s.length ≤ 1048576) (hd : d.length ≤ 1000000) : Con Tryd.prog w0 8 #[.pointer (some ⟨bR, 0, none⟩), S d] H
    (fun v H' => v = .int .i64 (feedP s e d).1 ∧ H' = H.set bR ⟨[S (feedP s e d).2, .int .i64 e], 2, 42⟩) := by
  refine Con.intro Tryd.func8 rfl rfl ?_
  refine AW.seq ?_
  refine AW.region ?_
  refine OpsW.q rfl (q_assign (v := .int _ _) rfl) ?_
  refine OpsW.nil ?_
  refine SeqP.go ?_
  refine AW.seq ?_
  refine AW.block ?_
  refine AW.seq ?_
  refine AW.region ?_
  refine OpsW.q rfl (q_move (v := .pointer _) rfl) ?_
  refine OpsW.q rfl (q_eqlP Tryd.underlying22 rfl rfl) ?_
  refine OpsW.q rfl (q_assign (v := .bool _) rfl) ?_
  refine OpsW.nil ?_
  refine SeqP.go ?_
  refine AW.cond rfl (fun h0 => ?_) (fun h0 => ?_)
  ·
    exfalso
    try simp only [decide_eq_true_eq, decide_eq_false_iff_not, Bool.or_eq_true, Bool.and_eq_true, Bool.or_eq_false_iff, Bool.and_eq_false_imp, Bool.not_eq_true', Bool.not_eq_false', ne_eq, Decidable.not_not, Int.not_lt, Int.not_le, Bool.not_eq_true, Bool.not_eq_false] at h0
    cases h0
  try simp only [decide_eq_true_eq, decide_eq_false_iff_not, Bool.or_eq_true, Bool.and_eq_true, Bool.or_eq_false_iff, Bool.and_eq_false_imp, Bool.not_eq_true', Bool.not_eq_false', ne_eq, Decidable.not_not, Int.not_lt, Int.not_le, Bool.not_eq_true, Bool.not_eq_false] at h0
  refine AW.seq ?_
  refine AW.region ?_
  refine OpsW.q rfl (q_move (v := .pointer _) rfl) ?_
  refine OpsW.q rfl (q_nilCheck rfl) ?_
  refine OpsW.q rfl (q_fieldAddr (sz := 0) Tryd.underlying42 rfl (by kernel_rfl) rfl) ?_
  refine OpsW.q rfl (q_load (v := .int _ _) (by kernel_rfl) rfl (by first | exact Hp.set_self | exact (Hp.set_ne (by first | assumption | exact Ne.symm (by assumption))).trans (Hp.set_self) | exact (Hp.set_ne (by first | assumption | exact Ne.symm (by assumption))).trans ((Hp.set_ne (by first | assumption | exact Ne.symm (by assumption))).trans (Hp.set_self)) | exact (Hp.set_ne (by first | assumption | exact Ne.symm (by assumption))).trans ((Hp.set_ne (by first | assumption | exact Ne.symm (by assumption))).trans ((Hp.set_ne (by first | assumption | exact Ne.symm (by assumption))).trans (Hp.set_self))) | exact (Hp.set_ne (by first | assumption | exact Ne.symm (by assumption))).trans ((Hp.set_ne (by first | assumption | exact Ne.symm (by assumption))).trans ((Hp.set_ne (by first | assumption | exact Ne.symm (by assumption))).trans ((Hp.set_ne (by first | assumption | exact Ne.symm (by assumption))).trans (Hp.set_self)))) | exact (by assumption) | exact (Hp.set_ne (by first | assumption | exact Ne.symm (by assumption))).trans ((by assumption)) | exact (Hp.set_ne (by first | assumption | exact Ne.symm (by assumption))).trans ((Hp.set_ne (by first | assumption | exact Ne.symm (by assumption))).trans ((by assumption))) | exact (Hp.set_ne (by first | assumption | exact Ne.symm (by assumption))).trans ((Hp.set_ne (by first | assumption | exact Ne.symm (by assumption))).trans ((Hp.set_ne (by first | assumption | exact Ne.symm (by assumption))).trans ((by assumption))))) rfl) ?_
  refine OpsW.q rfl (q_neq rfl rfl) ?_
  refine OpsW.q rfl (q_assign (v := .bool _) rfl) ?_
  refine OpsW.nil ?_
  refine SeqP.go ?_
  refine AW.cond rfl (fun h1 => ?_) (fun h1 => ?_)
  ·
    try simp only [decide_eq_true_eq, decide_eq_false_iff_not, Bool.or_eq_true, Bool.and_eq_true, Bool.or_eq_false_iff, Bool.and_eq_false_imp, Bool.not_eq_true', Bool.not_eq_false', ne_eq, Decidable.not_not, Int.not_lt, Int.not_le, Bool.not_eq_true, Bool.not_eq_false] at h1
    refine AW.seq ?_
    refine AW.region ?_
    refine OpsW.q rfl (q_move (v := .pointer _) rfl) ?_
    refine OpsW.q rfl (q_nilCheck rfl) ?_
    refine OpsW.q rfl (q_fieldAddr (sz := 0) Tryd.underlying42 rfl (by kernel_rfl) rfl) ?_
    refine OpsW.q rfl (q_load (v := .int _ _) (by kernel_rfl) rfl (by first | exact Hp.set_self | exact (Hp.set_ne (by first | assumption | exact Ne.symm (by assumption))).trans (Hp.set_self) | exact (Hp.set_ne (by first | assumption | exact Ne.symm (by assumption))).trans ((Hp.set_ne (by first | assumption | exact Ne.symm (by assumption))).trans (Hp.set_self)) | exact (Hp.set_ne (by first | assumption | exact Ne.symm (by assumption))).trans ((Hp.set_ne (by first | assumption | exact Ne.symm (by assumption))).trans ((Hp.set_ne (by first | assumption | exact Ne.symm (by assumption))).trans (Hp.set_self))) | exact (Hp.set_ne (by first | assumption | exact Ne.symm (by assumption))).trans ((Hp.set_ne (by first | assumption | exact Ne.symm (by assumption))).trans ((Hp.set_ne (by first | assumption | exact Ne.symm (by assumption))).trans ((Hp.set_ne (by first | assumption | exact Ne.symm (by assumption))).trans (Hp.set_self)))) | exact (by assumption) | exact (Hp.set_ne (by first | assumption | exact Ne.symm (by assumption))).trans ((by assumption)) | exact (Hp.set_ne (by first | assumption | exact Ne.symm (by assumption))).trans ((Hp.set_ne (by first | assumption | exact Ne.symm (by assumption))).trans ((by assumption))) | exact (Hp.set_ne (by first | assumption | exact Ne.symm (by assumption))).trans ((Hp.set_ne (by first | assumption | exact Ne.symm (by assumption))).trans ((Hp.set_ne (by first | assumption | exact Ne.symm (by assumption))).trans ((by assumption))))) rfl) ?_
    refine OpsW.q rfl (q_assign (v := .int _ _) rfl) ?_
    refine OpsW.nil ?_
    refine SeqP.go ?_
    refine AW.ret ?_
    refine BlockP.ret ?_
    refine SeqP.ret ?_
    refine RetP.mk1 (H' := _) (v1 := .int _ _) rfl rfl  (by first | exact (Hp.le_refl _) | exact (Hp.le_set (by first | assumption | exact Hp.set_none (by assumption) (by first | assumption | exact Ne.symm (by assumption)) | exact Hp.set_none (Hp.set_none (by assumption) (by first | assumption | exact Ne.symm (by assumption))) (by first | assumption | exact Ne.symm (by assumption))) (Hp.le_refl _)) | exact (Hp.le_set (by first | assumption | exact Hp.set_none (by assumption) (by first | assumption | exact Ne.symm (by assumption)) | exact Hp.set_none (Hp.set_none (by assumption) (by first | assumption | exact Ne.symm (by assumption))) (by first | assumption | exact Ne.symm (by assumption))) (Hp.le_set (by first | assumption | exact Hp.set_none (by assumption) (by first | assumption | exact Ne.symm (by assumption)) | exact Hp.set_none (Hp.set_none (by assumption) (by first | assumption | exact Ne.symm (by assumption))) (by first | assumption | exact Ne.symm (by assumption))) (Hp.le_refl _))) | exact (Hp.le_set (by first | assumption | exact Hp.set_none (by assumption) (by first | assumption | exact Ne.symm (by assumption)) | exact Hp.set_none (Hp.set_none (by assumption) (by first | assumption | exact Ne.symm (by assumption))) (by first | assumption | exact Ne.symm (by assumption))) (Hp.le_set (by first | assumption | exact Hp.set_none (by assumption) (by first | assumption | exact Ne.symm (by assumption)) | exact Hp.set_none (Hp.set_none (by assumption) (by first | assumption | exact Ne.symm (by assumption))) (by first | assumption | exact Ne.symm (by assumption))) (Hp.le_set (by first | assumption | exact Hp.set_none (by assumption) (by first | assumption | exact Ne.symm (by assumption)) | exact Hp.set_none (Hp.set_none (by assumption) (by first | assumption | exact Ne.symm (by assumption))) (by first | assumption | exact Ne.symm (by assumption))) (Hp.le_refl _)))) | exact (Hp.le_set (by first | assumption | exact Hp.set_none (by assumption) (by first | assumption | exact Ne.symm (by assumption)) | exact Hp.set_none (Hp.set_none (by assumption) (by first | assumption | exact Ne.symm (by assumption))) (by first | assumption | exact Ne.symm (by assumption))) (Hp.le_set (by first | assumption | exact Hp.set_none (by assumption) (by first | assumption | exact Ne.symm (by assumption)) | exact Hp.set_none (Hp.set_none (by assumption) (by first | assumption | exact Ne.symm (by assumption))) (by first | assumption | exact Ne.symm (by assumption))) (Hp.le_set (by first | assumption | exact Hp.set_none (by assumption) (by first | assumption | exact Ne.symm (by assumption)) | exact Hp.set_none (Hp.set_none (by assumption) (by first | assumption | exact Ne.symm (by assumption))) (by first | assumption | exact Ne.symm (by assumption))) (Hp.le_set (by first | assumption | exact Hp.set_none (by assumption) (by first | assumption | exact Ne.symm (by assumption)) | exact Hp.set_none (Hp.set_none (by assumption) (by first | assumption | exact Ne.symm (by assumption))) (by first | assumption | exact Ne.symm (by assumption))) (Hp.le_refl _))))) | exact (Hp.le_set (by first | assumption | exact Hp.set_none (by assumption) (by first | assumption | exact Ne.symm (by assumption)) | exact Hp.set_none (Hp.set_none (by assumption) (by first | assumption | exact Ne.symm (by assumption))) (by first | assumption | exact Ne.symm (by assumption))) (Hp.le_set (by first | assumption | exact Hp.set_none (by assumption) (by first | assumption | exact Ne.symm (by assumption)) | exact Hp.set_none (Hp.set_none (by assumption) (by first | assumption | exact Ne.symm (by assumption))) (by first | assumption | exact Ne.symm (by assumption))) (Hp.le_set (by first | assumption | exact Hp.set_none (by assumption) (by first | assumption | exact Ne.symm (by assumption)) | exact Hp.set_none (Hp.set_none (by assumption) (by first | assumption | exact Ne.symm (by assumption))) (by first | assumption | exact Ne.symm (by assumption))) (Hp.le_set (by first | assumption | exact Hp.set_none (by assumption) (by first | assumption | exact Ne.symm (by assumption)) | exact Hp.set_none (Hp.set_none (by assumption) (by first | assumption | exact Ne.symm (by assumption))) (by first | assumption | exact Ne.symm (by assumption))) (Hp.le_set (by first | assumption | exact Hp.set_none (by assumption) (by first | assumption | exact Ne.symm (by assumption)) | exact Hp.set_none (Hp.set_none (by assumption) (by first | assumption | exact Ne.symm (by assumption))) (by first | assumption | exact Ne.symm (by assumption))) (Hp.le_refl _))))))) ?_
    refine ⟨?_, ?_⟩
    · first | rw [feedP_err (by assumption)] | rw [feedP_big (by omega)] | rw [feedP_ok (by omega)]
    · first | (rw [feedP_err (by assumption)]; exact (Hp.set_id hb).symm) | (rw [feedP_big (by omega)]; exact (Hp.set_id hb).symm) | (rw [feedP_ok (by omega)] <;> rfl)
  try simp only [decide_eq_true_eq, decide_eq_false_iff_not, Bool.or_eq_true, Bool.and_eq_true, Bool.or_eq_false_iff, Bool.and_eq_false_imp, Bool.not_eq_true', Bool.not_eq_false', ne_eq, Decidable.not_not, Int.not_lt, Int.not_le, Bool.not_eq_true, Bool.not_eq_false] at h1
  obtain rfl := h1
  refine AW.seq ?_
  refine AW.region ?_
  refine OpsW.q rfl (q_move (v := .pointer _) rfl) ?_
  refine OpsW.q rfl (q_nilCheck rfl) ?_
  refine OpsW.q rfl (q_fieldAddr (sz := 0) Tryd.underlying42 rfl (by kernel_rfl) rfl) ?_
  refine OpsW.q rfl (q_load (v := S _) (by kernel_rfl) rfl (by first | exact Hp.set_self | exact (Hp.set_ne (by first | assumption | exact Ne.symm (by assumption))).trans (Hp.set_self) | exact (Hp.set_ne (by first | assumption | exact Ne.symm (by assumption))).trans ((Hp.set_ne (by first | assumption | exact Ne.symm (by assumption))).trans (Hp.set_self)) | exact (Hp.set_ne (by first | assumption | exact Ne.symm (by assumption))).trans ((Hp.set_ne (by first | assumption | exact Ne.symm (by assumption))).trans ((Hp.set_ne (by first | assumption | exact Ne.symm (by assumption))).trans (Hp.set_self))) | exact (Hp.set_ne (by first | assumption | exact Ne.symm (by assumption))).trans ((Hp.set_ne (by first | assumption | exact Ne.symm (by assumption))).trans ((Hp.set_ne (by first | assumption | exact Ne.symm (by assumption))).trans ((Hp.set_ne (by first | assumption | exact Ne.symm (by assumption))).trans (Hp.set_self)))) | exact (by assumption) | exact (Hp.set_ne (by first | assumption | exact Ne.symm (by assumption))).trans ((by assumption)) | exact (Hp.set_ne (by first | assumption | exact Ne.symm (by assumption))).trans ((Hp.set_ne (by first | assumption | exact Ne.symm (by assumption))).trans ((by assumption))) | exact (Hp.set_ne (by first | assumption | exact Ne.symm (by assumption))).trans ((Hp.set_ne (by first | assumption | exact Ne.symm (by assumption))).trans ((Hp.set_ne (by first | assumption | exact Ne.symm (by assumption))).trans ((by assumption))))) rfl) ?_
  refine OpsW.q rfl (q_lenS Tryd.underlying9 rfl) ?_
  refine OpsW.q rfl (q_move (v := S _) rfl) ?_
  refine OpsW.q rfl (q_lenS Tryd.underlying9 rfl) ?_
  refine OpsW.q rfl (q_addI rfl rfl (by omega)) ?_
  refine OpsW.q rfl (q_gtr rfl rfl) ?_
  refine OpsW.q rfl (q_assign (v := .bool _) rfl) ?_
  refine OpsW.nil ?_
  refine SeqP.go ?_
  refine AW.cond rfl (fun h2 => ?_) (fun h2 => ?_)
  ·
    try simp only [decide_eq_true_eq, decide_eq_false_iff_not, Bool.or_eq_true, Bool.and_eq_true, Bool.or_eq_false_iff, Bool.and_eq_false_imp, Bool.not_eq_true', Bool.not_eq_false', ne_eq, Decidable.not_not, Int.not_lt, Int.not_le, Bool.not_eq_true, Bool.not_eq_false] at h2
    refine AW.seq ?_
    refine AW.region ?_
    refine OpsW.q rfl (q_assign (v := .int _ _) rfl) ?_
    refine OpsW.nil ?_
    refine SeqP.go ?_
    refine AW.ret ?_
    refine BlockP.ret ?_
    refine SeqP.ret ?_
    refine RetP.mk1 (H' := _) (v1 := .int _ _) rfl rfl  (by first | exact (Hp.le_refl _) | exact (Hp.le_set (by first | assumption | exact Hp.set_none (by assumption) (by first | assumption | exact Ne.symm (by assumption)) | exact Hp.set_none (Hp.set_none (by assumption) (by first | assumption | exact Ne.symm (by assumption))) (by first | assumption | exact Ne.symm (by assumption))) (Hp.le_refl _)) | exact (Hp.le_set (by first | assumption | exact Hp.set_none (by assumption) (by first | assumption | exact Ne.symm (by assumption)) | exact Hp.set_none (Hp.set_none (by assumption) (by first | assumption | exact Ne.symm (by assumption))) (by first | assumption | exact Ne.symm (by assumption))) (Hp.le_set (by first | assumption | exact Hp.set_none (by assumption) (by first | assumption | exact Ne.symm (by assumption)) | exact Hp.set_none (Hp.set_none (by assumption) (by first | assumption | exact Ne.symm (by assumption))) (by first | assumption | exact Ne.symm (by assumption))) (Hp.le_refl _))) | exact (Hp.le_set (by first | assumption | exact Hp.set_none (by assumption) (by first | assumption | exact Ne.symm (by assumption)) | exact Hp.set_none (Hp.set_none (by assumption) (by first | assumption | exact Ne.symm (by assumption))) (by first | assumption | exact Ne.symm (by assumption))) (Hp.le_set (by first | assumption | exact Hp.set_none (by assumption) (by first | assumption | exact Ne.symm (by assumption)) | exact Hp.set_none (Hp.set_none (by assumption) (by first | assumption | exact Ne.symm (by assumption))) (by first | assumption | exact Ne.symm (by assumption))) (Hp.le_set (by first | assumption | exact Hp.set_none (by assumption) (by first | assumption | exact Ne.symm (by assumption)) | exact Hp.set_none (Hp.set_none (by assumption) (by first | assumption | exact Ne.symm (by assumption))) (by first | assumption | exact Ne.symm (by assumption))) (Hp.le_refl _)))) | exact (Hp.le_set (by first | assumption | exact Hp.set_none (by assumption) (by first | assumption | exact Ne.symm (by assumption)) | exact Hp.set_none (Hp.set_none (by assumption) (by first | assumption | exact Ne.symm (by assumption))) (by first | assumption | exact Ne.symm (by assumption))) (Hp.le_set (by first | assumption | exact Hp.set_none (by assumption) (by first | assumption | exact Ne.symm (by assumption)) | exact Hp.set_none (Hp.set_none (by assumption) (by first | assumption | exact Ne.symm (by assumption))) (by first | assumption | exact Ne.symm (by assumption))) (Hp.le_set (by first | assumption | exact Hp.set_none (by assumption) (by first | assumption | exact Ne.symm (by assumption)) | exact Hp.set_none (Hp.set_none (by assumption) (by first | assumption | exact Ne.symm (by assumption))) (by first | assumption | exact Ne.symm (by assumption))) (Hp.le_set (by first | assumption | exact Hp.set_none (by assumption) (by first | assumption | exact Ne.symm (by assumption)) | exact Hp.set_none (Hp.set_none (by assumption) (by first | assumption | exact Ne.symm (by assumption))) (by first | assumption | exact Ne.symm (by assumption))) (Hp.le_refl _))))) | exact (Hp.le_set (by first | assumption | exact Hp.set_none (by assumption) (by first | assumption | exact Ne.symm (by assumption)) | exact Hp.set_none (Hp.set_none (by assumption) (by first | assumption | exact Ne.symm (by assumption))) (by first | assumption | exact Ne.symm (by assumption))) (Hp.le_set (by first | assumption | exact Hp.set_none (by assumption) (by first | assumption | exact Ne.symm (by assumption)) | exact Hp.set_none (Hp.set_none (by assumption) (by first | assumption | exact Ne.symm (by assumption))) (by first | assumption | exact Ne.symm (by assumption))) (Hp.le_set (by first | assumption | exact Hp.set_none (by assumption) (by first | assumption | exact Ne.symm (by assumption)) | exact Hp.set_none (Hp.set_none (by assumption) (by first | assumption | exact Ne.symm (by assumption))) (by first | assumption | exact Ne.symm (by assumption))) (Hp.le_set (by first | assumption | exact Hp.set_none (by assumption) (by first | assumption | exact Ne.symm (by assumption)) | exact Hp.set_none (Hp.set_none (by assumption) (by first | assumption | exact Ne.symm (by assumption))) (by first | assumption | exact Ne.symm (by assumption))) (Hp.le_set (by first | assumption | exact Hp.set_none (by assumption) (by first | assumption | exact Ne.symm (by assumption)) | exact Hp.set_none (Hp.set_none (by assumption) (by first | assumption | exact Ne.symm (by assumption))) (by first | assumption | exact Ne.symm (by assumption))) (Hp.le_refl _))))))) ?_
    refine ⟨?_, ?_⟩
    · first | rw [feedP_err (by assumption)] | rw [feedP_big (by omega)] | rw [feedP_ok (by omega)]
    · first | (rw [feedP_err (by assumption)]; exact (Hp.set_id hb).symm) | (rw [feedP_big (by omega)]; exact (Hp.set_id hb).symm) | (rw [feedP_ok (by omega)] <;> rfl)
  try simp only [decide_eq_true_eq, decide_eq_false_iff_not, Bool.or_eq_true, Bool.and_eq_true, Bool.or_eq_false_iff, Bool.and_eq_false_imp, Bool.not_eq_true', Bool.not_eq_false', ne_eq, Decidable.not_not, Int.not_lt, Int.not_le, Bool.not_eq_true, Bool.not_eq_false] at h2
  refine AW.skip ?_
  refine BlockP.go ?_
  refine SeqP.go ?_
  refine AW.seq ?_
  refine AW.region ?_
  refine OpsW.q rfl (q_move (v := .pointer _) rfl) ?_
  refine OpsW.q rfl (q_nilCheck rfl) ?_
  refine OpsW.q rfl (q_fieldAddr (sz := 0) Tryd.underlying42 rfl (by kernel_rfl) rfl) ?_
  refine OpsW.q rfl (q_load (v := S _) (by kernel_rfl) rfl (by first | exact Hp.set_self | exact (Hp.set_ne (by first | assumption | exact Ne.symm (by assumption))).trans (Hp.set_self) | exact (Hp.set_ne (by first | assumption | exact Ne.symm (by assumption))).trans ((Hp.set_ne (by first | assumption | exact Ne.symm (by assumption))).trans (Hp.set_self)) | exact (Hp.set_ne (by first | assumption | exact Ne.symm (by assumption))).trans ((Hp.set_ne (by first | assumption | exact Ne.symm (by assumption))).trans ((Hp.set_ne (by first | assumption | exact Ne.symm (by assumption))).trans (Hp.set_self))) | exact (Hp.set_ne (by first | assumption | exact Ne.symm (by assumption))).trans ((Hp.set_ne (by first | assumption | exact Ne.symm (by assumption))).trans ((Hp.set_ne (by first | assumption | exact Ne.symm (by assumption))).trans ((Hp.set_ne (by first | assumption | exact Ne.symm (by assumption))).trans (Hp.set_self)))) | exact (by assumption) | exact (Hp.set_ne (by first | assumption | exact Ne.symm (by assumption))).trans ((by assumption)) | exact (Hp.set_ne (by first | assumption | exact Ne.symm (by assumption))).trans ((Hp.set_ne (by first | assumption | exact Ne.symm (by assumption))).trans ((by assumption))) | exact (Hp.set_ne (by first | assumption | exact Ne.symm (by assumption))).trans ((Hp.set_ne (by first | assumption | exact Ne.symm (by assumption))).trans ((Hp.set_ne (by first | assumption | exact Ne.symm (by assumption))).trans ((by assumption))))) rfl) ?_
  refine OpsW.q rfl (q_move (v := S _) rfl) ?_
  refine OpsW.q rfl (q_cat rfl rfl (by first | (with_reducible assumption) | omega | (unfold maxLen; omega) | (simp only [nums_length, List.length_set, List.length_replicate, List.length_take, List.length_drop, List.length_append, List.length_cons, List.length_nil, ofB_length, toB_length]; omega) | (simp only [nums_length, List.length_set, List.length_replicate, List.length_take, List.length_drop, List.length_append, List.length_cons, List.length_nil, ofB_length, toB_length]; unfold maxLen; omega) | (simp; done) | (simp; omega) | rfl | decide)) ?_
  refine OpsW.q rfl (q_nilCheck rfl) ?_
  refine OpsW.q rfl (q_fieldAddr (sz := 0) Tryd.underlying42 rfl (by kernel_rfl) rfl) ?_
  refine OpsW.s (o_store (v := S _) (by kernel_rfl) rfl rfl rfl (by first | exact Hp.set_self | exact (Hp.set_ne (by first | assumption | exact Ne.symm (by assumption))).trans (Hp.set_self) | exact (Hp.set_ne (by first | assumption | exact Ne.symm (by assumption))).trans ((Hp.set_ne (by first | assumption | exact Ne.symm (by assumption))).trans (Hp.set_self)) | exact (Hp.set_ne (by first | assumption | exact Ne.symm (by assumption))).trans ((Hp.set_ne (by first | assumption | exact Ne.symm (by assumption))).trans ((Hp.set_ne (by first | assumption | exact Ne.symm (by assumption))).trans (Hp.set_self))) | exact (Hp.set_ne (by first | assumption | exact Ne.symm (by assumption))).trans ((Hp.set_ne (by first | assumption | exact Ne.symm (by assumption))).trans ((Hp.set_ne (by first | assumption | exact Ne.symm (by assumption))).trans ((Hp.set_ne (by first | assumption | exact Ne.symm (by assumption))).trans (Hp.set_self)))) | exact (by assumption) | exact (Hp.set_ne (by first | assumption | exact Ne.symm (by assumption))).trans ((by assumption)) | exact (Hp.set_ne (by first | assumption | exact Ne.symm (by assumption))).trans ((Hp.set_ne (by first | assumption | exact Ne.symm (by assumption))).trans ((by assumption))) | exact (Hp.set_ne (by first | assumption | exact Ne.symm (by assumption))).trans ((Hp.set_ne (by first | assumption | exact Ne.symm (by assumption))).trans ((Hp.set_ne (by first | assumption | exact Ne.symm (by assumption))).trans ((by assumption))))) (by first | (with_reducible assumption) | omega | (unfold maxLen; omega) | (simp only [nums_length, List.length_set, List.length_replicate, List.length_take, List.length_drop, List.length_append, List.length_cons, List.length_nil, ofB_length, toB_length]; omega) | (simp only [nums_length, List.length_set, List.length_replicate, List.length_take, List.length_drop, List.length_append, List.length_cons, List.length_nil, ofB_length, toB_length]; unfold maxLen; omega) | (simp; done) | (simp; omega) | rfl | decide)) ?_
  refine OpsW.nil ?_
  refine SeqP.go ?_
  refine AW.seq ?_
  refine AW.region ?_
  refine OpsW.q rfl (q_assign (v := .int _ _) rfl) ?_
  refine OpsW.nil ?_
  refine SeqP.go ?_
  refine AW.ret ?_
  refine RetP.mk1 (H' := _) (v1 := .int _ _) rfl rfl  (by first | exact (Hp.le_refl _) | exact (Hp.le_set (by first | assumption | exact Hp.set_none (by assumption) (by first | assumption | exact Ne.symm (by assumption)) | exact Hp.set_none (Hp.set_none (by assumption) (by first | assumption | exact Ne.symm (by assumption))) (by first | assumption | exact Ne.symm (by assumption))) (Hp.le_refl _)) | exact (Hp.le_set (by first | assumption | exact Hp.set_none (by assumption) (by first | assumption | exact Ne.symm (by assumption)) | exact Hp.set_none (Hp.set_none (by assumption) (by first | assumption | exact Ne.symm (by assumption))) (by first | assumption | exact Ne.symm (by assumption))) (Hp.le_set (by first | assumption | exact Hp.set_none (by assumption) (by first | assumption | exact Ne.symm (by assumption)) | exact Hp.set_none (Hp.set_none (by assumption) (by first | assumption | exact Ne.symm (by assumption))) (by first | assumption | exact Ne.symm (by assumption))) (Hp.le_refl _))) | exact (Hp.le_set (by first | assumption | exact Hp.set_none (by assumption) (by first | assumption | exact Ne.symm (by assumption)) | exact Hp.set_none (Hp.set_none (by assumption) (by first | assumption | exact Ne.symm (by assumption))) (by first | assumption | exact Ne.symm (by assumption))) (Hp.le_set (by first | assumption | exact Hp.set_none (by assumption) (by first | assumption | exact Ne.symm (by assumption)) | exact Hp.set_none (Hp.set_none (by assumption) (by first | assumption | exact Ne.symm (by assumption))) (by first | assumption | exact Ne.symm (by assumption))) (Hp.le_set (by first | assumption | exact Hp.set_none (by assumption) (by first | assumption | exact Ne.symm (by assumption)) | exact Hp.set_none (Hp.set_none (by assumption) (by first | assumption | exact Ne.symm (by assumption))) (by first | assumption | exact Ne.symm (by assumption))) (Hp.le_refl _)))) | exact (Hp.le_set (by first | assumption | exact Hp.set_none (by assumption) (by first | assumption | exact Ne.symm (by assumption)) | exact Hp.set_none (Hp.set_none (by assumption) (by first | assumption | exact Ne.symm (by assumption))) (by first | assumption | exact Ne.symm (by assumption))) (Hp.le_set (by first | assumption | exact Hp.set_none (by assumption) (by first | assumption | exact Ne.symm (by assumption)) | exact Hp.set_none (Hp.set_none (by assumption) (by first | assumption | exact Ne.symm (by assumption))) (by first | assumption | exact Ne.symm (by assumption))) (Hp.le_set (by first | assumption | exact Hp.set_none (by assumption) (by first | assumption | exact Ne.symm (by assumption)) | exact Hp.set_none (Hp.set_none (by assumption) (by first | assumption | exact Ne.symm (by assumption))) (by first | assumption | exact Ne.symm (by assumption))) (Hp.le_set (by first | assumption | exact Hp.set_none (by assumption) (by first | assumption | exact Ne.symm (by assumption)) | exact Hp.set_none (Hp.set_none (by assumption) (by first | assumption | exact Ne.symm (by assumption))) (by first | assumption | exact Ne.symm (by assumption))) (Hp.le_refl _))))) | exact (Hp.le_set (by first | assumption | exact Hp.set_none (by assumption) (by first | assumption | exact Ne.symm (by assumption)) | exact Hp.set_none (Hp.set_none (by assumption) (by first | assumption | exact Ne.symm (by assumption))) (by first | assumption | exact Ne.symm (by assumption))) (Hp.le_set (by first | assumption | exact Hp.set_none (by assumption) (by first | assumption | exact Ne.symm (by assumption)) | exact Hp.set_none (Hp.set_none (by assumption) (by first | assumption | exact Ne.symm (by assumption))) (by first | assumption | exact Ne.symm (by assumption))) (Hp.le_set (by first | assumption | exact Hp.set_none (by assumption) (by first | assumption | exact Ne.symm (by assumption)) | exact Hp.set_none (Hp.set_none (by assumption) (by first | assumption | exact Ne.symm (by assumption))) (by first | assumption | exact Ne.symm (by assumption))) (Hp.le_set (by first | assumption | exact Hp.set_none (by assumption) (by first | assumption | exact Ne.symm (by assumption)) | exact Hp.set_none (Hp.set_none (by assumption) (by first | assumption | exact Ne.symm (by assumption))) (by first | assumption | exact Ne.symm (by assumption))) (Hp.le_set (by first | assumption | exact Hp.set_none (by assumption) (by first | assumption | exact Ne.symm (by assumption)) | exact Hp.set_none (Hp.set_none (by assumption) (by first | assumption | exact Ne.symm (by assumption))) (by first | assumption | exact Ne.symm (by assumption))) (Hp.le_refl _))))))) ?_
  refine ⟨?_, ?_⟩
  · first | rw [feedP_err (by assumption)] | rw [feedP_big (by omega)] | rw [feedP_ok (by omega)]
  · first | (rw [feedP_err (by assumption)]; exact (Hp.set_id hb).symm) | (rw [feedP_big (by omega)]; exact (Hp.set_id hb).symm) | (rw [feedP_ok (by omega)] <;> rfl)
theorem size_con {bR : Nat} (s : List UInt8) {e : Int} (hb : H bR = some ⟨[S s, .int .i64 e], 2, 42⟩) (hs : s.length ≤ 1048576) : Con Tryd.prog w0 12 #[.pointer (some ⟨bR, 0, none⟩)] H (fun v H' => v = .tuple #[.int .i64 (sizeP s).1, .int .i64 (sizeP s).2] ∧ H' = H) := by
  refine Con.intro Tryd.func12 rfl rfl ?_
  refine AW.seq ?_
  refine AW.region ?_
  refine OpsW.q rfl (q_assign (v := .int _ _) rfl) ?_
  refine OpsW.q rfl (q_assign (v := .int _ _) rfl) ?_
  refine OpsW.nil ?_
  refine SeqP.go ?_
  refine AW.seq ?_
  refine AW.seq ?_
  refine AW.drawF [] 11 13 20 (.int .i64 0) rfl (by kernel_rfl) rfl rfl rfl rfl ?_
  refine SeqC.q rfl (q_move (v := .pointer _) rfl) ?_
  refine SeqC.q rfl (q_nilCheck rfl) ?_
  refine SeqC.q rfl (q_fieldAddr (sz := 0) Tryd.underlying42 rfl (by kernel_rfl) rfl) ?_
  refine SeqC.q rfl (q_load (v := S _) (by kernel_rfl) rfl (by first | exact Hp.set_self | exact (Hp.set_ne (by first | assumption | exact Ne.symm (by assumption))).trans (Hp.set_self) | exact (Hp.set_ne (by first | assumption | exact Ne.symm (by assumption))).trans ((Hp.set_ne (by first | assumption | exact Ne.symm (by assumption))).trans (Hp.set_self)) | exact (Hp.set_ne (by first | assumption | exact Ne.symm (by assumption))).trans ((Hp.set_ne (by first | assumption | exact Ne.symm (by assumption))).trans ((Hp.set_ne (by first | assumption | exact Ne.symm (by assumption))).trans (Hp.set_self))) | exact (Hp.set_ne (by first | assumption | exact Ne.symm (by assumption))).trans ((Hp.set_ne (by first | assumption | exact Ne.symm (by assumption))).trans ((Hp.set_ne (by first | assumption | exact Ne.symm (by assumption))).trans ((Hp.set_ne (by first | assumption | exact Ne.symm (by assumption))).trans (Hp.set_self)))) | exact (by assumption) | exact (Hp.set_ne (by first | assumption | exact Ne.symm (by assumption))).trans ((by assumption)) | exact (Hp.set_ne (by first | assumption | exact Ne.symm (by assumption))).trans ((Hp.set_ne (by first | assumption | exact Ne.symm (by assumption))).trans ((by assumption))) | exact (Hp.set_ne (by first | assumption | exact Ne.symm (by assumption))).trans ((Hp.set_ne (by first | assumption | exact Ne.symm (by assumption))).trans ((Hp.set_ne (by first | assumption | exact Ne.symm (by assumption))).trans ((by assumption))))) rfl) ?_
  refine SeqC.q rfl (q_move (v := .pointer _) rfl) ?_
  refine SeqC.q rfl (q_nilCheck rfl) ?_
  refine SeqC.q rfl (q_fieldAddr (sz := 0) Tryd.underlying42 rfl (by kernel_rfl) rfl) ?_
  refine SeqC.q rfl (q_load (v := S _) (by kernel_rfl) rfl (by first | exact Hp.set_self | exact (Hp.set_ne (by first | assumption | exact Ne.symm (by assumption))).trans (Hp.set_self) | exact (Hp.set_ne (by first | assumption | exact Ne.symm (by assumption))).trans ((Hp.set_ne (by first | assumption | exact Ne.symm (by assumption))).trans (Hp.set_self)) | exact (Hp.set_ne (by first | assumption | exact Ne.symm (by assumption))).trans ((Hp.set_ne (by first | assumption | exact Ne.symm (by assumption))).trans ((Hp.set_ne (by first | assumption | exact Ne.symm (by assumption))).trans (Hp.set_self))) | exact (Hp.set_ne (by first | assumption | exact Ne.symm (by assumption))).trans ((Hp.set_ne (by first | assumption | exact Ne.symm (by assumption))).trans ((Hp.set_ne (by first | assumption | exact Ne.symm (by assumption))).trans ((Hp.set_ne (by first | assumption | exact Ne.symm (by assumption))).trans (Hp.set_self)))) | exact (by assumption) | exact (Hp.set_ne (by first | assumption | exact Ne.symm (by assumption))).trans ((by assumption)) | exact (Hp.set_ne (by first | assumption | exact Ne.symm (by assumption))).trans ((Hp.set_ne (by first | assumption | exact Ne.symm (by assumption))).trans ((by assumption))) | exact (Hp.set_ne (by first | assumption | exact Ne.symm (by assumption))).trans ((Hp.set_ne (by first | assumption | exact Ne.symm (by assumption))).trans ((Hp.set_ne (by first | assumption | exact Ne.symm (by assumption))).trans ((by assumption))))) rfl) ?_
  refine SeqC.q rfl (q_lenS Tryd.underlying9 rfl) ?_
  refine SeqC.q rfl (q_min rfl rfl) ?_
  refine SeqC.q rfl (q_sliceS_hi Tryd.underlying9 rfl rfl (by first | omega | decide) (by first | omega | decide)) ?_
  rw [show (min 3 (s.length : Int)).toNat = min 3 s.length from by omega]
  refine SeqC.done ?_
  refine OpsW.m rfl (o_bytes rfl Tryd.underlying39 Tryd.underlying5 rfl (by first | (with_reducible assumption) | omega | (unfold maxLen; omega) | (simp only [nums_length, List.length_set, List.length_replicate, List.length_take, List.length_drop, List.length_append, List.length_cons, List.length_nil, ofB_length, toB_length]; omega) | (simp only [nums_length, List.length_set, List.length_replicate, List.length_take, List.length_drop, List.length_append, List.length_cons, List.length_nil, ofB_length, toB_length]; unfold maxLen; omega) | (simp; done) | (simp; omega) | rfl | decide)) ?_
  rintro _ _ ⟨b18, c18, hb18, hl18, hc18, rfl, rfl⟩
  have hbR : (H.set b18 ⟨nums .u8 (ofB (s.take (min 3 s.length))), c18, 5⟩) bR = some ⟨[S s, .int .i64 e], 2, 42⟩ := (Hp.set_ne (Hp.ne_of hb18 hb).symm).trans hb
  refine OpsW.q rfl (q_lenV Tryd.underlying39 rfl) ?_
  refine OpsW.nil ?_
  refine SeqP.go ?_
  refine AW.block ?_
  refine AW.loop (fun m e H' => ∃ (i : Nat) (e0 : Env), m = min 3 s.length - i ∧ (i ≤ min 3 s.length ∧ ∀ j, j < i → ¬ badAt s j) ∧ e = upds e0 [(0, .pointer (some ⟨bR, 0, none⟩)), (18, .slice (some ⟨b18, 0, none⟩) (s.take (min 3 s.length)).length c18), (19, .int .i64 (((s.take (min 3 s.length)).length : Nat) : Int)), (20, .int .i64 (i : Int))] ∧ H' = H.set b18 ⟨nums .u8 (ofB (s.take (min 3 s.length))), c18, 5⟩) _ ⟨0, _, rfl, ⟨Nat.zero_le _, by omega⟩, Slots.eq ⟨(by first | rfl | exact i64_int (by omega) (by omega) (by omega) | assumption), (by first | rfl | exact i64_int (by omega) (by omega) (by omega) | assumption), (by first | rfl | exact i64_int (by omega) (by omega) (by omega) | assumption), (by first | rfl | exact i64_int (by omega) (by omega) (by omega) | assumption),  trivial⟩, rfl⟩ ?_
  rintro m _ _ ⟨i, e0, rfl, hf, rfl, rfl⟩
  have htl : (s.take (min 3 s.length)).length = min 3 s.length := by simp
  obtain ⟨hi3, hno⟩ := hf
  refine AW.seq ?_
  refine AW.region ?_
  refine OpsW.q rfl (q_lss rfl rfl) ?_
  refine OpsW.nil ?_
  refine SeqP.go ?_
  refine AW.seq ?_
  refine AW.cond2 rfl (fun h0 => ?_) (fun h0 => ?_)
  ·
    try simp only [decide_eq_true_eq, decide_eq_false_iff_not, Bool.or_eq_true, Bool.and_eq_true, Bool.or_eq_false_iff, Bool.and_eq_false_imp, Bool.not_eq_true', Bool.not_eq_false', ne_eq, Decidable.not_not, Int.not_lt, Int.not_le, Bool.not_eq_true, Bool.not_eq_false] at h0
    refine AW.exit ?_
    refine SeqP.exit ?_
    refine LoopP.exit ?_
    have hgood : ¬ badP s := fun h => by obtain ⟨j, h1, h2, h3⟩ := badP_iff.1 h; exact hno j (by omega) h3
    refine BlockP.here ?_
    refine SeqP.go ?_
    refine AW.seq ?_
    refine AW.seq ?_
    refine AW.region ?_
    refine OpsW.q rfl (q_move (v := .pointer _) rfl) ?_
    refine OpsW.q rfl (q_nilCheck rfl) ?_
    refine OpsW.q rfl (q_fieldAddr (sz := 0) Tryd.underlying42 rfl (by kernel_rfl) rfl) ?_
    refine OpsW.q rfl (q_load (v := S _) (by kernel_rfl) rfl (by first | exact Hp.set_self | exact (Hp.set_ne (by first | assumption | exact Ne.symm (by assumption))).trans (Hp.set_self) | exact (Hp.set_ne (by first | assumption | exact Ne.symm (by assumption))).trans ((Hp.set_ne (by first | assumption | exact Ne.symm (by assumption))).trans (Hp.set_self)) | exact (Hp.set_ne (by first | assumption | exact Ne.symm (by assumption))).trans ((Hp.set_ne (by first | assumption | exact Ne.symm (by assumption))).trans ((Hp.set_ne (by first | assumption | exact Ne.symm (by assumption))).trans (Hp.set_self))) | exact (Hp.set_ne (by first | assumption | exact Ne.symm (by assumption))).trans ((Hp.set_ne (by first | assumption | exact Ne.symm (by assumption))).trans ((Hp.set_ne (by first | assumption | exact Ne.symm (by assumption))).trans ((Hp.set_ne (by first | assumption | exact Ne.symm (by assumption))).trans (Hp.set_self)))) | exact (by assumption) | exact (Hp.set_ne (by first | assumption | exact Ne.symm (by assumption))).trans ((by assumption)) | exact (Hp.set_ne (by first | assumption | exact Ne.symm (by assumption))).trans ((Hp.set_ne (by first | assumption | exact Ne.symm (by assumption))).trans ((by assumption))) | exact (Hp.set_ne (by first | assumption | exact Ne.symm (by assumption))).trans ((Hp.set_ne (by first | assumption | exact Ne.symm (by assumption))).trans ((Hp.set_ne (by first | assumption | exact Ne.symm (by assumption))).trans ((by assumption))))) rfl) ?_
    refine OpsW.q rfl (q_lenS Tryd.underlying9 rfl) ?_
    refine OpsW.q rfl (q_lss rfl rfl) ?_
    refine OpsW.nil ?_
    refine SeqP.go ?_
    refine AW.cond rfl (fun h2 => ?_) (fun h2 => ?_)
    ·
      try simp only [decide_eq_true_eq, decide_eq_false_iff_not, Bool.or_eq_true, Bool.and_eq_true, Bool.or_eq_false_iff, Bool.and_eq_false_imp, Bool.not_eq_true', Bool.not_eq_false', ne_eq, Decidable.not_not, Int.not_lt, Int.not_le, Bool.not_eq_true, Bool.not_eq_false] at h2
      refine AW.seq ?_
      refine AW.region ?_
      refine OpsW.q rfl (q_assign (v := .int _ _) rfl) ?_
      refine OpsW.q rfl (q_assign (v := .int _ _) rfl) ?_
      refine OpsW.nil ?_
      refine SeqP.go ?_
      refine AW.ret ?_
      refine SeqP.ret ?_
      refine RetP.mk2 (H' := H) (v1 := .int _ _) (v2 := .int _ _) rfl rfl rfl  (by first | exact (Hp.le_refl _) | exact (Hp.le_set (by first | assumption | exact Hp.set_none (by assumption) (by first | assumption | exact Ne.symm (by assumption)) | exact Hp.set_none (Hp.set_none (by assumption) (by first | assumption | exact Ne.symm (by assumption))) (by first | assumption | exact Ne.symm (by assumption))) (Hp.le_refl _)) | exact (Hp.le_set (by first | assumption | exact Hp.set_none (by assumption) (by first | assumption | exact Ne.symm (by assumption)) | exact Hp.set_none (Hp.set_none (by assumption) (by first | assumption | exact Ne.symm (by assumption))) (by first | assumption | exact Ne.symm (by assumption))) (Hp.le_set (by first | assumption | exact Hp.set_none (by assumption) (by first | assumption | exact Ne.symm (by assumption)) | exact Hp.set_none (Hp.set_none (by assumption) (by first | assumption | exact Ne.symm (by assumption))) (by first | assumption | exact Ne.symm (by assumption))) (Hp.le_refl _))) | exact (Hp.le_set (by first | assumption | exact Hp.set_none (by assumption) (by first | assumption | exact Ne.symm (by assumption)) | exact Hp.set_none (Hp.set_none (by assumption) (by first | assumption | exact Ne.symm (by assumption))) (by first | assumption | exact Ne.symm (by assumption))) (Hp.le_set (by first | assumption | exact Hp.set_none (by assumption) (by first | assumption | exact Ne.symm (by assumption)) | exact Hp.set_none (Hp.set_none (by assumption) (by first | assumption | exact Ne.symm (by assumption))) (by first | assumption | exact Ne.symm (by assumption))) (Hp.le_set (by first | assumption | exact Hp.set_none (by assumption) (by first | assumption | exact Ne.symm (by assumption)) | exact Hp.set_none (Hp.set_none (by assumption) (by first | assumption | exact Ne.symm (by assumption))) (by first | assumption | exact Ne.symm (by assumption))) (Hp.le_refl _)))) | exact (Hp.le_set (by first | assumption | exact Hp.set_none (by assumption) (by first | assumption | exact Ne.symm (by assumption)) | exact Hp.set_none (Hp.set_none (by assumption) (by first | assumption | exact Ne.symm (by assumption))) (by first | assumption | exact Ne.symm (by assumption))) (Hp.le_set (by first | assumption | exact Hp.set_none (by assumption) (by first | assumption | exact Ne.symm (by assumption)) | exact Hp.set_none (Hp.set_none (by assumption) (by first | assumption | exact Ne.symm (by assumption))) (by first | assumption | exact Ne.symm (by assumption))) (Hp.le_set (by first | assumption | exact Hp.set_none (by assumption) (by first | assumption | exact Ne.symm (by assumption)) | exact Hp.set_none (Hp.set_none (by assumption) (by first | assumption | exact Ne.symm (by assumption))) (by first | assumption | exact Ne.symm (by assumption))) (Hp.le_set (by first | assumption | exact Hp.set_none (by assumption) (by first | assumption | exact Ne.symm (by assumption)) | exact Hp.set_none (Hp.set_none (by assumption) (by first | assumption | exact Ne.symm (by assumption))) (by first | assumption | exact Ne.symm (by assumption))) (Hp.le_refl _))))) | exact (Hp.le_set (by first | assumption | exact Hp.set_none (by assumption) (by first | assumption | exact Ne.symm (by assumption)) | exact Hp.set_none (Hp.set_none (by assumption) (by first | assumption | exact Ne.symm (by assumption))) (by first | assumption | exact Ne.symm (by assumption))) (Hp.le_set (by first | assumption | exact Hp.set_none (by assumption) (by first | assumption | exact Ne.symm (by assumption)) | exact Hp.set_none (Hp.set_none (by assumption) (by first | assumption | exact Ne.symm (by assumption))) (by first | assumption | exact Ne.symm (by assumption))) (Hp.le_set (by first | assumption | exact Hp.set_none (by assumption) (by first | assumption | exact Ne.symm (by assumption)) | exact Hp.set_none (Hp.set_none (by assumption) (by first | assumption | exact Ne.symm (by assumption))) (by first | assumption | exact Ne.symm (by assumption))) (Hp.le_set (by first | assumption | exact Hp.set_none (by assumption) (by first | assumption | exact Ne.symm (by assumption)) | exact Hp.set_none (Hp.set_none (by assumption) (by first | assumption | exact Ne.symm (by assumption))) (by first | assumption | exact Ne.symm (by assumption))) (Hp.le_set (by first | assumption | exact Hp.set_none (by assumption) (by first | assumption | exact Ne.symm (by assumption)) | exact Hp.set_none (Hp.set_none (by assumption) (by first | assumption | exact Ne.symm (by assumption))) (by first | assumption | exact Ne.symm (by assumption))) (Hp.le_refl _))))))) ?_
      exact ⟨by first | rw [sizeP_bad hbad] | rw [sizeP_short hgood (by omega)] | rw [sizeP_big hgood (by omega) (by omega)] | rw [sizeP_wait hgood (by omega) (by omega) (by omega)] | rw [sizeP_ok hgood (by omega) (by omega) (by omega)], rfl⟩
    try simp only [decide_eq_true_eq, decide_eq_false_iff_not, Bool.or_eq_true, Bool.and_eq_true, Bool.or_eq_false_iff, Bool.and_eq_false_imp, Bool.not_eq_true', Bool.not_eq_false', ne_eq, Decidable.not_not, Int.not_lt, Int.not_le, Bool.not_eq_true, Bool.not_eq_false] at h2
    refine AW.skip ?_
    refine SeqP.go ?_
    refine AW.seq ?_
    refine AW.drawK [] 13 rfl (by kernel_rfl) ?_
    refine SeqK.q rfl (q_move (v := .pointer _) rfl) ?_
    refine SeqK.q rfl (q_nilCheck rfl) ?_
    refine SeqK.q rfl (q_fieldAddr (sz := 0) Tryd.underlying42 rfl (by kernel_rfl) rfl) ?_
    refine SeqK.q rfl (q_load (v := S _) (by kernel_rfl) rfl (by first | exact Hp.set_self | exact (Hp.set_ne (by first | assumption | exact Ne.symm (by assumption))).trans (Hp.set_self) | exact (Hp.set_ne (by first | assumption | exact Ne.symm (by assumption))).trans ((Hp.set_ne (by first | assumption | exact Ne.symm (by assumption))).trans (Hp.set_self)) | exact (Hp.set_ne (by first | assumption | exact Ne.symm (by assumption))).trans ((Hp.set_ne (by first | assumption | exact Ne.symm (by assumption))).trans ((Hp.set_ne (by first | assumption | exact Ne.symm (by assumption))).trans (Hp.set_self))) | exact (Hp.set_ne (by first | assumption | exact Ne.symm (by assumption))).trans ((Hp.set_ne (by first | assumption | exact Ne.symm (by assumption))).trans ((Hp.set_ne (by first | assumption | exact Ne.symm (by assumption))).trans ((Hp.set_ne (by first | assumption | exact Ne.symm (by assumption))).trans (Hp.set_self)))) | exact (by assumption) | exact (Hp.set_ne (by first | assumption | exact Ne.symm (by assumption))).trans ((by assumption)) | exact (Hp.set_ne (by first | assumption | exact Ne.symm (by assumption))).trans ((Hp.set_ne (by first | assumption | exact Ne.symm (by assumption))).trans ((by assumption))) | exact (Hp.set_ne (by first | assumption | exact Ne.symm (by assumption))).trans ((Hp.set_ne (by first | assumption | exact Ne.symm (by assumption))).trans ((Hp.set_ne (by first | assumption | exact Ne.symm (by assumption))).trans ((by assumption))))) rfl) ?_
    refine SeqK.q rfl (q_indexS Tryd.underlying9 rfl rfl (by first | omega | decide) (by first | omega | decide)) ?_
    refine SeqK.q rfl (q_convInt rfl Tryd.underlying3 rfl) ?_
    refine SeqK.q rfl (q_shl rfl rfl (by first | omega | decide)) ?_
    refine SeqK.q rfl (q_move (v := .pointer _) rfl) ?_
    refine SeqK.q rfl (q_nilCheck rfl) ?_
    refine SeqK.q rfl (q_fieldAddr (sz := 0) Tryd.underlying42 rfl (by kernel_rfl) rfl) ?_
    refine SeqK.q rfl (q_load (v := S _) (by kernel_rfl) rfl (by first | exact Hp.set_self | exact (Hp.set_ne (by first | assumption | exact Ne.symm (by assumption))).trans (Hp.set_self) | exact (Hp.set_ne (by first | assumption | exact Ne.symm (by assumption))).trans ((Hp.set_ne (by first | assumption | exact Ne.symm (by assumption))).trans (Hp.set_self)) | exact (Hp.set_ne (by first | assumption | exact Ne.symm (by assumption))).trans ((Hp.set_ne (by first | assumption | exact Ne.symm (by assumption))).trans ((Hp.set_ne (by first | assumption | exact Ne.symm (by assumption))).trans (Hp.set_self))) | exact (Hp.set_ne (by first | assumption | exact Ne.symm (by assumption))).trans ((Hp.set_ne (by first | assumption | exact Ne.symm (by assumption))).trans ((Hp.set_ne (by first | assumption | exact Ne.symm (by assumption))).trans ((Hp.set_ne (by first | assumption | exact Ne.symm (by assumption))).trans (Hp.set_self)))) | exact (by assumption) | exact (Hp.set_ne (by first | assumption | exact Ne.symm (by assumption))).trans ((by assumption)) | exact (Hp.set_ne (by first | assumption | exact Ne.symm (by assumption))).trans ((Hp.set_ne (by first | assumption | exact Ne.symm (by assumption))).trans ((by assumption))) | exact (Hp.set_ne (by first | assumption | exact Ne.symm (by assumption))).trans ((Hp.set_ne (by first | assumption | exact Ne.symm (by assumption))).trans ((Hp.set_ne (by first | assumption | exact Ne.symm (by assumption))).trans ((by assumption))))) rfl) ?_
    refine SeqK.q rfl (q_indexS Tryd.underlying9 rfl rfl (by first | omega | decide) (by first | omega | decide)) ?_
    refine SeqK.q rfl (q_convInt rfl Tryd.underlying3 rfl) ?_
    refine SeqK.done ?_
    refine OpsW.q rfl (q_or rfl rfl) ?_
    rw [show ior IntKind.i64 (IntKind.i64.wrap (IntKind.i64.wrap (bt s (Int.toNat 3)) * 2 ^ min (Int.toNat 8) IntKind.i64.bits)) (IntKind.i64.wrap (bt s (Int.toNat 4))) = 256 * bt s 3 + bt s 4 from two_bytes (bt_range s 3) (bt_range s 4)]
    have hb3 := bt_range s 3
    have hb4 := bt_range s 4
    refine OpsW.q rfl (q_assign (v := .int _ _) rfl) ?_
    refine OpsW.nil ?_
    refine SeqP.go ?_
    refine AW.seq ?_
    refine AW.block ?_
    refine AW.seq ?_
    refine AW.region ?_
    refine OpsW.q rfl (q_move (v := .int _ _) rfl) ?_
    refine OpsW.q rfl (q_gtr rfl rfl) ?_
    refine OpsW.q rfl (q_assign (v := .bool _) rfl) ?_
    refine OpsW.nil ?_
    refine SeqP.go ?_
    refine AW.cond rfl (fun h3 => ?_) (fun h3 => ?_)
    ·
      try simp only [decide_eq_true_eq, decide_eq_false_iff_not, Bool.or_eq_true, Bool.and_eq_true, Bool.or_eq_false_iff, Bool.and_eq_false_imp, Bool.not_eq_true', Bool.not_eq_false', ne_eq, Decidable.not_not, Int.not_lt, Int.not_le, Bool.not_eq_true, Bool.not_eq_false] at h3
      refine AW.seq ?_
      refine AW.region ?_
      refine OpsW.q rfl (q_assign (v := .int _ _) rfl) ?_
      refine OpsW.q rfl (q_assign (v := .int _ _) rfl) ?_
      refine OpsW.nil ?_
      refine SeqP.go ?_
      refine AW.ret ?_
      refine BlockP.ret ?_
      refine SeqP.ret ?_
      refine RetP.mk2 (H' := H) (v1 := .int _ _) (v2 := .int _ _) rfl rfl rfl  (by first | exact (Hp.le_refl _) | exact (Hp.le_set (by first | assumption | exact Hp.set_none (by assumption) (by first | assumption | exact Ne.symm (by assumption)) | exact Hp.set_none (Hp.set_none (by assumption) (by first | assumption | exact Ne.symm (by assumption))) (by first | assumption | exact Ne.symm (by assumption))) (Hp.le_refl _)) | exact (Hp.le_set (by first | assumption | exact Hp.set_none (by assumption) (by first | assumption | exact Ne.symm (by assumption)) | exact Hp.set_none (Hp.set_none (by assumption) (by first | assumption | exact Ne.symm (by assumption))) (by first | assumption | exact Ne.symm (by assumption))) (Hp.le_set (by first | assumption | exact Hp.set_none (by assumption) (by first | assumption | exact Ne.symm (by assumption)) | exact Hp.set_none (Hp.set_none (by assumption) (by first | assumption | exact Ne.symm (by assumption))) (by first | assumption | exact Ne.symm (by assumption))) (Hp.le_refl _))) | exact (Hp.le_set (by first | assumption | exact Hp.set_none (by assumption) (by first | assumption | exact Ne.symm (by assumption)) | exact Hp.set_none (Hp.set_none (by assumption) (by first | assumption | exact Ne.symm (by assumption))) (by first | assumption | exact Ne.symm (by assumption))) (Hp.le_set (by first | assumption | exact Hp.set_none (by assumption) (by first | assumption | exact Ne.symm (by assumption)) | exact Hp.set_none (Hp.set_none (by assumption) (by first | assumption | exact Ne.symm (by assumption))) (by first | assumption | exact Ne.symm (by assumption))) (Hp.le_set (by first | assumption | exact Hp.set_none (by assumption) (by first | assumption | exact Ne.symm (by assumption)) | exact Hp.set_none (Hp.set_none (by assumption) (by first | assumption | exact Ne.symm (by assumption))) (by first | assumption | exact Ne.symm (by assumption))) (Hp.le_refl _)))) | exact (Hp.le_set (by first | assumption | exact Hp.set_none (by assumption) (by first | assumption | exact Ne.symm (by assumption)) | exact Hp.set_none (Hp.set_none (by assumption) (by first | assumption | exact Ne.symm (by assumption))) (by first | assumption | exact Ne.symm (by assumption))) (Hp.le_set (by first | assumption | exact Hp.set_none (by assumption) (by first | assumption | exact Ne.symm (by assumption)) | exact Hp.set_none (Hp.set_none (by assumption) (by first | assumption | exact Ne.symm (by assumption))) (by first | assumption | exact Ne.symm (by assumption))) (Hp.le_set (by first | assumption | exact Hp.set_none (by assumption) (by first | assumption | exact Ne.symm (by assumption)) | exact Hp.set_none (Hp.set_none (by assumption) (by first | assumption | exact Ne.symm (by assumption))) (by first | assumption | exact Ne.symm (by assumption))) (Hp.le_set (by first | assumption | exact Hp.set_none (by assumption) (by first | assumption | exact Ne.symm (by assumption)) | exact Hp.set_none (Hp.set_none (by assumption) (by first | assumption | exact Ne.symm (by assumption))) (by first | assumption | exact Ne.symm (by assumption))) (Hp.le_refl _))))) | exact (Hp.le_set (by first | assumption | exact Hp.set_none (by assumption) (by first | assumption | exact Ne.symm (by assumption)) | exact Hp.set_none (Hp.set_none (by assumption) (by first | assumption | exact Ne.symm (by assumption))) (by first | assumption | exact Ne.symm (by assumption))) (Hp.le_set (by first | assumption | exact Hp.set_none (by assumption) (by first | assumption | exact Ne.symm (by assumption)) | exact Hp.set_none (Hp.set_none (by assumption) (by first | assumption | exact Ne.symm (by assumption))) (by first | assumption | exact Ne.symm (by assumption))) (Hp.le_set (by first | assumption | exact Hp.set_none (by assumption) (by first | assumption | exact Ne.symm (by assumption)) | exact Hp.set_none (Hp.set_none (by assumption) (by first | assumption | exact Ne.symm (by assumption))) (by first | assumption | exact Ne.symm (by assumption))) (Hp.le_set (by first | assumption | exact Hp.set_none (by assumption) (by first | assumption | exact Ne.symm (by assumption)) | exact Hp.set_none (Hp.set_none (by assumption) (by first | assumption | exact Ne.symm (by assumption))) (by first | assumption | exact Ne.symm (by assumption))) (Hp.le_set (by first | assumption | exact Hp.set_none (by assumption) (by first | assumption | exact Ne.symm (by assumption)) | exact Hp.set_none (Hp.set_none (by assumption) (by first | assumption | exact Ne.symm (by assumption))) (by first | assumption | exact Ne.symm (by assumption))) (Hp.le_refl _))))))) ?_
      exact ⟨by first | rw [sizeP_bad hbad] | rw [sizeP_short hgood (by omega)] | rw [sizeP_big hgood (by omega) (by omega)] | rw [sizeP_wait hgood (by omega) (by omega) (by omega)] | rw [sizeP_ok hgood (by omega) (by omega) (by omega)], rfl⟩
    try simp only [decide_eq_true_eq, decide_eq_false_iff_not, Bool.or_eq_true, Bool.and_eq_true, Bool.or_eq_false_iff, Bool.and_eq_false_imp, Bool.not_eq_true', Bool.not_eq_false', ne_eq, Decidable.not_not, Int.not_lt, Int.not_le, Bool.not_eq_true, Bool.not_eq_false] at h3
    refine AW.seq ?_
    refine AW.region ?_
    refine OpsW.q rfl (q_move (v := .pointer _) rfl) ?_
    refine OpsW.q rfl (q_nilCheck rfl) ?_
    refine OpsW.q rfl (q_fieldAddr (sz := 0) Tryd.underlying42 rfl (by kernel_rfl) rfl) ?_
    refine OpsW.q rfl (q_load (v := S _) (by kernel_rfl) rfl (by first | exact Hp.set_self | exact (Hp.set_ne (by first | assumption | exact Ne.symm (by assumption))).trans (Hp.set_self) | exact (Hp.set_ne (by first | assumption | exact Ne.symm (by assumption))).trans ((Hp.set_ne (by first | assumption | exact Ne.symm (by assumption))).trans (Hp.set_self)) | exact (Hp.set_ne (by first | assumption | exact Ne.symm (by assumption))).trans ((Hp.set_ne (by first | assumption | exact Ne.symm (by assumption))).trans ((Hp.set_ne (by first | assumption | exact Ne.symm (by assumption))).trans (Hp.set_self))) | exact (Hp.set_ne (by first | assumption | exact Ne.symm (by assumption))).trans ((Hp.set_ne (by first | assumption | exact Ne.symm (by assumption))).trans ((Hp.set_ne (by first | assumption | exact Ne.symm (by assumption))).trans ((Hp.set_ne (by first | assumption | exact Ne.symm (by assumption))).trans (Hp.set_self)))) | exact (by assumption) | exact (Hp.set_ne (by first | assumption | exact Ne.symm (by assumption))).trans ((by assumption)) | exact (Hp.set_ne (by first | assumption | exact Ne.symm (by assumption))).trans ((Hp.set_ne (by first | assumption | exact Ne.symm (by assumption))).trans ((by assumption))) | exact (Hp.set_ne (by first | assumption | exact Ne.symm (by assumption))).trans ((Hp.set_ne (by first | assumption | exact Ne.symm (by assumption))).trans ((Hp.set_ne (by first | assumption | exact Ne.symm (by assumption))).trans ((by assumption))))) rfl) ?_
    refine OpsW.q rfl (q_lenS Tryd.underlying9 rfl) ?_
    refine OpsW.q rfl (q_move (v := .int _ _) rfl) ?_
    refine OpsW.q rfl (q_addI rfl rfl (by omega)) ?_
    refine OpsW.q rfl (q_lss rfl rfl) ?_
    refine OpsW.q rfl (q_assign (v := .bool _) rfl) ?_
    refine OpsW.nil ?_
    refine SeqP.go ?_
    refine AW.cond rfl (fun h4 => ?_) (fun h4 => ?_)
    ·
      try simp only [decide_eq_true_eq, decide_eq_false_iff_not, Bool.or_eq_true, Bool.and_eq_true, Bool.or_eq_false_iff, Bool.and_eq_false_imp, Bool.not_eq_true', Bool.not_eq_false', ne_eq, Decidable.not_not, Int.not_lt, Int.not_le, Bool.not_eq_true, Bool.not_eq_false] at h4
      refine AW.seq ?_
      refine AW.region ?_
      refine OpsW.q rfl (q_assign (v := .int _ _) rfl) ?_
      refine OpsW.q rfl (q_assign (v := .int _ _) rfl) ?_
      refine OpsW.nil ?_
      refine SeqP.go ?_
      refine AW.ret ?_
      refine BlockP.ret ?_
      refine SeqP.ret ?_
      refine RetP.mk2 (H' := H) (v1 := .int _ _) (v2 := .int _ _) rfl rfl rfl  (by first | exact (Hp.le_refl _) | exact (Hp.le_set (by first | assumption | exact Hp.set_none (by assumption) (by first | assumption | exact Ne.symm (by assumption)) | exact Hp.set_none (Hp.set_none (by assumption) (by first | assumption | exact Ne.symm (by assumption))) (by first | assumption | exact Ne.symm (by assumption))) (Hp.le_refl _)) | exact (Hp.le_set (by first | assumption | exact Hp.set_none (by assumption) (by first | assumption | exact Ne.symm (by assumption)) | exact Hp.set_none (Hp.set_none (by assumption) (by first | assumption | exact Ne.symm (by assumption))) (by first | assumption | exact Ne.symm (by assumption))) (Hp.le_set (by first | assumption | exact Hp.set_none (by assumption) (by first | assumption | exact Ne.symm (by assumption)) | exact Hp.set_none (Hp.set_none (by assumption) (by first | assumption | exact Ne.symm (by assumption))) (by first | assumption | exact Ne.symm (by assumption))) (Hp.le_refl _))) | exact (Hp.le_set (by first | assumption | exact Hp.set_none (by assumption) (by first | assumption | exact Ne.symm (by assumption)) | exact Hp.set_none (Hp.set_none (by assumption) (by first | assumption | exact Ne.symm (by assumption))) (by first | assumption | exact Ne.symm (by assumption))) (Hp.le_set (by first | assumption | exact Hp.set_none (by assumption) (by first | assumption | exact Ne.symm (by assumption)) | exact Hp.set_none (Hp.set_none (by assumption) (by first | assumption | exact Ne.symm (by assumption))) (by first | assumption | exact Ne.symm (by assumption))) (Hp.le_set (by first | assumption | exact Hp.set_none (by assumption) (by first | assumption | exact Ne.symm (by assumption)) | exact Hp.set_none (Hp.set_none (by assumption) (by first | assumption | exact Ne.symm (by assumption))) (by first | assumption | exact Ne.symm (by assumption))) (Hp.le_refl _)))) | exact (Hp.le_set (by first | assumption | exact Hp.set_none (by assumption) (by first | assumption | exact Ne.symm (by assumption)) | exact Hp.set_none (Hp.set_none (by assumption) (by first | assumption | exact Ne.symm (by assumption))) (by first | assumption | exact Ne.symm (by assumption))) (Hp.le_set (by first | assumption | exact Hp.set_none (by assumption) (by first | assumption | exact Ne.symm (by assumption)) | exact Hp.set_none (Hp.set_none (by assumption) (by first | assumption | exact Ne.symm (by assumption))) (by first | assumption | exact Ne.symm (by assumption))) (Hp.le_set (by first | assumption | exact Hp.set_none (by assumption) (by first | assumption | exact Ne.symm (by assumption)) | exact Hp.set_none (Hp.set_none (by assumption) (by first | assumption | exact Ne.symm (by assumption))) (by first | assumption | exact Ne.symm (by assumption))) (Hp.le_set (by first | assumption | exact Hp.set_none (by assumption) (by first | assumption | exact Ne.symm (by assumption)) | exact Hp.set_none (Hp.set_none (by assumption) (by first | assumption | exact Ne.symm (by assumption))) (by first | assumption | exact Ne.symm (by assumption))) (Hp.le_refl _))))) | exact (Hp.le_set (by first | assumption | exact Hp.set_none (by assumption) (by first | assumption | exact Ne.symm (by assumption)) | exact Hp.set_none (Hp.set_none (by assumption) (by first | assumption | exact Ne.symm (by assumption))) (by first | assumption | exact Ne.symm (by assumption))) (Hp.le_set (by first | assumption | exact Hp.set_none (by assumption) (by first | assumption | exact Ne.symm (by assumption)) | exact Hp.set_none (Hp.set_none (by assumption) (by first | assumption | exact Ne.symm (by assumption))) (by first | assumption | exact Ne.symm (by assumption))) (Hp.le_set (by first | assumption | exact Hp.set_none (by assumption) (by first | assumption | exact Ne.symm (by assumption)) | exact Hp.set_none (Hp.set_none (by assumption) (by first | assumption | exact Ne.symm (by assumption))) (by first | assumption | exact Ne.symm (by assumption))) (Hp.le_set (by first | assumption | exact Hp.set_none (by assumption) (by first | assumption | exact Ne.symm (by assumption)) | exact Hp.set_none (Hp.set_none (by assumption) (by first | assumption | exact Ne.symm (by assumption))) (by first | assumption | exact Ne.symm (by assumption))) (Hp.le_set (by first | assumption | exact Hp.set_none (by assumption) (by first | assumption | exact Ne.symm (by assumption)) | exact Hp.set_none (Hp.set_none (by assumption) (by first | assumption | exact Ne.symm (by assumption))) (by first | assumption | exact Ne.symm (by assumption))) (Hp.le_refl _))))))) ?_
      exact ⟨by first | rw [sizeP_bad hbad] | rw [sizeP_short hgood (by omega)] | rw [sizeP_big hgood (by omega) (by omega)] | rw [sizeP_wait hgood (by omega) (by omega) (by omega)] | rw [sizeP_ok hgood (by omega) (by omega) (by omega)], rfl⟩
    try simp only [decide_eq_true_eq, decide_eq_false_iff_not, Bool.or_eq_true, Bool.and_eq_true, Bool.or_eq_false_iff, Bool.and_eq_false_imp, Bool.not_eq_true', Bool.not_eq_false', ne_eq, Decidable.not_not, Int.not_lt, Int.not_le, Bool.not_eq_true, Bool.not_eq_false] at h4
    refine AW.skip ?_
    refine BlockP.go ?_
    refine SeqP.go ?_
    refine AW.seq ?_
    refine AW.region ?_
    refine OpsW.q rfl (q_move (v := .int _ _) rfl) ?_
    refine OpsW.q rfl (q_assign (v := .int _ _) rfl) ?_
    refine OpsW.q rfl (q_assign (v := .int _ _) rfl) ?_
    refine OpsW.nil ?_
    refine SeqP.go ?_
    refine AW.ret ?_
    refine RetP.mk2 (H' := H) (v1 := .int _ _) (v2 := .int _ _) rfl rfl rfl  (by first | exact (Hp.le_refl _) | exact (Hp.le_set (by first | assumption | exact Hp.set_none (by assumption) (by first | assumption | exact Ne.symm (by assumption)) | exact Hp.set_none (Hp.set_none (by assumption) (by first | assumption | exact Ne.symm (by assumption))) (by first | assumption | exact Ne.symm (by assumption))) (Hp.le_refl _)) | exact (Hp.le_set (by first | assumption | exact Hp.set_none (by assumption) (by first | assumption | exact Ne.symm (by assumption)) | exact Hp.set_none (Hp.set_none (by assumption) (by first | assumption | exact Ne.symm (by assumption))) (by first | assumption | exact Ne.symm (by assumption))) (Hp.le_set (by first | assumption | exact Hp.set_none (by assumption) (by first | assumption | exact Ne.symm (by assumption)) | exact Hp.set_none (Hp.set_none (by assumption) (by first | assumption | exact Ne.symm (by assumption))) (by first | assumption | exact Ne.symm (by assumption))) (Hp.le_refl _))) | exact (Hp.le_set (by first | assumption | exact Hp.set_none (by assumption) (by first | assumption | exact Ne.symm (by assumption)) | exact Hp.set_none (Hp.set_none (by assumption) (by first | assumption | exact Ne.symm (by assumption))) (by first | assumption | exact Ne.symm (by assumption))) (Hp.le_set (by first | assumption | exact Hp.set_none (by assumption) (by first | assumption | exact Ne.symm (by assumption)) | exact Hp.set_none (Hp.set_none (by assumption) (by first | assumption | exact Ne.symm (by assumption))) (by first | assumption | exact Ne.symm (by assumption))) (Hp.le_set (by first | assumption | exact Hp.set_none (by assumption) (by first | assumption | exact Ne.symm (by assumption)) | exact Hp.set_none (Hp.set_none (by assumption) (by first | assumption | exact Ne.symm (by assumption))) (by first | assumption | exact Ne.symm (by assumption))) (Hp.le_refl _)))) | exact (Hp.le_set (by first | assumption | exact Hp.set_none (by assumption) (by first | assumption | exact Ne.symm (by assumption)) | exact Hp.set_none (Hp.set_none (by assumption) (by first | assumption | exact Ne.symm (by assumption))) (by first | assumption | exact Ne.symm (by assumption))) (Hp.le_set (by first | assumption | exact Hp.set_none (by assumption) (by first | assumption | exact Ne.symm (by assumption)) | exact Hp.set_none (Hp.set_none (by assumption) (by first | assumption | exact Ne.symm (by assumption))) (by first | assumption | exact Ne.symm (by assumption))) (Hp.le_set (by first | assumption | exact Hp.set_none (by assumption) (by first | assumption | exact Ne.symm (by assumption)) | exact Hp.set_none (Hp.set_none (by assumption) (by first | assumption | exact Ne.symm (by assumption))) (by first | assumption | exact Ne.symm (by assumption))) (Hp.le_set (by first | assumption | exact Hp.set_none (by assumption) (by first | assumption | exact Ne.symm (by assumption)) | exact Hp.set_none (Hp.set_none (by assumption) (by first | assumption | exact Ne.symm (by assumption))) (by first | assumption | exact Ne.symm (by assumption))) (Hp.le_refl _))))) | exact (Hp.le_set (by first | assumption | exact Hp.set_none (by assumption) (by first | assumption | exact Ne.symm (by assumption)) | exact Hp.set_none (Hp.set_none (by assumption) (by first | assumption | exact Ne.symm (by assumption))) (by first | assumption | exact Ne.symm (by assumption))) (Hp.le_set (by first | assumption | exact Hp.set_none (by assumption) (by first | assumption | exact Ne.symm (by assumption)) | exact Hp.set_none (Hp.set_none (by assumption) (by first | assumption | exact Ne.symm (by assumption))) (by first | assumption | exact Ne.symm (by assumption))) (Hp.le_set (by first | assumption | exact Hp.set_none (by assumption) (by first | assumption | exact Ne.symm (by assumption)) | exact Hp.set_none (Hp.set_none (by assumption) (by first | assumption | exact Ne.symm (by assumption))) (by first | assumption | exact Ne.symm (by assumption))) (Hp.le_set (by first | assumption | exact Hp.set_none (by assumption) (by first | assumption | exact Ne.symm (by assumption)) | exact Hp.set_none (Hp.set_none (by assumption) (by first | assumption | exact Ne.symm (by assumption))) (by first | assumption | exact Ne.symm (by assumption))) (Hp.le_set (by first | assumption | exact Hp.set_none (by assumption) (by first | assumption | exact Ne.symm (by assumption)) | exact Hp.set_none (Hp.set_none (by assumption) (by first | assumption | exact Ne.symm (by assumption))) (by first | assumption | exact Ne.symm (by assumption))) (Hp.le_refl _))))))) ?_
    exact ⟨by first | rw [sizeP_bad hbad] | rw [sizeP_short hgood (by omega)] | rw [sizeP_big hgood (by omega) (by omega)] | rw [sizeP_wait hgood (by omega) (by omega) (by omega)] | rw [sizeP_ok hgood (by omega) (by omega) (by omega)], rfl⟩
  try simp only [decide_eq_true_eq, decide_eq_false_iff_not, Bool.or_eq_true, Bool.and_eq_true, Bool.or_eq_false_iff, Bool.and_eq_false_imp, Bool.not_eq_true', Bool.not_eq_false', ne_eq, Decidable.not_not, Int.not_lt, Int.not_le, Bool.not_eq_true, Bool.not_eq_false] at h0
  refine AW.skip ?_
  refine SeqP.go ?_
  refine AW.seq ?_
  refine AW.block ?_
  refine AW.seq ?_
  refine AW.region ?_
  refine OpsW.q rfl (q_move (v := .int _ _) rfl) ?_
  refine OpsW.q rfl (q_indexAddrV0 Tryd.underlying39 (by kernel_rfl) rfl rfl (by first | omega | decide) (by first | omega | decide)) ?_
  refine OpsW.q rfl (q_loadN (by kernel_rfl) rfl (by first | exact Hp.set_self | exact (Hp.set_ne (by first | assumption | exact Ne.symm (by assumption))).trans (Hp.set_self) | exact (Hp.set_ne (by first | assumption | exact Ne.symm (by assumption))).trans ((Hp.set_ne (by first | assumption | exact Ne.symm (by assumption))).trans (Hp.set_self)) | exact (Hp.set_ne (by first | assumption | exact Ne.symm (by assumption))).trans ((Hp.set_ne (by first | assumption | exact Ne.symm (by assumption))).trans ((Hp.set_ne (by first | assumption | exact Ne.symm (by assumption))).trans (Hp.set_self))) | exact (Hp.set_ne (by first | assumption | exact Ne.symm (by assumption))).trans ((Hp.set_ne (by first | assumption | exact Ne.symm (by assumption))).trans ((Hp.set_ne (by first | assumption | exact Ne.symm (by assumption))).trans ((Hp.set_ne (by first | assumption | exact Ne.symm (by assumption))).trans (Hp.set_self)))) | exact (by assumption) | exact (Hp.set_ne (by first | assumption | exact Ne.symm (by assumption))).trans ((by assumption)) | exact (Hp.set_ne (by first | assumption | exact Ne.symm (by assumption))).trans ((Hp.set_ne (by first | assumption | exact Ne.symm (by assumption))).trans ((by assumption))) | exact (Hp.set_ne (by first | assumption | exact Ne.symm (by assumption))).trans ((Hp.set_ne (by first | assumption | exact Ne.symm (by assumption))).trans ((Hp.set_ne (by first | assumption | exact Ne.symm (by assumption))).trans ((by assumption))))) (by first | (with_reducible assumption) | omega | (unfold maxLen; omega) | (simp only [nums_length, List.length_set, List.length_replicate, List.length_take, List.length_drop, List.length_append, List.length_cons, List.length_nil, ofB_length, toB_length]; omega) | (simp only [nums_length, List.length_set, List.length_replicate, List.length_take, List.length_drop, List.length_append, List.length_cons, List.length_nil, ofB_length, toB_length]; unfold maxLen; omega) | (simp; done) | (simp; omega) | rfl | decide)) ?_
  rw [show (ofB (s.take (min 3 s.length))).getD (i : Int).toNat 0 = bt s i from by rw [ofB_getD, Int.toNat_natCast, bt_take s (by omega)]]
  refine OpsW.q rfl (q_assign (v := .int _ _) rfl) ?_
  refine OpsW.q rfl (q_assign (v := .int _ _) rfl) ?_
  refine OpsW.nil ?_
  refine SeqP.go ?_
  refine AW.seq ?_
  refine AW.region ?_
  refine OpsW.q rfl (q_move (v := .int _ _) rfl) ?_
  refine OpsW.q rfl (q_eql rfl rfl) ?_
  refine OpsW.qb rfl (q_move (v := .bool _) rfl) ?_
  intro b27 eb27
  refine OpsW.g rfl rfl rfl (fun hB => by simp only [Bool.and_eq_true, beq_iff_eq] at hB; obtain rfl := hB; exact (q_move (v := .int _ _) rfl)) ?_
  refine OpsW.g rfl rfl rfl (fun hB => by simp only [Bool.and_eq_true, beq_iff_eq] at hB; obtain rfl := hB; exact (q_convInt rfl Tryd.underlying3 rfl)) ?_
  rw [wrap_i64 (x := bt s i) (by have := bt_range s i; omega) (by have := bt_range s i; omega)]
  refine OpsW.g rfl rfl rfl (fun hB => by simp only [Bool.and_eq_true, beq_iff_eq] at hB; obtain rfl := hB; exact (o_call rfl Tryd.func13 rfl rfl (isKind_con _))) ?_
  refine OpsW.g rfl rfl rfl (fun hB => by simp only [Bool.and_eq_true, beq_iff_eq] at hB; obtain rfl := hB; exact (q_not rfl)) ?_
  refine OpsW.q rfl (q_and2 rfl rfl rfl) ?_
  refine OpsW.qb rfl (q_move (v := .bool _) rfl) ?_
  intro b33 eb33
  refine OpsW.g rfl rfl rfl (fun hB => by simp only [Bool.and_eq_true, beq_iff_eq] at hB; obtain rfl := hB; exact (q_move (v := .int _ _) rfl)) ?_
  refine OpsW.g rfl rfl rfl (fun hB => by simp only [Bool.and_eq_true, beq_iff_eq] at hB; obtain rfl := hB; exact (q_gtr rfl rfl)) ?_
  refine OpsW.gb rfl rfl rfl (fun hB => by simp only [Bool.and_eq_true, beq_iff_eq] at hB; obtain rfl := hB; exact (q_move (v := .bool _) rfl)) ?_
  intro b36 eb36
  refine OpsW.gg rfl rfl rfl (fun hB => by simp only [Bool.and_eq_true, beq_iff_eq] at hB; obtain ⟨rfl, rfl⟩ := hB; exact (q_move (v := .int _ _) rfl)) ?_
  refine OpsW.gg rfl rfl rfl (fun hB => by simp only [Bool.and_eq_true, beq_iff_eq] at hB; obtain ⟨rfl, rfl⟩ := hB; exact (q_neq rfl rfl)) ?_
  refine OpsW.g rfl rfl rfl (fun hB => by simp only [Bool.and_eq_true, beq_iff_eq] at hB; obtain rfl := hB; exact (q_and2 rfl rfl rfl)) ?_
  refine OpsW.q rfl (q_or2 rfl rfl rfl) ?_
  refine OpsW.nil ?_
  refine SeqP.go ?_
  refine AW.cond rfl (fun h1 => ?_) (fun h1 => ?_)
  ·
    try simp only [eb27, eb33, eb36, decide_eq_true_eq, decide_eq_false_iff_not, Bool.or_eq_true, Bool.and_eq_true, Bool.or_eq_false_iff, Bool.and_eq_false_imp, Bool.not_eq_true', Bool.not_eq_false', ne_eq, Decidable.not_not, Int.not_lt, Int.not_le, Bool.not_eq_true, Bool.not_eq_false] at h1
    have hbad : badP s := badP_of (i := i) (by omega) (by omega) (badAt_of (by simp_all))
    refine AW.seq ?_
    refine AW.region ?_
    refine OpsW.q rfl (q_assign (v := .int _ _) rfl) ?_
    refine OpsW.q rfl (q_assign (v := .int _ _) rfl) ?_
    refine OpsW.nil ?_
    refine SeqP.go ?_
    refine AW.ret ?_
    refine BlockP.ret ?_
    refine SeqP.ret ?_
    refine LoopP.ret ?_
    refine BlockP.ret ?_
    refine SeqP.ret ?_
    refine RetP.mk2 (H' := H) (v1 := .int _ _) (v2 := .int _ _) rfl rfl rfl  (by first | exact (Hp.le_refl _) | exact (Hp.le_set (by first | assumption | exact Hp.set_none (by assumption) (by first | assumption | exact Ne.symm (by assumption)) | exact Hp.set_none (Hp.set_none (by assumption) (by first | assumption | exact Ne.symm (by assumption))) (by first | assumption | exact Ne.symm (by assumption))) (Hp.le_refl _)) | exact (Hp.le_set (by first | assumption | exact Hp.set_none (by assumption) (by first | assumption | exact Ne.symm (by assumption)) | exact Hp.set_none (Hp.set_none (by assumption) (by first | assumption | exact Ne.symm (by assumption))) (by first | assumption | exact Ne.symm (by assumption))) (Hp.le_set (by first | assumption | exact Hp.set_none (by assumption) (by first | assumption | exact Ne.symm (by assumption)) | exact Hp.set_none (Hp.set_none (by assumption) (by first | assumption | exact Ne.symm (by assumption))) (by first | assumption | exact Ne.symm (by assumption))) (Hp.le_refl _))) | exact (Hp.le_set (by first | assumption | exact Hp.set_none (by assumption) (by first | assumption | exact Ne.symm (by assumption)) | exact Hp.set_none (Hp.set_none (by assumption) (by first | assumption | exact Ne.symm (by assumption))) (by first | assumption | exact Ne.symm (by assumption))) (Hp.le_set (by first | assumption | exact Hp.set_none (by assumption) (by first | assumption | exact Ne.symm (by assumption)) | exact Hp.set_none (Hp.set_none (by assumption) (by first | assumption | exact Ne.symm (by assumption))) (by first | assumption | exact Ne.symm (by assumption))) (Hp.le_set (by first | assumption | exact Hp.set_none (by assumption) (by first | assumption | exact Ne.symm (by assumption)) | exact Hp.set_none (Hp.set_none (by assumption) (by first | assumption | exact Ne.symm (by assumption))) (by first | assumption | exact Ne.symm (by assumption))) (Hp.le_refl _)))) | exact (Hp.le_set (by first | assumption | exact Hp.set_none (by assumption) (by first | assumption | exact Ne.symm (by assumption)) | exact Hp.set_none (Hp.set_none (by assumption) (by first | assumption | exact Ne.symm (by assumption))) (by first | assumption | exact Ne.symm (by assumption))) (Hp.le_set (by first | assumption | exact Hp.set_none (by assumption) (by first | assumption | exact Ne.symm (by assumption)) | exact Hp.set_none (Hp.set_none (by assumption) (by first | assumption | exact Ne.symm (by assumption))) (by first | assumption | exact Ne.symm (by assumption))) (Hp.le_set (by first | assumption | exact Hp.set_none (by assumption) (by first | assumption | exact Ne.symm (by assumption)) | exact Hp.set_none (Hp.set_none (by assumption) (by first | assumption | exact Ne.symm (by assumption))) (by first | assumption | exact Ne.symm (by assumption))) (Hp.le_set (by first | assumption | exact Hp.set_none (by assumption) (by first | assumption | exact Ne.symm (by assumption)) | exact Hp.set_none (Hp.set_none (by assumption) (by first | assumption | exact Ne.symm (by assumption))) (by first | assumption | exact Ne.symm (by assumption))) (Hp.le_refl _))))) | exact (Hp.le_set (by first | assumption | exact Hp.set_none (by assumption) (by first | assumption | exact Ne.symm (by assumption)) | exact Hp.set_none (Hp.set_none (by assumption) (by first | assumption | exact Ne.symm (by assumption))) (by first | assumption | exact Ne.symm (by assumption))) (Hp.le_set (by first | assumption | exact Hp.set_none (by assumption) (by first | assumption | exact Ne.symm (by assumption)) | exact Hp.set_none (Hp.set_none (by assumption) (by first | assumption | exact Ne.symm (by assumption))) (by first | assumption | exact Ne.symm (by assumption))) (Hp.le_set (by first | assumption | exact Hp.set_none (by assumption) (by first | assumption | exact Ne.symm (by assumption)) | exact Hp.set_none (Hp.set_none (by assumption) (by first | assumption | exact Ne.symm (by assumption))) (by first | assumption | exact Ne.symm (by assumption))) (Hp.le_set (by first | assumption | exact Hp.set_none (by assumption) (by first | assumption | exact Ne.symm (by assumption)) | exact Hp.set_none (Hp.set_none (by assumption) (by first | assumption | exact Ne.symm (by assumption))) (by first | assumption | exact Ne.symm (by assumption))) (Hp.le_set (by first | assumption | exact Hp.set_none (by assumption) (by first | assumption | exact Ne.symm (by assumption)) | exact Hp.set_none (Hp.set_none (by assumption) (by first | assumption | exact Ne.symm (by assumption))) (by first | assumption | exact Ne.symm (by assumption))) (Hp.le_refl _))))))) ?_
    exact ⟨by first | rw [sizeP_bad hbad] | rw [sizeP_short hgood (by omega)] | rw [sizeP_big hgood (by omega) (by omega)] | rw [sizeP_wait hgood (by omega) (by omega) (by omega)] | rw [sizeP_ok hgood (by omega) (by omega) (by omega)], rfl⟩
  try simp only [eb27, eb33, eb36, decide_eq_true_eq, decide_eq_false_iff_not, Bool.or_eq_true, Bool.and_eq_true, Bool.or_eq_false_iff, Bool.and_eq_false_imp, Bool.not_eq_true', Bool.not_eq_false', ne_eq, Decidable.not_not, Int.not_lt, Int.not_le, Bool.not_eq_true, Bool.not_eq_false] at h1
  have hok : ¬ badAt s i := by simp_all [badAt] <;> omega
  refine AW.skip ?_
  refine BlockP.go ?_
  refine SeqP.go ?_
  refine AW.region ?_
  refine OpsW.q rfl (q_addI rfl rfl (by omega)) ?_
  refine OpsW.q rfl (q_move (v := .int _ _) rfl) ?_
  refine OpsW.nil ?_
  exact LoopP.go _ (by omega) ⟨i + 1, _, rfl, ⟨by omega, fun j hj => (Nat.lt_or_ge j i).elim (fun hji => hno j hji) (fun hji => by rw [show j = i from by omega]; exact hok)⟩, Slots.eq ⟨(by first | rfl | exact i64_int (by omega) (by omega) (by omega) | assumption), (by first | rfl | exact i64_int (by omega) (by omega) (by omega) | assumption), (by first | rfl | exact i64_int (by omega) (by omega) (by omega) | assumption), (by first | rfl | exact i64_int (by omega) (by omega) (by omega) | assumption),  trivial⟩, rfl⟩
theorem next_con {bR : Nat} (s : List UInt8) (e : Int) (hb : H bR = some ⟨[S s, .int .i64 e], 2, 42⟩) (hs : s.length ≤ 1048576) : Con Tryd.prog w0 5 #[.pointer (some ⟨bR, 0, none⟩)] H
    (fun v H' => v = .tuple #[.int .i64 (nextP s e).1.1, S (nextP s e).1.2.1, .int .i64 (nextP s e).1.2.2] ∧ H' = H.set bR ⟨[S (nextP s e).2.1, .int .i64 (nextP s e).2.2], 2, 42⟩) := by
  refine Con.intro Tryd.func5 rfl rfl ?_
  refine AW.seq ?_
  refine AW.region ?_
  refine OpsW.q rfl (q_assign (v := .int _ _) rfl) ?_
  refine OpsW.q rfl (q_assign (v := S _) rfl) ?_
  refine OpsW.q rfl (q_assign (v := .int _ _) rfl) ?_
  refine OpsW.nil ?_
  refine SeqP.go ?_
  refine AW.seq ?_
  refine AW.block ?_
  refine AW.seq ?_
  refine AW.region ?_
  refine OpsW.q rfl (q_move (v := .pointer _) rfl) ?_
  refine OpsW.q rfl (q_eqlP Tryd.underlying22 rfl rfl) ?_
  refine OpsW.q rfl (q_assign (v := .bool _) rfl) ?_
  refine OpsW.nil ?_
  refine SeqP.go ?_
  refine AW.cond rfl (fun h0 => ?_) (fun h0 => ?_)
  ·
    exfalso
    try simp only [decide_eq_true_eq, decide_eq_false_iff_not, Bool.or_eq_true, Bool.and_eq_true, Bool.or_eq_false_iff, Bool.and_eq_false_imp, Bool.not_eq_true', Bool.not_eq_false', ne_eq, Decidable.not_not, Int.not_lt, Int.not_le, Bool.not_eq_true, Bool.not_eq_false] at h0
    cases h0
  try simp only [decide_eq_true_eq, decide_eq_false_iff_not, Bool.or_eq_true, Bool.and_eq_true, Bool.or_eq_false_iff, Bool.and_eq_false_imp, Bool.not_eq_true', Bool.not_eq_false', ne_eq, Decidable.not_not, Int.not_lt, Int.not_le, Bool.not_eq_true, Bool.not_eq_false] at h0
  refine AW.seq ?_
  refine AW.region ?_
  refine OpsW.q rfl (q_move (v := .pointer _) rfl) ?_
  refine OpsW.q rfl (q_nilCheck rfl) ?_
  refine OpsW.q rfl (q_fieldAddr (sz := 0) Tryd.underlying42 rfl (by kernel_rfl) rfl) ?_
  refine OpsW.q rfl (q_load (v := .int _ _) (by kernel_rfl) rfl (by first | exact Hp.set_self | exact (Hp.set_ne (by first | assumption | exact Ne.symm (by assumption))).trans (Hp.set_self) | exact (Hp.set_ne (by first | assumption | exact Ne.symm (by assumption))).trans ((Hp.set_ne (by first | assumption | exact Ne.symm (by assumption))).trans (Hp.set_self)) | exact (Hp.set_ne (by first | assumption | exact Ne.symm (by assumption))).trans ((Hp.set_ne (by first | assumption | exact Ne.symm (by assumption))).trans ((Hp.set_ne (by first | assumption | exact Ne.symm (by assumption))).trans (Hp.set_self))) | exact (Hp.set_ne (by first | assumption | exact Ne.symm (by assumption))).trans ((Hp.set_ne (by first | assumption | exact Ne.symm (by assumption))).trans ((Hp.set_ne (by first | assumption | exact Ne.symm (by assumption))).trans ((Hp.set_ne (by first | assumption | exact Ne.symm (by assumption))).trans (Hp.set_self)))) | exact (by assumption) | exact (Hp.set_ne (by first | assumption | exact Ne.symm (by assumption))).trans ((by assumption)) | exact (Hp.set_ne (by first | assumption | exact Ne.symm (by assumption))).trans ((Hp.set_ne (by first | assumption | exact Ne.symm (by assumption))).trans ((by assumption))) | exact (Hp.set_ne (by first | assumption | exact Ne.symm (by assumption))).trans ((Hp.set_ne (by first | assumption | exact Ne.symm (by assumption))).trans ((Hp.set_ne (by first | assumption | exact Ne.symm (by assumption))).trans ((by assumption))))) rfl) ?_
  refine OpsW.q rfl (q_neq rfl rfl) ?_
  refine OpsW.q rfl (q_assign (v := .bool _) rfl) ?_
  refine OpsW.nil ?_
  refine SeqP.go ?_
  refine AW.cond rfl (fun h1 => ?_) (fun h1 => ?_)
  ·
    try simp only [decide_eq_true_eq, decide_eq_false_iff_not, Bool.or_eq_true, Bool.and_eq_true, Bool.or_eq_false_iff, Bool.and_eq_false_imp, Bool.not_eq_true', Bool.not_eq_false', ne_eq, Decidable.not_not, Int.not_lt, Int.not_le, Bool.not_eq_true, Bool.not_eq_false] at h1
    refine AW.seq ?_
    refine AW.drawK [] 6 rfl (by kernel_rfl) ?_
    refine SeqK.q rfl (q_move (v := .pointer _) rfl) ?_
    refine SeqK.q rfl (q_nilCheck rfl) ?_
    refine SeqK.q rfl (q_fieldAddr (sz := 0) Tryd.underlying42 rfl (by kernel_rfl) rfl) ?_
    refine SeqK.q rfl (q_load (v := .int _ _) (by kernel_rfl) rfl (by first | exact Hp.set_self | exact (Hp.set_ne (by first | assumption | exact Ne.symm (by assumption))).trans (Hp.set_self) | exact (Hp.set_ne (by first | assumption | exact Ne.symm (by assumption))).trans ((Hp.set_ne (by first | assumption | exact Ne.symm (by assumption))).trans (Hp.set_self)) | exact (Hp.set_ne (by first | assumption | exact Ne.symm (by assumption))).trans ((Hp.set_ne (by first | assumption | exact Ne.symm (by assumption))).trans ((Hp.set_ne (by first | assumption | exact Ne.symm (by assumption))).trans (Hp.set_self))) | exact (Hp.set_ne (by first | assumption | exact Ne.symm (by assumption))).trans ((Hp.set_ne (by first | assumption | exact Ne.symm (by assumption))).trans ((Hp.set_ne (by first | assumption | exact Ne.symm (by assumption))).trans ((Hp.set_ne (by first | assumption | exact Ne.symm (by assumption))).trans (Hp.set_self)))) | exact (by assumption) | exact (Hp.set_ne (by first | assumption | exact Ne.symm (by assumption))).trans ((by assumption)) | exact (Hp.set_ne (by first | assumption | exact Ne.symm (by assumption))).trans ((Hp.set_ne (by first | assumption | exact Ne.symm (by assumption))).trans ((by assumption))) | exact (Hp.set_ne (by first | assumption | exact Ne.symm (by assumption))).trans ((Hp.set_ne (by first | assumption | exact Ne.symm (by assumption))).trans ((Hp.set_ne (by first | assumption | exact Ne.symm (by assumption))).trans ((by assumption))))) rfl) ?_
    refine SeqK.q rfl (q_assign (v := .int _ _) rfl) ?_
    refine SeqK.q rfl (q_assign (v := S _) rfl) ?_
    refine SeqK.done ?_
    refine OpsW.q rfl (q_assign (v := .int _ _) rfl) ?_
    refine OpsW.nil ?_
    refine SeqP.go ?_
    refine AW.ret ?_
    refine BlockP.ret ?_
    refine SeqP.ret ?_
    refine RetP.mk3 (H' := _) (v1 := .int _ _) (v2 := S _) (v3 := .int _ _) rfl rfl rfl rfl  (by first | exact (Hp.le_refl _) | exact (Hp.le_set (by first | assumption | exact Hp.set_none (by assumption) (by first | assumption | exact Ne.symm (by assumption)) | exact Hp.set_none (Hp.set_none (by assumption) (by first | assumption | exact Ne.symm (by assumption))) (by first | assumption | exact Ne.symm (by assumption))) (Hp.le_refl _)) | exact (Hp.le_set (by first | assumption | exact Hp.set_none (by assumption) (by first | assumption | exact Ne.symm (by assumption)) | exact Hp.set_none (Hp.set_none (by assumption) (by first | assumption | exact Ne.symm (by assumption))) (by first | assumption | exact Ne.symm (by assumption))) (Hp.le_set (by first | assumption | exact Hp.set_none (by assumption) (by first | assumption | exact Ne.symm (by assumption)) | exact Hp.set_none (Hp.set_none (by assumption) (by first | assumption | exact Ne.symm (by assumption))) (by first | assumption | exact Ne.symm (by assumption))) (Hp.le_refl _))) | exact (Hp.le_set (by first | assumption | exact Hp.set_none (by assumption) (by first | assumption | exact Ne.symm (by assumption)) | exact Hp.set_none (Hp.set_none (by assumption) (by first | assumption | exact Ne.symm (by assumption))) (by first | assumption | exact Ne.symm (by assumption))) (Hp.le_set (by first | assumption | exact Hp.set_none (by assumption) (by first | assumption | exact Ne.symm (by assumption)) | exact Hp.set_none (Hp.set_none (by assumption) (by first | assumption | exact Ne.symm (by assumption))) (by first | assumption | exact Ne.symm (by assumption))) (Hp.le_set (by first | assumption | exact Hp.set_none (by assumption) (by first | assumption | exact Ne.symm (by assumption)) | exact Hp.set_none (Hp.set_none (by assumption) (by first | assumption | exact Ne.symm (by assumption))) (by first | assumption | exact Ne.symm (by assumption))) (Hp.le_refl _)))) | exact (Hp.le_set (by first | assumption | exact Hp.set_none (by assumption) (by first | assumption | exact Ne.symm (by assumption)) | exact Hp.set_none (Hp.set_none (by assumption) (by first | assumption | exact Ne.symm (by assumption))) (by first | assumption | exact Ne.symm (by assumption))) (Hp.le_set (by first | assumption | exact Hp.set_none (by assumption) (by first | assumption | exact Ne.symm (by assumption)) | exact Hp.set_none (Hp.set_none (by assumption) (by first | assumption | exact Ne.symm (by assumption))) (by first | assumption | exact Ne.symm (by assumption))) (Hp.le_set (by first | assumption | exact Hp.set_none (by assumption) (by first | assumption | exact Ne.symm (by assumption)) | exact Hp.set_none (Hp.set_none (by assumption) (by first | assumption | exact Ne.symm (by assumption))) (by first | assumption | exact Ne.symm (by assumption))) (Hp.le_set (by first | assumption | exact Hp.set_none (by assumption) (by first | assumption | exact Ne.symm (by assumption)) | exact Hp.set_none (Hp.set_none (by assumption) (by first | assumption | exact Ne.symm (by assumption))) (by first | assumption | exact Ne.symm (by assumption))) (Hp.le_refl _))))) | exact (Hp.le_set (by first | assumption | exact Hp.set_none (by assumption) (by first | assumption | exact Ne.symm (by assumption)) | exact Hp.set_none (Hp.set_none (by assumption) (by first | assumption | exact Ne.symm (by assumption))) (by first | assumption | exact Ne.symm (by assumption))) (Hp.le_set (by first | assumption | exact Hp.set_none (by assumption) (by first | assumption | exact Ne.symm (by assumption)) | exact Hp.set_none (Hp.set_none (by assumption) (by first | assumption | exact Ne.symm (by assumption))) (by first | assumption | exact Ne.symm (by assumption))) (Hp.le_set (by first | assumption | exact Hp.set_none (by assumption) (by first | assumption | exact Ne.symm (by assumption)) | exact Hp.set_none (Hp.set_none (by assumption) (by first | assumption | exact Ne.symm (by assumption))) (by first | assumption | exact Ne.symm (by assumption))) (Hp.le_set (by first | assumption | exact Hp.set_none (by assumption) (by first | assumption | exact Ne.symm (by assumption)) | exact Hp.set_none (Hp.set_none (by assumption) (by first | assumption | exact Ne.symm (by assumption))) (by first | assumption | exact Ne.symm (by assumption))) (Hp.le_set (by first | assumption | exact Hp.set_none (by assumption) (by first | assumption | exact Ne.symm (by assumption)) | exact Hp.set_none (Hp.set_none (by assumption) (by first | assumption | exact Ne.symm (by assumption))) (by first | assumption | exact Ne.symm (by assumption))) (Hp.le_refl _))))))) ?_
    first | exact ⟨by rw [nextP_err (by assumption)], by rw [nextP_err (by assumption)]; exact (Hp.set_id hb).symm⟩ | exact ⟨by rw [nextP_wrong (by assumption) (by assumption)], by rw [nextP_wrong (by assumption) (by assumption)] <;> rfl⟩ | exact ⟨by rw [nextP_busy (by assumption)] <;> simp_all, by rw [nextP_busy (by assumption)]; exact (Hp.set_id hb).symm⟩ | exact ⟨by rw [nextP_ok (by assumption)] <;> rfl, by rw [nextP_ok (by assumption)] <;> rfl⟩
  try simp only [decide_eq_true_eq, decide_eq_false_iff_not, Bool.or_eq_true, Bool.and_eq_true, Bool.or_eq_false_iff, Bool.and_eq_false_imp, Bool.not_eq_true', Bool.not_eq_false', ne_eq, Decidable.not_not, Int.not_lt, Int.not_le, Bool.not_eq_true, Bool.not_eq_false] at h1
  obtain rfl := h1
  refine AW.skip ?_
  refine BlockP.go ?_
  refine SeqP.go ?_
  refine AW.seq ?_
  refine AW.region ?_
  refine OpsW.q rfl (q_move (v := .pointer _) rfl) ?_
  refine OpsW.x rfl (o_call rfl Tryd.func12 rfl rfl (size_con s hb hs)) ?_
  refine OpsW.q rfl (q_move (v := .tuple _) rfl) ?_
  refine OpsW.q rfl (q_extract (v := .int _ _) rfl rfl) ?_
  refine OpsW.q rfl (q_extract (v := .int _ _) rfl rfl) ?_
  refine OpsW.q rfl (q_assign (v := .int _ _) rfl) ?_
  refine OpsW.q rfl (q_assign (v := .int _ _) rfl) ?_
  refine OpsW.nil ?_
  refine SeqP.go ?_
  refine AW.seq ?_
  refine AW.seq ?_
  refine AW.region ?_
  refine OpsW.q rfl (q_move (v := .int _ _) rfl) ?_
  refine OpsW.q rfl (q_neq rfl rfl) ?_
  refine OpsW.nil ?_
  refine SeqP.go ?_
  refine AW.cond rfl (fun h2 => ?_) (fun h2 => ?_)
  ·
    try simp only [decide_eq_true_eq, decide_eq_false_iff_not, Bool.or_eq_true, Bool.and_eq_true, Bool.or_eq_false_iff, Bool.and_eq_false_imp, Bool.not_eq_true', Bool.not_eq_false', ne_eq, Decidable.not_not, Int.not_lt, Int.not_le, Bool.not_eq_true, Bool.not_eq_false] at h2
    refine AW.seq ?_
    refine AW.seq ?_
    refine AW.region ?_
    refine OpsW.q rfl (q_move (v := .int _ _) rfl) ?_
    refine OpsW.q rfl (q_neq rfl rfl) ?_
    refine OpsW.nil ?_
    refine SeqP.go ?_
    refine AW.cond rfl (fun h3 => ?_) (fun h3 => ?_)
    ·
      try simp only [decide_eq_true_eq, decide_eq_false_iff_not, Bool.or_eq_true, Bool.and_eq_true, Bool.or_eq_false_iff, Bool.and_eq_false_imp, Bool.not_eq_true', Bool.not_eq_false', ne_eq, Decidable.not_not, Int.not_lt, Int.not_le, Bool.not_eq_true, Bool.not_eq_false] at h3
      refine AW.region ?_
      refine OpsW.q rfl (q_move (v := .pointer _) rfl) ?_
      refine OpsW.q rfl (q_move (v := .int _ _) rfl) ?_
      refine OpsW.q rfl (q_nilCheck rfl) ?_
      refine OpsW.q rfl (q_fieldAddr (sz := 0) Tryd.underlying42 rfl (by kernel_rfl) rfl) ?_
      refine OpsW.s (o_store (v := .int _ _) (by kernel_rfl) rfl rfl rfl (by first | exact Hp.set_self | exact (Hp.set_ne (by first | assumption | exact Ne.symm (by assumption))).trans (Hp.set_self) | exact (Hp.set_ne (by first | assumption | exact Ne.symm (by assumption))).trans ((Hp.set_ne (by first | assumption | exact Ne.symm (by assumption))).trans (Hp.set_self)) | exact (Hp.set_ne (by first | assumption | exact Ne.symm (by assumption))).trans ((Hp.set_ne (by first | assumption | exact Ne.symm (by assumption))).trans ((Hp.set_ne (by first | assumption | exact Ne.symm (by assumption))).trans (Hp.set_self))) | exact (Hp.set_ne (by first | assumption | exact Ne.symm (by assumption))).trans ((Hp.set_ne (by first | assumption | exact Ne.symm (by assumption))).trans ((Hp.set_ne (by first | assumption | exact Ne.symm (by assumption))).trans ((Hp.set_ne (by first | assumption | exact Ne.symm (by assumption))).trans (Hp.set_self)))) | exact (by assumption) | exact (Hp.set_ne (by first | assumption | exact Ne.symm (by assumption))).trans ((by assumption)) | exact (Hp.set_ne (by first | assumption | exact Ne.symm (by assumption))).trans ((Hp.set_ne (by first | assumption | exact Ne.symm (by assumption))).trans ((by assumption))) | exact (Hp.set_ne (by first | assumption | exact Ne.symm (by assumption))).trans ((Hp.set_ne (by first | assumption | exact Ne.symm (by assumption))).trans ((Hp.set_ne (by first | assumption | exact Ne.symm (by assumption))).trans ((by assumption))))) (by first | (with_reducible assumption) | omega | (unfold maxLen; omega) | (simp only [nums_length, List.length_set, List.length_replicate, List.length_take, List.length_drop, List.length_append, List.length_cons, List.length_nil, ofB_length, toB_length]; omega) | (simp only [nums_length, List.length_set, List.length_replicate, List.length_take, List.length_drop, List.length_append, List.length_cons, List.length_nil, ofB_length, toB_length]; unfold maxLen; omega) | (simp; done) | (simp; omega) | rfl | decide)) ?_
      refine OpsW.nil ?_
      refine SeqP.go ?_
      refine AW.seq ?_
      refine AW.region ?_
      refine OpsW.q rfl (q_move (v := .int _ _) rfl) ?_
      refine OpsW.q rfl (q_assign (v := .int _ _) rfl) ?_
      refine OpsW.q rfl (q_assign (v := S _) rfl) ?_
      refine OpsW.q rfl (q_assign (v := .int _ _) rfl) ?_
      refine OpsW.nil ?_
      refine SeqP.go ?_
      refine AW.ret ?_
      refine SeqP.ret ?_
      refine RetP.mk3 (H' := _) (v1 := .int _ _) (v2 := S _) (v3 := .int _ _) rfl rfl rfl rfl  (by first | exact (Hp.le_refl _) | exact (Hp.le_set (by first | assumption | exact Hp.set_none (by assumption) (by first | assumption | exact Ne.symm (by assumption)) | exact Hp.set_none (Hp.set_none (by assumption) (by first | assumption | exact Ne.symm (by assumption))) (by first | assumption | exact Ne.symm (by assumption))) (Hp.le_refl _)) | exact (Hp.le_set (by first | assumption | exact Hp.set_none (by assumption) (by first | assumption | exact Ne.symm (by assumption)) | exact Hp.set_none (Hp.set_none (by assumption) (by first | assumption | exact Ne.symm (by assumption))) (by first | assumption | exact Ne.symm (by assumption))) (Hp.le_set (by first | assumption | exact Hp.set_none (by assumption) (by first | assumption | exact Ne.symm (by assumption)) | exact Hp.set_none (Hp.set_none (by assumption) (by first | assumption | exact Ne.symm (by assumption))) (by first | assumption | exact Ne.symm (by assumption))) (Hp.le_refl _))) | exact (Hp.le_set (by first | assumption | exact Hp.set_none (by assumption) (by first | assumption | exact Ne.symm (by assumption)) | exact Hp.set_none (Hp.set_none (by assumption) (by first | assumption | exact Ne.symm (by assumption))) (by first | assumption | exact Ne.symm (by assumption))) (Hp.le_set (by first | assumption | exact Hp.set_none (by assumption) (by first | assumption | exact Ne.symm (by assumption)) | exact Hp.set_none (Hp.set_none (by assumption) (by first | assumption | exact Ne.symm (by assumption))) (by first | assumption | exact Ne.symm (by assumption))) (Hp.le_set (by first | assumption | exact Hp.set_none (by assumption) (by first | assumption | exact Ne.symm (by assumption)) | exact Hp.set_none (Hp.set_none (by assumption) (by first | assumption | exact Ne.symm (by assumption))) (by first | assumption | exact Ne.symm (by assumption))) (Hp.le_refl _)))) | exact (Hp.le_set (by first | assumption | exact Hp.set_none (by assumption) (by first | assumption | exact Ne.symm (by assumption)) | exact Hp.set_none (Hp.set_none (by assumption) (by first | assumption | exact Ne.symm (by assumption))) (by first | assumption | exact Ne.symm (by assumption))) (Hp.le_set (by first | assumption | exact Hp.set_none (by assumption) (by first | assumption | exact Ne.symm (by assumption)) | exact Hp.set_none (Hp.set_none (by assumption) (by first | assumption | exact Ne.symm (by assumption))) (by first | assumption | exact Ne.symm (by assumption))) (Hp.le_set (by first | assumption | exact Hp.set_none (by assumption) (by first | assumption | exact Ne.symm (by assumption)) | exact Hp.set_none (Hp.set_none (by assumption) (by first | assumption | exact Ne.symm (by assumption))) (by first | assumption | exact Ne.symm (by assumption))) (Hp.le_set (by first | assumption | exact Hp.set_none (by assumption) (by first | assumption | exact Ne.symm (by assumption)) | exact Hp.set_none (Hp.set_none (by assumption) (by first | assumption | exact Ne.symm (by assumption))) (by first | assumption | exact Ne.symm (by assumption))) (Hp.le_refl _))))) | exact (Hp.le_set (by first | assumption | exact Hp.set_none (by assumption) (by first | assumption | exact Ne.symm (by assumption)) | exact Hp.set_none (Hp.set_none (by assumption) (by first | assumption | exact Ne.symm (by assumption))) (by first | assumption | exact Ne.symm (by assumption))) (Hp.le_set (by first | assumption | exact Hp.set_none (by assumption) (by first | assumption | exact Ne.symm (by assumption)) | exact Hp.set_none (Hp.set_none (by assumption) (by first | assumption | exact Ne.symm (by assumption))) (by first | assumption | exact Ne.symm (by assumption))) (Hp.le_set (by first | assumption | exact Hp.set_none (by assumption) (by first | assumption | exact Ne.symm (by assumption)) | exact Hp.set_none (Hp.set_none (by assumption) (by first | assumption | exact Ne.symm (by assumption))) (by first | assumption | exact Ne.symm (by assumption))) (Hp.le_set (by first | assumption | exact Hp.set_none (by assumption) (by first | assumption | exact Ne.symm (by assumption)) | exact Hp.set_none (Hp.set_none (by assumption) (by first | assumption | exact Ne.symm (by assumption))) (by first | assumption | exact Ne.symm (by assumption))) (Hp.le_set (by first | assumption | exact Hp.set_none (by assumption) (by first | assumption | exact Ne.symm (by assumption)) | exact Hp.set_none (Hp.set_none (by assumption) (by first | assumption | exact Ne.symm (by assumption))) (by first | assumption | exact Ne.symm (by assumption))) (Hp.le_refl _))))))) ?_
      first | exact ⟨by rw [nextP_err (by assumption)], by rw [nextP_err (by assumption)]; exact (Hp.set_id hb).symm⟩ | exact ⟨by rw [nextP_wrong (by assumption) (by assumption)], by rw [nextP_wrong (by assumption) (by assumption)] <;> rfl⟩ | exact ⟨by rw [nextP_busy (by assumption)] <;> simp_all, by rw [nextP_busy (by assumption)]; exact (Hp.set_id hb).symm⟩ | exact ⟨by rw [nextP_ok (by assumption)] <;> rfl, by rw [nextP_ok (by assumption)] <;> rfl⟩
    try simp only [decide_eq_true_eq, decide_eq_false_iff_not, Bool.or_eq_true, Bool.and_eq_true, Bool.or_eq_false_iff, Bool.and_eq_false_imp, Bool.not_eq_true', Bool.not_eq_false', ne_eq, Decidable.not_not, Int.not_lt, Int.not_le, Bool.not_eq_true, Bool.not_eq_false] at h3
    refine AW.skip ?_
    refine SeqP.go ?_
    refine AW.seq ?_
    refine AW.region ?_
    refine OpsW.q rfl (q_move (v := .int _ _) rfl) ?_
    refine OpsW.q rfl (q_assign (v := .int _ _) rfl) ?_
    refine OpsW.q rfl (q_assign (v := S _) rfl) ?_
    refine OpsW.q rfl (q_assign (v := .int _ _) rfl) ?_
    refine OpsW.nil ?_
    refine SeqP.go ?_
    refine AW.ret ?_
    refine SeqP.ret ?_
    refine RetP.mk3 (H' := _) (v1 := .int _ _) (v2 := S _) (v3 := .int _ _) rfl rfl rfl rfl  (by first | exact (Hp.le_refl _) | exact (Hp.le_set (by first | assumption | exact Hp.set_none (by assumption) (by first | assumption | exact Ne.symm (by assumption)) | exact Hp.set_none (Hp.set_none (by assumption) (by first | assumption | exact Ne.symm (by assumption))) (by first | assumption | exact Ne.symm (by assumption))) (Hp.le_refl _)) | exact (Hp.le_set (by first | assumption | exact Hp.set_none (by assumption) (by first | assumption | exact Ne.symm (by assumption)) | exact Hp.set_none (Hp.set_none (by assumption) (by first | assumption | exact Ne.symm (by assumption))) (by first | assumption | exact Ne.symm (by assumption))) (Hp.le_set (by first | assumption | exact Hp.set_none (by assumption) (by first | assumption | exact Ne.symm (by assumption)) | exact Hp.set_none (Hp.set_none (by assumption) (by first | assumption | exact Ne.symm (by assumption))) (by first | assumption | exact Ne.symm (by assumption))) (Hp.le_refl _))) | exact (Hp.le_set (by first | assumption | exact Hp.set_none (by assumption) (by first | assumption | exact Ne.symm (by assumption)) | exact Hp.set_none (Hp.set_none (by assumption) (by first | assumption | exact Ne.symm (by assumption))) (by first | assumption | exact Ne.symm (by assumption))) (Hp.le_set (by first | assumption | exact Hp.set_none (by assumption) (by first | assumption | exact Ne.symm (by assumption)) | exact Hp.set_none (Hp.set_none (by assumption) (by first | assumption | exact Ne.symm (by assumption))) (by first | assumption | exact Ne.symm (by assumption))) (Hp.le_set (by first | assumption | exact Hp.set_none (by assumption) (by first | assumption | exact Ne.symm (by assumption)) | exact Hp.set_none (Hp.set_none (by assumption) (by first | assumption | exact Ne.symm (by assumption))) (by first | assumption | exact Ne.symm (by assumption))) (Hp.le_refl _)))) | exact (Hp.le_set (by first | assumption | exact Hp.set_none (by assumption) (by first | assumption | exact Ne.symm (by assumption)) | exact Hp.set_none (Hp.set_none (by assumption) (by first | assumption | exact Ne.symm (by assumption))) (by first | assumption | exact Ne.symm (by assumption))) (Hp.le_set (by first | assumption | exact Hp.set_none (by assumption) (by first | assumption | exact Ne.symm (by assumption)) | exact Hp.set_none (Hp.set_none (by assumption) (by first | assumption | exact Ne.symm (by assumption))) (by first | assumption | exact Ne.symm (by assumption))) (Hp.le_set (by first | assumption | exact Hp.set_none (by assumption) (by first | assumption | exact Ne.symm (by assumption)) | exact Hp.set_none (Hp.set_none (by assumption) (by first | assumption | exact Ne.symm (by assumption))) (by first | assumption | exact Ne.symm (by assumption))) (Hp.le_set (by first | assumption | exact Hp.set_none (by assumption) (by first | assumption | exact Ne.symm (by assumption)) | exact Hp.set_none (Hp.set_none (by assumption) (by first | assumption | exact Ne.symm (by assumption))) (by first | assumption | exact Ne.symm (by assumption))) (Hp.le_refl _))))) | exact (Hp.le_set (by first | assumption | exact Hp.set_none (by assumption) (by first | assumption | exact Ne.symm (by assumption)) | exact Hp.set_none (Hp.set_none (by assumption) (by first | assumption | exact Ne.symm (by assumption))) (by first | assumption | exact Ne.symm (by assumption))) (Hp.le_set (by first | assumption | exact Hp.set_none (by assumption) (by first | assumption | exact Ne.symm (by assumption)) | exact Hp.set_none (Hp.set_none (by assumption) (by first | assumption | exact Ne.symm (by assumption))) (by first | assumption | exact Ne.symm (by assumption))) (Hp.le_set (by first | assumption | exact Hp.set_none (by assumption) (by first | assumption | exact Ne.symm (by assumption)) | exact Hp.set_none (Hp.set_none (by assumption) (by first | assumption | exact Ne.symm (by assumption))) (by first | assumption | exact Ne.symm (by assumption))) (Hp.le_set (by first | assumption | exact Hp.set_none (by assumption) (by first | assumption | exact Ne.symm (by assumption)) | exact Hp.set_none (Hp.set_none (by assumption) (by first | assumption | exact Ne.symm (by assumption))) (by first | assumption | exact Ne.symm (by assumption))) (Hp.le_set (by first | assumption | exact Hp.set_none (by assumption) (by first | assumption | exact Ne.symm (by assumption)) | exact Hp.set_none (Hp.set_none (by assumption) (by first | assumption | exact Ne.symm (by assumption))) (by first | assumption | exact Ne.symm (by assumption))) (Hp.le_refl _))))))) ?_
    first | exact ⟨by rw [nextP_err (by assumption)], by rw [nextP_err (by assumption)]; exact (Hp.set_id hb).symm⟩ | exact ⟨by rw [nextP_wrong (by assumption) (by assumption)], by rw [nextP_wrong (by assumption) (by assumption)] <;> rfl⟩ | exact ⟨by rw [nextP_busy (by assumption)] <;> simp_all, by rw [nextP_busy (by assumption)]; exact (Hp.set_id hb).symm⟩ | exact ⟨by rw [nextP_ok (by assumption)] <;> rfl, by rw [nextP_ok (by assumption)] <;> rfl⟩
  try simp only [decide_eq_true_eq, decide_eq_false_iff_not, Bool.or_eq_true, Bool.and_eq_true, Bool.or_eq_false_iff, Bool.and_eq_false_imp, Bool.not_eq_true', Bool.not_eq_false', ne_eq, Decidable.not_not, Int.not_lt, Int.not_le, Bool.not_eq_true, Bool.not_eq_false] at h2
  obtain ⟨hz1, hz2, hz3, hz4, hz5, hz6⟩ := sizeP_zero h2
  have hb0 := bt_range s 0
  refine AW.skip ?_
  refine SeqP.go ?_
  refine AW.seq ?_
  refine AW.drawK [] 14 rfl (by kernel_rfl) ?_
  refine SeqK.q rfl (q_move (v := .pointer _) rfl) ?_
  refine SeqK.q rfl (q_nilCheck rfl) ?_
  refine SeqK.q rfl (q_fieldAddr (sz := 0) Tryd.underlying42 rfl (by kernel_rfl) rfl) ?_
  refine SeqK.q rfl (q_load (v := S _) (by kernel_rfl) rfl (by first | exact Hp.set_self | exact (Hp.set_ne (by first | assumption | exact Ne.symm (by assumption))).trans (Hp.set_self) | exact (Hp.set_ne (by first | assumption | exact Ne.symm (by assumption))).trans ((Hp.set_ne (by first | assumption | exact Ne.symm (by assumption))).trans (Hp.set_self)) | exact (Hp.set_ne (by first | assumption | exact Ne.symm (by assumption))).trans ((Hp.set_ne (by first | assumption | exact Ne.symm (by assumption))).trans ((Hp.set_ne (by first | assumption | exact Ne.symm (by assumption))).trans (Hp.set_self))) | exact (Hp.set_ne (by first | assumption | exact Ne.symm (by assumption))).trans ((Hp.set_ne (by first | assumption | exact Ne.symm (by assumption))).trans ((Hp.set_ne (by first | assumption | exact Ne.symm (by assumption))).trans ((Hp.set_ne (by first | assumption | exact Ne.symm (by assumption))).trans (Hp.set_self)))) | exact (by assumption) | exact (Hp.set_ne (by first | assumption | exact Ne.symm (by assumption))).trans ((by assumption)) | exact (Hp.set_ne (by first | assumption | exact Ne.symm (by assumption))).trans ((Hp.set_ne (by first | assumption | exact Ne.symm (by assumption))).trans ((by assumption))) | exact (Hp.set_ne (by first | assumption | exact Ne.symm (by assumption))).trans ((Hp.set_ne (by first | assumption | exact Ne.symm (by assumption))).trans ((Hp.set_ne (by first | assumption | exact Ne.symm (by assumption))).trans ((by assumption))))) rfl) ?_
  refine SeqK.q rfl (q_indexS Tryd.underlying9 rfl rfl (by first | omega | decide) (by first | omega | decide)) ?_
  refine SeqK.q rfl (q_convInt rfl Tryd.underlying3 rfl) ?_
  rw [wrap_i64 (x := bt s (0 : Int).toNat) (by have := bt_range s 0; exact Int.le_trans (by decide) this.1) (by have := bt_range s 0; exact Int.le_trans this.2 (by decide))]
  refine SeqK.q rfl (q_move (v := .pointer _) rfl) ?_
  refine SeqK.q rfl (q_nilCheck rfl) ?_
  refine SeqK.q rfl (q_fieldAddr (sz := 0) Tryd.underlying42 rfl (by kernel_rfl) rfl) ?_
  refine SeqK.q rfl (q_load (v := S _) (by kernel_rfl) rfl (by first | exact Hp.set_self | exact (Hp.set_ne (by first | assumption | exact Ne.symm (by assumption))).trans (Hp.set_self) | exact (Hp.set_ne (by first | assumption | exact Ne.symm (by assumption))).trans ((Hp.set_ne (by first | assumption | exact Ne.symm (by assumption))).trans (Hp.set_self)) | exact (Hp.set_ne (by first | assumption | exact Ne.symm (by assumption))).trans ((Hp.set_ne (by first | assumption | exact Ne.symm (by assumption))).trans ((Hp.set_ne (by first | assumption | exact Ne.symm (by assumption))).trans (Hp.set_self))) | exact (Hp.set_ne (by first | assumption | exact Ne.symm (by assumption))).trans ((Hp.set_ne (by first | assumption | exact Ne.symm (by assumption))).trans ((Hp.set_ne (by first | assumption | exact Ne.symm (by assumption))).trans ((Hp.set_ne (by first | assumption | exact Ne.symm (by assumption))).trans (Hp.set_self)))) | exact (by assumption) | exact (Hp.set_ne (by first | assumption | exact Ne.symm (by assumption))).trans ((by assumption)) | exact (Hp.set_ne (by first | assumption | exact Ne.symm (by assumption))).trans ((Hp.set_ne (by first | assumption | exact Ne.symm (by assumption))).trans ((by assumption))) | exact (Hp.set_ne (by first | assumption | exact Ne.symm (by assumption))).trans ((Hp.set_ne (by first | assumption | exact Ne.symm (by assumption))).trans ((Hp.set_ne (by first | assumption | exact Ne.symm (by assumption))).trans ((by assumption))))) rfl) ?_
  refine SeqK.q rfl (q_move (v := .int _ _) rfl) ?_
  refine SeqK.q rfl (q_addI rfl rfl (by omega)) ?_
  refine SeqK.q rfl (q_sliceS Tryd.underlying9 rfl rfl rfl (by first | omega | decide) (by first | omega | decide) (by first | omega | decide)) ?_
  refine SeqK.q rfl (q_assign (v := .int _ _) rfl) ?_
  refine SeqK.done ?_
  refine OpsW.q rfl (q_assign (v := S _) rfl) ?_
  refine OpsW.nil ?_
  refine SeqP.go ?_
  refine AW.seq ?_
  refine AW.region ?_
  refine OpsW.q rfl (q_move (v := .pointer _) rfl) ?_
  refine OpsW.q rfl (q_move (v := .pointer _) rfl) ?_
  refine OpsW.q rfl (q_nilCheck rfl) ?_
  refine OpsW.q rfl (q_fieldAddr (sz := 0) Tryd.underlying42 rfl (by kernel_rfl) rfl) ?_
  refine OpsW.q rfl (q_load (v := S _) (by kernel_rfl) rfl (by first | exact Hp.set_self | exact (Hp.set_ne (by first | assumption | exact Ne.symm (by assumption))).trans (Hp.set_self) | exact (Hp.set_ne (by first | assumption | exact Ne.symm (by assumption))).trans ((Hp.set_ne (by first | assumption | exact Ne.symm (by assumption))).trans (Hp.set_self)) | exact (Hp.set_ne (by first | assumption | exact Ne.symm (by assumption))).trans ((Hp.set_ne (by first | assumption | exact Ne.symm (by assumption))).trans ((Hp.set_ne (by first | assumption | exact Ne.symm (by assumption))).trans (Hp.set_self))) | exact (Hp.set_ne (by first | assumption | exact Ne.symm (by assumption))).trans ((Hp.set_ne (by first | assumption | exact Ne.symm (by assumption))).trans ((Hp.set_ne (by first | assumption | exact Ne.symm (by assumption))).trans ((Hp.set_ne (by first | assumption | exact Ne.symm (by assumption))).trans (Hp.set_self)))) | exact (by assumption) | exact (Hp.set_ne (by first | assumption | exact Ne.symm (by assumption))).trans ((by assumption)) | exact (Hp.set_ne (by first | assumption | exact Ne.symm (by assumption))).trans ((Hp.set_ne (by first | assumption | exact Ne.symm (by assumption))).trans ((by assumption))) | exact (Hp.set_ne (by first | assumption | exact Ne.symm (by assumption))).trans ((Hp.set_ne (by first | assumption | exact Ne.symm (by assumption))).trans ((Hp.set_ne (by first | assumption | exact Ne.symm (by assumption))).trans ((by assumption))))) rfl) ?_
  refine OpsW.q rfl (q_move (v := .int _ _) rfl) ?_
  refine OpsW.q rfl (q_addI rfl rfl (by omega)) ?_
  refine OpsW.q rfl (q_sliceS_lo Tryd.underlying9 rfl rfl (by first | omega | decide) (by first | omega | decide)) ?_
  refine OpsW.q rfl (q_nilCheck rfl) ?_
  refine OpsW.q rfl (q_fieldAddr (sz := 0) Tryd.underlying42 rfl (by kernel_rfl) rfl) ?_
  refine OpsW.s (o_store (v := S _) (by kernel_rfl) rfl rfl rfl (by first | exact Hp.set_self | exact (Hp.set_ne (by first | assumption | exact Ne.symm (by assumption))).trans (Hp.set_self) | exact (Hp.set_ne (by first | assumption | exact Ne.symm (by assumption))).trans ((Hp.set_ne (by first | assumption | exact Ne.symm (by assumption))).trans (Hp.set_self)) | exact (Hp.set_ne (by first | assumption | exact Ne.symm (by assumption))).trans ((Hp.set_ne (by first | assumption | exact Ne.symm (by assumption))).trans ((Hp.set_ne (by first | assumption | exact Ne.symm (by assumption))).trans (Hp.set_self))) | exact (Hp.set_ne (by first | assumption | exact Ne.symm (by assumption))).trans ((Hp.set_ne (by first | assumption | exact Ne.symm (by assumption))).trans ((Hp.set_ne (by first | assumption | exact Ne.symm (by assumption))).trans ((Hp.set_ne (by first | assumption | exact Ne.symm (by assumption))).trans (Hp.set_self)))) | exact (by assumption) | exact (Hp.set_ne (by first | assumption | exact Ne.symm (by assumption))).trans ((by assumption)) | exact (Hp.set_ne (by first | assumption | exact Ne.symm (by assumption))).trans ((Hp.set_ne (by first | assumption | exact Ne.symm (by assumption))).trans ((by assumption))) | exact (Hp.set_ne (by first | assumption | exact Ne.symm (by assumption))).trans ((Hp.set_ne (by first | assumption | exact Ne.symm (by assumption))).trans ((Hp.set_ne (by first | assumption | exact Ne.symm (by assumption))).trans ((by assumption))))) (by first | (with_reducible assumption) | omega | (unfold maxLen; omega) | (simp only [nums_length, List.length_set, List.length_replicate, List.length_take, List.length_drop, List.length_append, List.length_cons, List.length_nil, ofB_length, toB_length]; omega) | (simp only [nums_length, List.length_set, List.length_replicate, List.length_take, List.length_drop, List.length_append, List.length_cons, List.length_nil, ofB_length, toB_length]; unfold maxLen; omega) | (simp; done) | (simp; omega) | rfl | decide)) ?_
  refine OpsW.nil ?_
  refine SeqP.go ?_
  refine AW.seq ?_
  refine AW.region ?_
  refine OpsW.q rfl (q_move (v := .int _ _) rfl) ?_
  refine OpsW.q rfl (q_move (v := S _) rfl) ?_
  refine OpsW.q rfl (q_assign (v := .int _ _) rfl) ?_
  refine OpsW.q rfl (q_assign (v := S _) rfl) ?_
  refine OpsW.q rfl (q_assign (v := .int _ _) rfl) ?_
  refine OpsW.nil ?_
  refine SeqP.go ?_
  refine AW.ret ?_
  refine RetP.mk3 (H' := _) (v1 := .int _ _) (v2 := S _) (v3 := .int _ _) rfl rfl rfl rfl  (by first | exact (Hp.le_refl _) | exact (Hp.le_set (by first | assumption | exact Hp.set_none (by assumption) (by first | assumption | exact Ne.symm (by assumption)) | exact Hp.set_none (Hp.set_none (by assumption) (by first | assumption | exact Ne.symm (by assumption))) (by first | assumption | exact Ne.symm (by assumption))) (Hp.le_refl _)) | exact (Hp.le_set (by first | assumption | exact Hp.set_none (by assumption) (by first | assumption | exact Ne.symm (by assumption)) | exact Hp.set_none (Hp.set_none (by assumption) (by first | assumption | exact Ne.symm (by assumption))) (by first | assumption | exact Ne.symm (by assumption))) (Hp.le_set (by first | assumption | exact Hp.set_none (by assumption) (by first | assumption | exact Ne.symm (by assumption)) | exact Hp.set_none (Hp.set_none (by assumption) (by first | assumption | exact Ne.symm (by assumption))) (by first | assumption | exact Ne.symm (by assumption))) (Hp.le_refl _))) | exact (Hp.le_set (by first | assumption | exact Hp.set_none (by assumption) (by first | assumption | exact Ne.symm (by assumption)) | exact Hp.set_none (Hp.set_none (by assumption) (by first | assumption | exact Ne.symm (by assumption))) (by first | assumption | exact Ne.symm (by assumption))) (Hp.le_set (by first | assumption | exact Hp.set_none (by assumption) (by first | assumption | exact Ne.symm (by assumption)) | exact Hp.set_none (Hp.set_none (by assumption) (by first | assumption | exact Ne.symm (by assumption))) (by first | assumption | exact Ne.symm (by assumption))) (Hp.le_set (by first | assumption | exact Hp.set_none (by assumption) (by first | assumption | exact Ne.symm (by assumption)) | exact Hp.set_none (Hp.set_none (by assumption) (by first | assumption | exact Ne.symm (by assumption))) (by first | assumption | exact Ne.symm (by assumption))) (Hp.le_refl _)))) | exact (Hp.le_set (by first | assumption | exact Hp.set_none (by assumption) (by first | assumption | exact Ne.symm (by assumption)) | exact Hp.set_none (Hp.set_none (by assumption) (by first | assumption | exact Ne.symm (by assumption))) (by first | assumption | exact Ne.symm (by assumption))) (Hp.le_set (by first | assumption | exact Hp.set_none (by assumption) (by first | assumption | exact Ne.symm (by assumption)) | exact Hp.set_none (Hp.set_none (by assumption) (by first | assumption | exact Ne.symm (by assumption))) (by first | assumption | exact Ne.symm (by assumption))) (Hp.le_set (by first | assumption | exact Hp.set_none (by assumption) (by first | assumption | exact Ne.symm (by assumption)) | exact Hp.set_none (Hp.set_none (by assumption) (by first | assumption | exact Ne.symm (by assumption))) (by first | assumption | exact Ne.symm (by assumption))) (Hp.le_set (by first | assumption | exact Hp.set_none (by assumption) (by first | assumption | exact Ne.symm (by assumption)) | exact Hp.set_none (Hp.set_none (by assumption) (by first | assumption | exact Ne.symm (by assumption))) (by first | assumption | exact Ne.symm (by assumption))) (Hp.le_refl _))))) | exact (Hp.le_set (by first | assumption | exact Hp.set_none (by assumption) (by first | assumption | exact Ne.symm (by assumption)) | exact Hp.set_none (Hp.set_none (by assumption) (by first | assumption | exact Ne.symm (by assumption))) (by first | assumption | exact Ne.symm (by assumption))) (Hp.le_set (by first | assumption | exact Hp.set_none (by assumption) (by first | assumption | exact Ne.symm (by assumption)) | exact Hp.set_none (Hp.set_none (by assumption) (by first | assumption | exact Ne.symm (by assumption))) (by first | assumption | exact Ne.symm (by assumption))) (Hp.le_set (by first | assumption | exact Hp.set_none (by assumption) (by first | assumption | exact Ne.symm (by assumption)) | exact Hp.set_none (Hp.set_none (by assumption) (by first | assumption | exact Ne.symm (by assumption))) (by first | assumption | exact Ne.symm (by assumption))) (Hp.le_set (by first | assumption | exact Hp.set_none (by assumption) (by first | assumption | exact Ne.symm (by assumption)) | exact Hp.set_none (Hp.set_none (by assumption) (by first | assumption | exact Ne.symm (by assumption))) (by first | assumption | exact Ne.symm (by assumption))) (Hp.le_set (by first | assumption | exact Hp.set_none (by assumption) (by first | assumption | exact Ne.symm (by assumption)) | exact Hp.set_none (Hp.set_none (by assumption) (by first | assumption | exact Ne.symm (by assumption))) (by first | assumption | exact Ne.symm (by assumption))) (Hp.le_refl _))))))) ?_
  first | exact ⟨by rw [nextP_err (by assumption)], by rw [nextP_err (by assumption)]; exact (Hp.set_id hb).symm⟩ | exact ⟨by rw [nextP_wrong (by assumption) (by assumption)], by rw [nextP_wrong (by assumption) (by assumption)] <;> rfl⟩ | exact ⟨by rw [nextP_busy (by assumption)] <;> simp_all, by rw [nextP_busy (by assumption)]; exact (Hp.set_id hb).symm⟩ | exact ⟨by rw [nextP_ok (by assumption)] <;> rfl, by rw [nextP_ok (by assumption)] <;> rfl⟩
end
end Go.Proofs.YtfpoldogcopmpaaDoor
end
section
namespace Go.Proofs.YtfpoldogcopmpaaDoor
open Go Go.Proofs Go.Shelf
def Tryd.lays162_ren : Go.Shelf.Ren := ⟨fun | 162 => 19 | 232 => 35 | 227 => 36 | 234 => 37 | 236 => 38 | 228 => 54 | 271 => 55 | 151 => 56 | 120 => 74 | 197 => 75 | 152 => 76 | 260 => 83 | 137 => 84 | 119 => 85 | 224 => 86 | 225 => 87 | 217 => 92 | 266 => 95 | n => n, fun | 9 => 9 | 4 => 4 | 3 => 3 | 5 => 5 | 117 => 76 | 116 => 75 | 0 => 0 | 124 => 79 | 21 => 21 | 105 => 102 | 46 => 56 | 119 => 144 | 139 => 147 | 138 => 146 | n => n, fun | 3 => 1 | 4 => 2 | n => n⟩
theorem Tryd.lays162 : Go.Proofs.Lays.n162 Tryd.prog Tryd.lays162_ren := {
  mixed := by kernel_rfl
  f119 := Tryd.func85.trans (congrArg some (by kernel_rfl))
  f120 := Tryd.func74.trans (congrArg some (by kernel_rfl))
  f137 := Tryd.func84.trans (congrArg some (by kernel_rfl))
  f151 := Tryd.func56.trans (congrArg some (by kernel_rfl))
  f152 := Tryd.func76.trans (congrArg some (by kernel_rfl))
  f162 := Tryd.func19.trans (congrArg some (by kernel_rfl))
  f197 := Tryd.func75.trans (congrArg some (by kernel_rfl))
  f217 := Tryd.func92.trans (congrArg some (by kernel_rfl))
  f224 := Tryd.func86.trans (congrArg some (by kernel_rfl))
  f225 := Tryd.func87.trans (congrArg some (by kernel_rfl))
  f227 := Tryd.func36.trans (congrArg some (by kernel_rfl))
  f228 := Tryd.func54.trans (congrArg some (by kernel_rfl))
  f232 := Tryd.func35.trans (congrArg some (by kernel_rfl))
  f234 := Tryd.func37.trans (congrArg some (by kernel_rfl))
  f236 := Tryd.func38.trans (congrArg some (by kernel_rfl))
  f260 := Tryd.func83.trans (congrArg some (by kernel_rfl))
  f266 := Tryd.func95.trans (congrArg some (by kernel_rfl))
  f271 := Tryd.func55.trans (congrArg some (by kernel_rfl))
  t0 := Tryd.underlying0
  a0 := Tryd.isAgg0
  z0 := Tryd.sizeOf0
  v0 := Tryd.zeroValue0
  t3 := Tryd.underlying3
  a3 := Tryd.isAgg3
  z3 := Tryd.sizeOf3
  v3 := Tryd.zeroValue3
  t4 := Tryd.underlying4
  a4 := Tryd.isAgg4
  z4 := Tryd.sizeOf4
  v4 := Tryd.zeroValue4
  t5 := Tryd.underlying5
  a5 := Tryd.isAgg5
  z5 := Tryd.sizeOf5
  v5 := Tryd.zeroValue5
  t9 := Tryd.underlying9
  a9 := Tryd.isAgg9
  z9 := Tryd.sizeOf9
  v9 := Tryd.zeroValue9
  t21 := Tryd.underlying21
  a21 := Tryd.isAgg21
  z21 := Tryd.sizeOf21
  v21 := Tryd.zeroValue21
  t46 := Tryd.underlying56
  a46 := Tryd.isAgg56
  z46 := Tryd.sizeOf56
  v46 := Tryd.zeroValue56
  t105 := Tryd.underlying102
  a105 := Tryd.isAgg102
  z105 := Tryd.sizeOf102
  v105 := Tryd.zeroValue102
  t116 := Tryd.underlying75
  a116 := Tryd.isAgg75
  z116 := Tryd.sizeOf75
  t117 := Tryd.underlying76
  a117 := Tryd.isAgg76
  z117 := Tryd.sizeOf76
  v117 := Tryd.zeroValue76
  t119 := Tryd.underlying144
  a119 := Tryd.isAgg144
  z119 := Tryd.sizeOf144
  t124 := Tryd.underlying79
  a124 := Tryd.isAgg79
  z124 := Tryd.sizeOf79
  v124 := Tryd.zeroValue79
  t138 := Tryd.underlying146
  a138 := Tryd.isAgg146
  z138 := Tryd.sizeOf146
  v138 := Tryd.zeroValue146
  t139 := Tryd.underlying147
  a139 := Tryd.isAgg147
  z139 := Tryd.sizeOf147
  v139 := Tryd.zeroValue147
  g3 := by kernel_rfl
  g4 := by kernel_rfl }
open Go.RowKit in
theorem Tryd.strings_TrimRight_one (s : ByteArray) (c : UInt8) (hc : c.toNat < 128) (w : World) (hs : s.size ≤ 9223372036854775807) :
    Calls Tryd.prog 19 #[.string s, .string ⟨#[c]⟩] w fun e w' => e = .returned (.string ⟨(Lib.trimRightB s.data.toList c).toArray⟩) ∧ w' = w := Any.strings_TrimRight_one Tryd.lays162 s c hc w hs
def Tryd.lays105_ren : Go.Shelf.Ren := ⟨fun | 105 => 15 | 212 => 24 | 99 => 25 | 165 => 26 | 166 => 27 | 170 => 28 | 169 => 29 | 263 => 39 | 264 => 40 | 206 => 41 | 240 => 42 | 241 => 43 | 276 => 57 | 277 => 58 | n => n, fun | 9 => 9 | 3 => 3 | 4 => 4 | 20 => 20 | 0 => 0 | 46 => 56 | 109 => 58 | 5 => 5 | 72 => 63 | 76 => 67 | 51 => 80 | 146 => 81 | 53 => 83 | 148 => 84 | 70 => 61 | 37 => 39 | 75 => 66 | 127 => 86 | 164 => 105 | 80 => 69 | n => n, fun | n => n⟩
theorem Tryd.lays105 : Go.Proofs.Lays.n105 Tryd.prog Tryd.lays105_ren := {
  mixed := by kernel_rfl
  f99 := Tryd.func25.trans (congrArg some (by kernel_rfl))
  f105 := Tryd.func15.trans (congrArg some (by kernel_rfl))
  f165 := Tryd.func26.trans (congrArg some (by kernel_rfl))
  f166 := Tryd.func27.trans (congrArg some (by kernel_rfl))
  f169 := Tryd.func29.trans (congrArg some (by kernel_rfl))
  f170 := Tryd.func28.trans (congrArg some (by kernel_rfl))
  f206 := Tryd.func41.trans (congrArg some (by kernel_rfl))
  f212 := Tryd.func24.trans (congrArg some (by kernel_rfl))
  f240 := Tryd.func42.trans (congrArg some (by kernel_rfl))
  f241 := Tryd.func43.trans (congrArg some (by kernel_rfl))
  f263 := Tryd.func39.trans (congrArg some (by kernel_rfl))
  f264 := Tryd.func40.trans (congrArg some (by kernel_rfl))
  f276 := Tryd.func57.trans (congrArg some (by kernel_rfl))
  f277 := Tryd.func58.trans (congrArg some (by kernel_rfl))
  t0 := Tryd.underlying0
  a0 := Tryd.isAgg0
  z0 := Tryd.sizeOf0
  v0 := Tryd.zeroValue0
  t3 := Tryd.underlying3
  a3 := Tryd.isAgg3
  z3 := Tryd.sizeOf3
  v3 := Tryd.zeroValue3
  t4 := Tryd.underlying4
  a4 := Tryd.isAgg4
  z4 := Tryd.sizeOf4
  v4 := Tryd.zeroValue4
  t5 := Tryd.underlying5
  a5 := Tryd.isAgg5
  z5 := Tryd.sizeOf5
  v5 := Tryd.zeroValue5
  t9 := Tryd.underlying9
  a9 := Tryd.isAgg9
  z9 := Tryd.sizeOf9
  v9 := Tryd.zeroValue9
  t20 := Tryd.underlying20
  a20 := Tryd.isAgg20
  z20 := Tryd.sizeOf20
  v20 := Tryd.zeroValue20
  t37 := Tryd.underlying39
  a37 := Tryd.isAgg39
  z37 := Tryd.sizeOf39
  v37 := Tryd.zeroValue39
  t46 := Tryd.underlying56
  a46 := Tryd.isAgg56
  z46 := Tryd.sizeOf56
  v46 := Tryd.zeroValue56
  t51 := Tryd.underlying80
  a51 := Tryd.isAgg80
  z51 := Tryd.sizeOf80
  v51 := Tryd.zeroValue80
  t53 := Tryd.underlying83
  a53 := Tryd.isAgg83
  z53 := Tryd.sizeOf83
  v53 := Tryd.zeroValue83
  t70 := Tryd.underlying61
  a70 := Tryd.isAgg61
  z70 := Tryd.sizeOf61
  v70 := Tryd.zeroValue61
  t72 := Tryd.underlying63
  a72 := Tryd.isAgg63
  z72 := Tryd.sizeOf63
  v72 := Tryd.zeroValue63
  t75 := Tryd.underlying66
  a75 := Tryd.isAgg66
  z75 := Tryd.sizeOf66
  v75 := Tryd.zeroValue66
  t76 := Tryd.underlying67
  a76 := Tryd.isAgg67
  z76 := Tryd.sizeOf67
  v76 := Tryd.zeroValue67
  t109 := Tryd.underlying58
  a109 := Tryd.isAgg58
  z109 := Tryd.sizeOf58
  v109 := Tryd.zeroValue58
  t127 := Tryd.underlying86
  a127 := Tryd.isAgg86
  z127 := Tryd.sizeOf86
  v127 := Tryd.zeroValue86
  t146 := Tryd.underlying81
  a146 := Tryd.isAgg81
  z146 := Tryd.sizeOf81
  v146 := Tryd.zeroValue81
  t148 := Tryd.underlying84
  a148 := Tryd.isAgg84
  z148 := Tryd.sizeOf84
  v148 := Tryd.zeroValue84
  t164 := Tryd.underlying105
  a164 := Tryd.isAgg105
  z164 := Tryd.sizeOf105
  v164 := Tryd.zeroValue105 }
theorem Tryd.Builder_Extra_105 : Builder.Extra Tryd.prog Tryd.lays105_ren := {
  sizeBuilder := by kernel_rfl
  liesBuilder := by kernel_rfl
  t5 := Tryd.underlying5
  a5 := Tryd.isAgg5
  z5 := Tryd.sizeOf5
  v5 := Tryd.zeroValue5
  infoByte := by kernel_rfl
  cellsByte := by kernel_rfl
  sizeByte := by kernel_rfl
  neB5 := by decide }
open Go.RowKit Go.Lib in
theorem Tryd.strings_Repeat (s : ByteArray) (c : Nat) (w : World) (hc : c ≤ 9223372036854775807) (hlen : s.size * c ≤ 140737488355328) :
    Calls Tryd.prog 15 #[.string s, .int .i64 c] w fun e w' => e = .returned (.string ⟨(Lib.repeatL s.data.toList c).toArray⟩) ∧ Below w.heap.size w w' := Any.strings_Repeat Tryd.lays105 Tryd.Builder_Extra_105 s c w hc hlen
end Go.Proofs.YtfpoldogcopmpaaDoor
end
section
namespace Go.Proofs.YtfpoldogcopmpaaDoor.D
open Go Go.RowKit
set_option linter.unusedVariables false
set_option linter.unusedSimpArgs false
section
variable {P : Program} {w0 : World} {n : Nat} {ops : Array Oper} {Q : Post} {H : Hp} {e : Env} {b : Array Bool} {fuel : Nat}
def AnyW (P : Program) (w0 : World) (n : Nat) (ops : Array Oper) (Q : Post) (fuel : Nat) (b : Array Bool) (e : Env) (H : Hp) : Prop :=
  ∀ a w, Fr n e a → Own w0 H w → wpAny P .any ops (lift w0 n Q) fuel b a w
theorem AW.steps {id : Nat} (hm : P.follows .mixedOrders = true) (m : Nat) (hs : ops.size = m) (h : AnyW P w0 n ops Q m (Array.replicate m false) e H) : AW P w0 n (.region id ops true) Q e H := by
  intro a w hf ho
  refine wp_region_any hm ?_
  rw [hs]
  exact h a _ hf ho.drew
/-- In every world. -/
def QV (P : Program) (ρ : Operand → Value) (o : Oper) (v : Value) : Prop := ∀ w, (execOp ρ o).run P w = .ok (.value v) w
theorem AnyW.first {o : Oper} {v : Value} (i : Nat) (hi : ops[i]? = some o) (hsel : Region.noSelect ops = true) (hf : Region.free .any ops b i = true) (hr : (Region.ready .any ops b).contains i = true) (hg : o.guard = none) (hd : dstOk n o.dst = true)
    (h : QV P (D.ev e) o v) (hk : AnyW P w0 n ops Q fuel (b.setIfInBounds i true) (putE e o.dst v) H) : AnyW P w0 n ops Q (fuel + 1) b e H := by
  intro a w hfr ho
  have he : a.eval = D.ev e := funext hfr.ev
  refine wpAny_take hi hsel hf hr (fun c a w h => h.1.elim) (.inl ⟨by simp [Region.wanted, hg], fun w => by rw [he]; exact h w⟩) ?_
  exact hk _ _ (hfr.put hd v) ho
theorem AnyW.only {o : Oper} {R : Value → Hp → Prop} (i : Nat) (hi : ops[i]? = some o) (hr : Region.ready .any ops b = [i]) (hg : o.guard = none) (hd : dstOk n o.dst = true)
    (h : OpR P w0 (D.ev e) o H R) (hk : ∀ v H', R v H' → AnyW P w0 n ops Q fuel (b.setIfInBounds i true) (putE e o.dst v) H') : AnyW P w0 n ops Q (fuel + 1) b e H := by
  intro a w hfr ho
  refine ⟨fun g => absurd (hr.symm.trans g) (by simp), fun j hj => ?_⟩
  rw [hr] at hj
  obtain rfl : j = i := by simpa using hj
  unfold wpOp
  rw [hi]
  simp only [show Region.wanted o (yielded ops a.tmps) = true from by simp [Region.wanted, hg], if_true]
  exact .inl (Res.wp (ops := ops) (Q := Q) hfr ho h fun v H' w' hv ho' => hk v H' hv _ _ (hfr.put hd v) ho')
theorem AnyW.onlyQ {o : Oper} {v : Value} (i : Nat) (hi : ops[i]? = some o) (hr : Region.ready .any ops b = [i]) (hg : o.guard = none) (hd : dstOk n o.dst = true)
    (h : QS P w0 (D.ev e) o H v) (hk : AnyW P w0 n ops Q fuel (b.setIfInBounds i true) (putE e o.dst v) H) : AnyW P w0 n ops Q (fuel + 1) b e H :=
  AnyW.only i hi hr hg hd h (by rintro _ _ ⟨rfl, rfl⟩; exact hk)
/-- Two may come up. -/
theorem AnyW.two {o1 o2 : Oper} {R1 R2 : Value → Hp → Prop} (i j : Nat) (hi : ops[i]? = some o1) (hj : ops[j]? = some o2) (hr : Region.ready .any ops b = [i, j]) (g1 : o1.guard = none) (g2 : o2.guard = none) (d1 : dstOk n o1.dst = true) (d2 : dstOk n o2.dst = true)
    (h1 : OpR P w0 (D.ev e) o1 H R1) (h2 : OpR P w0 (D.ev e) o2 H R2) (k1 : ∀ v H', R1 v H' → AnyW P w0 n ops Q fuel (b.setIfInBounds i true) (putE e o1.dst v) H') (k2 : ∀ v H', R2 v H' → AnyW P w0 n ops Q fuel (b.setIfInBounds j true) (putE e o2.dst v) H') :
    AnyW P w0 n ops Q (fuel + 1) b e H := by
  intro a w hfr ho
  refine ⟨fun g => absurd (hr.symm.trans g) (by simp), fun q hq => ?_⟩
  rw [hr] at hq
  rcases List.mem_cons.1 hq with rfl | hq
  · unfold wpOp
    rw [hi]
    simp only [show Region.wanted o1 (yielded ops a.tmps) = true from by simp [Region.wanted, g1], if_true]
    exact .inl (Res.wp (ops := ops) (Q := Q) hfr ho h1 fun v H' w' hv ho' => k1 v H' hv _ _ (hfr.put d1 v) ho')
  · obtain rfl : q = j := by simpa using hq
    unfold wpOp
    rw [hj]
    simp only [show Region.wanted o2 (yielded ops a.tmps) = true from by simp [Region.wanted, g2], if_true]
    exact .inl (Res.wp (ops := ops) (Q := Q) hfr ho h2 fun v H' w' hv ho' => k2 v H' hv _ _ (hfr.put d2 v) ho')
theorem AnyW.done (hr : Region.ready .any ops b = []) (h : Q .normal e H) : AnyW P w0 n ops Q 0 b e H := fun a w hf ho => ⟨hr, trivial, e, H, hf, ho, h⟩
variable {ρ : Operand → Value} {d : Option Tmp} {ty : TypeId} {pos : String} {af : Array Edge} {g : Option (Nat × Bool)}
theorem v_move {x : Operand} {v : Value} (hx : ρ x = v) : QV P ρ ⟨d, .move x, ty, pos, af, g⟩ v := fun w => by subst hx; rfl
end
end Go.Proofs.YtfpoldogcopmpaaDoor.D
end
section
namespace Go.Proofs.YtfpoldogcopmpaaDoor
open Go Go.RowKit D
set_option linter.unusedVariables false
set_option linter.unusedSimpArgs false
set_option maxRecDepth 100000
set_option maxHeartbeats 2000000
section
variable {w0 : World} {H : Hp} {H0 : Hp}
theorem repeatL_zero (c : Nat) : Lib.repeatL [(0 : UInt8)] c = List.replicate c 0 := by
  simpa using Lib.repeatL_replicate 0 1 c
theorem D.Own.below' {w0 w w' : World} {H : Hp} (h : Own w0 H w) (hb : Below w.heap.size w w') : Own w0 H w' := by
  refine ⟨h.below.trans (hb.mono h.below.size), fun b o ho => ?_⟩
  obtain ⟨h1, c, fr, h2, h3⟩ := h.fits b o ho
  refine ⟨h1, c, fr, ?_, h3⟩
  rw [hb.block b (Array.getElem?_eq_some_iff.1 h2).1]
  exact h2
theorem Repeat_con {c : Int} (h0 : 0 ≤ c) (h1 : c ≤ 1000000) : Con Tryd.prog w0 15 #[S [0], .int .i64 c] H (fun v H' => v = S (List.replicate c.toNat 0) ∧ H' = H) := by
  intro w ho
  obtain ⟨k, rfl⟩ := Int.eq_ofNat_of_zero_le h0
  refine (Tryd.strings_Repeat ⟨#[0]⟩ k w (by omega) (by show 1 * k ≤ _; omega)).mono ?_
  rintro e w' ⟨rfl, hb⟩
  refine ⟨_, H, rfl, ho.below' hb, ?_, rfl⟩
  show Value.string _ = _
  rw [repeatL_zero, Int.toNat_natCast]; rfl
theorem NewBox_s (suite : Int) (key iv : List UInt8) : Con Tryd.prog w0 11 #[.int .i64 suite, S key, S iv] H (fun v H' => (¬ boxE suite key iv = 0 ∧ v = .tuple #[.pointer none, .int .i64 (boxE suite key iv)] ∧ H' = H) ∨ (boxE suite key iv = 0 ∧ ∃ b, v = .tuple #[.pointer (some ⟨b, 0, none⟩), .int .i64 0] ∧ Sep H [.blk b (bxBlk ⟨suite, key, iv, 0⟩)] H')) := by
  have hS0 : Sep H [] H := Sep.refl
  refine Con.intro Tryd.func11 rfl rfl ?_
  refine AW.seq ?_
  refine AW.region ?_
  refine OpsW.q rfl (q_assign (v := .pointer _) rfl) ?_
  refine OpsW.q rfl (q_assign (v := .int _ _) rfl) ?_
  refine OpsW.nil ?_
  refine SeqP.go ?_
  refine AW.seq ?_
  refine AW.seq ?_
  refine AW.region ?_
  refine OpsW.q rfl (q_move (v := .int _ _) rfl) ?_
  refine OpsW.q rfl (o_call rfl Tryd.func22 rfl rfl (Size_con _)) ?_
  refine OpsW.q rfl (q_assign (v := .int _ _) rfl) ?_
  refine OpsW.nil ?_
  refine SeqP.go ?_
  refine AW.block ?_
  refine AW.seq ?_
  refine AW.region ?_
  refine OpsW.q rfl (q_move (v := .int _ _) rfl) ?_
  refine OpsW.q rfl (q_eql rfl rfl) ?_
  refine OpsW.q rfl (q_assign (v := .bool _) rfl) ?_
  refine OpsW.nil ?_
  refine SeqP.go ?_
  refine AW.cond rfl (fun h0 => ?_) (fun h0 => ?_)
  ·
    try simp only [decide_eq_true_eq, decide_eq_false_iff_not, Bool.or_eq_true, Bool.and_eq_true, Bool.or_eq_false_iff, Bool.and_eq_false_imp, Bool.not_eq_true', Bool.not_eq_false', ne_eq, Decidable.not_not, Int.not_lt, Int.not_le, Bool.not_eq_true, Bool.not_eq_false] at h0
    have he := boxE_arg (key := key) (iv := iv) h0
    refine AW.seq ?_
    refine AW.region ?_
    refine OpsW.q rfl (q_assign (v := .pointer _) rfl) ?_
    refine OpsW.q rfl (q_assign (v := .int _ _) rfl) ?_
    refine OpsW.nil ?_
    refine SeqP.go ?_
    refine AW.ret ?_
    refine BlockP.ret ?_
    refine SeqP.ret ?_
    refine RetP.mk2 (H' := H) (v1 := .pointer _) (v2 := .int _ _) rfl rfl rfl  (Hp.le_refl _) ?_
    exact .inl ⟨by rw [he]; decide, by rw [he], rfl⟩
  try simp only [decide_eq_true_eq, decide_eq_false_iff_not, Bool.or_eq_true, Bool.and_eq_true, Bool.or_eq_false_iff, Bool.and_eq_false_imp, Bool.not_eq_true', Bool.not_eq_false', ne_eq, Decidable.not_not, Int.not_lt, Int.not_le, Bool.not_eq_true, Bool.not_eq_false] at h0
  refine AW.seq ?_
  refine AW.region ?_
  refine OpsW.q rfl (q_move (v := S _) rfl) ?_
  refine OpsW.q rfl (q_lenS Tryd.underlying9 rfl) ?_
  refine OpsW.q rfl (q_move (v := .int _ _) rfl) ?_
  refine OpsW.q rfl (q_neq rfl rfl) ?_
  refine OpsW.qb rfl (q_move (v := .bool _) rfl) ?_
  intro b19 eb19
  refine OpsW.g rfl rfl rfl (fun hB => by simp only [Bool.and_eq_true, beq_iff_eq] at hB; obtain rfl := hB; exact (q_move (v := S _) rfl)) ?_
  refine OpsW.g rfl rfl rfl (fun hB => by simp only [Bool.and_eq_true, beq_iff_eq] at hB; obtain rfl := hB; exact (q_lenS Tryd.underlying9 rfl)) ?_
  refine OpsW.g rfl rfl rfl (fun hB => by simp only [Bool.and_eq_true, beq_iff_eq] at hB; obtain rfl := hB; exact (q_neq rfl rfl)) ?_
  refine OpsW.q rfl (q_or2 rfl rfl rfl) ?_
  refine OpsW.q rfl (q_assign (v := .bool _) rfl) ?_
  refine OpsW.nil ?_
  refine SeqP.go ?_
  refine AW.cond rfl (fun h1 => ?_) (fun h1 => ?_)
  ·
    try simp only [eb19, decide_eq_true_eq, decide_eq_false_iff_not, Bool.or_eq_true, Bool.and_eq_true, Bool.or_eq_false_iff, Bool.and_eq_false_imp, Bool.not_eq_true', Bool.not_eq_false', ne_eq, Decidable.not_not, Int.not_lt, Int.not_le, Bool.not_eq_true, Bool.not_eq_false] at h1
    have he := boxE_key (key := key) (iv := iv) h0 (by simp_all <;> omega)
    refine AW.seq ?_
    refine AW.region ?_
    refine OpsW.q rfl (q_assign (v := .pointer _) rfl) ?_
    refine OpsW.q rfl (q_assign (v := .int _ _) rfl) ?_
    refine OpsW.nil ?_
    refine SeqP.go ?_
    refine AW.ret ?_
    refine BlockP.ret ?_
    refine SeqP.ret ?_
    refine RetP.mk2 (H' := H) (v1 := .pointer _) (v2 := .int _ _) rfl rfl rfl  (Hp.le_refl _) ?_
    exact .inl ⟨by rw [he]; decide, by rw [he], rfl⟩
  try simp only [eb19, decide_eq_true_eq, decide_eq_false_iff_not, Bool.or_eq_true, Bool.and_eq_true, Bool.or_eq_false_iff, Bool.and_eq_false_imp, Bool.not_eq_true', Bool.not_eq_false', ne_eq, Decidable.not_not, Int.not_lt, Int.not_le, Bool.not_eq_true, Bool.not_eq_false] at h1
  have he := boxE_ok (key := key) (iv := iv) h0 (by simp_all <;> omega)
  refine AW.skip ?_
  refine BlockP.go ?_
  refine SeqP.go ?_
  refine AW.seq ?_
  refine AW.region ?_
  refine OpsW.q rfl (q_move (v := .int _ _) rfl) ?_
  refine OpsW.q rfl (q_move (v := S _) rfl) ?_
  refine OpsW.q rfl (q_move (v := S _) rfl) ?_
  refine OpsW.q rfl (q_build (cells := #[.int .i64 suite, S key, S iv, .int .i64 0]) rfl (by kernel_rfl)) ?_
  refine OpsW.m rfl (s_box (v := .agg _) hS0 rfl rfl) ?_
  rintro _ H1 ⟨b28, rfl, hS1⟩
  clear hS0
  refine OpsW.q rfl (q_assign (v := .pointer _) rfl) ?_
  refine OpsW.q rfl (q_assign (v := .int _ _) rfl) ?_
  refine OpsW.nil ?_
  refine SeqP.go ?_
  refine AW.ret ?_
  refine RetP.mk2 (H' := H1) (v1 := .pointer _) (v2 := .int _ _) rfl rfl rfl  (Hp.le_refl _) ?_
  exact .inr ⟨he, b28, rfl, hS1⟩
theorem nonce_con {b : Nat} {x : BoxS} (hb : H b = some (bxBlk x)) (hn0 : 0 ≤ x.n) (hn1 : x.n ≤ 9223372036854775807) : Con Tryd.prog w0 14 #[.pointer (some ⟨b, 0, none⟩)] H (fun v H' => v = .tuple #[S (bxNonce x).1, .int .i64 (bxNonce x).2] ∧ H' = H) := by
  have hS0 : Sep H [] H := Sep.refl
  refine Con.intro Tryd.func14 rfl rfl ?_
  refine AW.seq ?_
  refine AW.region ?_
  refine OpsW.q rfl (q_assign (v := S _) rfl) ?_
  refine OpsW.q rfl (q_assign (v := .int _ _) rfl) ?_
  refine OpsW.nil ?_
  refine SeqP.go ?_
  refine AW.seq ?_
  refine AW.seq ?_
  refine AW.region ?_
  refine OpsW.q rfl (q_move (v := .pointer _) rfl) ?_
  refine OpsW.q rfl (q_nilCheck rfl) ?_
  refine OpsW.q rfl (q_fieldAddr (sz := 0) Tryd.underlying51 rfl (by kernel_rfl) rfl) ?_
  refine OpsW.q rfl (q_load (v := .int _ _) (by kernel_rfl) rfl (hS0.old hb) rfl) ?_
  refine OpsW.q rfl (q_geq rfl rfl) ?_
  refine OpsW.nil ?_
  refine SeqP.go ?_
  refine AW.cond rfl (fun h0 => ?_) (fun h0 => ?_)
  ·
    try simp only [decide_eq_true_eq, decide_eq_false_iff_not, Bool.or_eq_true, Bool.and_eq_true, Bool.or_eq_false_iff, Bool.and_eq_false_imp, Bool.not_eq_true', Bool.not_eq_false', ne_eq, Decidable.not_not, Int.not_lt, Int.not_le, Bool.not_eq_true, Bool.not_eq_false] at h0
    rw [bxNonce_seq (by omega)]
    refine AW.seq ?_
    refine AW.region ?_
    refine OpsW.q rfl (q_assign (v := S _) rfl) ?_
    refine OpsW.q rfl (q_assign (v := .int _ _) rfl) ?_
    refine OpsW.nil ?_
    refine SeqP.go ?_
    refine AW.ret ?_
    refine SeqP.ret ?_
    refine RetP.mk2 (H' := H) (v1 := S _) (v2 := .int _ _) rfl rfl rfl  hS0.le ?_
    exact ⟨rfl, rfl⟩
  try simp only [decide_eq_true_eq, decide_eq_false_iff_not, Bool.or_eq_true, Bool.and_eq_true, Bool.or_eq_false_iff, Bool.and_eq_false_imp, Bool.not_eq_true', Bool.not_eq_false', ne_eq, Decidable.not_not, Int.not_lt, Int.not_le, Bool.not_eq_true, Bool.not_eq_false] at h0
  rw [bxNonce_go (by omega)]
  refine AW.skip ?_
  refine SeqP.go ?_
  refine AW.seq ?_
  refine AW.drawK [] 11 rfl (by kernel_rfl) ?_
  refine SeqK.q rfl (q_move (v := .pointer _) rfl) ?_
  refine SeqK.q rfl (q_nilCheck rfl) ?_
  refine SeqK.q rfl (q_fieldAddr (sz := 0) Tryd.underlying51 rfl (by kernel_rfl) rfl) ?_
  refine SeqK.q rfl (q_load (v := S _) (by kernel_rfl) rfl (hS0.old hb) rfl) ?_
  refine SeqK.q rfl (q_move (v := .pointer _) rfl) ?_
  refine SeqK.q rfl (q_nilCheck rfl) ?_
  refine SeqK.q rfl (q_fieldAddr (sz := 0) Tryd.underlying51 rfl (by kernel_rfl) rfl) ?_
  refine SeqK.q rfl (q_load (v := .int _ _) (by kernel_rfl) rfl (hS0.old hb) rfl) ?_
  refine SeqK.q rfl (o_call rfl Tryd.func23 rfl rfl (Nonce_con (by omega))) ?_
  refine SeqK.q rfl (q_extract (v := S _) rfl rfl) ?_
  refine SeqK.q rfl (q_extract (v := .int _ _) rfl rfl) ?_
  refine SeqK.done ?_
  refine OpsW.q rfl (q_assign (v := S _) rfl) ?_
  refine OpsW.q rfl (q_assign (v := .int _ _) rfl) ?_
  refine OpsW.nil ?_
  refine SeqP.go ?_
  refine AW.ret ?_
  refine RetP.mk2 (H' := H) (v1 := S _) (v2 := .int _ _) rfl rfl rfl  hS0.le ?_
  exact ⟨rfl, rfl⟩
theorem bSeal_s {b : Nat} {x : BoxS} {plain : List UInt8} (hS0 : Sep H0 [.blk b (bxBlk x)] H) (hbok : BoxOk x) (kind pad : Int) (hp : plain.length ≤ maxLen) : Con Tryd.prog w0 6 #[.pointer (some ⟨b, 0, none⟩), .int .i64 kind, S plain, .int .i64 pad] H (fun v H' => v = .tuple #[S (bxSeal x kind plain pad).1, .int .i64 (bxSeal x kind plain pad).2] ∧ Sep H0 [.blk b (bxBlk (bxAfter x kind plain pad))] H') := by
  obtain ⟨hb1, hb2, hn0, hn1⟩ := hbok
  replace hS0 : Sep H0 [.blk b ⟨[.int .i64 x.suite, S x.key, S x.iv, .int .i64 x.n], 4, 51⟩] H := hS0
  refine Con.intro Tryd.func6 rfl rfl ?_
  refine AW.seq ?_
  refine AW.region ?_
  refine OpsW.q rfl (q_assign (v := S _) rfl) ?_
  refine OpsW.q rfl (q_assign (v := .int _ _) rfl) ?_
  refine OpsW.nil ?_
  refine SeqP.go ?_
  refine AW.seq ?_
  refine AW.block ?_
  refine AW.seq ?_
  refine AW.region ?_
  refine OpsW.q rfl (q_move (v := .pointer _) rfl) ?_
  refine OpsW.q rfl (q_eqlP Tryd.underlying23 rfl rfl) ?_
  refine OpsW.q rfl (q_assign (v := .bool _) rfl) ?_
  refine OpsW.nil ?_
  refine SeqP.go ?_
  refine AW.cond rfl (fun h0 => ?_) (fun h0 => ?_)
  ·
    exfalso
    try simp only [decide_eq_true_eq, decide_eq_false_iff_not, Bool.or_eq_true, Bool.and_eq_true, Bool.or_eq_false_iff, Bool.and_eq_false_imp, Bool.not_eq_true', Bool.not_eq_false', ne_eq, Decidable.not_not, Int.not_lt, Int.not_le, Bool.not_eq_true, Bool.not_eq_false] at h0
    first | contradiction | (simp at *; done) | simp_all
  try simp only [decide_eq_true_eq, decide_eq_false_iff_not, Bool.or_eq_true, Bool.and_eq_true, Bool.or_eq_false_iff, Bool.and_eq_false_imp, Bool.not_eq_true', Bool.not_eq_false', ne_eq, Decidable.not_not, Int.not_lt, Int.not_le, Bool.not_eq_true, Bool.not_eq_false] at h0
  refine AW.seq ?_
  refine AW.region ?_
  refine OpsW.q rfl (q_move (v := .int _ _) rfl) ?_
  refine OpsW.q rfl (o_call rfl Tryd.func13 rfl rfl (isKind_con _)) ?_
  refine OpsW.q rfl (q_not rfl) ?_
  refine OpsW.qb rfl (q_move (v := .bool _) rfl) ?_
  intro b22 eb22
  refine OpsW.g rfl rfl rfl (fun hB => by simp only [Bool.and_eq_true, beq_iff_eq] at hB; obtain rfl := hB; exact (q_move (v := .int _ _) rfl)) ?_
  refine OpsW.g rfl rfl rfl (fun hB => by simp only [Bool.and_eq_true, beq_iff_eq] at hB; obtain rfl := hB; exact (q_lss rfl rfl)) ?_
  refine OpsW.q rfl (q_or2 rfl rfl rfl) ?_
  refine OpsW.q rfl (q_assign (v := .bool _) rfl) ?_
  refine OpsW.nil ?_
  refine SeqP.go ?_
  refine AW.cond rfl (fun h1 => ?_) (fun h1 => ?_)
  ·
    try simp only [eb22, decide_eq_true_eq, decide_eq_false_iff_not, Bool.or_eq_true, Bool.and_eq_true, Bool.or_eq_false_iff, Bool.and_eq_false_imp, Bool.not_eq_true', Bool.not_eq_false', ne_eq, Decidable.not_not, Int.not_lt, Int.not_le, Bool.not_eq_true, Bool.not_eq_false] at h1
    have hbad : isK kind = false ∨ pad < 0 := by simp_all
    obtain ⟨e1, e2⟩ := bx_arg (x := x) (plain := plain) hbad
    rw [e1, e2]
    refine AW.seq ?_
    refine AW.region ?_
    refine OpsW.q rfl (q_assign (v := S _) rfl) ?_
    refine OpsW.q rfl (q_assign (v := .int _ _) rfl) ?_
    refine OpsW.nil ?_
    refine SeqP.go ?_
    refine AW.ret ?_
    refine BlockP.ret ?_
    refine SeqP.ret ?_
    refine RetP.mk2 (H' := _) (v1 := S _) (v2 := .int _ _) rfl rfl rfl  (Hp.le_refl _) ?_
    exact ⟨rfl, hS0⟩
  try simp only [eb22, decide_eq_true_eq, decide_eq_false_iff_not, Bool.or_eq_true, Bool.and_eq_true, Bool.or_eq_false_iff, Bool.and_eq_false_imp, Bool.not_eq_true', Bool.not_eq_false', ne_eq, Decidable.not_not, Int.not_lt, Int.not_le, Bool.not_eq_true, Bool.not_eq_false] at h1
  have hgood : isK kind = true ∧ 0 ≤ pad := by simp_all
  refine AW.seq ?_
  refine AW.region ?_
  refine OpsW.q rfl (q_move (v := S _) rfl) ?_
  refine OpsW.q rfl (q_lenS Tryd.underlying9 rfl) ?_
  refine OpsW.q rfl (q_gtr rfl rfl) ?_
  refine OpsW.qb rfl (q_move (v := .bool _) rfl) ?_
  intro b30 eb30
  refine OpsW.g rfl rfl rfl (fun hB => by simp only [Bool.and_eq_true, beq_iff_eq] at hB; obtain rfl := hB; exact (q_move (v := .int _ _) rfl)) ?_
  refine OpsW.g rfl rfl rfl (fun hB => by simp only [Bool.and_eq_true, beq_iff_eq] at hB; obtain rfl := hB; exact (q_move (v := S _) rfl)) ?_
  refine OpsW.g rfl rfl rfl (fun hB => by simp only [Bool.and_eq_true, beq_iff_eq] at hB; obtain rfl := hB; exact (q_lenS Tryd.underlying9 rfl)) ?_
  refine OpsW.g rfl rfl rfl (fun hB => by simp only [Bool.and_eq_true, beq_iff_eq] at hB; obtain rfl := hB; (try simp only [eb22, Bool.true_eq, Bool.false_eq, decide_eq_true_eq, Bool.and_eq_true, Bool.or_eq_true, Bool.or_eq_false_iff, Bool.not_eq_true', decide_eq_false_iff_not, Int.not_lt, Int.not_le] at eb30); exact (q_subI rfl rfl (by omega))) ?_
  refine OpsW.g rfl rfl rfl (fun hB => by simp only [Bool.and_eq_true, beq_iff_eq] at hB; obtain rfl := hB; exact (q_gtr rfl rfl)) ?_
  refine OpsW.q rfl (q_or2 rfl rfl rfl) ?_
  refine OpsW.q rfl (q_assign (v := .bool _) rfl) ?_
  refine OpsW.nil ?_
  refine SeqP.go ?_
  refine AW.cond rfl (fun h2 => ?_) (fun h2 => ?_)
  ·
    try simp only [eb22, eb30, decide_eq_true_eq, decide_eq_false_iff_not, Bool.or_eq_true, Bool.and_eq_true, Bool.or_eq_false_iff, Bool.and_eq_false_imp, Bool.not_eq_true', Bool.not_eq_false', ne_eq, Decidable.not_not, Int.not_lt, Int.not_le, Bool.not_eq_true, Bool.not_eq_false] at h2
    have hbig : 16384 < (plain.length : Int) ∨ 16600 - (plain.length : Int) < pad := by simp_all
    obtain ⟨e1, e2⟩ := bx_big (x := x) hgood hbig
    rw [e1, e2]
    refine AW.seq ?_
    refine AW.region ?_
    refine OpsW.q rfl (q_assign (v := S _) rfl) ?_
    refine OpsW.q rfl (q_assign (v := .int _ _) rfl) ?_
    refine OpsW.nil ?_
    refine SeqP.go ?_
    refine AW.ret ?_
    refine BlockP.ret ?_
    refine SeqP.ret ?_
    refine RetP.mk2 (H' := _) (v1 := S _) (v2 := .int _ _) rfl rfl rfl  (Hp.le_refl _) ?_
    exact ⟨rfl, hS0⟩
  try simp only [eb22, eb30, decide_eq_true_eq, decide_eq_false_iff_not, Bool.or_eq_true, Bool.and_eq_true, Bool.or_eq_false_iff, Bool.and_eq_false_imp, Bool.not_eq_true', Bool.not_eq_false', ne_eq, Decidable.not_not, Int.not_lt, Int.not_le, Bool.not_eq_true, Bool.not_eq_false] at h2
  have hok : ¬ (16384 < (plain.length : Int) ∨ 16600 - (plain.length : Int) < pad) := by simp_all
  have hil := bxInner_length kind plain hgood.2
  refine AW.skip ?_
  refine BlockP.go ?_
  refine SeqP.go ?_
  refine AW.seq ?_
  refine AW.region ?_
  refine OpsW.q rfl (q_move (v := .pointer _) rfl) ?_
  refine OpsW.q rfl (o_call rfl Tryd.func14 rfl rfl (nonce_con (hS0.blk at0) hn0 (by omega))) ?_
  refine OpsW.q rfl (q_move (v := .tuple _) rfl) ?_
  refine OpsW.q rfl (q_extract (v := S _) rfl rfl) ?_
  refine OpsW.q rfl (q_extract (v := .int _ _) rfl rfl) ?_
  refine OpsW.q rfl (q_assign (v := S _) rfl) ?_
  refine OpsW.q rfl (q_assign (v := .int _ _) rfl) ?_
  refine OpsW.nil ?_
  refine SeqP.go ?_
  refine AW.seq ?_
  refine AW.seq ?_
  refine AW.region ?_
  refine OpsW.q rfl (q_move (v := .int _ _) rfl) ?_
  refine OpsW.q rfl (q_neq rfl rfl) ?_
  refine OpsW.nil ?_
  refine SeqP.go ?_
  refine AW.cond rfl (fun h3 => ?_) (fun h3 => ?_)
  ·
    try simp only [eb22, eb30, decide_eq_true_eq, decide_eq_false_iff_not, Bool.or_eq_true, Bool.and_eq_true, Bool.or_eq_false_iff, Bool.and_eq_false_imp, Bool.not_eq_true', Bool.not_eq_false', ne_eq, Decidable.not_not, Int.not_lt, Int.not_le, Bool.not_eq_true, Bool.not_eq_false] at h3
    obtain ⟨e1, e2⟩ := bx_nonce (x := x) hgood hok h3
    rw [e1, e2]
    refine AW.seq ?_
    refine AW.region ?_
    refine OpsW.q rfl (q_move (v := .int _ _) rfl) ?_
    refine OpsW.q rfl (q_assign (v := S _) rfl) ?_
    refine OpsW.q rfl (q_assign (v := .int _ _) rfl) ?_
    refine OpsW.nil ?_
    refine SeqP.go ?_
    refine AW.ret ?_
    refine SeqP.ret ?_
    refine RetP.mk2 (H' := _) (v1 := S _) (v2 := .int _ _) rfl rfl rfl  (Hp.le_refl _) ?_
    exact ⟨rfl, hS0⟩
  try simp only [eb22, eb30, decide_eq_true_eq, decide_eq_false_iff_not, Bool.or_eq_true, Bool.and_eq_true, Bool.or_eq_false_iff, Bool.and_eq_false_imp, Bool.not_eq_true', Bool.not_eq_false', ne_eq, Decidable.not_not, Int.not_lt, Int.not_le, Bool.not_eq_true, Bool.not_eq_false] at h3
  have h3z : (bxNonce x).2 = 0 := by simpa using h3
  have hxn : x.n < 65536 := by rcases Int.lt_or_le x.n 65536 with g | g; (exact g); (rw [bxNonce_seq g] at h3z; cases h3z)
  obtain ⟨e1, e2, e3, e4⟩ := bx_full (x := x) ⟨hb1, hb2, hn0, hn1⟩ hxn hgood hok
  refine AW.skip ?_
  refine SeqP.go ?_
  refine AW.seq ?_
  refine AW.steps rfl 10 rfl ?_
  refine AnyW.first 0 rfl (by kernel_rfl) (by kernel_rfl) (by kernel_rfl) rfl (dst_lt rfl) (v_move (v := S _) rfl) ?_
  refine AnyW.first 1 rfl (by kernel_rfl) (by kernel_rfl) (by kernel_rfl) rfl (dst_lt rfl) (v_move (v := .int _ _) rfl) ?_
  refine AnyW.first 6 rfl (by kernel_rfl) (by kernel_rfl) (by kernel_rfl) rfl (dst_lt rfl) (v_move (v := .int _ _) rfl) ?_
  refine AnyW.two 2 7 rfl rfl (by kernel_rfl) rfl rfl (dst_lt rfl) (dst_lt rfl) (q_convInt rfl Tryd.underlying5 rfl) (o_call rfl Tryd.func15 rfl rfl (Repeat_con (by omega) (by omega))) ?_ ?_
  ·
    rintro _ _ ⟨rfl, rfl⟩
    refine AnyW.two 3 7 rfl rfl (by kernel_rfl) rfl rfl (dst_lt rfl) (dst_lt rfl) (s_buildSlice (z := .int .u8 0) (vs := nums .u8 [_]) hS0 Tryd.underlying39 (by kernel_rfl) (by kernel_rfl) rfl (by rfl) (by rfl) (by decide) rfl (nums_one _ _) rfl) (o_call rfl Tryd.func15 rfl rfl (Repeat_con (by omega) (by omega))) ?_ ?_
    ·
      rintro v48 H1 hS1
      clear hS0
      refine AnyW.two 4 7 rfl rfl (by kernel_rfl) rfl rfl (dst_lt rfl) (dst_lt rfl) (q_stringVec (hS1.vec at0) Tryd.underlying39 Tryd.underlying5 Tryd.underlying9 rfl) (o_call rfl Tryd.func15 rfl rfl (Repeat_con (by omega) (by omega))) ?_ ?_
      ·
        rintro _ _ ⟨rfl, rfl⟩
        refine AnyW.two 5 7 rfl rfl (by kernel_rfl) rfl rfl (dst_lt rfl) (dst_lt rfl) (q_cat rfl rfl (by first | (with_reducible assumption) | omega | (unfold maxLen; omega) | (simp only [nums_length, List.length_set, List.length_replicate, List.length_take, List.length_drop, List.length_append, List.length_cons, List.length_nil, ofB_length, toB_length]; omega) | (simp only [nums_length, List.length_set, List.length_replicate, List.length_take, List.length_drop, List.length_append, List.length_cons, List.length_nil, ofB_length, toB_length]; unfold maxLen; omega) | (simp; done) | (simp; omega) | rfl | decide)) (o_call rfl Tryd.func15 rfl rfl (Repeat_con (by omega) (by omega))) ?_ ?_
        ·
          rintro _ _ ⟨rfl, rfl⟩
          refine AnyW.onlyQ 7 rfl (by kernel_rfl) rfl (dst_lt rfl) (o_call rfl Tryd.func15 rfl rfl (Repeat_con (by omega) (by omega))) ?_
          refine AnyW.onlyQ 8 rfl (by kernel_rfl) rfl (dst_lt rfl) (q_cat rfl rfl (by first | (with_reducible assumption) | omega | (unfold maxLen; omega) | (simp only [nums_length, List.length_set, List.length_replicate, List.length_take, List.length_drop, List.length_append, List.length_cons, List.length_nil, ofB_length, toB_length]; omega) | (simp only [nums_length, List.length_set, List.length_replicate, List.length_take, List.length_drop, List.length_append, List.length_cons, List.length_nil, ofB_length, toB_length]; unfold maxLen; omega) | (simp; done) | (simp; omega) | rfl | decide)) ?_
          rw [show plain ++ toB [IntKind.u8.wrap kind] ++ List.replicate pad.toNat 0 = bxInner kind plain pad from rfl]
          refine AnyW.onlyQ 9 rfl (by kernel_rfl) rfl (dst_lt rfl) (q_assign (v := S _) rfl) ?_
          refine AnyW.done (by kernel_rfl) ?_
          refine SeqP.go ?_
          refine AW.seq ?_
          refine AW.region ?_
          refine OpsW.q rfl (q_move (v := S _) rfl) ?_
          refine OpsW.q rfl (q_lenS Tryd.underlying9 rfl) ?_
          refine OpsW.q rfl (q_addI rfl rfl (by omega)) ?_
          refine OpsW.q rfl (o_call rfl Tryd.func16 rfl rfl (head_con _ _ (by omega))) ?_
          rw [show headP 23 (((bxInner kind plain pad).length : Int) + 16) = bxHead kind plain pad from rfl]
          have hhl := bxHead_length kind plain pad
          refine OpsW.q rfl (q_assign (v := S _) rfl) ?_
          refine OpsW.nil ?_
          refine SeqP.go ?_
          refine AW.seq ?_
          refine AW.drawK [] 16 rfl (by kernel_rfl) ?_
          refine SeqK.q rfl (q_move (v := .pointer _) rfl) ?_
          refine SeqK.q rfl (q_nilCheck rfl) ?_
          refine SeqK.q rfl (q_fieldAddr (sz := 0) Tryd.underlying51 rfl (by kernel_rfl) rfl) ?_
          refine SeqK.q rfl (q_load (v := .int _ _) (by kernel_rfl) rfl (hS1.blk at1) rfl) ?_
          refine SeqK.q rfl (q_move (v := .pointer _) rfl) ?_
          refine SeqK.q rfl (q_nilCheck rfl) ?_
          refine SeqK.q rfl (q_fieldAddr (sz := 0) Tryd.underlying51 rfl (by kernel_rfl) rfl) ?_
          refine SeqK.q rfl (q_load (v := S _) (by kernel_rfl) rfl (hS1.blk at1) rfl) ?_
          refine SeqK.q rfl (q_move (v := S _) rfl) ?_
          refine SeqK.q rfl (q_move (v := S _) rfl) ?_
          refine SeqK.q rfl (q_move (v := S _) rfl) ?_
          refine SeqK.q rfl (o_call rfl Tryd.func17 rfl rfl (Seal_con (by omega) (by omega))) ?_
          refine SeqK.q rfl (q_move (v := .tuple _) rfl) ?_
          rw [show slSeal x.suite x.key (bxNonce x).1 (bxHead kind plain pad) (bxInner kind plain pad) = bxSealed x kind plain pad from rfl]
          refine SeqK.q rfl (q_extract (v := S _) rfl rfl) ?_
          refine SeqK.q rfl (q_extract (v := .int _ _) rfl rfl) ?_
          refine SeqK.q rfl (q_assign (v := S _) rfl) ?_
          refine SeqK.done ?_
          refine OpsW.q rfl (q_assign (v := .int _ _) rfl) ?_
          refine OpsW.nil ?_
          refine SeqP.go ?_
          refine AW.seq ?_
          refine AW.seq ?_
          refine AW.region ?_
          refine OpsW.q rfl (q_move (v := .int _ _) rfl) ?_
          refine OpsW.q rfl (q_neq rfl rfl) ?_
          refine OpsW.nil ?_
          refine SeqP.go ?_
          refine AW.cond rfl (fun h4 => ?_) (fun h4 => ?_)
          ·
            try simp only [eb22, eb30, decide_eq_true_eq, decide_eq_false_iff_not, Bool.or_eq_true, Bool.and_eq_true, Bool.or_eq_false_iff, Bool.and_eq_false_imp, Bool.not_eq_true', Bool.not_eq_false', ne_eq, Decidable.not_not, Int.not_lt, Int.not_le, Bool.not_eq_true, Bool.not_eq_false] at h4
            obtain ⟨e1, e2⟩ := bx_seal (x := x) hgood hok h3z h4
            rw [e1, e2]
            refine AW.seq ?_
            refine AW.region ?_
            refine OpsW.q rfl (q_move (v := .int _ _) rfl) ?_
            refine OpsW.q rfl (q_assign (v := S _) rfl) ?_
            refine OpsW.q rfl (q_assign (v := .int _ _) rfl) ?_
            refine OpsW.nil ?_
            refine SeqP.go ?_
            refine AW.ret ?_
            refine SeqP.ret ?_
            refine RetP.mk2 (H' := _) (v1 := S _) (v2 := .int _ _) rfl rfl rfl  (Hp.le_refl _) ?_
            exact ⟨rfl, hS1.tail⟩
          try simp only [eb22, eb30, decide_eq_true_eq, decide_eq_false_iff_not, Bool.or_eq_true, Bool.and_eq_true, Bool.or_eq_false_iff, Bool.and_eq_false_imp, Bool.not_eq_true', Bool.not_eq_false', ne_eq, Decidable.not_not, Int.not_lt, Int.not_le, Bool.not_eq_true, Bool.not_eq_false] at h4
          rw [e1, e2]
          refine AW.skip ?_
          refine SeqP.go ?_
          refine AW.seq ?_
          refine AW.region ?_
          refine OpsW.q rfl (q_move (v := .pointer _) rfl) ?_
          refine OpsW.q rfl (q_nilCheck rfl) ?_
          refine OpsW.q rfl (q_fieldAddr (sz := 0) Tryd.underlying51 rfl (by kernel_rfl) rfl) ?_
          refine OpsW.q rfl (q_load (v := .int _ _) (by kernel_rfl) rfl (hS1.blk at1) rfl) ?_
          refine OpsW.q rfl (q_addI rfl rfl (by omega)) ?_
          refine OpsW.q rfl (q_nilCheck rfl) ?_
          refine OpsW.q rfl (q_fieldAddr (sz := 0) Tryd.underlying51 rfl (by kernel_rfl) rfl) ?_
          refine OpsW.ms (s_storeC (v := .int _ _) hS1 at1 (by kernel_rfl) rfl rfl rfl (by first | (with_reducible assumption) | omega | (unfold maxLen; omega) | (simp only [nums_length, List.length_set, List.length_replicate, List.length_take, List.length_drop, List.length_append, List.length_cons, List.length_nil, ofB_length, toB_length]; omega) | (simp only [nums_length, List.length_set, List.length_replicate, List.length_take, List.length_drop, List.length_append, List.length_cons, List.length_nil, ofB_length, toB_length]; unfold maxLen; omega) | (simp; done) | (simp; omega) | rfl | decide)) ?_
          rintro _ H2 ⟨rfl, hS2⟩
          clear hS1
          refine OpsW.nil ?_
          refine SeqP.go ?_
          refine AW.seq ?_
          refine AW.region ?_
          refine OpsW.q rfl (q_move (v := S _) rfl) ?_
          refine OpsW.q rfl (q_move (v := S _) rfl) ?_
          refine OpsW.q rfl (q_cat rfl rfl (by first | (with_reducible assumption) | omega | (unfold maxLen; omega) | (simp only [nums_length, List.length_set, List.length_replicate, List.length_take, List.length_drop, List.length_append, List.length_cons, List.length_nil, ofB_length, toB_length]; omega) | (simp only [nums_length, List.length_set, List.length_replicate, List.length_take, List.length_drop, List.length_append, List.length_cons, List.length_nil, ofB_length, toB_length]; unfold maxLen; omega) | (simp; done) | (simp; omega) | rfl | decide)) ?_
          refine OpsW.q rfl (q_assign (v := S _) rfl) ?_
          refine OpsW.q rfl (q_assign (v := .int _ _) rfl) ?_
          refine OpsW.nil ?_
          refine SeqP.go ?_
          refine AW.ret ?_
          refine RetP.mk2 (H' := _) (v1 := S _) (v2 := .int _ _) rfl rfl rfl  (Hp.le_refl _) ?_
          exact ⟨rfl, hS2.tail⟩
        ·
          rintro _ _ ⟨rfl, rfl⟩
          refine AnyW.onlyQ 5 rfl (by kernel_rfl) rfl (dst_lt rfl) (q_cat rfl rfl (by first | (with_reducible assumption) | omega | (unfold maxLen; omega) | (simp only [nums_length, List.length_set, List.length_replicate, List.length_take, List.length_drop, List.length_append, List.length_cons, List.length_nil, ofB_length, toB_length]; omega) | (simp only [nums_length, List.length_set, List.length_replicate, List.length_take, List.length_drop, List.length_append, List.length_cons, List.length_nil, ofB_length, toB_length]; unfold maxLen; omega) | (simp; done) | (simp; omega) | rfl | decide)) ?_
          refine AnyW.onlyQ 8 rfl (by kernel_rfl) rfl (dst_lt rfl) (q_cat rfl rfl (by first | (with_reducible assumption) | omega | (unfold maxLen; omega) | (simp only [nums_length, List.length_set, List.length_replicate, List.length_take, List.length_drop, List.length_append, List.length_cons, List.length_nil, ofB_length, toB_length]; omega) | (simp only [nums_length, List.length_set, List.length_replicate, List.length_take, List.length_drop, List.length_append, List.length_cons, List.length_nil, ofB_length, toB_length]; unfold maxLen; omega) | (simp; done) | (simp; omega) | rfl | decide)) ?_
          rw [show plain ++ toB [IntKind.u8.wrap kind] ++ List.replicate pad.toNat 0 = bxInner kind plain pad from rfl]
          refine AnyW.onlyQ 9 rfl (by kernel_rfl) rfl (dst_lt rfl) (q_assign (v := S _) rfl) ?_
          refine AnyW.done (by kernel_rfl) ?_
          refine SeqP.go ?_
          refine AW.seq ?_
          refine AW.region ?_
          refine OpsW.q rfl (q_move (v := S _) rfl) ?_
          refine OpsW.q rfl (q_lenS Tryd.underlying9 rfl) ?_
          refine OpsW.q rfl (q_addI rfl rfl (by omega)) ?_
          refine OpsW.q rfl (o_call rfl Tryd.func16 rfl rfl (head_con _ _ (by omega))) ?_
          rw [show headP 23 (((bxInner kind plain pad).length : Int) + 16) = bxHead kind plain pad from rfl]
          have hhl := bxHead_length kind plain pad
          refine OpsW.q rfl (q_assign (v := S _) rfl) ?_
          refine OpsW.nil ?_
          refine SeqP.go ?_
          refine AW.seq ?_
          refine AW.drawK [] 16 rfl (by kernel_rfl) ?_
          refine SeqK.q rfl (q_move (v := .pointer _) rfl) ?_
          refine SeqK.q rfl (q_nilCheck rfl) ?_
          refine SeqK.q rfl (q_fieldAddr (sz := 0) Tryd.underlying51 rfl (by kernel_rfl) rfl) ?_
          refine SeqK.q rfl (q_load (v := .int _ _) (by kernel_rfl) rfl (hS1.blk at1) rfl) ?_
          refine SeqK.q rfl (q_move (v := .pointer _) rfl) ?_
          refine SeqK.q rfl (q_nilCheck rfl) ?_
          refine SeqK.q rfl (q_fieldAddr (sz := 0) Tryd.underlying51 rfl (by kernel_rfl) rfl) ?_
          refine SeqK.q rfl (q_load (v := S _) (by kernel_rfl) rfl (hS1.blk at1) rfl) ?_
          refine SeqK.q rfl (q_move (v := S _) rfl) ?_
          refine SeqK.q rfl (q_move (v := S _) rfl) ?_
          refine SeqK.q rfl (q_move (v := S _) rfl) ?_
          refine SeqK.q rfl (o_call rfl Tryd.func17 rfl rfl (Seal_con (by omega) (by omega))) ?_
          refine SeqK.q rfl (q_move (v := .tuple _) rfl) ?_
          rw [show slSeal x.suite x.key (bxNonce x).1 (bxHead kind plain pad) (bxInner kind plain pad) = bxSealed x kind plain pad from rfl]
          refine SeqK.q rfl (q_extract (v := S _) rfl rfl) ?_
          refine SeqK.q rfl (q_extract (v := .int _ _) rfl rfl) ?_
          refine SeqK.q rfl (q_assign (v := S _) rfl) ?_
          refine SeqK.done ?_
          refine OpsW.q rfl (q_assign (v := .int _ _) rfl) ?_
          refine OpsW.nil ?_
          refine SeqP.go ?_
          refine AW.seq ?_
          refine AW.seq ?_
          refine AW.region ?_
          refine OpsW.q rfl (q_move (v := .int _ _) rfl) ?_
          refine OpsW.q rfl (q_neq rfl rfl) ?_
          refine OpsW.nil ?_
          refine SeqP.go ?_
          refine AW.cond rfl (fun h4 => ?_) (fun h4 => ?_)
          ·
            try simp only [eb22, eb30, decide_eq_true_eq, decide_eq_false_iff_not, Bool.or_eq_true, Bool.and_eq_true, Bool.or_eq_false_iff, Bool.and_eq_false_imp, Bool.not_eq_true', Bool.not_eq_false', ne_eq, Decidable.not_not, Int.not_lt, Int.not_le, Bool.not_eq_true, Bool.not_eq_false] at h4
            obtain ⟨e1, e2⟩ := bx_seal (x := x) hgood hok h3z h4
            rw [e1, e2]
            refine AW.seq ?_
            refine AW.region ?_
            refine OpsW.q rfl (q_move (v := .int _ _) rfl) ?_
            refine OpsW.q rfl (q_assign (v := S _) rfl) ?_
            refine OpsW.q rfl (q_assign (v := .int _ _) rfl) ?_
            refine OpsW.nil ?_
            refine SeqP.go ?_
            refine AW.ret ?_
            refine SeqP.ret ?_
            refine RetP.mk2 (H' := _) (v1 := S _) (v2 := .int _ _) rfl rfl rfl  (Hp.le_refl _) ?_
            exact ⟨rfl, hS1.tail⟩
          try simp only [eb22, eb30, decide_eq_true_eq, decide_eq_false_iff_not, Bool.or_eq_true, Bool.and_eq_true, Bool.or_eq_false_iff, Bool.and_eq_false_imp, Bool.not_eq_true', Bool.not_eq_false', ne_eq, Decidable.not_not, Int.not_lt, Int.not_le, Bool.not_eq_true, Bool.not_eq_false] at h4
          rw [e1, e2]
          refine AW.skip ?_
          refine SeqP.go ?_
          refine AW.seq ?_
          refine AW.region ?_
          refine OpsW.q rfl (q_move (v := .pointer _) rfl) ?_
          refine OpsW.q rfl (q_nilCheck rfl) ?_
          refine OpsW.q rfl (q_fieldAddr (sz := 0) Tryd.underlying51 rfl (by kernel_rfl) rfl) ?_
          refine OpsW.q rfl (q_load (v := .int _ _) (by kernel_rfl) rfl (hS1.blk at1) rfl) ?_
          refine OpsW.q rfl (q_addI rfl rfl (by omega)) ?_
          refine OpsW.q rfl (q_nilCheck rfl) ?_
          refine OpsW.q rfl (q_fieldAddr (sz := 0) Tryd.underlying51 rfl (by kernel_rfl) rfl) ?_
          refine OpsW.ms (s_storeC (v := .int _ _) hS1 at1 (by kernel_rfl) rfl rfl rfl (by first | (with_reducible assumption) | omega | (unfold maxLen; omega) | (simp only [nums_length, List.length_set, List.length_replicate, List.length_take, List.length_drop, List.length_append, List.length_cons, List.length_nil, ofB_length, toB_length]; omega) | (simp only [nums_length, List.length_set, List.length_replicate, List.length_take, List.length_drop, List.length_append, List.length_cons, List.length_nil, ofB_length, toB_length]; unfold maxLen; omega) | (simp; done) | (simp; omega) | rfl | decide)) ?_
          rintro _ H3 ⟨rfl, hS3⟩
          clear hS1
          refine OpsW.nil ?_
          refine SeqP.go ?_
          refine AW.seq ?_
          refine AW.region ?_
          refine OpsW.q rfl (q_move (v := S _) rfl) ?_
          refine OpsW.q rfl (q_move (v := S _) rfl) ?_
          refine OpsW.q rfl (q_cat rfl rfl (by first | (with_reducible assumption) | omega | (unfold maxLen; omega) | (simp only [nums_length, List.length_set, List.length_replicate, List.length_take, List.length_drop, List.length_append, List.length_cons, List.length_nil, ofB_length, toB_length]; omega) | (simp only [nums_length, List.length_set, List.length_replicate, List.length_take, List.length_drop, List.length_append, List.length_cons, List.length_nil, ofB_length, toB_length]; unfold maxLen; omega) | (simp; done) | (simp; omega) | rfl | decide)) ?_
          refine OpsW.q rfl (q_assign (v := S _) rfl) ?_
          refine OpsW.q rfl (q_assign (v := .int _ _) rfl) ?_
          refine OpsW.nil ?_
          refine SeqP.go ?_
          refine AW.ret ?_
          refine RetP.mk2 (H' := _) (v1 := S _) (v2 := .int _ _) rfl rfl rfl  (Hp.le_refl _) ?_
          exact ⟨rfl, hS3.tail⟩
      ·
        rintro _ _ ⟨rfl, rfl⟩
        refine AnyW.onlyQ 4 rfl (by kernel_rfl) rfl (dst_lt rfl) (q_stringVec (hS1.vec at0) Tryd.underlying39 Tryd.underlying5 Tryd.underlying9 rfl) ?_
        refine AnyW.onlyQ 5 rfl (by kernel_rfl) rfl (dst_lt rfl) (q_cat rfl rfl (by first | (with_reducible assumption) | omega | (unfold maxLen; omega) | (simp only [nums_length, List.length_set, List.length_replicate, List.length_take, List.length_drop, List.length_append, List.length_cons, List.length_nil, ofB_length, toB_length]; omega) | (simp only [nums_length, List.length_set, List.length_replicate, List.length_take, List.length_drop, List.length_append, List.length_cons, List.length_nil, ofB_length, toB_length]; unfold maxLen; omega) | (simp; done) | (simp; omega) | rfl | decide)) ?_
        refine AnyW.onlyQ 8 rfl (by kernel_rfl) rfl (dst_lt rfl) (q_cat rfl rfl (by first | (with_reducible assumption) | omega | (unfold maxLen; omega) | (simp only [nums_length, List.length_set, List.length_replicate, List.length_take, List.length_drop, List.length_append, List.length_cons, List.length_nil, ofB_length, toB_length]; omega) | (simp only [nums_length, List.length_set, List.length_replicate, List.length_take, List.length_drop, List.length_append, List.length_cons, List.length_nil, ofB_length, toB_length]; unfold maxLen; omega) | (simp; done) | (simp; omega) | rfl | decide)) ?_
        rw [show plain ++ toB [IntKind.u8.wrap kind] ++ List.replicate pad.toNat 0 = bxInner kind plain pad from rfl]
        refine AnyW.onlyQ 9 rfl (by kernel_rfl) rfl (dst_lt rfl) (q_assign (v := S _) rfl) ?_
        refine AnyW.done (by kernel_rfl) ?_
        refine SeqP.go ?_
        refine AW.seq ?_
        refine AW.region ?_
        refine OpsW.q rfl (q_move (v := S _) rfl) ?_
        refine OpsW.q rfl (q_lenS Tryd.underlying9 rfl) ?_
        refine OpsW.q rfl (q_addI rfl rfl (by omega)) ?_
        refine OpsW.q rfl (o_call rfl Tryd.func16 rfl rfl (head_con _ _ (by omega))) ?_
        rw [show headP 23 (((bxInner kind plain pad).length : Int) + 16) = bxHead kind plain pad from rfl]
        have hhl := bxHead_length kind plain pad
        refine OpsW.q rfl (q_assign (v := S _) rfl) ?_
        refine OpsW.nil ?_
        refine SeqP.go ?_
        refine AW.seq ?_
        refine AW.drawK [] 16 rfl (by kernel_rfl) ?_
        refine SeqK.q rfl (q_move (v := .pointer _) rfl) ?_
        refine SeqK.q rfl (q_nilCheck rfl) ?_
        refine SeqK.q rfl (q_fieldAddr (sz := 0) Tryd.underlying51 rfl (by kernel_rfl) rfl) ?_
        refine SeqK.q rfl (q_load (v := .int _ _) (by kernel_rfl) rfl (hS1.blk at1) rfl) ?_
        refine SeqK.q rfl (q_move (v := .pointer _) rfl) ?_
        refine SeqK.q rfl (q_nilCheck rfl) ?_
        refine SeqK.q rfl (q_fieldAddr (sz := 0) Tryd.underlying51 rfl (by kernel_rfl) rfl) ?_
        refine SeqK.q rfl (q_load (v := S _) (by kernel_rfl) rfl (hS1.blk at1) rfl) ?_
        refine SeqK.q rfl (q_move (v := S _) rfl) ?_
        refine SeqK.q rfl (q_move (v := S _) rfl) ?_
        refine SeqK.q rfl (q_move (v := S _) rfl) ?_
        refine SeqK.q rfl (o_call rfl Tryd.func17 rfl rfl (Seal_con (by omega) (by omega))) ?_
        refine SeqK.q rfl (q_move (v := .tuple _) rfl) ?_
        rw [show slSeal x.suite x.key (bxNonce x).1 (bxHead kind plain pad) (bxInner kind plain pad) = bxSealed x kind plain pad from rfl]
        refine SeqK.q rfl (q_extract (v := S _) rfl rfl) ?_
        refine SeqK.q rfl (q_extract (v := .int _ _) rfl rfl) ?_
        refine SeqK.q rfl (q_assign (v := S _) rfl) ?_
        refine SeqK.done ?_
        refine OpsW.q rfl (q_assign (v := .int _ _) rfl) ?_
        refine OpsW.nil ?_
        refine SeqP.go ?_
        refine AW.seq ?_
        refine AW.seq ?_
        refine AW.region ?_
        refine OpsW.q rfl (q_move (v := .int _ _) rfl) ?_
        refine OpsW.q rfl (q_neq rfl rfl) ?_
        refine OpsW.nil ?_
        refine SeqP.go ?_
        refine AW.cond rfl (fun h4 => ?_) (fun h4 => ?_)
        ·
          try simp only [eb22, eb30, decide_eq_true_eq, decide_eq_false_iff_not, Bool.or_eq_true, Bool.and_eq_true, Bool.or_eq_false_iff, Bool.and_eq_false_imp, Bool.not_eq_true', Bool.not_eq_false', ne_eq, Decidable.not_not, Int.not_lt, Int.not_le, Bool.not_eq_true, Bool.not_eq_false] at h4
          obtain ⟨e1, e2⟩ := bx_seal (x := x) hgood hok h3z h4
          rw [e1, e2]
          refine AW.seq ?_
          refine AW.region ?_
          refine OpsW.q rfl (q_move (v := .int _ _) rfl) ?_
          refine OpsW.q rfl (q_assign (v := S _) rfl) ?_
          refine OpsW.q rfl (q_assign (v := .int _ _) rfl) ?_
          refine OpsW.nil ?_
          refine SeqP.go ?_
          refine AW.ret ?_
          refine SeqP.ret ?_
          refine RetP.mk2 (H' := _) (v1 := S _) (v2 := .int _ _) rfl rfl rfl  (Hp.le_refl _) ?_
          exact ⟨rfl, hS1.tail⟩
        try simp only [eb22, eb30, decide_eq_true_eq, decide_eq_false_iff_not, Bool.or_eq_true, Bool.and_eq_true, Bool.or_eq_false_iff, Bool.and_eq_false_imp, Bool.not_eq_true', Bool.not_eq_false', ne_eq, Decidable.not_not, Int.not_lt, Int.not_le, Bool.not_eq_true, Bool.not_eq_false] at h4
        rw [e1, e2]
        refine AW.skip ?_
        refine SeqP.go ?_
        refine AW.seq ?_
        refine AW.region ?_
        refine OpsW.q rfl (q_move (v := .pointer _) rfl) ?_
        refine OpsW.q rfl (q_nilCheck rfl) ?_
        refine OpsW.q rfl (q_fieldAddr (sz := 0) Tryd.underlying51 rfl (by kernel_rfl) rfl) ?_
        refine OpsW.q rfl (q_load (v := .int _ _) (by kernel_rfl) rfl (hS1.blk at1) rfl) ?_
        refine OpsW.q rfl (q_addI rfl rfl (by omega)) ?_
        refine OpsW.q rfl (q_nilCheck rfl) ?_
        refine OpsW.q rfl (q_fieldAddr (sz := 0) Tryd.underlying51 rfl (by kernel_rfl) rfl) ?_
        refine OpsW.ms (s_storeC (v := .int _ _) hS1 at1 (by kernel_rfl) rfl rfl rfl (by first | (with_reducible assumption) | omega | (unfold maxLen; omega) | (simp only [nums_length, List.length_set, List.length_replicate, List.length_take, List.length_drop, List.length_append, List.length_cons, List.length_nil, ofB_length, toB_length]; omega) | (simp only [nums_length, List.length_set, List.length_replicate, List.length_take, List.length_drop, List.length_append, List.length_cons, List.length_nil, ofB_length, toB_length]; unfold maxLen; omega) | (simp; done) | (simp; omega) | rfl | decide)) ?_
        rintro _ H4 ⟨rfl, hS4⟩
        clear hS1
        refine OpsW.nil ?_
        refine SeqP.go ?_
        refine AW.seq ?_
        refine AW.region ?_
        refine OpsW.q rfl (q_move (v := S _) rfl) ?_
        refine OpsW.q rfl (q_move (v := S _) rfl) ?_
        refine OpsW.q rfl (q_cat rfl rfl (by first | (with_reducible assumption) | omega | (unfold maxLen; omega) | (simp only [nums_length, List.length_set, List.length_replicate, List.length_take, List.length_drop, List.length_append, List.length_cons, List.length_nil, ofB_length, toB_length]; omega) | (simp only [nums_length, List.length_set, List.length_replicate, List.length_take, List.length_drop, List.length_append, List.length_cons, List.length_nil, ofB_length, toB_length]; unfold maxLen; omega) | (simp; done) | (simp; omega) | rfl | decide)) ?_
        refine OpsW.q rfl (q_assign (v := S _) rfl) ?_
        refine OpsW.q rfl (q_assign (v := .int _ _) rfl) ?_
        refine OpsW.nil ?_
        refine SeqP.go ?_
        refine AW.ret ?_
        refine RetP.mk2 (H' := _) (v1 := S _) (v2 := .int _ _) rfl rfl rfl  (Hp.le_refl _) ?_
        exact ⟨rfl, hS4.tail⟩
    ·
      rintro _ _ ⟨rfl, rfl⟩
      refine AnyW.only 3 rfl (by kernel_rfl) rfl (dst_lt rfl) (s_buildSlice (z := .int .u8 0) (vs := nums .u8 [_]) hS0 Tryd.underlying39 (by kernel_rfl) (by kernel_rfl) rfl (by rfl) (by rfl) (by decide) rfl (nums_one _ _) rfl) ?_
      rintro v48 H5 hS5
      clear hS0
      refine AnyW.onlyQ 4 rfl (by kernel_rfl) rfl (dst_lt rfl) (q_stringVec (hS5.vec at0) Tryd.underlying39 Tryd.underlying5 Tryd.underlying9 rfl) ?_
      refine AnyW.onlyQ 5 rfl (by kernel_rfl) rfl (dst_lt rfl) (q_cat rfl rfl (by first | (with_reducible assumption) | omega | (unfold maxLen; omega) | (simp only [nums_length, List.length_set, List.length_replicate, List.length_take, List.length_drop, List.length_append, List.length_cons, List.length_nil, ofB_length, toB_length]; omega) | (simp only [nums_length, List.length_set, List.length_replicate, List.length_take, List.length_drop, List.length_append, List.length_cons, List.length_nil, ofB_length, toB_length]; unfold maxLen; omega) | (simp; done) | (simp; omega) | rfl | decide)) ?_
      refine AnyW.onlyQ 8 rfl (by kernel_rfl) rfl (dst_lt rfl) (q_cat rfl rfl (by first | (with_reducible assumption) | omega | (unfold maxLen; omega) | (simp only [nums_length, List.length_set, List.length_replicate, List.length_take, List.length_drop, List.length_append, List.length_cons, List.length_nil, ofB_length, toB_length]; omega) | (simp only [nums_length, List.length_set, List.length_replicate, List.length_take, List.length_drop, List.length_append, List.length_cons, List.length_nil, ofB_length, toB_length]; unfold maxLen; omega) | (simp; done) | (simp; omega) | rfl | decide)) ?_
      rw [show plain ++ toB [IntKind.u8.wrap kind] ++ List.replicate pad.toNat 0 = bxInner kind plain pad from rfl]
      refine AnyW.onlyQ 9 rfl (by kernel_rfl) rfl (dst_lt rfl) (q_assign (v := S _) rfl) ?_
      refine AnyW.done (by kernel_rfl) ?_
      refine SeqP.go ?_
      refine AW.seq ?_
      refine AW.region ?_
      refine OpsW.q rfl (q_move (v := S _) rfl) ?_
      refine OpsW.q rfl (q_lenS Tryd.underlying9 rfl) ?_
      refine OpsW.q rfl (q_addI rfl rfl (by omega)) ?_
      refine OpsW.q rfl (o_call rfl Tryd.func16 rfl rfl (head_con _ _ (by omega))) ?_
      rw [show headP 23 (((bxInner kind plain pad).length : Int) + 16) = bxHead kind plain pad from rfl]
      have hhl := bxHead_length kind plain pad
      refine OpsW.q rfl (q_assign (v := S _) rfl) ?_
      refine OpsW.nil ?_
      refine SeqP.go ?_
      refine AW.seq ?_
      refine AW.drawK [] 16 rfl (by kernel_rfl) ?_
      refine SeqK.q rfl (q_move (v := .pointer _) rfl) ?_
      refine SeqK.q rfl (q_nilCheck rfl) ?_
      refine SeqK.q rfl (q_fieldAddr (sz := 0) Tryd.underlying51 rfl (by kernel_rfl) rfl) ?_
      refine SeqK.q rfl (q_load (v := .int _ _) (by kernel_rfl) rfl (hS5.blk at1) rfl) ?_
      refine SeqK.q rfl (q_move (v := .pointer _) rfl) ?_
      refine SeqK.q rfl (q_nilCheck rfl) ?_
      refine SeqK.q rfl (q_fieldAddr (sz := 0) Tryd.underlying51 rfl (by kernel_rfl) rfl) ?_
      refine SeqK.q rfl (q_load (v := S _) (by kernel_rfl) rfl (hS5.blk at1) rfl) ?_
      refine SeqK.q rfl (q_move (v := S _) rfl) ?_
      refine SeqK.q rfl (q_move (v := S _) rfl) ?_
      refine SeqK.q rfl (q_move (v := S _) rfl) ?_
      refine SeqK.q rfl (o_call rfl Tryd.func17 rfl rfl (Seal_con (by omega) (by omega))) ?_
      refine SeqK.q rfl (q_move (v := .tuple _) rfl) ?_
      rw [show slSeal x.suite x.key (bxNonce x).1 (bxHead kind plain pad) (bxInner kind plain pad) = bxSealed x kind plain pad from rfl]
      refine SeqK.q rfl (q_extract (v := S _) rfl rfl) ?_
      refine SeqK.q rfl (q_extract (v := .int _ _) rfl rfl) ?_
      refine SeqK.q rfl (q_assign (v := S _) rfl) ?_
      refine SeqK.done ?_
      refine OpsW.q rfl (q_assign (v := .int _ _) rfl) ?_
      refine OpsW.nil ?_
      refine SeqP.go ?_
      refine AW.seq ?_
      refine AW.seq ?_
      refine AW.region ?_
      refine OpsW.q rfl (q_move (v := .int _ _) rfl) ?_
      refine OpsW.q rfl (q_neq rfl rfl) ?_
      refine OpsW.nil ?_
      refine SeqP.go ?_
      refine AW.cond rfl (fun h4 => ?_) (fun h4 => ?_)
      ·
        try simp only [eb22, eb30, decide_eq_true_eq, decide_eq_false_iff_not, Bool.or_eq_true, Bool.and_eq_true, Bool.or_eq_false_iff, Bool.and_eq_false_imp, Bool.not_eq_true', Bool.not_eq_false', ne_eq, Decidable.not_not, Int.not_lt, Int.not_le, Bool.not_eq_true, Bool.not_eq_false] at h4
        obtain ⟨e1, e2⟩ := bx_seal (x := x) hgood hok h3z h4
        rw [e1, e2]
        refine AW.seq ?_
        refine AW.region ?_
        refine OpsW.q rfl (q_move (v := .int _ _) rfl) ?_
        refine OpsW.q rfl (q_assign (v := S _) rfl) ?_
        refine OpsW.q rfl (q_assign (v := .int _ _) rfl) ?_
        refine OpsW.nil ?_
        refine SeqP.go ?_
        refine AW.ret ?_
        refine SeqP.ret ?_
        refine RetP.mk2 (H' := _) (v1 := S _) (v2 := .int _ _) rfl rfl rfl  (Hp.le_refl _) ?_
        exact ⟨rfl, hS5.tail⟩
      try simp only [eb22, eb30, decide_eq_true_eq, decide_eq_false_iff_not, Bool.or_eq_true, Bool.and_eq_true, Bool.or_eq_false_iff, Bool.and_eq_false_imp, Bool.not_eq_true', Bool.not_eq_false', ne_eq, Decidable.not_not, Int.not_lt, Int.not_le, Bool.not_eq_true, Bool.not_eq_false] at h4
      rw [e1, e2]
      refine AW.skip ?_
      refine SeqP.go ?_
      refine AW.seq ?_
      refine AW.region ?_
      refine OpsW.q rfl (q_move (v := .pointer _) rfl) ?_
      refine OpsW.q rfl (q_nilCheck rfl) ?_
      refine OpsW.q rfl (q_fieldAddr (sz := 0) Tryd.underlying51 rfl (by kernel_rfl) rfl) ?_
      refine OpsW.q rfl (q_load (v := .int _ _) (by kernel_rfl) rfl (hS5.blk at1) rfl) ?_
      refine OpsW.q rfl (q_addI rfl rfl (by omega)) ?_
      refine OpsW.q rfl (q_nilCheck rfl) ?_
      refine OpsW.q rfl (q_fieldAddr (sz := 0) Tryd.underlying51 rfl (by kernel_rfl) rfl) ?_
      refine OpsW.ms (s_storeC (v := .int _ _) hS5 at1 (by kernel_rfl) rfl rfl rfl (by first | (with_reducible assumption) | omega | (unfold maxLen; omega) | (simp only [nums_length, List.length_set, List.length_replicate, List.length_take, List.length_drop, List.length_append, List.length_cons, List.length_nil, ofB_length, toB_length]; omega) | (simp only [nums_length, List.length_set, List.length_replicate, List.length_take, List.length_drop, List.length_append, List.length_cons, List.length_nil, ofB_length, toB_length]; unfold maxLen; omega) | (simp; done) | (simp; omega) | rfl | decide)) ?_
      rintro _ H6 ⟨rfl, hS6⟩
      clear hS5
      refine OpsW.nil ?_
      refine SeqP.go ?_
      refine AW.seq ?_
      refine AW.region ?_
      refine OpsW.q rfl (q_move (v := S _) rfl) ?_
      refine OpsW.q rfl (q_move (v := S _) rfl) ?_
      refine OpsW.q rfl (q_cat rfl rfl (by first | (with_reducible assumption) | omega | (unfold maxLen; omega) | (simp only [nums_length, List.length_set, List.length_replicate, List.length_take, List.length_drop, List.length_append, List.length_cons, List.length_nil, ofB_length, toB_length]; omega) | (simp only [nums_length, List.length_set, List.length_replicate, List.length_take, List.length_drop, List.length_append, List.length_cons, List.length_nil, ofB_length, toB_length]; unfold maxLen; omega) | (simp; done) | (simp; omega) | rfl | decide)) ?_
      refine OpsW.q rfl (q_assign (v := S _) rfl) ?_
      refine OpsW.q rfl (q_assign (v := .int _ _) rfl) ?_
      refine OpsW.nil ?_
      refine SeqP.go ?_
      refine AW.ret ?_
      refine RetP.mk2 (H' := _) (v1 := S _) (v2 := .int _ _) rfl rfl rfl  (Hp.le_refl _) ?_
      exact ⟨rfl, hS6.tail⟩
  ·
    rintro _ _ ⟨rfl, rfl⟩
    refine AnyW.onlyQ 2 rfl (by kernel_rfl) rfl (dst_lt rfl) (q_convInt rfl Tryd.underlying5 rfl) ?_
    refine AnyW.only 3 rfl (by kernel_rfl) rfl (dst_lt rfl) (s_buildSlice (z := .int .u8 0) (vs := nums .u8 [_]) hS0 Tryd.underlying39 (by kernel_rfl) (by kernel_rfl) rfl (by rfl) (by rfl) (by decide) rfl (nums_one _ _) rfl) ?_
    rintro v48 H7 hS7
    clear hS0
    refine AnyW.onlyQ 4 rfl (by kernel_rfl) rfl (dst_lt rfl) (q_stringVec (hS7.vec at0) Tryd.underlying39 Tryd.underlying5 Tryd.underlying9 rfl) ?_
    refine AnyW.onlyQ 5 rfl (by kernel_rfl) rfl (dst_lt rfl) (q_cat rfl rfl (by first | (with_reducible assumption) | omega | (unfold maxLen; omega) | (simp only [nums_length, List.length_set, List.length_replicate, List.length_take, List.length_drop, List.length_append, List.length_cons, List.length_nil, ofB_length, toB_length]; omega) | (simp only [nums_length, List.length_set, List.length_replicate, List.length_take, List.length_drop, List.length_append, List.length_cons, List.length_nil, ofB_length, toB_length]; unfold maxLen; omega) | (simp; done) | (simp; omega) | rfl | decide)) ?_
    refine AnyW.onlyQ 8 rfl (by kernel_rfl) rfl (dst_lt rfl) (q_cat rfl rfl (by first | (with_reducible assumption) | omega | (unfold maxLen; omega) | (simp only [nums_length, List.length_set, List.length_replicate, List.length_take, List.length_drop, List.length_append, List.length_cons, List.length_nil, ofB_length, toB_length]; omega) | (simp only [nums_length, List.length_set, List.length_replicate, List.length_take, List.length_drop, List.length_append, List.length_cons, List.length_nil, ofB_length, toB_length]; unfold maxLen; omega) | (simp; done) | (simp; omega) | rfl | decide)) ?_
    rw [show plain ++ toB [IntKind.u8.wrap kind] ++ List.replicate pad.toNat 0 = bxInner kind plain pad from rfl]
    refine AnyW.onlyQ 9 rfl (by kernel_rfl) rfl (dst_lt rfl) (q_assign (v := S _) rfl) ?_
    refine AnyW.done (by kernel_rfl) ?_
    refine SeqP.go ?_
    refine AW.seq ?_
    refine AW.region ?_
    refine OpsW.q rfl (q_move (v := S _) rfl) ?_
    refine OpsW.q rfl (q_lenS Tryd.underlying9 rfl) ?_
    refine OpsW.q rfl (q_addI rfl rfl (by omega)) ?_
    refine OpsW.q rfl (o_call rfl Tryd.func16 rfl rfl (head_con _ _ (by omega))) ?_
    rw [show headP 23 (((bxInner kind plain pad).length : Int) + 16) = bxHead kind plain pad from rfl]
    have hhl := bxHead_length kind plain pad
    refine OpsW.q rfl (q_assign (v := S _) rfl) ?_
    refine OpsW.nil ?_
    refine SeqP.go ?_
    refine AW.seq ?_
    refine AW.drawK [] 16 rfl (by kernel_rfl) ?_
    refine SeqK.q rfl (q_move (v := .pointer _) rfl) ?_
    refine SeqK.q rfl (q_nilCheck rfl) ?_
    refine SeqK.q rfl (q_fieldAddr (sz := 0) Tryd.underlying51 rfl (by kernel_rfl) rfl) ?_
    refine SeqK.q rfl (q_load (v := .int _ _) (by kernel_rfl) rfl (hS7.blk at1) rfl) ?_
    refine SeqK.q rfl (q_move (v := .pointer _) rfl) ?_
    refine SeqK.q rfl (q_nilCheck rfl) ?_
    refine SeqK.q rfl (q_fieldAddr (sz := 0) Tryd.underlying51 rfl (by kernel_rfl) rfl) ?_
    refine SeqK.q rfl (q_load (v := S _) (by kernel_rfl) rfl (hS7.blk at1) rfl) ?_
    refine SeqK.q rfl (q_move (v := S _) rfl) ?_
    refine SeqK.q rfl (q_move (v := S _) rfl) ?_
    refine SeqK.q rfl (q_move (v := S _) rfl) ?_
    refine SeqK.q rfl (o_call rfl Tryd.func17 rfl rfl (Seal_con (by omega) (by omega))) ?_
    refine SeqK.q rfl (q_move (v := .tuple _) rfl) ?_
    rw [show slSeal x.suite x.key (bxNonce x).1 (bxHead kind plain pad) (bxInner kind plain pad) = bxSealed x kind plain pad from rfl]
    refine SeqK.q rfl (q_extract (v := S _) rfl rfl) ?_
    refine SeqK.q rfl (q_extract (v := .int _ _) rfl rfl) ?_
    refine SeqK.q rfl (q_assign (v := S _) rfl) ?_
    refine SeqK.done ?_
    refine OpsW.q rfl (q_assign (v := .int _ _) rfl) ?_
    refine OpsW.nil ?_
    refine SeqP.go ?_
    refine AW.seq ?_
    refine AW.seq ?_
    refine AW.region ?_
    refine OpsW.q rfl (q_move (v := .int _ _) rfl) ?_
    refine OpsW.q rfl (q_neq rfl rfl) ?_
    refine OpsW.nil ?_
    refine SeqP.go ?_
    refine AW.cond rfl (fun h4 => ?_) (fun h4 => ?_)
    ·
      try simp only [eb22, eb30, decide_eq_true_eq, decide_eq_false_iff_not, Bool.or_eq_true, Bool.and_eq_true, Bool.or_eq_false_iff, Bool.and_eq_false_imp, Bool.not_eq_true', Bool.not_eq_false', ne_eq, Decidable.not_not, Int.not_lt, Int.not_le, Bool.not_eq_true, Bool.not_eq_false] at h4
      obtain ⟨e1, e2⟩ := bx_seal (x := x) hgood hok h3z h4
      rw [e1, e2]
      refine AW.seq ?_
      refine AW.region ?_
      refine OpsW.q rfl (q_move (v := .int _ _) rfl) ?_
      refine OpsW.q rfl (q_assign (v := S _) rfl) ?_
      refine OpsW.q rfl (q_assign (v := .int _ _) rfl) ?_
      refine OpsW.nil ?_
      refine SeqP.go ?_
      refine AW.ret ?_
      refine SeqP.ret ?_
      refine RetP.mk2 (H' := _) (v1 := S _) (v2 := .int _ _) rfl rfl rfl  (Hp.le_refl _) ?_
      exact ⟨rfl, hS7.tail⟩
    try simp only [eb22, eb30, decide_eq_true_eq, decide_eq_false_iff_not, Bool.or_eq_true, Bool.and_eq_true, Bool.or_eq_false_iff, Bool.and_eq_false_imp, Bool.not_eq_true', Bool.not_eq_false', ne_eq, Decidable.not_not, Int.not_lt, Int.not_le, Bool.not_eq_true, Bool.not_eq_false] at h4
    rw [e1, e2]
    refine AW.skip ?_
    refine SeqP.go ?_
    refine AW.seq ?_
    refine AW.region ?_
    refine OpsW.q rfl (q_move (v := .pointer _) rfl) ?_
    refine OpsW.q rfl (q_nilCheck rfl) ?_
    refine OpsW.q rfl (q_fieldAddr (sz := 0) Tryd.underlying51 rfl (by kernel_rfl) rfl) ?_
    refine OpsW.q rfl (q_load (v := .int _ _) (by kernel_rfl) rfl (hS7.blk at1) rfl) ?_
    refine OpsW.q rfl (q_addI rfl rfl (by omega)) ?_
    refine OpsW.q rfl (q_nilCheck rfl) ?_
    refine OpsW.q rfl (q_fieldAddr (sz := 0) Tryd.underlying51 rfl (by kernel_rfl) rfl) ?_
    refine OpsW.ms (s_storeC (v := .int _ _) hS7 at1 (by kernel_rfl) rfl rfl rfl (by first | (with_reducible assumption) | omega | (unfold maxLen; omega) | (simp only [nums_length, List.length_set, List.length_replicate, List.length_take, List.length_drop, List.length_append, List.length_cons, List.length_nil, ofB_length, toB_length]; omega) | (simp only [nums_length, List.length_set, List.length_replicate, List.length_take, List.length_drop, List.length_append, List.length_cons, List.length_nil, ofB_length, toB_length]; unfold maxLen; omega) | (simp; done) | (simp; omega) | rfl | decide)) ?_
    rintro _ H8 ⟨rfl, hS8⟩
    clear hS7
    refine OpsW.nil ?_
    refine SeqP.go ?_
    refine AW.seq ?_
    refine AW.region ?_
    refine OpsW.q rfl (q_move (v := S _) rfl) ?_
    refine OpsW.q rfl (q_move (v := S _) rfl) ?_
    refine OpsW.q rfl (q_cat rfl rfl (by first | (with_reducible assumption) | omega | (unfold maxLen; omega) | (simp only [nums_length, List.length_set, List.length_replicate, List.length_take, List.length_drop, List.length_append, List.length_cons, List.length_nil, ofB_length, toB_length]; omega) | (simp only [nums_length, List.length_set, List.length_replicate, List.length_take, List.length_drop, List.length_append, List.length_cons, List.length_nil, ofB_length, toB_length]; unfold maxLen; omega) | (simp; done) | (simp; omega) | rfl | decide)) ?_
    refine OpsW.q rfl (q_assign (v := S _) rfl) ?_
    refine OpsW.q rfl (q_assign (v := .int _ _) rfl) ?_
    refine OpsW.nil ?_
    refine SeqP.go ?_
    refine AW.ret ?_
    refine RetP.mk2 (H' := _) (v1 := S _) (v2 := .int _ _) rfl rfl rfl  (Hp.le_refl _) ?_
    exact ⟨rfl, hS8.tail⟩
theorem Count_con {b : Nat} {x : BoxS} (hb : H b = some (bxBlk x)) : Con Tryd.prog w0 9 #[.pointer (some ⟨b, 0, none⟩)] H (fun v H' => v = .int .i64 x.n ∧ H' = H) := by
  have hS0 : Sep H [] H := Sep.refl
  refine Con.intro Tryd.func9 rfl rfl ?_
  refine AW.seq ?_
  refine AW.region ?_
  refine OpsW.q rfl (q_assign (v := .int _ _) rfl) ?_
  refine OpsW.nil ?_
  refine SeqP.go ?_
  refine AW.seq ?_
  refine AW.seq ?_
  refine AW.region ?_
  refine OpsW.q rfl (q_move (v := .pointer _) rfl) ?_
  refine OpsW.q rfl (q_eqlP Tryd.underlying23 rfl rfl) ?_
  refine OpsW.nil ?_
  refine SeqP.go ?_
  refine AW.cond rfl (fun h0 => ?_) (fun h0 => ?_)
  ·
    exfalso
    try simp only [decide_eq_true_eq, decide_eq_false_iff_not, Bool.or_eq_true, Bool.and_eq_true, Bool.or_eq_false_iff, Bool.and_eq_false_imp, Bool.not_eq_true', Bool.not_eq_false', ne_eq, Decidable.not_not, Int.not_lt, Int.not_le, Bool.not_eq_true, Bool.not_eq_false] at h0
    first | contradiction | (simp at *; done) | simp_all
  try simp only [decide_eq_true_eq, decide_eq_false_iff_not, Bool.or_eq_true, Bool.and_eq_true, Bool.or_eq_false_iff, Bool.and_eq_false_imp, Bool.not_eq_true', Bool.not_eq_false', ne_eq, Decidable.not_not, Int.not_lt, Int.not_le, Bool.not_eq_true, Bool.not_eq_false] at h0
  refine AW.skip ?_
  refine SeqP.go ?_
  refine AW.seq ?_
  refine AW.region ?_
  refine OpsW.q rfl (q_move (v := .pointer _) rfl) ?_
  refine OpsW.q rfl (q_nilCheck rfl) ?_
  refine OpsW.q rfl (q_fieldAddr (sz := 0) Tryd.underlying51 rfl (by kernel_rfl) rfl) ?_
  refine OpsW.q rfl (q_load (v := .int _ _) (by kernel_rfl) rfl (hS0.old hb) rfl) ?_
  refine OpsW.q rfl (q_assign (v := .int _ _) rfl) ?_
  refine OpsW.nil ?_
  refine SeqP.go ?_
  refine AW.ret ?_
  refine RetP.mk1 (H' := H) (v1 := .int _ _) rfl rfl  hS0.le ?_
  exact ⟨rfl, rfl⟩
end
end Go.Proofs.YtfpoldogcopmpaaDoor
end
section
namespace Go.Proofs.YtfpoldogcopmpaaDoor
open Go Go.RowKit D
set_option linter.unusedVariables false
set_option linter.unusedSimpArgs false
set_option maxRecDepth 100000
set_option maxHeartbeats 2000000
section
variable {w0 : World} {H : Hp} {H0 : Hp}
theorem TrimRight_con {l : List UInt8} (hl : l.length ≤ 9223372036854775807) : Con Tryd.prog w0 19 #[S l, S [0]] H (fun v H' => v = S (trZ l) ∧ H' = H) := by
  intro w ho
  refine (Tryd.strings_TrimRight_one ⟨l.toArray⟩ 0 (by decide) w (by rw [ByteArray.size]; simpa using hl)).mono ?_
  rintro e w' ⟨rfl, rfl⟩
  exact ⟨_, H, rfl, ho, rfl, rfl⟩
theorem nonce_ok {b : Nat} {x : BoxS} (hb : H b = some (bxBlk x)) (h : BoxOk x) (hn : x.n < 65536) : Con Tryd.prog w0 14 #[.pointer (some ⟨b, 0, none⟩)] H (fun v H' => v = .tuple #[S (nonceB x.iv x.n), .int .i64 0] ∧ H' = H) := by
  have := nonce_con (w0 := w0) hb h.2.2.1 (by omega)
  rw [bxNonce_ok h hn] at this; exact this
theorem nonce_seq {b : Nat} {x : BoxS} (hb : H b = some (bxBlk x)) (h : BoxOk x) (hn : ¬ x.n < 65536) : Con Tryd.prog w0 14 #[.pointer (some ⟨b, 0, none⟩)] H (fun v H' => v = .tuple #[S [], .int .i64 44] ∧ H' = H) := by
  have := nonce_con (w0 := w0) hb h.2.2.1 (by have := h.2.2.2; omega)
  rw [bxNonce_seq (by omega)] at this; exact this
theorem bOpen_s {b : Nat} {x : BoxS} {body : List UInt8} (hS0 : Sep H0 [.blk b (bxBlk x)] H) (hbok : BoxOk x) : Con Tryd.prog w0 7 #[.pointer (some ⟨b, 0, none⟩), S body] H (fun v H' => v = .tuple #[.int .i64 (bxOpen x body).1, S (bxOpen x body).2.1, .int .i64 (bxOpen x body).2.2] ∧ Sep H0 [.blk b (bxBlk (bxNext x body))] H') := by
  obtain ⟨hb1, hb2, hn0, hn1⟩ := hbok
  replace hS0 : Sep H0 [.blk b ⟨[.int .i64 x.suite, S x.key, S x.iv, .int .i64 x.n], 4, 51⟩] H := hS0
  refine Con.intro Tryd.func7 rfl rfl ?_
  refine AW.seq ?_
  refine AW.region ?_
  refine OpsW.q rfl (q_assign (v := .int _ _) rfl) ?_
  refine OpsW.q rfl (q_assign (v := S _) rfl) ?_
  refine OpsW.q rfl (q_assign (v := .int _ _) rfl) ?_
  refine OpsW.nil ?_
  refine SeqP.go ?_
  refine AW.seq ?_
  refine AW.seq ?_
  refine AW.region ?_
  refine OpsW.q rfl (q_move (v := .pointer _) rfl) ?_
  refine OpsW.q rfl (q_eqlP Tryd.underlying23 rfl rfl) ?_
  refine OpsW.nil ?_
  refine SeqP.go ?_
  refine AW.cond rfl (fun h0 => ?_) (fun h0 => ?_)
  ·
    exfalso
    try simp only [decide_eq_true_eq, decide_eq_false_iff_not, Bool.or_eq_true, Bool.and_eq_true, Bool.or_eq_false_iff, Bool.and_eq_false_imp, Bool.not_eq_true', Bool.not_eq_false', ne_eq, Decidable.not_not, Int.not_lt, Int.not_le, Bool.not_eq_true, Bool.not_eq_false] at h0
    first | contradiction | (simp at *; done) | simp_all
  try simp only [decide_eq_true_eq, decide_eq_false_iff_not, Bool.or_eq_true, Bool.and_eq_true, Bool.or_eq_false_iff, Bool.and_eq_false_imp, Bool.not_eq_true', Bool.not_eq_false', ne_eq, Decidable.not_not, Int.not_lt, Int.not_le, Bool.not_eq_true, Bool.not_eq_false] at h0
  refine AW.skip ?_
  refine SeqP.go ?_
  refine AW.seq ?_
  by_cases hn : x.n < 65536
  ·
    refine AW.region ?_
    refine OpsW.q rfl (q_move (v := .pointer _) rfl) ?_
    refine OpsW.q rfl (o_call rfl Tryd.func14 rfl rfl (nonce_ok (hS0.blk at0) ⟨hb1, hb2, hn0, hn1⟩ hn)) ?_
    refine OpsW.q rfl (q_move (v := .tuple _) rfl) ?_
    refine OpsW.q rfl (q_extract (v := S _) rfl rfl) ?_
    refine OpsW.q rfl (q_extract (v := .int _ _) rfl rfl) ?_
    refine OpsW.q rfl (q_assign (v := S _) rfl) ?_
    refine OpsW.q rfl (q_assign (v := .int _ _) rfl) ?_
    refine OpsW.nil ?_
    refine SeqP.go ?_
    refine AW.seq ?_
    refine AW.seq ?_
    refine AW.region ?_
    refine OpsW.q rfl (q_move (v := .int _ _) rfl) ?_
    refine OpsW.q rfl (q_eql rfl rfl) ?_
    refine OpsW.q rfl (q_move (v := .bool true) rfl) ?_
    refine OpsW.qw rfl rfl (q_move (v := S _) rfl) ?_
    refine OpsW.qw rfl rfl (q_lenS Tryd.underlying9 rfl) ?_
    refine OpsW.qw rfl rfl (q_gtr rfl rfl) ?_
    refine OpsW.q rfl (q_and2 rfl rfl rfl) ?_
    refine OpsW.nil ?_
    refine SeqP.go ?_
    refine AW.cond rfl (fun h1 => ?_) (fun h1 => ?_)
    ·
      try simp only [decide_eq_true_eq, decide_eq_false_iff_not, Bool.or_eq_true, Bool.and_eq_true, Bool.or_eq_false_iff, Bool.and_eq_false_imp, Bool.not_eq_true', Bool.not_eq_false', ne_eq, Decidable.not_not, Int.not_lt, Int.not_le, Bool.not_eq_true, Bool.not_eq_false] at h1
      have hlong : 16640 < body.length := by simp_all <;> omega
      refine AW.region ?_
      refine OpsW.q rfl (q_assign (v := .int _ _) rfl) ?_
      refine OpsW.nil ?_
      refine SeqP.go ?_
      refine AW.seq ?_
      refine AW.seq ?_
      refine AW.region ?_
      refine OpsW.q rfl (q_move (v := .int _ _) rfl) ?_
      refine OpsW.q rfl (q_neq rfl rfl) ?_
      refine OpsW.nil ?_
      refine SeqP.go ?_
      refine AW.cond rfl (fun h2 => ?_) (fun h2 => ?_)
      ·
        try simp only [decide_eq_true_eq, decide_eq_false_iff_not, Bool.or_eq_true, Bool.and_eq_true, Bool.or_eq_false_iff, Bool.and_eq_false_imp, Bool.not_eq_true', Bool.not_eq_false', ne_eq, Decidable.not_not, Int.not_lt, Int.not_le, Bool.not_eq_true, Bool.not_eq_false] at h2
        obtain ⟨e1, e2⟩ := bo_long hn hlong
        rw [e1, e2]
        refine AW.seq ?_
        refine AW.region ?_
        refine OpsW.q rfl (q_move (v := .int _ _) rfl) ?_
        refine OpsW.q rfl (q_assign (v := .int _ _) rfl) ?_
        refine OpsW.q rfl (q_assign (v := S _) rfl) ?_
        refine OpsW.q rfl (q_assign (v := .int _ _) rfl) ?_
        refine OpsW.nil ?_
        refine SeqP.go ?_
        refine AW.ret ?_
        refine SeqP.ret ?_
        refine RetP.mk3 (H' := H) (v1 := .int _ _) (v2 := S _) (v3 := .int _ _) rfl rfl rfl rfl  (Hp.le_refl _) ?_
        exact ⟨rfl, hS0⟩
      exfalso
      try simp only [decide_eq_true_eq, decide_eq_false_iff_not, Bool.or_eq_true, Bool.and_eq_true, Bool.or_eq_false_iff, Bool.and_eq_false_imp, Bool.not_eq_true', Bool.not_eq_false', ne_eq, Decidable.not_not, Int.not_lt, Int.not_le, Bool.not_eq_true, Bool.not_eq_false] at h2
      first | contradiction | (simp at *; done) | simp_all
    try simp only [decide_eq_true_eq, decide_eq_false_iff_not, Bool.or_eq_true, Bool.and_eq_true, Bool.or_eq_false_iff, Bool.and_eq_false_imp, Bool.not_eq_true', Bool.not_eq_false', ne_eq, Decidable.not_not, Int.not_lt, Int.not_le, Bool.not_eq_true, Bool.not_eq_false] at h1
    have hshort : ¬ 16640 < body.length := by simp_all <;> omega
    refine AW.skip ?_
    refine SeqP.go ?_
    refine AW.seq ?_
    refine AW.seq ?_
    refine AW.region ?_
    refine OpsW.q rfl (q_move (v := .int _ _) rfl) ?_
    refine OpsW.q rfl (q_neq rfl rfl) ?_
    refine OpsW.nil ?_
    refine SeqP.go ?_
    refine AW.cond rfl (fun h2 => ?_) (fun h2 => ?_)
    ·
      exfalso
      try simp only [decide_eq_true_eq, decide_eq_false_iff_not, Bool.or_eq_true, Bool.and_eq_true, Bool.or_eq_false_iff, Bool.and_eq_false_imp, Bool.not_eq_true', Bool.not_eq_false', ne_eq, Decidable.not_not, Int.not_lt, Int.not_le, Bool.not_eq_true, Bool.not_eq_false] at h2
      first | contradiction | (simp at *; done) | simp_all
    try simp only [decide_eq_true_eq, decide_eq_false_iff_not, Bool.or_eq_true, Bool.and_eq_true, Bool.or_eq_false_iff, Bool.and_eq_false_imp, Bool.not_eq_true', Bool.not_eq_false', ne_eq, Decidable.not_not, Int.not_lt, Int.not_le, Bool.not_eq_true, Bool.not_eq_false] at h2
    refine AW.skip ?_
    refine SeqP.go ?_
    refine AW.seq ?_
    refine AW.drawK [] 18 rfl (by kernel_rfl) ?_
    refine SeqK.q rfl (q_move (v := .pointer _) rfl) ?_
    refine SeqK.q rfl (q_nilCheck rfl) ?_
    refine SeqK.q rfl (q_fieldAddr (sz := 0) Tryd.underlying51 rfl (by kernel_rfl) rfl) ?_
    refine SeqK.q rfl (q_load (v := .int _ _) (by kernel_rfl) rfl (hS0.blk at0) rfl) ?_
    refine SeqK.q rfl (q_move (v := .pointer _) rfl) ?_
    refine SeqK.q rfl (q_nilCheck rfl) ?_
    refine SeqK.q rfl (q_fieldAddr (sz := 0) Tryd.underlying51 rfl (by kernel_rfl) rfl) ?_
    refine SeqK.q rfl (q_load (v := S _) (by kernel_rfl) rfl (hS0.blk at0) rfl) ?_
    refine SeqK.q rfl (q_move (v := S _) rfl) ?_
    refine SeqK.q rfl (q_move (v := S _) rfl) ?_
    refine SeqK.q rfl (q_lenS Tryd.underlying9 rfl) ?_
    refine SeqK.q rfl (o_call rfl Tryd.func16 rfl rfl (head_con _ _ (by omega))) ?_
    have hhl := headP_length 23 (body.length : Int)
    refine SeqK.q rfl (q_move (v := S _) rfl) ?_
    refine SeqK.q rfl (o_call rfl Tryd.func18 rfl rfl (Open_con (by omega) (by omega))) ?_
    refine SeqK.q rfl (q_move (v := .tuple _) rfl) ?_
    rw [show slOpen x.suite x.key (nonceB x.iv x.n) (headP 23 (body.length : Int)) body = bxRaw x body from rfl]
    have hrl := bxRaw_length (body := body) ⟨hb1, hb2, hn0, hn1⟩ hn
    have htl := trZ_length (bxRaw x body).1
    refine SeqK.q rfl (q_extract (v := S _) rfl rfl) ?_
    refine SeqK.q rfl (q_extract (v := .int _ _) rfl rfl) ?_
    refine SeqK.q rfl (q_assign (v := S _) rfl) ?_
    refine SeqK.done ?_
    refine OpsW.q rfl (q_assign (v := .int _ _) rfl) ?_
    refine OpsW.nil ?_
    refine SeqP.go ?_
    refine AW.seq ?_
    refine AW.seq ?_
    refine AW.region ?_
    refine OpsW.q rfl (q_move (v := .int _ _) rfl) ?_
    refine OpsW.q rfl (q_neq rfl rfl) ?_
    refine OpsW.nil ?_
    refine SeqP.go ?_
    refine AW.cond rfl (fun h3 => ?_) (fun h3 => ?_)
    ·
      try simp only [decide_eq_true_eq, decide_eq_false_iff_not, Bool.or_eq_true, Bool.and_eq_true, Bool.or_eq_false_iff, Bool.and_eq_false_imp, Bool.not_eq_true', Bool.not_eq_false', ne_eq, Decidable.not_not, Int.not_lt, Int.not_le, Bool.not_eq_true, Bool.not_eq_false] at h3
      obtain ⟨e1, e2⟩ := bo_bad hn hshort h3
      rw [e1, e2]
      refine AW.seq ?_
      refine AW.region ?_
      refine OpsW.q rfl (q_move (v := .int _ _) rfl) ?_
      refine OpsW.q rfl (q_assign (v := .int _ _) rfl) ?_
      refine OpsW.q rfl (q_assign (v := S _) rfl) ?_
      refine OpsW.q rfl (q_assign (v := .int _ _) rfl) ?_
      refine OpsW.nil ?_
      refine SeqP.go ?_
      refine AW.ret ?_
      refine SeqP.ret ?_
      refine RetP.mk3 (H' := H) (v1 := .int _ _) (v2 := S _) (v3 := .int _ _) rfl rfl rfl rfl  (Hp.le_refl _) ?_
      exact ⟨rfl, hS0⟩
    try simp only [decide_eq_true_eq, decide_eq_false_iff_not, Bool.or_eq_true, Bool.and_eq_true, Bool.or_eq_false_iff, Bool.and_eq_false_imp, Bool.not_eq_true', Bool.not_eq_false', ne_eq, Decidable.not_not, Int.not_lt, Int.not_le, Bool.not_eq_true, Bool.not_eq_false] at h3
    have hrz : (bxRaw x body).2 = 0 := by simpa using h3
    refine AW.skip ?_
    refine SeqP.go ?_
    refine AW.seq ?_
    refine AW.region ?_
    refine OpsW.q rfl (q_move (v := S _) rfl) ?_
    refine OpsW.q rfl (o_call rfl Tryd.func19 rfl rfl (TrimRight_con (by omega))) ?_
    refine OpsW.q rfl (q_assign (v := S _) rfl) ?_
    refine OpsW.nil ?_
    refine SeqP.go ?_
    refine AW.seq ?_
    refine AW.region ?_
    refine OpsW.q rfl (q_move (v := S _) rfl) ?_
    refine OpsW.q rfl (q_lenS Tryd.underlying9 rfl) ?_
    refine OpsW.q rfl (q_subI rfl rfl (by omega)) ?_
    rw [show ((trZ (bxRaw x body).1).length : Int) - 1 = trN (bxRaw x body).1 from rfl]
    have htn : trN (bxRaw x body).1 = ((trZ (bxRaw x body).1).length : Int) - 1 := rfl
    refine OpsW.q rfl (q_assign (v := .int _ _) rfl) ?_
    refine OpsW.nil ?_
    refine SeqP.go ?_
    refine AW.seq ?_
    refine AW.block ?_
    refine AW.seq ?_
    refine AW.region ?_
    refine OpsW.q rfl (q_move (v := .int _ _) rfl) ?_
    refine OpsW.q rfl (q_lss rfl rfl) ?_
    refine OpsW.qb rfl (q_move (v := .bool _) rfl) ?_
    intro b56 eb56
    refine OpsW.g rfl rfl rfl (fun hB => by simp only [Bool.and_eq_true, beq_iff_eq] at hB; obtain rfl := hB; exact (q_move (v := S _) rfl)) ?_
    refine OpsW.g rfl rfl rfl (fun hB => by simp only [Bool.and_eq_true, beq_iff_eq] at hB; obtain rfl := hB; exact (q_move (v := .int _ _) rfl)) ?_
    refine OpsW.g rfl rfl rfl (fun hB => by simp only [Bool.and_eq_true, beq_iff_eq] at hB; obtain rfl := hB; (try simp only [Bool.true_eq, Bool.false_eq, decide_eq_true_eq, Bool.and_eq_true, Bool.or_eq_true, Bool.or_eq_false_iff, Bool.not_eq_true', decide_eq_false_iff_not, Int.not_lt, Int.not_le] at eb56); exact (q_indexS Tryd.underlying9 rfl rfl (by first | omega | decide) (by first | omega | decide))) ?_
    refine OpsW.g rfl rfl rfl (fun hB => by simp only [Bool.and_eq_true, beq_iff_eq] at hB; obtain rfl := hB; exact (q_convI64 rfl Tryd.underlying3 rfl (by first | exact rng_bt _ _ | omega))) ?_
    refine OpsW.g rfl rfl rfl (fun hB => by simp only [Bool.and_eq_true, beq_iff_eq] at hB; obtain rfl := hB; exact (o_call rfl Tryd.func13 rfl rfl (isKind_con _))) ?_
    refine OpsW.g rfl rfl rfl (fun hB => by simp only [Bool.and_eq_true, beq_iff_eq] at hB; obtain rfl := hB; exact (q_not rfl)) ?_
    refine OpsW.q rfl (q_or2 rfl rfl rfl) ?_
    refine OpsW.q rfl (q_assign (v := .bool _) rfl) ?_
    refine OpsW.nil ?_
    refine SeqP.go ?_
    refine AW.cond rfl (fun h4 => ?_) (fun h4 => ?_)
    ·
      try simp only [eb56, decide_eq_true_eq, decide_eq_false_iff_not, Bool.or_eq_true, Bool.and_eq_true, Bool.or_eq_false_iff, Bool.and_eq_false_imp, Bool.not_eq_true', Bool.not_eq_false', ne_eq, Decidable.not_not, Int.not_lt, Int.not_le, Bool.not_eq_true, Bool.not_eq_false] at h4
      obtain ⟨e1, e2⟩ := bo_none hn hshort hrz (by simp_all)
      rw [e1, e2]
      refine AW.seq ?_
      refine AW.region ?_
      refine OpsW.q rfl (q_assign (v := .int _ _) rfl) ?_
      refine OpsW.q rfl (q_assign (v := S _) rfl) ?_
      refine OpsW.q rfl (q_assign (v := .int _ _) rfl) ?_
      refine OpsW.nil ?_
      refine SeqP.go ?_
      refine AW.ret ?_
      refine BlockP.ret ?_
      refine SeqP.ret ?_
      refine RetP.mk3 (H' := H) (v1 := .int _ _) (v2 := S _) (v3 := .int _ _) rfl rfl rfl rfl  (Hp.le_refl _) ?_
      exact ⟨rfl, hS0⟩
    try simp only [eb56, decide_eq_true_eq, decide_eq_false_iff_not, Bool.or_eq_true, Bool.and_eq_true, Bool.or_eq_false_iff, Bool.and_eq_false_imp, Bool.not_eq_true', Bool.not_eq_false', ne_eq, Decidable.not_not, Int.not_lt, Int.not_le, Bool.not_eq_true, Bool.not_eq_false] at h4
    have hgd : ¬ (trN (bxRaw x body).1 < 0 ∨ isK (bt (trZ (bxRaw x body).1) (trN (bxRaw x body).1).toNat) = false) := by simp_all
    refine AW.seq ?_
    refine AW.region ?_
    refine OpsW.q rfl (q_move (v := .int _ _) rfl) ?_
    refine OpsW.q rfl (q_gtr rfl rfl) ?_
    refine OpsW.q rfl (q_assign (v := .bool _) rfl) ?_
    refine OpsW.nil ?_
    refine SeqP.go ?_
    refine AW.cond rfl (fun h5 => ?_) (fun h5 => ?_)
    ·
      try simp only [eb56, decide_eq_true_eq, decide_eq_false_iff_not, Bool.or_eq_true, Bool.and_eq_true, Bool.or_eq_false_iff, Bool.and_eq_false_imp, Bool.not_eq_true', Bool.not_eq_false', ne_eq, Decidable.not_not, Int.not_lt, Int.not_le, Bool.not_eq_true, Bool.not_eq_false] at h5
      obtain ⟨e1, e2⟩ := bo_big hn hshort hrz hgd (by omega)
      rw [e1, e2]
      refine AW.seq ?_
      refine AW.region ?_
      refine OpsW.q rfl (q_assign (v := .int _ _) rfl) ?_
      refine OpsW.q rfl (q_assign (v := S _) rfl) ?_
      refine OpsW.q rfl (q_assign (v := .int _ _) rfl) ?_
      refine OpsW.nil ?_
      refine SeqP.go ?_
      refine AW.ret ?_
      refine BlockP.ret ?_
      refine SeqP.ret ?_
      refine RetP.mk3 (H' := H) (v1 := .int _ _) (v2 := S _) (v3 := .int _ _) rfl rfl rfl rfl  (Hp.le_refl _) ?_
      exact ⟨rfl, hS0⟩
    try simp only [eb56, decide_eq_true_eq, decide_eq_false_iff_not, Bool.or_eq_true, Bool.and_eq_true, Bool.or_eq_false_iff, Bool.and_eq_false_imp, Bool.not_eq_true', Bool.not_eq_false', ne_eq, Decidable.not_not, Int.not_lt, Int.not_le, Bool.not_eq_true, Bool.not_eq_false] at h5
    obtain ⟨e1, e2⟩ := bo_ok hn hshort hrz hgd (by omega)
    rw [e1, e2]
    refine AW.skip ?_
    refine BlockP.go ?_
    refine SeqP.go ?_
    refine AW.seq ?_
    refine AW.region ?_
    refine OpsW.q rfl (q_move (v := .pointer _) rfl) ?_
    refine OpsW.q rfl (q_nilCheck rfl) ?_
    refine OpsW.q rfl (q_fieldAddr (sz := 0) Tryd.underlying51 rfl (by kernel_rfl) rfl) ?_
    refine OpsW.q rfl (q_load (v := .int _ _) (by kernel_rfl) rfl (hS0.blk at0) rfl) ?_
    refine OpsW.q rfl (q_addI rfl rfl (by omega)) ?_
    refine OpsW.q rfl (q_nilCheck rfl) ?_
    refine OpsW.q rfl (q_fieldAddr (sz := 0) Tryd.underlying51 rfl (by kernel_rfl) rfl) ?_
    refine OpsW.ms (s_storeC (v := .int _ _) hS0 at0 (by kernel_rfl) rfl rfl rfl (by first | (with_reducible assumption) | omega | (unfold maxLen; omega) | (simp only [nums_length, List.length_set, List.length_replicate, List.length_take, List.length_drop, List.length_append, List.length_cons, List.length_nil, ofB_length, toB_length]; omega) | (simp only [nums_length, List.length_set, List.length_replicate, List.length_take, List.length_drop, List.length_append, List.length_cons, List.length_nil, ofB_length, toB_length]; unfold maxLen; omega) | (simp; done) | (simp; omega) | rfl | decide)) ?_
    rintro _ H1 ⟨rfl, hS1⟩
    clear hS0
    refine OpsW.nil ?_
    refine SeqP.go ?_
    refine AW.seq ?_
    refine AW.drawK [] 8 rfl (by kernel_rfl) ?_
    refine SeqK.q rfl (q_move (v := S _) rfl) ?_
    refine SeqK.q rfl (q_move (v := .int _ _) rfl) ?_
    refine SeqK.q rfl (q_indexS Tryd.underlying9 rfl rfl (by first | omega | decide) (by first | omega | decide)) ?_
    refine SeqK.q rfl (q_convI64 rfl Tryd.underlying3 rfl (by first | exact rng_bt _ _ | omega)) ?_
    refine SeqK.q rfl (q_move (v := S _) rfl) ?_
    refine SeqK.q rfl (q_move (v := .int _ _) rfl) ?_
    refine SeqK.q rfl (q_sliceS_hi Tryd.underlying9 rfl rfl (by first | omega | decide) (by first | omega | decide)) ?_
    refine SeqK.q rfl (q_assign (v := .int _ _) rfl) ?_
    refine SeqK.done ?_
    refine OpsW.q rfl (q_assign (v := S _) rfl) ?_
    refine OpsW.q rfl (q_assign (v := .int _ _) rfl) ?_
    refine OpsW.nil ?_
    refine SeqP.go ?_
    refine AW.ret ?_
    refine RetP.mk3 (H' := H1) (v1 := .int _ _) (v2 := S _) (v3 := .int _ _) rfl rfl rfl rfl  (Hp.le_refl _) ?_
    exact ⟨rfl, hS1⟩
  ·
    refine AW.region ?_
    refine OpsW.q rfl (q_move (v := .pointer _) rfl) ?_
    refine OpsW.q rfl (o_call rfl Tryd.func14 rfl rfl (nonce_seq (hS0.blk at0) ⟨hb1, hb2, hn0, hn1⟩ hn)) ?_
    refine OpsW.q rfl (q_move (v := .tuple _) rfl) ?_
    refine OpsW.q rfl (q_extract (v := S _) rfl rfl) ?_
    refine OpsW.q rfl (q_extract (v := .int _ _) rfl rfl) ?_
    refine OpsW.q rfl (q_assign (v := S _) rfl) ?_
    refine OpsW.q rfl (q_assign (v := .int _ _) rfl) ?_
    refine OpsW.nil ?_
    refine SeqP.go ?_
    refine AW.seq ?_
    refine AW.seq ?_
    refine AW.region ?_
    refine OpsW.q rfl (q_move (v := .int _ _) rfl) ?_
    refine OpsW.q rfl (q_eql rfl rfl) ?_
    refine OpsW.q rfl (q_move (v := .bool false) rfl) ?_
    refine OpsW.p rfl rfl ?_
    refine OpsW.p rfl rfl ?_
    refine OpsW.p rfl rfl ?_
    refine OpsW.q rfl (q_and2 (B := false) rfl rfl rfl) ?_
    refine OpsW.nil ?_
    refine SeqP.go ?_
    refine AW.cond rfl (fun h1 => ?_) (fun h1 => ?_)
    ·
      exfalso
      try simp only [decide_eq_true_eq, decide_eq_false_iff_not, Bool.or_eq_true, Bool.and_eq_true, Bool.or_eq_false_iff, Bool.and_eq_false_imp, Bool.not_eq_true', Bool.not_eq_false', ne_eq, Decidable.not_not, Int.not_lt, Int.not_le, Bool.not_eq_true, Bool.not_eq_false] at h1
      first | contradiction | (simp at *; done) | simp_all
    try simp only [decide_eq_true_eq, decide_eq_false_iff_not, Bool.or_eq_true, Bool.and_eq_true, Bool.or_eq_false_iff, Bool.and_eq_false_imp, Bool.not_eq_true', Bool.not_eq_false', ne_eq, Decidable.not_not, Int.not_lt, Int.not_le, Bool.not_eq_true, Bool.not_eq_false] at h1
    refine AW.skip ?_
    refine SeqP.go ?_
    refine AW.seq ?_
    refine AW.seq ?_
    refine AW.region ?_
    refine OpsW.q rfl (q_move (v := .int _ _) rfl) ?_
    refine OpsW.q rfl (q_neq rfl rfl) ?_
    refine OpsW.nil ?_
    refine SeqP.go ?_
    refine AW.cond rfl (fun h2 => ?_) (fun h2 => ?_)
    ·
      try simp only [decide_eq_true_eq, decide_eq_false_iff_not, Bool.or_eq_true, Bool.and_eq_true, Bool.or_eq_false_iff, Bool.and_eq_false_imp, Bool.not_eq_true', Bool.not_eq_false', ne_eq, Decidable.not_not, Int.not_lt, Int.not_le, Bool.not_eq_true, Bool.not_eq_false] at h2
      obtain ⟨e1, e2⟩ := bo_seq (body := body) hn
      rw [e1, e2]
      refine AW.seq ?_
      refine AW.region ?_
      refine OpsW.q rfl (q_move (v := .int _ _) rfl) ?_
      refine OpsW.q rfl (q_assign (v := .int _ _) rfl) ?_
      refine OpsW.q rfl (q_assign (v := S _) rfl) ?_
      refine OpsW.q rfl (q_assign (v := .int _ _) rfl) ?_
      refine OpsW.nil ?_
      refine SeqP.go ?_
      refine AW.ret ?_
      refine SeqP.ret ?_
      refine RetP.mk3 (H' := H) (v1 := .int _ _) (v2 := S _) (v3 := .int _ _) rfl rfl rfl rfl  (Hp.le_refl _) ?_
      exact ⟨rfl, hS0⟩
    exfalso
    try simp only [decide_eq_true_eq, decide_eq_false_iff_not, Bool.or_eq_true, Bool.and_eq_true, Bool.or_eq_false_iff, Bool.and_eq_false_imp, Bool.not_eq_true', Bool.not_eq_false', ne_eq, Decidable.not_not, Int.not_lt, Int.not_le, Bool.not_eq_true, Bool.not_eq_false] at h2
    first | contradiction | (simp at *; done) | simp_all
end
end Go.Proofs.YtfpoldogcopmpaaDoor
end
section
namespace Go.Proofs.YtfpoldogcopmpaaDoor
open Go Go.RowKit D
set_option linter.unusedVariables false
set_option linter.unusedSimpArgs false
set_option maxRecDepth 100000
set_option maxHeartbeats 2000000
section
variable {w0 : World} {H : Hp} {H0 : Hp}
theorem NewBox_ok {suite : Int} {key iv : List UInt8} (h : boxE suite key iv = 0) : Con Tryd.prog w0 11 #[.int .i64 suite, S key, S iv] H (fun v H' => ∃ b, v = .tuple #[.pointer (some ⟨b, 0, none⟩), .int .i64 0] ∧ Sep H [.blk b (bxBlk ⟨suite, key, iv, 0⟩)] H') :=
  (NewBox_s suite key iv).mono fun _ _ h1 => h1.elim (fun h2 => absurd h h2.1) (fun h2 => h2.2)
theorem NewBox_bad {suite : Int} {key iv : List UInt8} (h : ¬ boxE suite key iv = 0) : Con Tryd.prog w0 11 #[.int .i64 suite, S key, S iv] H (fun v H' => v = .tuple #[.pointer none, .int .i64 (boxE suite key iv)] ∧ H' = H) :=
  (NewBox_s suite key iv).mono fun _ _ h1 => h1.elim (fun h2 => h2.2) (fun h2 => absurd h2.1 h)
end
end Go.Proofs.YtfpoldogcopmpaaDoor
end
section
namespace Go.Proofs.YtfpoldogcopmpaaDoor
open Go Go.RowKit D
set_option linter.unusedVariables false
set_option linter.unusedSimpArgs false
set_option maxRecDepth 100000
theorem awF1 : feedP [] 0 [22, 3] = (0, [22, 3]) := feedP_ok (by decide)
theorem awN1 : nextP [22, 3] 0 = ((0, [], 33), ([22, 3], 0)) := nextP_busy (by rw [sizeP_short (badP_not3 (by decide +kernel)) (by decide)])
theorem awF2 : feedP [22, 3] 0 [4] = (0, [22, 3, 4]) := feedP_ok (by decide)
theorem awN2 : nextP [22, 3, 4] 0 = ((0, [], 11), ([22, 3, 4], 11)) := by
  have h := sizeP_bad (s := [22, 3, 4]) (badP_of3 (by decide) (by decide +kernel))
  rw [nextP_wrong (by rw [h]; decide) (by rw [h]; decide), h]
theorem awFr : frameP 22 [97, 98] = ([22, 3, 3, 0, 2, 97, 98], 0) := by
  rw [frameP_ok (by decide +kernel) (by decide)]
  rfl
def fr (ss : List (List UInt8)) (i : Nat) : List UInt8 := headP (20 + (i : Int) % 4) (ss.getD i []).length ++ ss.getD i []
end Go.Proofs.YtfpoldogcopmpaaDoor
end
section
namespace Go.Proofs.YtfpoldogcopmpaaDoor
open Go Go.RowKit D
set_option linter.unusedVariables false
set_option linter.unusedSimpArgs false
set_option maxRecDepth 100000
set_option maxHeartbeats 1000000
section
variable {w0 : World} {H : Hp}
theorem feed_at {bR : Nat} (s : List UInt8) (e : Int) (d : List UInt8) (hs : s.length ≤ 1048576) (hd : d.length ≤ 1000000) : Con Tryd.prog w0 8 #[.pointer (some ⟨bR, 0, none⟩), S d] (H.set bR ⟨[S s, .int .i64 e], 2, 42⟩)
    (fun v H' => v = .int .i64 (feedP s e d).1 ∧ H' = H.set bR ⟨[S (feedP s e d).2, .int .i64 e], 2, 42⟩) := (feed_con s e d Hp.set_self hs hd).mono (by rintro _ _ ⟨h1, h2⟩; exact ⟨h1, h2.trans Hp.set_set⟩)
theorem next_at {bR : Nat} (s : List UInt8) (e : Int) (hs : s.length ≤ 1048576) : Con Tryd.prog w0 5 #[.pointer (some ⟨bR, 0, none⟩)] (H.set bR ⟨[S s, .int .i64 e], 2, 42⟩)
    (fun v H' => v = .tuple #[.int .i64 (nextP s e).1.1, S (nextP s e).1.2.1, .int .i64 (nextP s e).1.2.2] ∧ H' = H.set bR ⟨[S (nextP s e).2.1, .int .i64 (nextP s e).2.2], 2, 42⟩) := (next_con s e Hp.set_self hs).mono (by rintro _ _ ⟨h1, h2⟩; exact ⟨h1, h2.trans Hp.set_set⟩)
theorem awake_con : Con Tryd.prog w0 10 #[] H (fun v H' => v = .bool true ∧ H' = H) := by
  refine Con.intro Tryd.func10 rfl rfl ?_
  refine AW.seq ?_
  refine AW.region ?_
  refine OpsW.q rfl (q_assign (v := .bool _) rfl) ?_
  refine OpsW.nil ?_
  refine SeqP.go ?_
  refine AW.seq ?_
  refine AW.region ?_
  refine OpsW.x rfl (o_call rfl Tryd.func20 rfl rfl (frame_con 22 [97, 98] (by decide))) ?_
  rw [awFr]
  refine OpsW.q rfl (q_move (v := .tuple _) rfl) ?_
  refine OpsW.q rfl (q_extract (v := S _) rfl rfl) ?_
  refine OpsW.q rfl (q_extract (v := .int _ _) rfl rfl) ?_
  refine OpsW.q rfl (q_assign (v := S _) rfl) ?_
  refine OpsW.q rfl (q_assign (v := .int _ _) rfl) ?_
  refine OpsW.nil ?_
  refine SeqP.go ?_
  refine AW.seq ?_
  refine AW.region ?_
  refine OpsW.m rfl (o_call rfl Tryd.func21 rfl rfl (NewReader_con)) ?_
  rintro _ _ ⟨b14, hb14, rfl, rfl⟩
  refine OpsW.q rfl (q_assign (v := .pointer _) rfl) ?_
  refine OpsW.nil ?_
  refine SeqP.go ?_
  refine AW.seq ?_
  refine AW.seq ?_
  refine AW.region ?_
  refine OpsW.q rfl (q_move (v := .pointer _) rfl) ?_
  refine OpsW.q rfl (q_eqlP Tryd.underlying22 rfl rfl) ?_
  refine OpsW.nil ?_
  refine SeqP.go ?_
  refine AW.cond rfl (fun h0 => ?_) (fun h0 => ?_)
  ·
    exfalso
    try simp only [decide_eq_true_eq, decide_eq_false_iff_not, Bool.or_eq_true, Bool.and_eq_true, Bool.or_eq_false_iff, Bool.and_eq_false_imp, Bool.not_eq_true', Bool.not_eq_false', ne_eq, Decidable.not_not, Int.not_lt, Int.not_le, Bool.not_eq_true, Bool.not_eq_false] at h0
    cases h0
  try simp only [decide_eq_true_eq, decide_eq_false_iff_not, Bool.or_eq_true, Bool.and_eq_true, Bool.or_eq_false_iff, Bool.and_eq_false_imp, Bool.not_eq_true', Bool.not_eq_false', ne_eq, Decidable.not_not, Int.not_lt, Int.not_le, Bool.not_eq_true, Bool.not_eq_false] at h0
  refine AW.skip ?_
  refine SeqP.go ?_
  refine AW.seq ?_
  refine AW.region ?_
  refine OpsW.q rfl (q_move (v := .pointer _) rfl) ?_
  refine OpsW.x rfl (o_call rfl Tryd.func8 rfl rfl (feed_at [] 0 [22, 3] (by decide) (by decide))) ?_
  rw [awF1]
  refine OpsW.nil ?_
  refine SeqP.go ?_
  refine AW.seq ?_
  refine AW.region ?_
  refine OpsW.q rfl (q_move (v := .pointer _) rfl) ?_
  refine OpsW.x rfl (o_call rfl Tryd.func5 rfl rfl (next_at [22, 3] 0 (by decide))) ?_
  rw [awN1]
  refine OpsW.q rfl (q_move (v := .tuple _) rfl) ?_
  refine OpsW.q rfl (q_extract (v := .int _ _) rfl rfl) ?_
  refine OpsW.q rfl (q_extract (v := S _) rfl rfl) ?_
  refine OpsW.q rfl (q_extract (v := .int _ _) rfl rfl) ?_
  refine OpsW.q rfl (q_assign (v := .int _ _) rfl) ?_
  refine OpsW.q rfl (q_assign (v := S _) rfl) ?_
  refine OpsW.q rfl (q_assign (v := .int _ _) rfl) ?_
  refine OpsW.nil ?_
  refine SeqP.go ?_
  refine AW.seq ?_
  refine AW.region ?_
  refine OpsW.q rfl (q_move (v := .pointer _) rfl) ?_
  refine OpsW.x rfl (o_call rfl Tryd.func8 rfl rfl (feed_at [22, 3] 0 [4] (by decide) (by decide))) ?_
  rw [awF2]
  refine OpsW.nil ?_
  refine SeqP.go ?_
  refine AW.seq ?_
  refine AW.region ?_
  refine OpsW.q rfl (q_move (v := .pointer _) rfl) ?_
  refine OpsW.x rfl (o_call rfl Tryd.func5 rfl rfl (next_at [22, 3, 4] 0 (by decide))) ?_
  rw [awN2]
  refine OpsW.q rfl (q_move (v := .tuple _) rfl) ?_
  refine OpsW.q rfl (q_extract (v := .int _ _) rfl rfl) ?_
  refine OpsW.q rfl (q_extract (v := S _) rfl rfl) ?_
  refine OpsW.q rfl (q_extract (v := .int _ _) rfl rfl) ?_
  refine OpsW.q rfl (q_assign (v := .int _ _) rfl) ?_
  refine OpsW.q rfl (q_assign (v := S _) rfl) ?_
  refine OpsW.q rfl (q_assign (v := .int _ _) rfl) ?_
  refine OpsW.nil ?_
  refine SeqP.go ?_
  refine AW.seq ?_
  refine AW.region ?_
  refine OpsW.q rfl (q_move (v := .int _ _) rfl) ?_
  refine OpsW.q rfl (q_eql rfl rfl) ?_
  refine OpsW.qb rfl (q_move (v := .bool _) rfl) ?_
  intro b35 eb35
  refine OpsW.g rfl rfl rfl (fun hB => by simp only [Bool.and_eq_true, beq_iff_eq] at hB; obtain rfl := hB; exact (q_move (v := S _) rfl)) ?_
  refine OpsW.g rfl rfl rfl (fun hB => by simp only [Bool.and_eq_true, beq_iff_eq] at hB; obtain rfl := hB; exact (q_eqS rfl rfl)) ?_
  refine OpsW.q rfl (q_and2 rfl rfl rfl) ?_
  refine OpsW.qb rfl (q_move (v := .bool _) rfl) ?_
  intro b39 eb39
  refine OpsW.g rfl rfl rfl (fun hB => by simp only [Bool.and_eq_true, beq_iff_eq] at hB; obtain rfl := hB; exact (q_move (v := .int _ _) rfl)) ?_
  refine OpsW.g rfl rfl rfl (fun hB => by simp only [Bool.and_eq_true, beq_iff_eq] at hB; obtain rfl := hB; exact (q_eql rfl rfl)) ?_
  refine OpsW.q rfl (q_and2 rfl rfl rfl) ?_
  refine OpsW.qb rfl (q_move (v := .bool _) rfl) ?_
  intro b43 eb43
  refine OpsW.g rfl rfl rfl (fun hB => by simp only [Bool.and_eq_true, beq_iff_eq] at hB; obtain rfl := hB; exact (q_move (v := .int _ _) rfl)) ?_
  refine OpsW.g rfl rfl rfl (fun hB => by simp only [Bool.and_eq_true, beq_iff_eq] at hB; obtain rfl := hB; exact (q_eql rfl rfl)) ?_
  refine OpsW.q rfl (q_and2 rfl rfl rfl) ?_
  refine OpsW.q rfl (q_assign (v := .bool _) rfl) ?_
  refine OpsW.nil ?_
  refine SeqP.go ?_
  refine AW.ret ?_
  refine RetP.mk1 (H' := H) (v1 := .bool _) rfl rfl  (by first | exact (Hp.le_refl _) | exact (Hp.le_set (by first | assumption | exact Hp.set_none (by assumption) (by first | assumption | exact Ne.symm (by assumption)) | exact Hp.set_none (Hp.set_none (by assumption) (by first | assumption | exact Ne.symm (by assumption))) (by first | assumption | exact Ne.symm (by assumption))) (Hp.le_refl _)) | exact (Hp.le_set (by first | assumption | exact Hp.set_none (by assumption) (by first | assumption | exact Ne.symm (by assumption)) | exact Hp.set_none (Hp.set_none (by assumption) (by first | assumption | exact Ne.symm (by assumption))) (by first | assumption | exact Ne.symm (by assumption))) (Hp.le_set (by first | assumption | exact Hp.set_none (by assumption) (by first | assumption | exact Ne.symm (by assumption)) | exact Hp.set_none (Hp.set_none (by assumption) (by first | assumption | exact Ne.symm (by assumption))) (by first | assumption | exact Ne.symm (by assumption))) (Hp.le_refl _))) | exact (Hp.le_set (by first | assumption | exact Hp.set_none (by assumption) (by first | assumption | exact Ne.symm (by assumption)) | exact Hp.set_none (Hp.set_none (by assumption) (by first | assumption | exact Ne.symm (by assumption))) (by first | assumption | exact Ne.symm (by assumption))) (Hp.le_set (by first | assumption | exact Hp.set_none (by assumption) (by first | assumption | exact Ne.symm (by assumption)) | exact Hp.set_none (Hp.set_none (by assumption) (by first | assumption | exact Ne.symm (by assumption))) (by first | assumption | exact Ne.symm (by assumption))) (Hp.le_set (by first | assumption | exact Hp.set_none (by assumption) (by first | assumption | exact Ne.symm (by assumption)) | exact Hp.set_none (Hp.set_none (by assumption) (by first | assumption | exact Ne.symm (by assumption))) (by first | assumption | exact Ne.symm (by assumption))) (Hp.le_refl _)))) | exact (Hp.le_set (by first | assumption | exact Hp.set_none (by assumption) (by first | assumption | exact Ne.symm (by assumption)) | exact Hp.set_none (Hp.set_none (by assumption) (by first | assumption | exact Ne.symm (by assumption))) (by first | assumption | exact Ne.symm (by assumption))) (Hp.le_set (by first | assumption | exact Hp.set_none (by assumption) (by first | assumption | exact Ne.symm (by assumption)) | exact Hp.set_none (Hp.set_none (by assumption) (by first | assumption | exact Ne.symm (by assumption))) (by first | assumption | exact Ne.symm (by assumption))) (Hp.le_set (by first | assumption | exact Hp.set_none (by assumption) (by first | assumption | exact Ne.symm (by assumption)) | exact Hp.set_none (Hp.set_none (by assumption) (by first | assumption | exact Ne.symm (by assumption))) (by first | assumption | exact Ne.symm (by assumption))) (Hp.le_set (by first | assumption | exact Hp.set_none (by assumption) (by first | assumption | exact Ne.symm (by assumption)) | exact Hp.set_none (Hp.set_none (by assumption) (by first | assumption | exact Ne.symm (by assumption))) (by first | assumption | exact Ne.symm (by assumption))) (Hp.le_refl _))))) | exact (Hp.le_set (by first | assumption | exact Hp.set_none (by assumption) (by first | assumption | exact Ne.symm (by assumption)) | exact Hp.set_none (Hp.set_none (by assumption) (by first | assumption | exact Ne.symm (by assumption))) (by first | assumption | exact Ne.symm (by assumption))) (Hp.le_set (by first | assumption | exact Hp.set_none (by assumption) (by first | assumption | exact Ne.symm (by assumption)) | exact Hp.set_none (Hp.set_none (by assumption) (by first | assumption | exact Ne.symm (by assumption))) (by first | assumption | exact Ne.symm (by assumption))) (Hp.le_set (by first | assumption | exact Hp.set_none (by assumption) (by first | assumption | exact Ne.symm (by assumption)) | exact Hp.set_none (Hp.set_none (by assumption) (by first | assumption | exact Ne.symm (by assumption))) (by first | assumption | exact Ne.symm (by assumption))) (Hp.le_set (by first | assumption | exact Hp.set_none (by assumption) (by first | assumption | exact Ne.symm (by assumption)) | exact Hp.set_none (Hp.set_none (by assumption) (by first | assumption | exact Ne.symm (by assumption))) (by first | assumption | exact Ne.symm (by assumption))) (Hp.le_set (by first | assumption | exact Hp.set_none (by assumption) (by first | assumption | exact Ne.symm (by assumption)) | exact Hp.set_none (Hp.set_none (by assumption) (by first | assumption | exact Ne.symm (by assumption))) (by first | assumption | exact Ne.symm (by assumption))) (Hp.le_refl _))))))) ?_
  refine ⟨?_, rfl⟩
  simp_all
end
end Go.Proofs.YtfpoldogcopmpaaDoor
end
