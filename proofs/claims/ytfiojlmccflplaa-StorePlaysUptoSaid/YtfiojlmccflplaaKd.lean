/-
  The proof's texts, joined, without what the statements do not reach: part 4 of 7. No condition.
-/
import Derived.JoinedCond
import Derived.WalkKit
import Derived.KernelRfl
import Derived.Lib.ConvBytes
import Derived.WalkSpells
import Derived.WalkLawsBesides
import Derived.ProofKit
import Derived.ChangeMaps5
import Derived.ChangeSlices
import Derived.Deep.Strs
import Derived.DataElems
import Derived.OpenShut
import Derived.Test.YtfiojlmccflplaaProg
import Derived.MapKept
import Derived.Laws.StructEq
import Derived.Test.YtfiojlmccflplaaKc
section
namespace Go.Proofs.Ytfiojlmccflplaa
open Go Go.RowKit D
set_option linter.unusedVariables false
set_option linter.unusedSimpArgs false
set_option maxRecDepth 100000
set_option maxHeartbeats 1000000
section
variable {w0 : World} {H : Hp} {b : Nat} {r : RefS}
theorem actR_con (hb : H b = some (rblk r)) (ho4 : r.ar ≤ 9223372036854775807) : Con Try.prog w0 54 #[.pointer (some ⟨b, 0, none⟩)] H (fun v H' => v = .bool (!(actR r).dd) ∧ H' = H.set b (rblk (actR r))) := by
  refine Con.intro Try.func54 rfl rfl ?_
  refine AW.seq ?_
  refine AW.region ?_
  refine OpsW.q rfl (q_assign (v := .bool _) rfl) ?_
  refine OpsW.nil ?_
  refine SeqP.go ?_
  refine AW.seq ?_
  refine AW.seq ?_
  refine AW.region ?_
  refine OpsW.q rfl (q_move (v := .pointer _) rfl) ?_
  refine OpsW.q rfl (q_nilCheck rfl) ?_
  refine OpsW.q rfl (q_fieldAddr (sz := 0) Try.underlying90 rfl (by kernel_rfl) rfl) ?_
  refine OpsW.q rfl (q_load (v := .int _ _) (by kernel_rfl) rfl (by exact (by assumption)) rfl) ?_
  refine OpsW.q rfl (q_gtr rfl rfl) ?_
  refine OpsW.nil ?_
  refine SeqP.go ?_
  refine AW.cond rfl (fun h0 => ?_) (fun h0 => ?_)
  ·
    try simp only [decide_eq_true_eq, decide_eq_false_iff_not, Bool.or_eq_true, Bool.and_eq_true, Bool.or_eq_false_iff, Bool.and_eq_false_imp, Bool.not_eq_true', Bool.not_eq_false', ne_eq, Decidable.not_not, Int.not_lt, Int.not_le, Bool.not_eq_true, Bool.not_eq_false] at h0
    refine AW.seq ?_
    refine AW.region ?_
    refine OpsW.q rfl (q_move (v := .pointer _) rfl) ?_
    refine OpsW.q rfl (q_move (v := .pointer _) rfl) ?_
    refine OpsW.q rfl (q_nilCheck rfl) ?_
    refine OpsW.q rfl (q_fieldAddr (sz := 0) Try.underlying90 rfl (by kernel_rfl) rfl) ?_
    refine OpsW.q rfl (q_load (v := .int _ _) (by kernel_rfl) rfl (by exact (by assumption)) rfl) ?_
    refine OpsW.q rfl (q_subI rfl rfl (by omega)) ?_
    refine OpsW.q rfl (q_nilCheck rfl) ?_
    refine OpsW.q rfl (q_fieldAddr (sz := 0) Try.underlying90 rfl (by kernel_rfl) rfl) ?_
    refine OpsW.s (o_store (v := .int _ _) (by kernel_rfl) rfl rfl rfl (by exact (by assumption)) (by simp; done)) ?_
    refine OpsW.nil ?_
    refine SeqP.go ?_
    refine AW.region ?_
    refine OpsW.q rfl (q_move (v := .pointer _) rfl) ?_
    refine OpsW.q rfl (q_move (v := .pointer _) rfl) ?_
    refine OpsW.q rfl (q_nilCheck rfl) ?_
    refine OpsW.q rfl (q_fieldAddr (sz := 0) Try.underlying90 rfl (by kernel_rfl) rfl) ?_
    refine OpsW.q rfl (q_load (v := .int _ _) (by kernel_rfl) rfl (by exact Hp.set_self) rfl) ?_
    refine OpsW.q rfl (q_eql rfl rfl) ?_
    refine OpsW.q rfl (q_nilCheck rfl) ?_
    refine OpsW.q rfl (q_fieldAddr (sz := 0) Try.underlying90 rfl (by kernel_rfl) rfl) ?_
    refine OpsW.s (o_store (v := .bool _) (by kernel_rfl) rfl rfl rfl (by exact Hp.set_self) (by simp; done)) ?_
    refine OpsW.nil ?_
    refine SeqP.go ?_
    refine AW.seq ?_
    refine AW.region ?_
    refine OpsW.q rfl (q_move (v := .pointer _) rfl) ?_
    refine OpsW.q rfl (q_nilCheck rfl) ?_
    refine OpsW.q rfl (q_fieldAddr (sz := 0) Try.underlying90 rfl (by kernel_rfl) rfl) ?_
    refine OpsW.q rfl (q_load (v := .bool _) (by kernel_rfl) rfl (by exact Hp.set_self) rfl) ?_
    refine OpsW.q rfl (q_not rfl) ?_
    refine OpsW.q rfl (q_assign (v := .bool _) rfl) ?_
    refine OpsW.nil ?_
    refine SeqP.go ?_
    refine AW.ret ?_
    refine RetP.mk1 (H' := _) (v1 := .bool _) rfl rfl  (by exact (Hp.le_refl _)) ?_
    first | exact ⟨by rw [actR_pos h0], by rw [actR_pos h0]; simp only [Hp.set_set]; rfl⟩ | exact ⟨by rw [actR_zero h0], by rw [actR_zero h0]; exact (Hp.set_id hb).symm⟩
  try simp only [decide_eq_true_eq, decide_eq_false_iff_not, Bool.or_eq_true, Bool.and_eq_true, Bool.or_eq_false_iff, Bool.and_eq_false_imp, Bool.not_eq_true', Bool.not_eq_false', ne_eq, Decidable.not_not, Int.not_lt, Int.not_le, Bool.not_eq_true, Bool.not_eq_false] at h0
  refine AW.skip ?_
  refine SeqP.go ?_
  refine AW.seq ?_
  refine AW.region ?_
  refine OpsW.q rfl (q_move (v := .pointer _) rfl) ?_
  refine OpsW.q rfl (q_nilCheck rfl) ?_
  refine OpsW.q rfl (q_fieldAddr (sz := 0) Try.underlying90 rfl (by kernel_rfl) rfl) ?_
  refine OpsW.q rfl (q_load (v := .bool _) (by kernel_rfl) rfl (by exact (by assumption)) rfl) ?_
  refine OpsW.q rfl (q_not rfl) ?_
  refine OpsW.q rfl (q_assign (v := .bool _) rfl) ?_
  refine OpsW.nil ?_
  refine SeqP.go ?_
  refine AW.ret ?_
  refine RetP.mk1 (H' := _) (v1 := .bool _) rfl rfl  (by exact (Hp.le_refl _)) ?_
  first | exact ⟨by rw [actR_pos h0], by rw [actR_pos h0]; simp only [Hp.set_set]; rfl⟩ | exact ⟨by rw [actR_zero h0], by rw [actR_zero h0]; exact (Hp.set_id hb).symm⟩
theorem appendR_con (hb : H b = some (rblk r)) (hok : RefOk r) (d : List UInt8) (hd : d.length ≤ 1073741824) : Con Try.prog w0 32 #[.pointer (some ⟨b, 0, none⟩), S d] H (fun v H' => v = .int .i64 (appendR r d).1 ∧ H' = H.set b (rblk (appendR r d).2)) := by
  obtain ⟨ho1, ho2, ho3, ho4⟩ := hok
  refine Con.intro Try.func32 rfl rfl ?_
  refine AW.seq ?_
  refine AW.region ?_
  refine OpsW.q rfl (q_assign (v := .int _ _) rfl) ?_
  refine OpsW.nil ?_
  refine SeqP.go ?_
  refine AW.seq ?_
  refine AW.seq ?_
  refine AW.region ?_
  refine OpsW.q rfl (q_move (v := .pointer _) rfl) ?_
  refine OpsW.q rfl (q_nilCheck rfl) ?_
  refine OpsW.q rfl (q_fieldAddr (sz := 0) Try.underlying90 rfl (by kernel_rfl) rfl) ?_
  refine OpsW.q rfl (q_load (v := .bool _) (by kernel_rfl) rfl (by exact (by assumption)) rfl) ?_
  refine OpsW.nil ?_
  refine SeqP.go ?_
  refine AW.cond rfl (fun h0 => ?_) (fun h0 => ?_)
  ·
    try simp only [decide_eq_true_eq, decide_eq_false_iff_not, Bool.or_eq_true, Bool.and_eq_true, Bool.or_eq_false_iff, Bool.and_eq_false_imp, Bool.not_eq_true', Bool.not_eq_false', ne_eq, Decidable.not_not, Int.not_lt, Int.not_le, Bool.not_eq_true, Bool.not_eq_false] at h0
    refine AW.seq ?_
    refine AW.region ?_
    refine OpsW.q rfl (q_assign (v := .int _ _) rfl) ?_
    refine OpsW.nil ?_
    refine SeqP.go ?_
    refine AW.ret ?_
    refine SeqP.ret ?_
    refine RetP.mk1 (H' := _) (v1 := .int _ _) rfl rfl  (by exact (Hp.le_refl _)) ?_
    unfold appendR
    first | exact ⟨by simp [h0], by simp [h0]; exact (Hp.set_id hb).symm⟩ | (rw [if_neg (by simp [h0]), if_pos (by omega)]; exact ⟨rfl, (Hp.set_id hb).symm⟩) | (rw [if_neg (by simp [h0]), if_neg (by omega)]; exact ⟨by simp [h2], Hp.set_set⟩)
  try simp only [decide_eq_true_eq, decide_eq_false_iff_not, Bool.or_eq_true, Bool.and_eq_true, Bool.or_eq_false_iff, Bool.and_eq_false_imp, Bool.not_eq_true', Bool.not_eq_false', ne_eq, Decidable.not_not, Int.not_lt, Int.not_le, Bool.not_eq_true, Bool.not_eq_false] at h0
  refine AW.skip ?_
  refine SeqP.go ?_
  refine AW.seq ?_
  refine AW.seq ?_
  refine AW.drawK [] 12 rfl (by kernel_rfl) ?_
  refine SeqK.q rfl (q_move (v := .pointer _) rfl) ?_
  refine SeqK.q rfl (q_nilCheck rfl) ?_
  refine SeqK.q rfl (q_fieldAddr (sz := 0) Try.underlying90 rfl (by kernel_rfl) rfl) ?_
  refine SeqK.q rfl (q_load (v := S _) (by kernel_rfl) rfl (by exact (by assumption)) rfl) ?_
  refine SeqK.q rfl (q_lenS Try.underlying9 rfl) ?_
  refine SeqK.q rfl (q_move (v := S _) rfl) ?_
  refine SeqK.q rfl (q_lenS Try.underlying9 rfl) ?_
  refine SeqK.q rfl (q_addI rfl rfl (by omega)) ?_
  refine SeqK.q rfl (q_move (v := .pointer _) rfl) ?_
  refine SeqK.q rfl (q_nilCheck rfl) ?_
  refine SeqK.q rfl (q_fieldAddr (sz := 0) Try.underlying90 rfl (by kernel_rfl) rfl) ?_
  refine SeqK.q rfl (q_load (v := .int _ _) (by kernel_rfl) rfl (by exact (by assumption)) rfl) ?_
  refine SeqK.done ?_
  refine OpsW.q rfl (q_gtr rfl rfl) ?_
  refine OpsW.nil ?_
  refine SeqP.go ?_
  refine AW.cond rfl (fun h1 => ?_) (fun h1 => ?_)
  ·
    try simp only [decide_eq_true_eq, decide_eq_false_iff_not, Bool.or_eq_true, Bool.and_eq_true, Bool.or_eq_false_iff, Bool.and_eq_false_imp, Bool.not_eq_true', Bool.not_eq_false', ne_eq, Decidable.not_not, Int.not_lt, Int.not_le, Bool.not_eq_true, Bool.not_eq_false] at h1
    refine AW.seq ?_
    refine AW.region ?_
    refine OpsW.q rfl (q_assign (v := .int _ _) rfl) ?_
    refine OpsW.nil ?_
    refine SeqP.go ?_
    refine AW.ret ?_
    refine SeqP.ret ?_
    refine RetP.mk1 (H' := _) (v1 := .int _ _) rfl rfl  (by exact (Hp.le_refl _)) ?_
    unfold appendR
    first | exact ⟨by simp [h0], by simp [h0]; exact (Hp.set_id hb).symm⟩ | (rw [if_neg (by simp [h0]), if_pos (by omega)]; exact ⟨rfl, (Hp.set_id hb).symm⟩) | (rw [if_neg (by simp [h0]), if_neg (by omega)]; exact ⟨by simp [h2], Hp.set_set⟩)
  try simp only [decide_eq_true_eq, decide_eq_false_iff_not, Bool.or_eq_true, Bool.and_eq_true, Bool.or_eq_false_iff, Bool.and_eq_false_imp, Bool.not_eq_true', Bool.not_eq_false', ne_eq, Decidable.not_not, Int.not_lt, Int.not_le, Bool.not_eq_true, Bool.not_eq_false] at h1
  refine AW.skip ?_
  refine SeqP.go ?_
  refine AW.seq ?_
  refine AW.region ?_
  refine OpsW.q rfl (q_move (v := .pointer _) rfl) ?_
  refine OpsW.q rfl (q_move (v := .pointer _) rfl) ?_
  refine OpsW.q rfl (q_nilCheck rfl) ?_
  refine OpsW.q rfl (q_fieldAddr (sz := 0) Try.underlying90 rfl (by kernel_rfl) rfl) ?_
  refine OpsW.q rfl (q_load (v := S _) (by kernel_rfl) rfl (by exact (by assumption)) rfl) ?_
  refine OpsW.q rfl (q_move (v := S _) rfl) ?_
  refine OpsW.q rfl (q_cat rfl rfl (by omega)) ?_
  refine OpsW.q rfl (q_nilCheck rfl) ?_
  refine OpsW.q rfl (q_fieldAddr (sz := 0) Try.underlying90 rfl (by kernel_rfl) rfl) ?_
  refine OpsW.s (o_store (v := S _) (by kernel_rfl) rfl rfl rfl (by exact (by assumption)) (by simp; done)) ?_
  refine OpsW.nil ?_
  refine SeqP.go ?_
  refine AW.seq ?_
  refine AW.seq ?_
  refine AW.region ?_
  refine OpsW.q rfl (q_move (v := .pointer _) rfl) ?_
  refine OpsW.x rfl (o_call rfl Try.func54 rfl rfl (actR_con (r := { r with t := r.t ++ d }) Hp.set_self ho4)) ?_
  refine OpsW.q rfl (q_not rfl) ?_
  refine OpsW.nil ?_
  refine SeqP.go ?_
  refine AW.cond rfl (fun h2 => ?_) (fun h2 => ?_)
  ·
    try simp only [decide_eq_true_eq, decide_eq_false_iff_not, Bool.or_eq_true, Bool.and_eq_true, Bool.or_eq_false_iff, Bool.and_eq_false_imp, Bool.not_eq_true', Bool.not_eq_false', ne_eq, Decidable.not_not, Int.not_lt, Int.not_le, Bool.not_eq_true, Bool.not_eq_false] at h2
    refine AW.seq ?_
    refine AW.region ?_
    refine OpsW.q rfl (q_assign (v := .int _ _) rfl) ?_
    refine OpsW.nil ?_
    refine SeqP.go ?_
    refine AW.ret ?_
    refine SeqP.ret ?_
    refine RetP.mk1 (H' := _) (v1 := .int _ _) rfl rfl  (by exact (Hp.le_refl _)) ?_
    unfold appendR
    first | exact ⟨by simp [h0], by simp [h0]; exact (Hp.set_id hb).symm⟩ | (rw [if_neg (by simp [h0]), if_pos (by omega)]; exact ⟨rfl, (Hp.set_id hb).symm⟩) | (rw [if_neg (by simp [h0]), if_neg (by omega)]; exact ⟨by simp [h2], Hp.set_set⟩)
  try simp only [decide_eq_true_eq, decide_eq_false_iff_not, Bool.or_eq_true, Bool.and_eq_true, Bool.or_eq_false_iff, Bool.and_eq_false_imp, Bool.not_eq_true', Bool.not_eq_false', ne_eq, Decidable.not_not, Int.not_lt, Int.not_le, Bool.not_eq_true, Bool.not_eq_false] at h2
  refine AW.skip ?_
  refine SeqP.go ?_
  refine AW.seq ?_
  refine AW.region ?_
  refine OpsW.q rfl (q_assign (v := .int _ _) rfl) ?_
  refine OpsW.nil ?_
  refine SeqP.go ?_
  refine AW.ret ?_
  refine RetP.mk1 (H' := _) (v1 := .int _ _) rfl rfl  (by exact (Hp.le_refl _)) ?_
  unfold appendR
  first | exact ⟨by simp [h0], by simp [h0]; exact (Hp.set_id hb).symm⟩ | (rw [if_neg (by simp [h0]), if_pos (by omega)]; exact ⟨rfl, (Hp.set_id hb).symm⟩) | (rw [if_neg (by simp [h0]), if_neg (by omega)]; exact ⟨by simp [h2], Hp.set_set⟩)
theorem syncR_con (hb : H b = some (rblk r)) (hok : RefOk r) : Con Try.prog w0 50 #[.pointer (some ⟨b, 0, none⟩)] H (fun v H' => v = .int .i64 (syncR r).1 ∧ H' = H.set b (rblk (syncR r).2)) := by
  obtain ⟨ho1, ho2, ho3, ho4⟩ := hok
  obtain ⟨rt, rf, rl, ra, rd⟩ := r
  refine Con.intro Try.func50 rfl rfl ?_
  cases rd
  ·
    refine AW.seq ?_
    refine AW.region ?_
    refine OpsW.q rfl (q_assign (v := .int _ _) rfl) ?_
    refine OpsW.nil ?_
    refine SeqP.go ?_
    refine AW.seq ?_
    refine AW.seq ?_
    refine AW.region ?_
    refine OpsW.q rfl (q_move (v := .pointer _) rfl) ?_
    refine OpsW.q rfl (q_nilCheck rfl) ?_
    refine OpsW.q rfl (q_fieldAddr (sz := 0) Try.underlying90 rfl (by kernel_rfl) rfl) ?_
    refine OpsW.q rfl (q_load (v := .bool _) (by kernel_rfl) rfl (by exact (by assumption)) rfl) ?_
    refine OpsW.q rfl (q_move (v := .bool false) rfl) ?_
    refine OpsW.qw rfl rfl (q_move (v := .pointer _) rfl) ?_
    refine OpsW.xw rfl rfl (o_call rfl Try.func54 rfl rfl (actR_con hb ho4)) ?_
    refine OpsW.qw rfl rfl (q_not rfl) ?_
    refine OpsW.q rfl (q_or2 rfl rfl rfl) ?_
    refine OpsW.nil ?_
    refine SeqP.go ?_
    refine AW.cond rfl (fun h0 => ?_) (fun h0 => ?_)
    ·
      try simp only [decide_eq_true_eq, decide_eq_false_iff_not, Bool.or_eq_true, Bool.and_eq_true, Bool.or_eq_false_iff, Bool.and_eq_false_imp, Bool.not_eq_true', Bool.not_eq_false', ne_eq, Decidable.not_not, Int.not_lt, Int.not_le, Bool.not_eq_true, Bool.not_eq_false] at h0
      refine AW.seq ?_
      refine AW.region ?_
      refine OpsW.q rfl (q_assign (v := .int _ _) rfl) ?_
      refine OpsW.nil ?_
      refine SeqP.go ?_
      refine AW.ret ?_
      refine SeqP.ret ?_
      refine RetP.mk1 (H' := _) (v1 := .int _ _) rfl rfl  (by exact (Hp.le_refl _)) ?_
      first | exact ⟨rfl, (Hp.set_id hb).symm⟩ | (rw [syncR_die rfl (by simpa using h0)]; exact ⟨rfl, rfl⟩) | (rw [syncR_ok rfl (by simpa using h0)]; exact ⟨rfl, Hp.set_set⟩)
    try simp only [decide_eq_true_eq, decide_eq_false_iff_not, Bool.or_eq_true, Bool.and_eq_true, Bool.or_eq_false_iff, Bool.and_eq_false_imp, Bool.not_eq_true', Bool.not_eq_false', ne_eq, Decidable.not_not, Int.not_lt, Int.not_le, Bool.not_eq_true, Bool.not_eq_false] at h0
    refine AW.skip ?_
    refine SeqP.go ?_
    refine AW.seq ?_
    refine AW.region ?_
    refine OpsW.q rfl (q_move (v := .pointer _) rfl) ?_
    refine OpsW.q rfl (q_move (v := .pointer _) rfl) ?_
    refine OpsW.q rfl (q_nilCheck rfl) ?_
    refine OpsW.q rfl (q_fieldAddr (sz := 0) Try.underlying90 rfl (by kernel_rfl) rfl) ?_
    refine OpsW.q rfl (q_load (v := S _) (by kernel_rfl) rfl (by exact Hp.set_self) rfl) ?_
    refine OpsW.q rfl (q_lenS Try.underlying9 rfl) ?_
    refine OpsW.q rfl (q_nilCheck rfl) ?_
    refine OpsW.q rfl (q_fieldAddr (sz := 0) Try.underlying90 rfl (by kernel_rfl) rfl) ?_
    refine OpsW.s (o_store (v := .int _ _) (by kernel_rfl) rfl rfl rfl (by exact Hp.set_self) (by simp; done)) ?_
    refine OpsW.nil ?_
    refine SeqP.go ?_
    refine AW.seq ?_
    refine AW.region ?_
    refine OpsW.q rfl (q_assign (v := .int _ _) rfl) ?_
    refine OpsW.nil ?_
    refine SeqP.go ?_
    refine AW.ret ?_
    refine RetP.mk1 (H' := _) (v1 := .int _ _) rfl rfl  (by exact (Hp.le_refl _)) ?_
    first | exact ⟨rfl, (Hp.set_id hb).symm⟩ | (rw [syncR_die rfl (by simpa using h0)]; exact ⟨rfl, rfl⟩) | (rw [syncR_ok rfl (by simpa using h0)]; exact ⟨rfl, Hp.set_set⟩)
  ·
    refine AW.seq ?_
    refine AW.region ?_
    refine OpsW.q rfl (q_assign (v := .int _ _) rfl) ?_
    refine OpsW.nil ?_
    refine SeqP.go ?_
    refine AW.seq ?_
    refine AW.seq ?_
    refine AW.region ?_
    refine OpsW.q rfl (q_move (v := .pointer _) rfl) ?_
    refine OpsW.q rfl (q_nilCheck rfl) ?_
    refine OpsW.q rfl (q_fieldAddr (sz := 0) Try.underlying90 rfl (by kernel_rfl) rfl) ?_
    refine OpsW.q rfl (q_load (v := .bool _) (by kernel_rfl) rfl (by exact (by assumption)) rfl) ?_
    refine OpsW.q rfl (q_move (v := .bool true) rfl) ?_
    refine OpsW.p rfl rfl ?_
    refine OpsW.p rfl rfl ?_
    refine OpsW.p rfl rfl ?_
    refine OpsW.q rfl (q_or2 (B := false) rfl rfl rfl) ?_
    refine OpsW.nil ?_
    refine SeqP.go ?_
    refine AW.cond rfl (fun h0 => ?_) (fun h0 => ?_)
    ·
      try simp only [decide_eq_true_eq, decide_eq_false_iff_not, Bool.or_eq_true, Bool.and_eq_true, Bool.or_eq_false_iff, Bool.and_eq_false_imp, Bool.not_eq_true', Bool.not_eq_false', ne_eq, Decidable.not_not, Int.not_lt, Int.not_le, Bool.not_eq_true, Bool.not_eq_false] at h0
      refine AW.seq ?_
      refine AW.region ?_
      refine OpsW.q rfl (q_assign (v := .int _ _) rfl) ?_
      refine OpsW.nil ?_
      refine SeqP.go ?_
      refine AW.ret ?_
      refine SeqP.ret ?_
      refine RetP.mk1 (H' := _) (v1 := .int _ _) rfl rfl  (by exact (Hp.le_refl _)) ?_
      first | exact ⟨rfl, (Hp.set_id hb).symm⟩ | (rw [syncR_die rfl (by simpa using h0)]; exact ⟨rfl, rfl⟩) | (rw [syncR_ok rfl (by simpa using h0)]; exact ⟨rfl, Hp.set_set⟩)
    exfalso
    try simp only [decide_eq_true_eq, decide_eq_false_iff_not, Bool.or_eq_true, Bool.and_eq_true, Bool.or_eq_false_iff, Bool.and_eq_false_imp, Bool.not_eq_true', Bool.not_eq_false', ne_eq, Decidable.not_not, Int.not_lt, Int.not_le, Bool.not_eq_true, Bool.not_eq_false] at h0
    simp at h0
theorem cutR_con (hb : H b = some (rblk r)) (hok : RefOk r) (x : Int) : Con Try.prog w0 49 #[.pointer (some ⟨b, 0, none⟩), .int .i64 x] H (fun v H' => v = .int .i64 (cutR r x).1 ∧ H' = H.set b (rblk (cutR r x).2)) := by
  obtain ⟨ho1, ho2, ho3, ho4⟩ := hok
  refine Con.intro Try.func49 rfl rfl ?_
  refine AW.seq ?_
  refine AW.region ?_
  refine OpsW.q rfl (q_assign (v := .int _ _) rfl) ?_
  refine OpsW.nil ?_
  refine SeqP.go ?_
  refine AW.seq ?_
  refine AW.seq ?_
  refine AW.region ?_
  refine OpsW.q rfl (q_move (v := .pointer _) rfl) ?_
  refine OpsW.q rfl (q_nilCheck rfl) ?_
  refine OpsW.q rfl (q_fieldAddr (sz := 0) Try.underlying90 rfl (by kernel_rfl) rfl) ?_
  refine OpsW.q rfl (q_load (v := .bool _) (by kernel_rfl) rfl (by exact (by assumption)) rfl) ?_
  refine OpsW.nil ?_
  refine SeqP.go ?_
  refine AW.cond rfl (fun h0 => ?_) (fun h0 => ?_)
  ·
    try simp only [decide_eq_true_eq, decide_eq_false_iff_not, Bool.or_eq_true, Bool.and_eq_true, Bool.or_eq_false_iff, Bool.and_eq_false_imp, Bool.not_eq_true', Bool.not_eq_false', ne_eq, Decidable.not_not, Int.not_lt, Int.not_le, Bool.not_eq_true, Bool.not_eq_false] at h0
    refine AW.seq ?_
    refine AW.region ?_
    refine OpsW.q rfl (q_assign (v := .int _ _) rfl) ?_
    refine OpsW.nil ?_
    refine SeqP.go ?_
    refine AW.ret ?_
    refine SeqP.ret ?_
    refine RetP.mk1 (H' := _) (v1 := .int _ _) rfl rfl  (by exact (Hp.le_refl _)) ?_
    first | (rw [cutR_dead (by simpa using h0)]; exact ⟨rfl, (Hp.set_id hb).symm⟩) | (rw [cutR_bad (by simpa using h0) (by simp_all <;> omega)]; exact ⟨rfl, (Hp.set_id hb).symm⟩) | (rw [cutR_die (by simpa using h0) hin (by simpa using h2)]; exact ⟨rfl, rfl⟩) | (rw [cutR_ok (by simpa using h0) hin (by simpa using h2)]; exact ⟨rfl, by simp only [Hp.set_set]; rfl⟩)
  try simp only [decide_eq_true_eq, decide_eq_false_iff_not, Bool.or_eq_true, Bool.and_eq_true, Bool.or_eq_false_iff, Bool.and_eq_false_imp, Bool.not_eq_true', Bool.not_eq_false', ne_eq, Decidable.not_not, Int.not_lt, Int.not_le, Bool.not_eq_true, Bool.not_eq_false] at h0
  refine AW.skip ?_
  refine SeqP.go ?_
  refine AW.seq ?_
  refine AW.seq ?_
  refine AW.region ?_
  refine OpsW.q rfl (q_move (v := .int _ _) rfl) ?_
  refine OpsW.q rfl (q_lss rfl rfl) ?_
  refine OpsW.qb rfl (q_move (v := .bool _) rfl) ?_
  intro b11 eb11
  refine OpsW.g rfl rfl rfl (fun hB => by simp only [Bool.and_eq_true, beq_iff_eq] at hB; obtain rfl := hB; exact (q_move (v := .int _ _) rfl)) ?_
  refine OpsW.g rfl rfl rfl (fun hB => by simp only [Bool.and_eq_true, beq_iff_eq] at hB; obtain rfl := hB; exact (q_move (v := .pointer _) rfl)) ?_
  refine OpsW.g rfl rfl rfl (fun hB => by simp only [Bool.and_eq_true, beq_iff_eq] at hB; obtain rfl := hB; exact (q_nilCheck rfl)) ?_
  refine OpsW.g rfl rfl rfl (fun hB => by simp only [Bool.and_eq_true, beq_iff_eq] at hB; obtain rfl := hB; exact (q_fieldAddr (sz := 0) Try.underlying90 rfl (by kernel_rfl) rfl)) ?_
  refine OpsW.g rfl rfl rfl (fun hB => by simp only [Bool.and_eq_true, beq_iff_eq] at hB; obtain rfl := hB; exact (q_load (v := S _) (by kernel_rfl) rfl (by exact (by assumption)) rfl)) ?_
  refine OpsW.g rfl rfl rfl (fun hB => by simp only [Bool.and_eq_true, beq_iff_eq] at hB; obtain rfl := hB; exact (q_lenS Try.underlying9 rfl)) ?_
  refine OpsW.g rfl rfl rfl (fun hB => by simp only [Bool.and_eq_true, beq_iff_eq] at hB; obtain rfl := hB; exact (q_gtr rfl rfl)) ?_
  refine OpsW.q rfl (q_or2 rfl rfl rfl) ?_
  refine OpsW.nil ?_
  refine SeqP.go ?_
  refine AW.cond rfl (fun h1 => ?_) (fun h1 => ?_)
  ·
    try simp only [eb11, decide_eq_true_eq, decide_eq_false_iff_not, Bool.or_eq_true, Bool.and_eq_true, Bool.or_eq_false_iff, Bool.and_eq_false_imp, Bool.not_eq_true', Bool.not_eq_false', ne_eq, Decidable.not_not, Int.not_lt, Int.not_le, Bool.not_eq_true, Bool.not_eq_false] at h1
    refine AW.seq ?_
    refine AW.region ?_
    refine OpsW.q rfl (q_assign (v := .int _ _) rfl) ?_
    refine OpsW.nil ?_
    refine SeqP.go ?_
    refine AW.ret ?_
    refine SeqP.ret ?_
    refine RetP.mk1 (H' := _) (v1 := .int _ _) rfl rfl  (by exact (Hp.le_refl _)) ?_
    first | (rw [cutR_dead (by simpa using h0)]; exact ⟨rfl, (Hp.set_id hb).symm⟩) | (rw [cutR_bad (by simpa using h0) (by simp_all <;> omega)]; exact ⟨rfl, (Hp.set_id hb).symm⟩) | (rw [cutR_die (by simpa using h0) hin (by simpa using h2)]; exact ⟨rfl, rfl⟩) | (rw [cutR_ok (by simpa using h0) hin (by simpa using h2)]; exact ⟨rfl, by simp only [Hp.set_set]; rfl⟩)
  try simp only [eb11, decide_eq_true_eq, decide_eq_false_iff_not, Bool.or_eq_true, Bool.and_eq_true, Bool.or_eq_false_iff, Bool.and_eq_false_imp, Bool.not_eq_true', Bool.not_eq_false', ne_eq, Decidable.not_not, Int.not_lt, Int.not_le, Bool.not_eq_true, Bool.not_eq_false] at h1
  have hin : 0 ≤ x ∧ x ≤ (r.t.length : Int) := by simp_all <;> omega
  have hsm := (actR_same r).1
  refine AW.skip ?_
  refine SeqP.go ?_
  refine AW.seq ?_
  refine AW.seq ?_
  refine AW.region ?_
  refine OpsW.q rfl (q_move (v := .pointer _) rfl) ?_
  refine OpsW.x rfl (o_call rfl Try.func54 rfl rfl (actR_con hb ho4)) ?_
  refine OpsW.q rfl (q_not rfl) ?_
  refine OpsW.nil ?_
  refine SeqP.go ?_
  refine AW.cond rfl (fun h2 => ?_) (fun h2 => ?_)
  ·
    try simp only [eb11, decide_eq_true_eq, decide_eq_false_iff_not, Bool.or_eq_true, Bool.and_eq_true, Bool.or_eq_false_iff, Bool.and_eq_false_imp, Bool.not_eq_true', Bool.not_eq_false', ne_eq, Decidable.not_not, Int.not_lt, Int.not_le, Bool.not_eq_true, Bool.not_eq_false] at h2
    refine AW.seq ?_
    refine AW.region ?_
    refine OpsW.q rfl (q_assign (v := .int _ _) rfl) ?_
    refine OpsW.nil ?_
    refine SeqP.go ?_
    refine AW.ret ?_
    refine SeqP.ret ?_
    refine RetP.mk1 (H' := _) (v1 := .int _ _) rfl rfl  (by exact (Hp.le_refl _)) ?_
    first | (rw [cutR_dead (by simpa using h0)]; exact ⟨rfl, (Hp.set_id hb).symm⟩) | (rw [cutR_bad (by simpa using h0) (by simp_all <;> omega)]; exact ⟨rfl, (Hp.set_id hb).symm⟩) | (rw [cutR_die (by simpa using h0) hin (by simpa using h2)]; exact ⟨rfl, rfl⟩) | (rw [cutR_ok (by simpa using h0) hin (by simpa using h2)]; exact ⟨rfl, by simp only [Hp.set_set]; rfl⟩)
  try simp only [eb11, decide_eq_true_eq, decide_eq_false_iff_not, Bool.or_eq_true, Bool.and_eq_true, Bool.or_eq_false_iff, Bool.and_eq_false_imp, Bool.not_eq_true', Bool.not_eq_false', ne_eq, Decidable.not_not, Int.not_lt, Int.not_le, Bool.not_eq_true, Bool.not_eq_false] at h2
  refine AW.skip ?_
  refine SeqP.go ?_
  refine AW.seq ?_
  refine AW.region ?_
  refine OpsW.q rfl (q_move (v := .pointer _) rfl) ?_
  refine OpsW.q rfl (q_move (v := .pointer _) rfl) ?_
  refine OpsW.q rfl (q_nilCheck rfl) ?_
  refine OpsW.q rfl (q_fieldAddr (sz := 0) Try.underlying90 rfl (by kernel_rfl) rfl) ?_
  refine OpsW.q rfl (q_load (v := S _) (by kernel_rfl) rfl (by exact Hp.set_self) rfl) ?_
  refine OpsW.q rfl (q_move (v := .int _ _) rfl) ?_
  refine OpsW.q rfl (q_sliceS_hi Try.underlying9 rfl rfl (by omega) (by rw [hsm]; omega)) ?_
  refine OpsW.q rfl (q_nilCheck rfl) ?_
  refine OpsW.q rfl (q_fieldAddr (sz := 0) Try.underlying90 rfl (by kernel_rfl) rfl) ?_
  refine OpsW.s (o_store (v := S _) (by kernel_rfl) rfl rfl rfl (by exact Hp.set_self) (by simp; done)) ?_
  refine OpsW.nil ?_
  refine SeqP.go ?_
  refine AW.seq ?_
  refine AW.region ?_
  refine OpsW.q rfl (q_move (v := .pointer _) rfl) ?_
  refine OpsW.q rfl (q_move (v := .int _ _) rfl) ?_
  refine OpsW.q rfl (q_nilCheck rfl) ?_
  refine OpsW.q rfl (q_fieldAddr (sz := 0) Try.underlying90 rfl (by kernel_rfl) rfl) ?_
  refine OpsW.s (o_store (v := .int _ _) (by kernel_rfl) rfl rfl rfl (by exact Hp.set_self) (by simp; done)) ?_
  refine OpsW.nil ?_
  refine SeqP.go ?_
  refine AW.seq ?_
  refine AW.region ?_
  refine OpsW.q rfl (q_assign (v := .int _ _) rfl) ?_
  refine OpsW.nil ?_
  refine SeqP.go ?_
  refine AW.ret ?_
  refine RetP.mk1 (H' := _) (v1 := .int _ _) rfl rfl  (by exact (Hp.le_refl _)) ?_
  first | (rw [cutR_dead (by simpa using h0)]; exact ⟨rfl, (Hp.set_id hb).symm⟩) | (rw [cutR_bad (by simpa using h0) (by simp_all <;> omega)]; exact ⟨rfl, (Hp.set_id hb).symm⟩) | (rw [cutR_die (by simpa using h0) hin (by simpa using h2)]; exact ⟨rfl, rfl⟩) | (rw [cutR_ok (by simpa using h0) hin (by simpa using h2)]; exact ⟨rfl, by simp only [Hp.set_set]; rfl⟩)
theorem readR_con (hb : H b = some (rblk r)) (hok : RefOk r) : Con Try.prog w0 33 #[.pointer (some ⟨b, 0, none⟩)] H (fun v H' => v = .tuple #[S (readR r).1, .int .i64 (readR r).2] ∧ H' = H) := by
  obtain ⟨ho1, ho2, ho3, ho4⟩ := hok
  refine Con.intro Try.func33 rfl rfl ?_
  refine AW.seq ?_
  refine AW.region ?_
  refine OpsW.q rfl (q_assign (v := S _) rfl) ?_
  refine OpsW.q rfl (q_assign (v := .int _ _) rfl) ?_
  refine OpsW.nil ?_
  refine SeqP.go ?_
  refine AW.seq ?_
  refine AW.seq ?_
  refine AW.region ?_
  refine OpsW.q rfl (q_move (v := .pointer _) rfl) ?_
  refine OpsW.q rfl (q_nilCheck rfl) ?_
  refine OpsW.q rfl (q_fieldAddr (sz := 0) Try.underlying90 rfl (by kernel_rfl) rfl) ?_
  refine OpsW.q rfl (q_load (v := .bool _) (by kernel_rfl) rfl (by exact (by assumption)) rfl) ?_
  refine OpsW.nil ?_
  refine SeqP.go ?_
  refine AW.cond rfl (fun h0 => ?_) (fun h0 => ?_)
  ·
    try simp only [decide_eq_true_eq, decide_eq_false_iff_not, Bool.or_eq_true, Bool.and_eq_true, Bool.or_eq_false_iff, Bool.and_eq_false_imp, Bool.not_eq_true', Bool.not_eq_false', ne_eq, Decidable.not_not, Int.not_lt, Int.not_le, Bool.not_eq_true, Bool.not_eq_false] at h0
    refine AW.seq ?_
    refine AW.region ?_
    refine OpsW.q rfl (q_assign (v := S _) rfl) ?_
    refine OpsW.q rfl (q_assign (v := .int _ _) rfl) ?_
    refine OpsW.nil ?_
    refine SeqP.go ?_
    refine AW.ret ?_
    refine SeqP.ret ?_
    refine RetP.mk2 (H' := H) (v1 := S _) (v2 := .int _ _) rfl rfl rfl  (by exact (Hp.le_refl _)) ?_
    exact ⟨by simp [readR, h0], rfl⟩
  try simp only [decide_eq_true_eq, decide_eq_false_iff_not, Bool.or_eq_true, Bool.and_eq_true, Bool.or_eq_false_iff, Bool.and_eq_false_imp, Bool.not_eq_true', Bool.not_eq_false', ne_eq, Decidable.not_not, Int.not_lt, Int.not_le, Bool.not_eq_true, Bool.not_eq_false] at h0
  refine AW.skip ?_
  refine SeqP.go ?_
  refine AW.seq ?_
  refine AW.region ?_
  refine OpsW.q rfl (q_move (v := .pointer _) rfl) ?_
  refine OpsW.q rfl (q_nilCheck rfl) ?_
  refine OpsW.q rfl (q_fieldAddr (sz := 0) Try.underlying90 rfl (by kernel_rfl) rfl) ?_
  refine OpsW.q rfl (q_load (v := S _) (by kernel_rfl) rfl (by exact (by assumption)) rfl) ?_
  refine OpsW.q rfl (q_assign (v := S _) rfl) ?_
  refine OpsW.q rfl (q_assign (v := .int _ _) rfl) ?_
  refine OpsW.nil ?_
  refine SeqP.go ?_
  refine AW.ret ?_
  refine RetP.mk2 (H' := H) (v1 := S _) (v2 := .int _ _) rfl rfl rfl  (by exact (Hp.le_refl _)) ?_
  exact ⟨by simp [readR, h0], rfl⟩
theorem deadR_con (hb : H b = some (rblk r)) (hok : RefOk r) : Con Try.prog w0 35 #[.pointer (some ⟨b, 0, none⟩)] H (fun v H' => v = .bool r.dd ∧ H' = H) := by
  obtain ⟨ho1, ho2, ho3, ho4⟩ := hok
  refine Con.intro Try.func35 rfl rfl ?_
  refine AW.seq ?_
  refine AW.region ?_
  refine OpsW.q rfl (q_assign (v := .bool _) rfl) ?_
  refine OpsW.nil ?_
  refine SeqP.go ?_
  refine AW.seq ?_
  refine AW.region ?_
  refine OpsW.q rfl (q_move (v := .pointer _) rfl) ?_
  refine OpsW.q rfl (q_nilCheck rfl) ?_
  refine OpsW.q rfl (q_fieldAddr (sz := 0) Try.underlying90 rfl (by kernel_rfl) rfl) ?_
  refine OpsW.q rfl (q_load (v := .bool _) (by kernel_rfl) rfl (by exact (by assumption)) rfl) ?_
  refine OpsW.q rfl (q_assign (v := .bool _) rfl) ?_
  refine OpsW.nil ?_
  refine SeqP.go ?_
  refine AW.ret ?_
  refine RetP.mk1 (H' := H) (v1 := .bool _) rfl rfl  (by exact (Hp.le_refl _)) ?_
  exact ⟨rfl, rfl⟩
theorem armR_con (hb : H b = some (rblk r)) (hok : RefOk r) (x : Int) : Con Try.prog w0 28 #[.pointer (some ⟨b, 0, none⟩), .int .i64 x] H (fun v H' => v = .tuple #[] ∧ H' = H.set b (rblk (armR r x))) := by
  obtain ⟨ho1, ho2, ho3, ho4⟩ := hok
  refine Con.intro Try.func28 rfl rfl ?_
  refine AW.region ?_
  refine OpsW.q rfl (q_move (v := .pointer _) rfl) ?_
  refine OpsW.q rfl (q_move (v := .int _ _) rfl) ?_
  refine OpsW.q rfl (q_max rfl rfl) ?_
  refine OpsW.q rfl (q_nilCheck rfl) ?_
  refine OpsW.q rfl (q_fieldAddr (sz := 0) Try.underlying90 rfl (by kernel_rfl) rfl) ?_
  refine OpsW.s (o_store (v := .int _ _) (by kernel_rfl) rfl rfl rfl (by exact (by assumption)) (by simp; done)) ?_
  refine OpsW.nil ?_
  refine RetP.end0 (H' := _) rfl (by exact (Hp.le_refl _)) ?_
  exact ⟨rfl, rfl⟩
end
end Go.Proofs.Ytfiojlmccflplaa
end
section
namespace Go.Proofs.Ytfiojlmccflplaa
open Go Go.RowKit D
set_option linter.unusedVariables false
set_option linter.unusedSimpArgs false
set_option maxHeartbeats 1000000
def tapeA (b : Nat) (s : TapeS) : Hp → Prop := fun h => ∃ fv lv, TapeAt emp h b s fv lv
abbrev tapeC (b : Nat) (s : TapeS) : Chunk := .pred (tapeA b s)
section
variable {w0 : World} {H0 H : Hp} {b : Nat} {s : TapeS}
theorem vblock_owned {v : Value} {el : TypeId} {sz n : Nat} {cs : List Value} (h : Vec H el sz v n cs) {c : Nat} (hc : vblock v = some c) : ∃ o, H c = some o := by
  rcases h with ⟨rfl, _⟩ | ⟨b, cap, q, rfl, h2, _⟩
  · simp [vblock] at hc
  · simp [vblock] at hc; subst hc; exact ⟨q, h2⟩
theorem tape_in (h : Sep H0 [tapeC b s] H) : TapeR H0 H b s := by
  obtain ⟨h1, h2, a, l1, l2, ⟨g, hg, fv, lv, hT⟩, hl⟩ := h
  have hgH : g.le H := Hp.le_trans hg l1
  have out : ∀ c o, g c = some o → H0 c = none := fun c o hc => Hp.le_none hl ((a c).resolve_left (by rw [hg c o hc]; simp))
  refine ⟨fv, lv, hgH _ _ hT.at', hT.vf.le hgH, hT.vl.le hgH, Hp.le_trans hl l2, out _ _ hT.at', ?_, ?_, hT.bf, hT.bl, hT.fl⟩
  · intro c hc; obtain ⟨o, ho⟩ := vblock_owned hT.vf hc; exact out c o ho
  · intro c hc; obtain ⟨o, ho⟩ := vblock_owned hT.vl hc; exact out c o ho
theorem tape_out (h : TapeR H0 H b s) : Sep H0 [tapeC b s] H := by
  obtain ⟨fv, lv, hT⟩ := h
  classical
  let D : Nat → Prop := fun c => c = b ∨ vblock fv = some c ∨ vblock lv = some c
  refine ⟨fun c => if D c then H c else none, fun c => if D c then none else H c, ?_, ?_, ?_, ⟨_, Hp.le_refl _, fv, lv, ?_, ?_, ?_, ?_, rfl, fun _ _ => rfl, fun _ _ => rfl, hT.bf, hT.bl, hT.fl⟩, ?_⟩
  · intro c
    by_cases h : D c
    · exact .inr (if_pos h)
    · exact .inl (if_neg h)
  · intro c o hc
    by_cases h : D c
    · simp only [if_pos h] at hc; exact hc
    · simp only [if_neg h] at hc; cases hc
  · intro c o hc
    by_cases h : D c
    · simp only [if_pos h] at hc; cases hc
    · simp only [if_neg h] at hc; exact hc
  · show (if D b then H b else none) = _
    rw [if_pos (.inl rfl)]; exact hT.at'
  · exact hT.vf.keep fun c o hc ho => by show (if D c then H c else none) = _; rw [if_pos (.inr (.inl hc))]; exact ho
  · exact hT.vl.keep fun c o hc ho => by show (if D c then H c else none) = _; rw [if_pos (.inr (.inr hc))]; exact ho
  · intro c o hc; simp [emp] at hc
  · intro c o hc
    have hn : ¬ D c := by
      rintro (rfl | h | h)
      · rw [hT.nb] at hc; cases hc
      · rw [hT.nf c h] at hc; cases hc
      · rw [hT.nl c h] at hc; cases hc
    show (if D c then none else H c) = _
    rw [if_neg hn]; exact hT.le c o hc
abbrev PT (b : Nat) : Value := .pointer (some ⟨b, 0, none⟩)
theorem Append_s (h : Sep H0 [tapeC b s] H) (hok : TapeOk s) (d : List UInt8) (hd : d.length ≤ 1073741824) : Con Try.prog w0 31 #[PT b, S d] H (fun v H' => v = .int .i64 (appendP s d).1 ∧ Sep H0 [tapeC b (appendP s d).2] H') := by
  obtain ⟨fv, lv, hT⟩ := tape_in h
  exact (Append_con hT hok d hd).mono fun _ _ ⟨h1, h2⟩ => ⟨h1, tape_out h2⟩
theorem Sync_s (h : Sep H0 [tapeC b s] H) (hok : TapeOk s) : Con Try.prog w0 46 #[PT b] H (fun v H' => v = .int .i64 (syncP s).1 ∧ Sep H0 [tapeC b (syncP s).2] H') := by
  obtain ⟨fv, lv, hT⟩ := tape_in h
  exact (Sync_con hT hok).mono fun _ _ ⟨h1, h2⟩ => ⟨h1, tape_out h2⟩
theorem Cut_s (h : Sep H0 [tapeC b s] H) (hok : TapeOk s) (x : Int) : Con Try.prog w0 45 #[PT b, .int .i64 x] H (fun v H' => v = .int .i64 (cutP s x).1 ∧ Sep H0 [tapeC b (cutP s x).2] H') := by
  obtain ⟨fv, lv, hT⟩ := tape_in h
  exact (Cut_con hT hok x).mono fun _ _ ⟨h1, h2⟩ => ⟨h1, tape_out h2⟩
theorem Crash_s (h : Sep H0 [tapeC b s] H) (hok : TapeOk s) (x : Int) (sp : Bool) : Con Try.prog w0 22 #[PT b, .int .i64 x, .bool sp] H (fun v H' => v = .tuple #[] ∧ Sep H0 [tapeC b (crashP s x sp)] H') := by
  obtain ⟨fv, lv, hT⟩ := tape_in h
  exact (Crash_con hT hok x sp).mono fun _ _ ⟨h1, h2⟩ => ⟨h1, tape_out h2⟩
theorem Arm_s (h : Sep H0 [tapeC b s] H) (x : Int) : Con Try.prog w0 21 #[PT b, .int .i64 x] H (fun v H' => v = .tuple #[] ∧ Sep H0 [tapeC b (armP s x)] H') := by
  obtain ⟨fv, lv, hT⟩ := tape_in h
  exact (Arm_con hT x).mono fun _ _ ⟨h1, h2⟩ => ⟨h1, tape_out ⟨fv, lv, by rw [h2]; exact hT.put (ar := max x 0) (dd := s.dd)⟩⟩
theorem Read_s {L : List Chunk} {F : Chunk → List Chunk} (h : Sep H0 L H) (hA : At L (tapeC b s) F) (hok : TapeOk s) : Con Try.prog w0 24 #[PT b] H (fun v H' => v = .tuple #[S (readP s).1, .int .i64 (readP s).2] ∧ H' = H) := by
  obtain ⟨Hf, _, h1, _⟩ := h.framed hA
  obtain ⟨fv, lv, hT⟩ := tape_in h1
  exact Read_con hT hok
theorem Dead_s {L : List Chunk} {F : Chunk → List Chunk} (h : Sep H0 L H) (hA : At L (tapeC b s) F) : Con Try.prog w0 34 #[PT b] H (fun v H' => v = .bool s.dd ∧ H' = H) := by
  obtain ⟨Hf, _, h1, _⟩ := h.framed hA
  obtain ⟨fv, lv, hT⟩ := tape_in h1
  exact Dead_con hT
/-- A tape of so many bytes, with nothing on it. -/
def tape0 (n : Int) : TapeS := ⟨n, [], [], 0, false⟩
theorem tape_new {n : Int} {L : List Chunk} (h : Sep H0 (.blk b ⟨tcells (tape0 n) nilV nilV, 5, 83⟩ :: L) H) : Sep H0 (tapeC b (tape0 n) :: L) H := by
  obtain ⟨h1, h2, a, l1, l2, e, f⟩ := h
  refine ⟨h1, h2, a, l1, l2, ⟨h1, Hp.le_refl _, nilV, nilV, e, .inl ⟨rfl, rfl, rfl⟩, .inl ⟨rfl, rfl, rfl⟩, ?_, rfl, fun _ _ => rfl, fun _ _ => rfl, ?_, ?_, ?_⟩, f⟩
  · intro c o hc; simp [emp] at hc
  · simp [vblock]
  · simp [vblock]
  · simp [vblock]
variable {r : RefS}
theorem AppendR_s (h : Sep H0 [.blk b (rblk r)] H) (hok : RefOk r) (d : List UInt8) (hd : d.length ≤ 1073741824) : Con Try.prog w0 32 #[PT b, S d] H (fun v H' => v = .int .i64 (appendR r d).1 ∧ Sep H0 [.blk b (rblk (appendR r d).2)] H') :=
  (appendR_con (h.blk at0) hok d hd).mono fun _ _ ⟨h1, h2⟩ => ⟨h1, by rw [h2]; exact h.set at0⟩
theorem SyncR_s (h : Sep H0 [.blk b (rblk r)] H) (hok : RefOk r) : Con Try.prog w0 50 #[PT b] H (fun v H' => v = .int .i64 (syncR r).1 ∧ Sep H0 [.blk b (rblk (syncR r).2)] H') :=
  (syncR_con (h.blk at0) hok).mono fun _ _ ⟨h1, h2⟩ => ⟨h1, by rw [h2]; exact h.set at0⟩
theorem CutR_s (h : Sep H0 [.blk b (rblk r)] H) (hok : RefOk r) (x : Int) : Con Try.prog w0 49 #[PT b, .int .i64 x] H (fun v H' => v = .int .i64 (cutR r x).1 ∧ Sep H0 [.blk b (rblk (cutR r x).2)] H') :=
  (cutR_con (h.blk at0) hok x).mono fun _ _ ⟨h1, h2⟩ => ⟨h1, by rw [h2]; exact h.set at0⟩
theorem ArmR_s (h : Sep H0 [.blk b (rblk r)] H) (hok : RefOk r) (x : Int) : Con Try.prog w0 28 #[PT b, .int .i64 x] H (fun v H' => v = .tuple #[] ∧ Sep H0 [.blk b (rblk (armR r x))] H') :=
  (armR_con (h.blk at0) hok x).mono fun _ _ ⟨h1, h2⟩ => ⟨h1, by rw [h2]; exact h.set at0⟩
theorem ReadR_s {L : List Chunk} {F : Chunk → List Chunk} (h : Sep H0 L H) (hA : At L (.blk b (rblk r)) F) (hok : RefOk r) : Con Try.prog w0 33 #[PT b] H (fun v H' => v = .tuple #[S (readR r).1, .int .i64 (readR r).2] ∧ H' = H) := readR_con (h.blk hA) hok
theorem DeadR_s {L : List Chunk} {F : Chunk → List Chunk} (h : Sep H0 L H) (hA : At L (.blk b (rblk r)) F) (hok : RefOk r) : Con Try.prog w0 35 #[PT b] H (fun v H' => v = .bool r.dd ∧ H' = H) := deadR_con (h.blk hA) hok
end
end Go.Proofs.Ytfiojlmccflplaa
end
section
namespace Go.Proofs.Ytfiojlmccflplaa
open Go Go.RowKit D
set_option linter.unusedVariables false
set_option linter.unusedSimpArgs false
abbrev recV (v : Value) (l : RecL) : Chunk := .vec v 44 2 l.length (rowsV recC l)
abbrev Vals := List (List UInt8 × Value)
def pieM (L : OneL) (vs : Vals) : List Chunk := vs.map fun p => recV p.2 (ofP L p.1)
def exc (vs : Vals) (who : List UInt8) : Vals := vs.filter fun p => decide (p.1 ≠ who)
/-- A map at block mb that has each sender's messages. -/
def stM (mb : Nat) (L : OneL) : Hp → Prop := fun h => ∃ vs : Vals, (vs.map (·.1)).Nodup ∧ (∀ w, mgt vs w = none → ofP L w = []) ∧ Sep emp (.blk mb (mpB (ents S vs)) :: pieM L vs) h
def stEx (L : OneL) (vs : Vals) (who : List UInt8) : Hp → Prop := fun h => Sep emp (pieM L (exc vs who)) h
theorem exc_none {vs : Vals} {who : List UInt8} (h : mgt vs who = none) : exc vs who = vs := by
  unfold exc
  rw [List.filter_eq_self]
  intro p hp
  have : p.1 ≠ who := by
    intro e
    have : ∀ {vs : Vals}, p ∈ vs → mgt vs who ≠ none := by
      intro vs
      induction vs with
      | nil => intro h; cases h
      | cons q vs ih =>
        intro h
        by_cases hq : q.1 = who
        · simp [mgt, hq]
        · rcases List.mem_cons.1 h with rfl | h
          · exact absurd e hq
          · simp [mgt, hq]; exact ih h
    exact this hp h
  simpa using this
theorem mgt_mem {vs : Vals} {who : List UInt8} (h : who ∉ vs.map (·.1)) : mgt vs who = none := by
  induction vs with
  | nil => rfl
  | cons q vs ih =>
    simp only [List.map_cons, List.mem_cons, not_or] at h
    simp [mgt, Ne.symm h.1, ih h.2]
theorem mst_keys {vs : Vals} {who : List UInt8} {v : Value} : (mst vs who v).map (·.1) = if mgt vs who = none then vs.map (·.1) ++ [who] else vs.map (·.1) := by
  induction vs with
  | nil => simp [mst, mgt]
  | cons q vs ih =>
    by_cases hq : q.1 = who
    · simp [mst, mgt, hq]
    · simp only [mst, if_neg hq, mgt, List.map_cons, ih]
      split <;> simp
theorem nodup_mst {vs : Vals} {who : List UInt8} {v : Value} (h : (vs.map (·.1)).Nodup) : ((mst vs who v).map (·.1)).Nodup := by
  rw [mst_keys]
  split
  · rename_i hn
    rw [List.nodup_append]
    refine ⟨h, by simp, ?_⟩
    intro a ha b hb e
    rw [List.mem_singleton] at hb
    subst hb; subst e
    have : ∀ {vs : Vals}, a ∈ vs.map (·.1) → mgt vs a ≠ none := by
      intro vs
      induction vs with
      | nil => intro h; cases h
      | cons q vs ih =>
        intro h
        by_cases hq : q.1 = a
        · simp [mgt, hq]
        · simp only [List.map_cons, List.mem_cons] at h
          rcases h with rfl | h
          · exact absurd rfl hq
          · simp only [mgt, if_neg hq]; exact ih h
    exact this ha hn
  · exact h
theorem exc_mst {vs : Vals} {who : List UInt8} {v : Value} : exc (mst vs who v) who = exc vs who := by
  induction vs with
  | nil => simp [mst, exc]
  | cons q vs ih =>
    unfold exc at *
    by_cases hq : q.1 = who
    · simp [mst, hq]
    · simp [mst, hq] at ih ⊢; exact ih
theorem exc_mem {vs : Vals} {who : List UInt8} : ∀ p ∈ exc vs who, p.1 ≠ who := by
  intro p hp
  have := (List.mem_filter.1 hp).2
  simpa using this
theorem pie_del {L : OneL} {who : List UInt8} {v : Value} : ∀ {vs : Vals}, (vs.map (·.1)).Nodup → mgt vs who = some v → Del (pieM L vs) (recV v (ofP L who)) (pieM L (exc vs who)) := by
  intro vs
  induction vs with
  | nil => intro _ h; simp [mgt] at h
  | cons q vs ih =>
    intro hn h
    simp only [List.map_cons, List.nodup_cons] at hn
    by_cases hq : q.1 = who
    · simp only [mgt, if_pos hq, Option.some.injEq] at h
      have he : exc (q :: vs) who = vs := by
        have := exc_none (mgt_mem (vs := vs) (who := who) (by rw [← hq]; exact hn.1))
        unfold exc at *
        rw [List.filter_cons_of_neg (by simp [hq]), this]
      rw [he, ← h, ← hq]
      exact .z
    · simp only [mgt, if_neg hq] at h
      have he : exc (q :: vs) who = q :: exc vs who := by unfold exc; rw [List.filter_cons_of_pos (by simp [hq])]
      rw [he]
      exact .s (ih hn.2 h)
theorem pie_congr {L L' : OneL} {who : List UInt8} {vs : Vals} (h : ∀ w, w ≠ who → ofP L' w = ofP L w) : pieM L' (exc vs who) = pieM L (exc vs who) := by
  unfold pieM
  exact List.map_congr_left fun p hp => by rw [h _ (exc_mem p hp)]
section
variable {H0 H : Hp} {K : List Chunk} {F : Chunk → List Chunk} {mb : Nat} {L L' : OneL}
theorem st_new (h : Sep H0 (.blk mb (mpB []) :: K) H) : Sep H0 (.pred (stM mb []) :: K) H :=
  Sep.close _ (K := [.blk mb (mpB [])]) h fun h1 hK => ⟨h1, Hp.le_refl _, [], by simp, fun w _ => ofP_nil w, hK⟩
/-- One sender's messages alone. -/
theorem st_open (who : List UInt8) (h : Sep H0 (.pred (stM mb L) :: K) H) : ∃ (vs : Vals) (v : Value), (mgt vs who).getD nilV = v ∧ (vs.map (·.1)).Nodup ∧ (∀ w, mgt vs w = none → ofP L w = []) ∧
    Sep H0 (.blk mb (mpB (ents S vs)) :: recV v (ofP L who) :: .pred (stEx L vs who) :: K) H := by
  obtain ⟨h1, ⟨g, hg, vs, hn, hz, hK⟩, hall⟩ := Sep.opened h
  have hA := hall _ (hK.mono hg)
  cases hm : mgt vs who with
  | none =>
    refine ⟨vs, nilV, by rw [hm]; rfl, hn, hz, ?_⟩
    refine Sep.under hA fun {G} hG => ?_
    have h2 : Sep H0 (.pred (stEx L vs who) :: K) G := Sep.close _ (K := pieM L vs) hG fun h1 hK => ⟨h1, Hp.le_refl _, by show Sep emp (pieM L (exc vs who)) h1; rw [exc_none hm]; exact hK⟩
    have h3 := h2.nil (el := 44) (sz := 2)
    show Sep H0 (.vec nilV _ 2 (ofP L who).length (rowsV recC (ofP L who)) :: _) G
    rw [hz who hm]
    exact h3
  | some v =>
    refine ⟨vs, v, by rw [hm]; rfl, hn, hz, ?_⟩
    refine Sep.under hA fun {G} hG => ?_
    have hd := pie_del (L := L) hn hm
    have hd2 : Del (pieM L vs ++ K) (recV v (ofP L who)) (pieM L (exc vs who) ++ K) := by
      have : ∀ {A B : List Chunk} {c : Chunk}, Del A c B → Del (A ++ K) c (B ++ K) := by
        intro A B c hd
        induction hd with
        | z => exact .z
        | s _ ih => exact .s ih
      exact this hd
    refine Sep.under (Sep.bring hd2 hG) fun {G2} hG2 => ?_
    exact Sep.close _ (K := pieM L (exc vs who)) hG2 fun h1 hK => ⟨h1, Hp.le_refl _, hK⟩
theorem st_close {vs : Vals} {who : List UInt8} {v : Value} (hn : (vs.map (·.1)).Nodup) (hz : ∀ w, mgt vs w = none → ofP L w = []) (he : ∀ w, w ≠ who → ofP L' w = ofP L w)
    (h : Sep H0 (.blk mb (mpB (ents S (mst vs who v))) :: recV v (ofP L' who) :: .pred (stEx L vs who) :: K) H) : Sep H0 (.pred (stM mb L') :: K) H := by
  have hd := pie_del (L := L') (nodup_mst (v := v) hn) (mgt_mst_self vs who v)
  rw [exc_mst, pie_congr he] at hd
  have h2 : Sep H0 (.blk mb (mpB (ents S (mst vs who v))) :: recV v (ofP L' who) :: (pieM L (exc vs who) ++ K)) H :=
    Sep.under h fun hG => Sep.under hG fun hG2 => by
      obtain ⟨h1, ⟨g, hg, hK⟩, hall⟩ := Sep.opened hG2
      exact hall _ (Sep.mono hK hg)
  refine Sep.close _ (K := .blk mb (mpB (ents S (mst vs who v))) :: recV v (ofP L' who) :: pieM L (exc vs who)) h2 fun h1 hK => ⟨h1, Hp.le_refl _, mst vs who v, nodup_mst hn, ?_, Sep.under hK fun hG => Sep.back hd hG⟩
  intro w hw
  by_cases e : w = who
  · subst e; rw [mgt_mst_self] at hw; cases hw
  · rw [mgt_mst_ne vs e] at hw
    rw [he w e]; exact hz w hw
theorem st_shut {vs : Vals} {who : List UInt8} {v : Value} (hv : (mgt vs who).getD nilV = v) (hn : (vs.map (·.1)).Nodup) (hz : ∀ w, mgt vs w = none → ofP L w = [])
    (h : Sep H0 (.blk mb (mpB (ents S vs)) :: recV v (ofP L who) :: .pred (stEx L vs who) :: K) H) : Sep H0 (.pred (stM mb L) :: K) H := by
  have h2 : Sep H0 (.blk mb (mpB (ents S vs)) :: recV v (ofP L who) :: (pieM L (exc vs who) ++ K)) H :=
    Sep.under h fun hG => Sep.under hG fun hG2 => by
      obtain ⟨h1, ⟨g, hg, hK⟩, hall⟩ := Sep.opened hG2
      exact hall _ (Sep.mono hK hg)
  refine Sep.close _ (K := .blk mb (mpB (ents S vs)) :: recV v (ofP L who) :: pieM L (exc vs who)) h2 fun h1 hK => ⟨h1, Hp.le_refl _, vs, hn, hz, Sep.under hK fun hG => ?_⟩
  cases hm : mgt vs who with
  | none => rw [exc_none hm] at hG; exact hG.tail
  | some u =>
    rw [hm] at hv
    have : u = v := hv
    subst this
    exact Sep.back (pie_del (L := L) hn hm) hG
theorem st_look (h : Sep H0 K H) (hA : At K (.pred (stM mb L)) F) (who : List UInt8) : ∃ vs : Vals, H mb = some (mpB (ents S vs)) ∧ Vec H 44 2 ((mgt vs who).getD nilV) (ofP L who).length (rowsV recC (ofP L who)) := by
  obtain ⟨g, hg, hM⟩ := h.get hA
  have h1 : Sep emp (.pred (stM mb L) :: []) g := ⟨g, emp, fun _ => .inr rfl, Hp.le_refl _, fun _ _ e => by simp [emp] at e, ⟨g, Hp.le_refl _, hM⟩, fun _ _ e => e⟩
  obtain ⟨vs, v, hv, _, _, hS⟩ := st_open who h1
  refine ⟨vs, hg _ _ (hS.blk at0), ?_⟩
  rw [hv]
  exact (hS.vec at1).le hg
end
abbrev stCells (tb mb : Nat) (x : StF) : List Value := [PT tb, S x.st.h, .map (some mb), .bool x.dd]
abbrev stBlk (tb mb : Nat) (x : StF) : Blk := ⟨stCells tb mb x, 4, 85⟩
def stA (b tb : Nat) (x : StF) (t : TapeS) : Hp → Prop := fun h => ∃ mb, Sep emp [.blk b (stBlk tb mb x), .pred (stM mb x.st.L), tapeC tb t] h
abbrev stC (b tb : Nat) (x : StF) (t : TapeS) : Chunk := .pred (stA b tb x t)
section
variable {H0 H : Hp} {K : List Chunk} {F : Chunk → List Chunk} {b tb mb : Nat} {x : StF} {t : TapeS}
theorem sto_open (h : Sep H0 (stC b tb x t :: K) H) : ∃ mb, Sep H0 (.blk b (stBlk tb mb x) :: .pred (stM mb x.st.L) :: tapeC tb t :: K) H := by
  obtain ⟨h1, ⟨g, hg, mb, hK⟩, hall⟩ := Sep.opened h
  exact ⟨mb, hall _ (hK.mono hg)⟩
theorem sto_close (h : Sep H0 (.blk b (stBlk tb mb x) :: .pred (stM mb x.st.L) :: tapeC tb t :: K) H) : Sep H0 (stC b tb x t :: K) H :=
  Sep.close _ (K := [.blk b (stBlk tb mb x), .pred (stM mb x.st.L), tapeC tb t]) h fun h1 hK => ⟨h1, Hp.le_refl _, mb, hK⟩
theorem sto_tape (h : Sep H0 (stC b tb x t :: K) H) : Sep H0 (tapeC tb t :: K) H := by
  obtain ⟨mb, h1⟩ := sto_open h
  exact h1.tail.tail
theorem sto_look (h : Sep H0 K H) (hA : At K (stC b tb x t) F) (who : List UInt8) : ∃ (mb : Nat) (vs : Vals), H b = some (stBlk tb mb x) ∧ H mb = some (mpB (ents S vs)) ∧ Vec H 44 2 ((mgt vs who).getD nilV) (ofP x.st.L who).length (rowsV recC (ofP x.st.L who)) := by
  obtain ⟨g, hg, mb, hK⟩ := h.get hA
  obtain ⟨vs, h1, h2⟩ := st_look hK at1 who
  exact ⟨mb, vs, hg _ _ (hK.blk at0), hg _ _ h1, h2.le hg⟩
end
end Go.Proofs.Ytfiojlmccflplaa
end
section
namespace Go.Proofs.Ytfiojlmccflplaa
open Go Go.RowKit D
set_option linter.unusedVariables false
set_option linter.unusedSimpArgs false
set_option maxRecDepth 100000
set_option maxHeartbeats 2000000
section
variable {w0 : World} {H : Hp} {H0 : Hp}
def kHead (bp : Nat) : List Value := [.int .i64 32, .int .i64 64, .int .i64 7, .int .i64 18, .int .i64 3, .int .i64 17, .int .i64 19, .int .i64 10, .int .i64 6, .int .i64 11, .int .i64 25, .int .i64 2, .int .i64 13, .int .i64 22, .func (.func 67) #[] #[.pointer (some ⟨bp, 0, none⟩)]]
def kCells (bp : Nat) : List Value := kHead bp ++ nums .u32 startW
theorem kCells_start (bp : Nat) : ((kCells bp).drop 15).take (nums .u32 startW).length = nums .u32 startW := by
  unfold kCells; rw [show List.drop 15 (kHead bp ++ nums .u32 startW) = nums .u32 startW from rfl, List.take_length]
theorem rep_cons {n t : Nat} (h : t < n) : List.replicate (n - t) (0 : Int) = 0 :: List.replicate (n - (t + 1)) 0 := by rw [show n - t = (n - (t + 1)) + 1 from by omega, List.replicate_succ]
theorem mid_get {l r : List Int} {a : Int} {t : Nat} (h : l.length = t) : (l ++ a :: r).getD t 0 = a := by
  rw [List.getD_eq_getElem?_getD, List.getElem?_append_right (by omega), h, Nat.sub_self]; rfl
theorem mid_set {l r : List Int} {a b : Int} {t : Nat} (h : l.length = t) : (l ++ a :: r).set t b = l ++ b :: r := by
  rw [List.set_append, if_neg (by omega), h, Nat.sub_self, List.set_cons_zero]
theorem lo_get {l r : List Int} {i : Nat} (h : i < l.length) : (l ++ r).getD i 0 = l.getD i 0 := by
  rw [List.getD_eq_getElem?_getD, List.getElem?_append_left h, ← List.getD_eq_getElem?_getD]
theorem k_con {bp bc : Nat} {t : Nat} (ht : t < 80) (hp : H bp = some ⟨[.pointer (some ⟨bc, 0, none⟩)], 1, 110⟩) (hc : H bc = some ⟨nums .u64 kL, 80, 116⟩) : Con Try.prog w0 67 #[.int .i64 (t : Int), .pointer (some ⟨bp, 0, none⟩)] H (fun v H' => v = .int .u32 (kW t) ∧ H' = H) := by
  have hS0 : Sep H [] H := Sep.refl
  have hkl := kL_len
  refine Con.intro Try.func67 rfl rfl ?_
  refine AW.seq ?_
  refine AW.region ?_
  refine OpsW.q rfl (q_assign (v := .int _ _) rfl) ?_
  refine OpsW.nil ?_
  refine SeqP.go ?_
  refine AW.seq ?_
  refine AW.region ?_
  refine OpsW.q rfl (q_load (v := .pointer _) (by kernel_rfl) rfl (hS0.old hp) rfl) ?_
  refine OpsW.q rfl (q_move (v := .int _ _) rfl) ?_
  refine OpsW.q rfl (q_nilCheck rfl) ?_
  refine OpsW.q rfl (q_indexAddrA0 Try.underlying116 (by kernel_rfl) rfl rfl (by omega) (by omega)) ?_
  refine OpsW.q rfl (q_loadN (by kernel_rfl) rfl (hS0.old hc) (by omega)) ?_
  refine OpsW.q rfl (q_shrL 32 rfl rfl (by decide) rfl) ?_
  refine OpsW.q rfl (q_convInt rfl Try.underlying96 rfl) ?_
  refine OpsW.q rfl (q_assign (v := .int _ _) rfl) ?_
  refine OpsW.nil ?_
  refine SeqP.go ?_
  refine AW.ret ?_
  refine RetP.mk1 (H' := H) (v1 := .int _ _) rfl rfl  hS0.le ?_
  exact ⟨by rw [kW_def, ← w32_def]; rfl, rfl⟩
theorem turn_con {bx bp : Nat} {x n : Int} (h0 : 0 ≤ n ∧ n ≤ 32) (hx : H bx = some ⟨kCells bp, 23, 107⟩) : Con Try.prog w0 72 #[.pointer (some ⟨bx, 0, none⟩), .int .u32 x, .int .i64 n] H (fun v H' => v = .int .u32 (rt x n) ∧ H' = H) := by
  have hS0 : Sep H [] H := Sep.refl
  refine Con.intro Try.func72 rfl rfl ?_
  refine AW.seq ?_
  refine AW.region ?_
  refine OpsW.q rfl (q_assign (v := .int _ _) rfl) ?_
  refine OpsW.nil ?_
  refine SeqP.go ?_
  refine AW.seq ?_
  refine AW.drawK [] 11 rfl (by kernel_rfl) ?_
  refine SeqK.q rfl (q_move (v := .int _ _) rfl) ?_
  refine SeqK.q rfl (q_move (v := .int _ _) rfl) ?_
  refine SeqK.q rfl (q_shr rfl rfl (by omega)) ?_
  refine SeqK.q rfl (q_move (v := .int _ _) rfl) ?_
  refine SeqK.q rfl (q_move (v := .pointer _) rfl) ?_
  refine SeqK.q rfl (q_nilCheck rfl) ?_
  refine SeqK.q rfl (q_fieldAddr (sz := 0) Try.underlying107 rfl (by kernel_rfl) rfl) ?_
  refine SeqK.q rfl (q_load (v := .int _ _) (by kernel_rfl) rfl (hS0.old hx) rfl) ?_
  refine SeqK.q rfl (q_move (v := .int _ _) rfl) ?_
  refine SeqK.q rfl (q_subI rfl rfl (by omega)) ?_
  refine SeqK.q rfl (q_shl rfl rfl (by omega)) ?_
  refine SeqK.done ?_
  refine OpsW.q rfl (q_or rfl rfl) ?_
  refine OpsW.q rfl (q_assign (v := .int _ _) rfl) ?_
  refine OpsW.nil ?_
  refine SeqP.go ?_
  refine AW.ret ?_
  refine RetP.mk1 (H' := H) (v1 := .int _ _) rfl rfl  hS0.le ?_
  exact ⟨by rw [rt_def], rfl⟩
theorem block_con {bx bp : Nat} (hx : H bx = some ⟨kCells bp, 23, 107⟩) : Con Try.prog w0 64 #[.pointer (some ⟨bx, 0, none⟩)] H (fun v H' => v = .int .i64 64 ∧ H' = H) := by
  have hS0 : Sep H [] H := Sep.refl
  refine Con.intro Try.func64 rfl rfl ?_
  refine AW.seq ?_
  refine AW.region ?_
  refine OpsW.q rfl (q_assign (v := .int _ _) rfl) ?_
  refine OpsW.nil ?_
  refine SeqP.go ?_
  refine AW.seq ?_
  refine AW.region ?_
  refine OpsW.q rfl (q_move (v := .pointer _) rfl) ?_
  refine OpsW.q rfl (q_nilCheck rfl) ?_
  refine OpsW.q rfl (q_fieldAddr (sz := 0) Try.underlying107 rfl (by kernel_rfl) rfl) ?_
  refine OpsW.q rfl (q_load (v := .int _ _) (by kernel_rfl) rfl (hS0.old hx) rfl) ?_
  refine OpsW.q rfl (q_mulI rfl rfl (by omega)) ?_
  refine OpsW.q rfl (q_assign (v := .int _ _) rfl) ?_
  refine OpsW.nil ?_
  refine SeqP.go ?_
  refine AW.ret ?_
  refine RetP.mk1 (H' := H) (v1 := .int _ _) rfl rfl  hS0.le ?_
  exact ⟨rfl, rfl⟩
theorem mix_con {bx bp : Nat} {x a b c : Int} (ha : 0 ≤ a ∧ a ≤ 32) (hb : 0 ≤ b ∧ b ≤ 32) (hc : 0 ≤ c ∧ c ≤ 32) (hx : H bx = some ⟨kCells bp, 23, 107⟩) : Con Try.prog w0 71 #[.pointer (some ⟨bx, 0, none⟩), .int .u32 x, .agg (nums .i64 [a, b, c]).toArray] H (fun v H' => v = .int .u32 (mix3 x a b c) ∧ H' = H) := by
  have hS0 : Sep H [] H := Sep.refl
  refine Con.intro Try.func71 rfl rfl ?_
  refine AW.seq ?_
  refine AW.region ?_
  refine OpsW.m rfl (s_boxN (k := .i64) hS0 rfl) ?_
  rintro _ H1 ⟨b5, rfl, hS1⟩
  clear hS0
  refine OpsW.q rfl (q_assign (v := .int _ _) rfl) ?_
  refine OpsW.nil ?_
  refine SeqP.go ?_
  refine AW.seq ?_
  refine AW.drawK [] 15 rfl (by kernel_rfl) ?_
  refine SeqK.q rfl (q_move (v := .pointer _) rfl) ?_
  refine SeqK.q rfl (q_move (v := .int _ _) rfl) ?_
  refine SeqK.q rfl (q_indexAddrA0 Try.underlying103 (by kernel_rfl) rfl rfl (by omega) (by omega)) ?_
  refine SeqK.q rfl (q_loadN (by kernel_rfl) rfl (hS1.blk at0) (by simp only [nums_length, List.length_set, List.length_replicate, List.length_take, List.length_drop, List.length_append, List.length_cons, List.length_nil, ofB_length, toB_length]; omega)) ?_
  refine SeqK.q rfl (o_call rfl Try.func72 rfl rfl (turn_con (n := a) ha (hS1.old hx))) ?_
  refine SeqK.q rfl (q_move (v := .pointer _) rfl) ?_
  refine SeqK.q rfl (q_move (v := .int _ _) rfl) ?_
  refine SeqK.q rfl (q_indexAddrA0 Try.underlying103 (by kernel_rfl) rfl rfl (by omega) (by omega)) ?_
  refine SeqK.q rfl (q_loadN (by kernel_rfl) rfl (hS1.blk at0) (by simp only [nums_length, List.length_set, List.length_replicate, List.length_take, List.length_drop, List.length_append, List.length_cons, List.length_nil, ofB_length, toB_length]; omega)) ?_
  refine SeqK.q rfl (o_call rfl Try.func72 rfl rfl (turn_con (n := b) hb (hS1.old hx))) ?_
  refine SeqK.q rfl (q_xor rfl rfl) ?_
  refine SeqK.q rfl (q_move (v := .int _ _) rfl) ?_
  refine SeqK.q rfl (q_indexAddrA0 Try.underlying103 (by kernel_rfl) rfl rfl (by omega) (by omega)) ?_
  refine SeqK.q rfl (q_loadN (by kernel_rfl) rfl (hS1.blk at0) (by simp only [nums_length, List.length_set, List.length_replicate, List.length_take, List.length_drop, List.length_append, List.length_cons, List.length_nil, ofB_length, toB_length]; omega)) ?_
  refine SeqK.q rfl (q_shr (b := c) rfl rfl (by omega)) ?_
  refine SeqK.done ?_
  refine OpsW.q rfl (q_xor rfl rfl) ?_
  refine OpsW.q rfl (q_assign (v := .int _ _) rfl) ?_
  refine OpsW.nil ?_
  refine SeqP.go ?_
  refine AW.ret ?_
  refine RetP.mk1 (H' := H) (v1 := .int _ _) rfl rfl  hS1.le ?_
  exact ⟨by rw [mix3_def], rfl⟩
theorem whirl_con {bx bp : Nat} {x a b c : Int} (ha : 0 ≤ a ∧ a ≤ 32) (hb : 0 ≤ b ∧ b ≤ 32) (hc : 0 ≤ c ∧ c ≤ 32) (hx : H bx = some ⟨kCells bp, 23, 107⟩) : Con Try.prog w0 70 #[.pointer (some ⟨bx, 0, none⟩), .int .u32 x, .agg (nums .i64 [a, b, c]).toArray] H (fun v H' => v = .int .u32 (whl x a b c) ∧ H' = H) := by
  have hS0 : Sep H [] H := Sep.refl
  refine Con.intro Try.func70 rfl rfl ?_
  refine AW.seq ?_
  refine AW.region ?_
  refine OpsW.m rfl (s_boxN (k := .i64) hS0 rfl) ?_
  rintro _ H1 ⟨b5, rfl, hS1⟩
  clear hS0
  refine OpsW.q rfl (q_assign (v := .int _ _) rfl) ?_
  refine OpsW.nil ?_
  refine SeqP.go ?_
  refine AW.seq ?_
  refine AW.drawK [] 16 rfl (by kernel_rfl) ?_
  refine SeqK.q rfl (q_move (v := .pointer _) rfl) ?_
  refine SeqK.q rfl (q_move (v := .int _ _) rfl) ?_
  refine SeqK.q rfl (q_indexAddrA0 Try.underlying103 (by kernel_rfl) rfl rfl (by omega) (by omega)) ?_
  refine SeqK.q rfl (q_loadN (by kernel_rfl) rfl (hS1.blk at0) (by simp only [nums_length, List.length_set, List.length_replicate, List.length_take, List.length_drop, List.length_append, List.length_cons, List.length_nil, ofB_length, toB_length]; omega)) ?_
  refine SeqK.q rfl (o_call rfl Try.func72 rfl rfl (turn_con (n := a) ha (hS1.old hx))) ?_
  refine SeqK.q rfl (q_move (v := .pointer _) rfl) ?_
  refine SeqK.q rfl (q_move (v := .int _ _) rfl) ?_
  refine SeqK.q rfl (q_indexAddrA0 Try.underlying103 (by kernel_rfl) rfl rfl (by omega) (by omega)) ?_
  refine SeqK.q rfl (q_loadN (by kernel_rfl) rfl (hS1.blk at0) (by simp only [nums_length, List.length_set, List.length_replicate, List.length_take, List.length_drop, List.length_append, List.length_cons, List.length_nil, ofB_length, toB_length]; omega)) ?_
  refine SeqK.q rfl (o_call rfl Try.func72 rfl rfl (turn_con (n := b) hb (hS1.old hx))) ?_
  refine SeqK.q rfl (q_xor rfl rfl) ?_
  refine SeqK.q rfl (q_move (v := .pointer _) rfl) ?_
  refine SeqK.q rfl (q_move (v := .int _ _) rfl) ?_
  refine SeqK.q rfl (q_indexAddrA0 Try.underlying103 (by kernel_rfl) rfl rfl (by omega) (by omega)) ?_
  refine SeqK.q rfl (q_loadN (by kernel_rfl) rfl (hS1.blk at0) (by simp only [nums_length, List.length_set, List.length_replicate, List.length_take, List.length_drop, List.length_append, List.length_cons, List.length_nil, ofB_length, toB_length]; omega)) ?_
  refine SeqK.q rfl (o_call rfl Try.func72 rfl rfl (turn_con (n := c) hc (hS1.old hx))) ?_
  refine SeqK.done ?_
  refine OpsW.q rfl (q_xor rfl rfl) ?_
  refine OpsW.q rfl (q_assign (v := .int _ _) rfl) ?_
  refine OpsW.nil ?_
  refine SeqP.go ?_
  refine AW.ret ?_
  refine RetP.mk1 (H' := H) (v1 := .int _ _) rfl rfl  hS1.le ?_
  exact ⟨by rw [whl_def], rfl⟩
theorem words_con {bx bp : Nat} {s : List UInt8} (hs : s.length = 64) (hx : H bx = some ⟨kCells bp, 23, 107⟩) : Con Try.prog w0 69 #[.pointer (some ⟨bx, 0, none⟩), S s] H (fun v H' => Sep H [.vec v 96 1 64 (nums .u32 (wsK s 64))] H') := by
  have hS0 : Sep H [] H := Sep.refl
  refine Con.intro Try.func69 rfl rfl ?_
  refine AW.seq ?_
  refine AW.region ?_
  refine OpsW.q rfl (q_assign (v := .slice _ _ _) rfl) ?_
  refine OpsW.nil ?_
  refine SeqP.go ?_
  refine AW.seq ?_
  refine AW.region ?_
  refine OpsW.q rfl (q_move (v := .pointer _) rfl) ?_
  refine OpsW.q rfl (q_nilCheck rfl) ?_
  refine OpsW.q rfl (q_fieldAddr (sz := 0) Try.underlying107 rfl (by kernel_rfl) rfl) ?_
  refine OpsW.q rfl (q_load (v := .int _ _) (by kernel_rfl) rfl (hS0.old hx) rfl) ?_
  refine OpsW.m rfl (s_makeSliceN (kk := .u32) (by_ := 4) hS0 Try.underlying95 (by kernel_rfl) (by kernel_rfl) (by kernel_rfl) rfl rfl (by omega) (by omega) (by omega) (by omega) (by unfold maxLen; omega)) ?_
  rintro v13 H1 hS1
  clear hS0
  refine OpsW.q rfl (q_assign (v := v13) rfl) ?_
  refine OpsW.nil ?_
  refine SeqP.go ?_
  refine AW.seq ?_
  refine AW.region ?_
  refine OpsW.q rfl (q_move (v := .pointer _) rfl) ?_
  refine OpsW.q rfl (q_nilCheck rfl) ?_
  refine OpsW.q rfl (q_fieldAddr (sz := 0) Try.underlying107 rfl (by kernel_rfl) rfl) ?_
  refine OpsW.q rfl (q_load (v := .int _ _) (by kernel_rfl) rfl (hS1.old hx) rfl) ?_
  refine OpsW.q rfl (q_quoI rfl rfl (by omega)) ?_
  refine OpsW.q rfl (q_assign (v := .int _ _) rfl) ?_
  refine OpsW.nil ?_
  refine SeqP.go ?_
  refine AW.seq ?_
  refine AW.seq ?_
  refine AW.region ?_
  refine OpsW.q rfl (q_move (v := v13) rfl) ?_
  refine OpsW.q rfl (q_lenVec Try.underlying95 rfl (hS1.vec at0)) ?_
  refine OpsW.q rfl (q_move (v := .int _ _) rfl) ?_
  refine OpsW.nil ?_
  refine SeqP.go ?_
  refine AW.block ?_
  refine AW.loop (fun m_ e_ H_ => ∃ (t : Nat) (vw : Value) (e0 : Env), m_ = 64 - t ∧ (t ≤ 64) ∧ e_ = upds e0 [(0, .pointer (some ⟨bx, 0, none⟩)), (1, S s), (5, vw), (6, .int .i64 4), (20, .int .i64 64), (21, .int .i64 (t : Int))] ∧ Sep H [.vec vw 96 1 64 (nums .u32 (wsK s t ++ List.replicate (64 - t) 0))] H_) _ ⟨0, v13, _, rfl, (by omega), Slots.eq ⟨(by rfl), (by rfl), (by rfl), (by rfl), (by rfl), (by rfl),  trivial⟩, (by rw [wsK_zero']; exact hS1)⟩ ?_
  rintro m_ _ Hl0 ⟨t, vw, e0, rfl, hf, rfl, hSl0⟩
  try clear hS1
  have hwl := wsK_length s t
  refine AW.seq ?_
  refine AW.region ?_
  refine OpsW.q rfl (q_lss rfl rfl) ?_
  refine OpsW.nil ?_
  refine SeqP.go ?_
  refine AW.seq ?_
  refine AW.cond2 rfl (fun h0 => ?_) (fun h0 => ?_)
  ·
    try simp only [decide_eq_true_eq, decide_eq_false_iff_not, Bool.or_eq_true, Bool.and_eq_true, Bool.or_eq_false_iff, Bool.and_eq_false_imp, Bool.not_eq_true', Bool.not_eq_false', ne_eq, Decidable.not_not, Int.not_lt, Int.not_le, Bool.not_eq_true, Bool.not_eq_false] at h0
    refine AW.exit ?_
    refine SeqP.exit ?_
    refine LoopP.exit ?_
    obtain rfl : t = 64 := by omega
    refine BlockP.here ?_
    refine SeqP.go ?_
    refine AW.seq ?_
    refine AW.region ?_
    refine OpsW.q rfl (q_move (v := vw) rfl) ?_
    refine OpsW.q rfl (q_assign (v := vw) rfl) ?_
    refine OpsW.nil ?_
    refine SeqP.go ?_
    refine AW.ret ?_
    refine RetP.mk1 (H' := Hl0) (v1 := vw) rfl rfl  (Hp.le_refl _) ?_
    have hs9 := hSl0
    rw [show 64 - 64 = 0 from rfl, List.replicate_zero, List.append_nil] at hs9
    exact hs9
  try simp only [decide_eq_true_eq, decide_eq_false_iff_not, Bool.or_eq_true, Bool.and_eq_true, Bool.or_eq_false_iff, Bool.and_eq_false_imp, Bool.not_eq_true', Bool.not_eq_false', ne_eq, Decidable.not_not, Int.not_lt, Int.not_le, Bool.not_eq_true, Bool.not_eq_false] at h0
  refine AW.skip ?_
  refine SeqP.go ?_
  refine AW.seq ?_
  refine AW.block ?_
  refine AW.seq ?_
  refine AW.region ?_
  refine OpsW.q rfl (q_move (v := .int _ _) rfl) ?_
  refine OpsW.q rfl (q_assign (v := .int _ _) rfl) ?_
  refine OpsW.nil ?_
  refine SeqP.go ?_
  refine AW.seq ?_
  refine AW.seq ?_
  refine AW.region ?_
  refine OpsW.q rfl (q_move (v := .int _ _) rfl) ?_
  refine OpsW.q rfl (q_lss rfl rfl) ?_
  refine OpsW.nil ?_
  refine SeqP.go ?_
  refine AW.cond rfl (fun h1 => ?_) (fun h1 => ?_)
  ·
    try simp only [decide_eq_true_eq, decide_eq_false_iff_not, Bool.or_eq_true, Bool.and_eq_true, Bool.or_eq_false_iff, Bool.and_eq_false_imp, Bool.not_eq_true', Bool.not_eq_false', ne_eq, Decidable.not_not, Int.not_lt, Int.not_le, Bool.not_eq_true, Bool.not_eq_false] at h1
    refine AW.seq ?_
    refine AW.seq ?_
    refine AW.region ?_
    refine OpsW.q rfl (q_move (v := .int _ _) rfl) ?_
    refine OpsW.q rfl (q_move (v := .int _ _) rfl) ?_
    refine OpsW.nil ?_
    refine SeqP.go ?_
    refine AW.block ?_
    refine AW.loop (fun m_ e_ H_ => ∃ (i : Nat) (e0 : Env), m_ = 4 - i ∧ (i ≤ 4) ∧ e_ = upds e0 [(0, .pointer (some ⟨bx, 0, none⟩)), (1, S s), (5, vw), (6, .int .i64 4), (7, .int .i64 (t : Int)), (20, .int .i64 64), (21, .int .i64 (t : Int)), (26, .int .i64 4), (27, .int .i64 (i : Int))] ∧ Sep H [.vec vw 96 1 64 (nums .u32 (wsK s t ++ wpK s (4 * t) i :: List.replicate (64 - (t + 1)) 0))] H_) _ ⟨0, _, rfl, (by omega), Slots.eq ⟨(by rfl), (by rfl), (by rfl), (by rfl), (by rfl), (by rfl), (by rfl), (by rfl), (by rfl),  trivial⟩, (by rw [wpK_zero', ← rep_cons (by omega)]; exact hSl0)⟩ ?_
    rintro m_ _ Hl1 ⟨i, e0, rfl, hf, rfl, hSl1⟩
    try clear hSl0
    have hil : (wsK s t ++ wpK s (4 * t) i :: List.replicate (64 - (t + 1)) 0).length = 64 := by rw [List.length_append, List.length_cons, List.length_replicate, hwl]; omega
    refine AW.seq ?_
    refine AW.region ?_
    refine OpsW.q rfl (q_lss rfl rfl) ?_
    refine OpsW.nil ?_
    refine SeqP.go ?_
    refine AW.seq ?_
    refine AW.cond2 rfl (fun h2 => ?_) (fun h2 => ?_)
    ·
      try simp only [decide_eq_true_eq, decide_eq_false_iff_not, Bool.or_eq_true, Bool.and_eq_true, Bool.or_eq_false_iff, Bool.and_eq_false_imp, Bool.not_eq_true', Bool.not_eq_false', ne_eq, Decidable.not_not, Int.not_lt, Int.not_le, Bool.not_eq_true, Bool.not_eq_false] at h2
      refine AW.exit ?_
      refine SeqP.exit ?_
      refine LoopP.exit ?_
      obtain rfl : i = 4 := by omega
      rw [wpK_four] at hSl1
      refine BlockP.here ?_
      refine SeqP.go ?_
      refine AW.exit ?_
      refine SeqP.exit ?_
      refine BlockP.here ?_
      refine SeqP.go ?_
      refine AW.region ?_
      refine OpsW.q rfl (q_addI rfl rfl (by omega)) ?_
      refine OpsW.q rfl (q_move (v := .int _ _) rfl) ?_
      refine OpsW.nil ?_
      exact LoopP.go _ (by omega) ⟨t + 1, vw, _, rfl, (by omega), Slots.eq ⟨(by rfl), (by rfl), (by rfl), (by rfl), (by rfl), (by rfl),  trivial⟩, (by rw [wsK_lo s (by omega), List.append_assoc]; exact hSl1)⟩
    try simp only [decide_eq_true_eq, decide_eq_false_iff_not, Bool.or_eq_true, Bool.and_eq_true, Bool.or_eq_false_iff, Bool.and_eq_false_imp, Bool.not_eq_true', Bool.not_eq_false', ne_eq, Decidable.not_not, Int.not_lt, Int.not_le, Bool.not_eq_true, Bool.not_eq_false] at h2
    refine AW.skip ?_
    refine SeqP.go ?_
    refine AW.seq ?_
    refine AW.block ?_
    refine AW.seq ?_
    refine AW.region ?_
    refine OpsW.q rfl (q_move (v := .int _ _) rfl) ?_
    refine OpsW.q rfl (q_assign (v := .int _ _) rfl) ?_
    refine OpsW.nil ?_
    refine SeqP.go ?_
    refine AW.drawK [] 16 rfl (by kernel_rfl) ?_
    refine SeqK.q rfl (q_move (v := vw) rfl) ?_
    refine SeqK.q rfl (q_move (v := .int _ _) rfl) ?_
    refine SeqK.q rfl (q_move (v := vw) rfl) ?_
    refine SeqK.q rfl (q_move (v := .int _ _) rfl) ?_
    refine SeqK.q rfl (q_indexV1 (hSl1.vec at0) Try.underlying95 (by kernel_rfl) rfl rfl (by omega) (by omega)) ?_
    refine SeqK.q rfl (q_loadVN (hSl1.vec at0) (by kernel_rfl) rfl (by omega)) ?_
    refine SeqK.q rfl (q_shlL 8 rfl rfl (by decide) rfl) ?_
    refine SeqK.q rfl (q_move (v := S _) rfl) ?_
    refine SeqK.q rfl (q_move (v := .int _ _) rfl) ?_
    refine SeqK.q rfl (q_move (v := .int _ _) rfl) ?_
    refine SeqK.q rfl (q_mulI rfl rfl (by omega)) ?_
    refine SeqK.q rfl (q_move (v := .int _ _) rfl) ?_
    refine SeqK.q rfl (q_addI rfl rfl (by omega)) ?_
    refine SeqK.q rfl (q_indexS Try.underlying9 rfl rfl (by omega) (by omega)) ?_
    refine SeqK.q rfl (q_convInt rfl Try.underlying96 rfl) ?_
    refine SeqK.q rfl (q_or rfl rfl) ?_
    rw [Int.toNat_natCast, mid_get (wsK_length s t), show (4 * (t : Int) + (i : Int)).toNat = 4 * t + i from by omega, wp_step s (4 * t) (by omega)]
    refine SeqK.done ?_
    refine OpsW.q rfl (q_indexV1 (hSl1.vec at0) Try.underlying95 (by kernel_rfl) rfl rfl (by omega) (by omega)) ?_
    refine OpsW.ms (s_storeVN hSl1 at0 (by kernel_rfl) rfl rfl (by omega)) ?_
    rintro _ H2 ⟨rfl, hS2⟩
    clear hSl1
    refine OpsW.nil ?_
    refine BlockP.go ?_
    refine SeqP.go ?_
    refine AW.region ?_
    refine OpsW.q rfl (q_addI rfl rfl (by omega)) ?_
    refine OpsW.q rfl (q_move (v := .int _ _) rfl) ?_
    refine OpsW.nil ?_
    exact LoopP.go _ (by omega) ⟨i + 1, _, rfl, (by omega), Slots.eq ⟨(by rfl), (by rfl), (by rfl), (by rfl), (by rfl), (by rfl), (by rfl), (by rfl), (by rfl),  trivial⟩, (by have hs9 := hS2; rw [Int.toNat_natCast, mid_set hwl] at hs9; exact hs9)⟩
  try simp only [decide_eq_true_eq, decide_eq_false_iff_not, Bool.or_eq_true, Bool.and_eq_true, Bool.or_eq_false_iff, Bool.and_eq_false_imp, Bool.not_eq_true', Bool.not_eq_false', ne_eq, Decidable.not_not, Int.not_lt, Int.not_le, Bool.not_eq_true, Bool.not_eq_false] at h1
  have hrl : (wsK s t ++ List.replicate (64 - t) 0).length = 64 := by rw [List.length_append, List.length_replicate, hwl]; omega
  have hg16 : (wsK s t ++ List.replicate (64 - t) 0).getD ((t : Int) - 16).toNat 0 = (wsK s t).getD (t - 16) 0 := by rw [show ((t : Int) - 16).toNat = t - 16 from by omega, lo_get (by omega)]
  have hg7 : (wsK s t ++ List.replicate (64 - t) 0).getD ((t : Int) - 7).toNat 0 = (wsK s t).getD (t - 7) 0 := by rw [show ((t : Int) - 7).toNat = t - 7 from by omega, lo_get (by omega)]
  have hg15 : (wsK s t ++ List.replicate (64 - t) 0).getD ((t : Int) - 15).toNat 0 = (wsK s t).getD (t - 15) 0 := by rw [show ((t : Int) - 15).toNat = t - 15 from by omega, lo_get (by omega)]
  have hg2 : (wsK s t ++ List.replicate (64 - t) 0).getD ((t : Int) - 2).toNat 0 = (wsK s t).getD (t - 2) 0 := by rw [show ((t : Int) - 2).toNat = t - 2 from by omega, lo_get (by omega)]
  have hnx : IntKind.u32.wrap (IntKind.u32.wrap (IntKind.u32.wrap ((wsK s t).getD (t - 16) 0 + (wsK s t).getD (t - 7) 0) + mix3 ((wsK s t).getD (t - 15) 0) 7 18 3) + mix3 ((wsK s t).getD (t - 2) 0) 17 19 10) = nextW (wsK s t) t := by rw [nextW_def]; simp only [w32_def]
  refine AW.skip ?_
  refine SeqP.go ?_
  refine AW.drawK [] 37 rfl (by kernel_rfl) ?_
  refine SeqK.q rfl (q_move (v := vw) rfl) ?_
  refine SeqK.q rfl (q_move (v := .int _ _) rfl) ?_
  refine SeqK.q rfl (q_move (v := vw) rfl) ?_
  refine SeqK.q rfl (q_move (v := .int _ _) rfl) ?_
  refine SeqK.q rfl (q_subI rfl rfl (by omega)) ?_
  refine SeqK.q rfl (q_indexV1 (hSl0.vec at0) Try.underlying95 (by kernel_rfl) rfl rfl (by omega) (by omega)) ?_
  refine SeqK.q rfl (q_loadVN (hSl0.vec at0) (by kernel_rfl) rfl (by omega)) ?_
  rw [hg16]
  refine SeqK.q rfl (q_move (v := vw) rfl) ?_
  refine SeqK.q rfl (q_move (v := .int _ _) rfl) ?_
  refine SeqK.q rfl (q_subI rfl rfl (by omega)) ?_
  refine SeqK.q rfl (q_indexV1 (hSl0.vec at0) Try.underlying95 (by kernel_rfl) rfl rfl (by omega) (by omega)) ?_
  refine SeqK.q rfl (q_loadVN (hSl0.vec at0) (by kernel_rfl) rfl (by omega)) ?_
  rw [hg7]
  refine SeqK.q rfl (q_add rfl rfl) ?_
  refine SeqK.q rfl (q_move (v := .pointer _) rfl) ?_
  refine SeqK.q rfl (q_move (v := vw) rfl) ?_
  refine SeqK.q rfl (q_move (v := .int _ _) rfl) ?_
  refine SeqK.q rfl (q_subI rfl rfl (by omega)) ?_
  refine SeqK.q rfl (q_indexV1 (hSl0.vec at0) Try.underlying95 (by kernel_rfl) rfl rfl (by omega) (by omega)) ?_
  refine SeqK.q rfl (q_loadVN (hSl0.vec at0) (by kernel_rfl) rfl (by omega)) ?_
  rw [hg15]
  refine SeqK.q rfl (q_move (v := .pointer _) rfl) ?_
  refine SeqK.q rfl (q_nilCheck rfl) ?_
  refine SeqK.q rfl (q_fieldAddr (sz := 2) Try.underlying107 rfl (by kernel_rfl) rfl) ?_
  refine SeqK.q rfl (q_loadA (n := 3) (cs := nums .i64 [7, 18, 3]) (by kernel_rfl) rfl (hSl0.old hx) rfl (part_of (j := 2) rfl)) ?_
  refine SeqK.q rfl (o_call rfl Try.func71 rfl rfl (mix_con (a := 7) (b := 18) (c := 3) (by decide) (by decide) (by decide) (hSl0.old hx))) ?_
  refine SeqK.q rfl (q_add rfl rfl) ?_
  refine SeqK.q rfl (q_move (v := .pointer _) rfl) ?_
  refine SeqK.q rfl (q_move (v := vw) rfl) ?_
  refine SeqK.q rfl (q_move (v := .int _ _) rfl) ?_
  refine SeqK.q rfl (q_subI rfl rfl (by omega)) ?_
  refine SeqK.q rfl (q_indexV1 (hSl0.vec at0) Try.underlying95 (by kernel_rfl) rfl rfl (by omega) (by omega)) ?_
  refine SeqK.q rfl (q_loadVN (hSl0.vec at0) (by kernel_rfl) rfl (by omega)) ?_
  rw [hg2]
  refine SeqK.q rfl (q_move (v := .pointer _) rfl) ?_
  refine SeqK.q rfl (q_nilCheck rfl) ?_
  refine SeqK.q rfl (q_fieldAddr (sz := 2) Try.underlying107 rfl (by kernel_rfl) rfl) ?_
  refine SeqK.q rfl (q_loadA (n := 3) (cs := nums .i64 [17, 19, 10]) (by kernel_rfl) rfl (hSl0.old hx) rfl (part_of (j := 5) rfl)) ?_
  refine SeqK.q rfl (o_call rfl Try.func71 rfl rfl (mix_con (a := 17) (b := 19) (c := 10) (by decide) (by decide) (by decide) (hSl0.old hx))) ?_
  refine SeqK.q rfl (q_add rfl rfl) ?_
  rw [hnx]
  refine SeqK.done ?_
  refine OpsW.q rfl (q_indexV1 (hSl0.vec at0) Try.underlying95 (by kernel_rfl) rfl rfl (by omega) (by omega)) ?_
  refine OpsW.ms (s_storeVN hSl0 at0 (by kernel_rfl) rfl rfl (by omega)) ?_
  rintro _ H3 ⟨rfl, hS3⟩
  clear hSl0
  refine OpsW.nil ?_
  refine BlockP.go ?_
  refine SeqP.go ?_
  refine AW.region ?_
  refine OpsW.q rfl (q_addI rfl rfl (by omega)) ?_
  refine OpsW.q rfl (q_move (v := .int _ _) rfl) ?_
  refine OpsW.nil ?_
  exact LoopP.go _ (by omega) ⟨t + 1, vw, _, rfl, (by omega), Slots.eq ⟨(by rfl), (by rfl), (by rfl), (by rfl), (by rfl), (by rfl),  trivial⟩, (by have hs9 := hS3; rw [Int.toNat_natCast, rep_cons (by omega), mid_set hwl] at hs9; rw [wsK_hi s (by omega), List.append_assoc]; exact hs9)⟩
theorem press_con {bx bp bc : Nat} {h : List Int} {s : List UInt8} (hh : h.length = 8) (hs : s.length = 64) (hx : H bx = some ⟨kCells bp, 23, 107⟩) (hp : H bp = some ⟨[.pointer (some ⟨bc, 0, none⟩)], 1, 110⟩) (hc : H bc = some ⟨nums .u64 kL, 80, 116⟩) : Con Try.prog w0 65 #[.pointer (some ⟨bx, 0, none⟩), .agg (nums .u32 h).toArray, S s] H (fun v H' => v = .agg (nums .u32 (pressW h s)).toArray ∧ H' = H) := by
  have hS0 : Sep H [] H := Sep.refl
  have hwl := wsK_length s 64
  refine Con.intro Try.func65 rfl rfl ?_
  refine AW.seq ?_
  refine AW.region ?_
  refine OpsW.m rfl (s_boxN (k := .u32) hS0 rfl) ?_
  rintro _ H1 ⟨b4, rfl, hS1⟩
  clear hS0
  refine OpsW.m rfl (s_allocN (k := .u32) (m := 8) hS1 (by kernel_rfl)) ?_
  rintro _ H2 ⟨b6, rfl, hS2⟩
  clear hS1
  refine OpsW.nil ?_
  refine SeqP.go ?_
  refine AW.seq ?_
  refine AW.region ?_
  refine OpsW.q rfl (q_loadAN (n := 8) (k := .u32) (by kernel_rfl) rfl (hS2.blk at1) (by with_reducible assumption)) ?_
  refine OpsW.m rfl (s_allocN (k := .u32) (m := 8) hS2 (by kernel_rfl)) ?_
  rintro _ H3 ⟨b7, rfl, hS3⟩
  clear hS2
  refine OpsW.ms (s_storeA (n := 8) (k := .u32) hS3 at0 (by kernel_rfl) rfl rfl (by with_reducible assumption) (by rfl)) ?_
  rintro _ H4 ⟨rfl, hS4⟩
  clear hS3
  refine OpsW.nil ?_
  refine SeqP.go ?_
  refine AW.seq ?_
  refine AW.seq ?_
  refine AW.region ?_
  refine OpsW.q rfl (q_move (v := .pointer _) rfl) ?_
  refine OpsW.q rfl (q_move (v := S _) rfl) ?_
  refine OpsW.m rfl (o_call rfl Try.func69 rfl rfl (words_con hs (hS4.old hx))) ?_
  rintro v18 H5 hR5
  have hS5 := hS4.join hR5
  simp only [List.cons_append, List.nil_append] at hS5
  clear hR5 hS4
  refine OpsW.q rfl (q_lenVec Try.underlying95 rfl (hS5.vec at0)) ?_
  refine OpsW.q rfl (q_move (v := .int _ _) rfl) ?_
  refine OpsW.nil ?_
  refine SeqP.go ?_
  refine AW.block ?_
  refine AW.loop (fun m_ e_ H_ => ∃ (t : Nat) (e0 : Env), m_ = 64 - t ∧ (t ≤ 64) ∧ e_ = upds e0 [(0, .pointer (some ⟨bx, 0, none⟩)), (4, .pointer (some ⟨b4, 0, none⟩)), (6, .pointer (some ⟨b6, 0, none⟩)), (7, .pointer (some ⟨b7, 0, none⟩)), (18, v18), (19, .int .i64 64), (20, .int .i64 (t : Int))] ∧ Sep H [.vec v18 96 1 64 (nums .u32 (wsK s 64)), .blk b7 ⟨nums .u32 ((prK h s t)), 8, 105⟩, .blk b6 ⟨nums .u32 ([0, 0, 0, 0, 0, 0, 0, 0]), 8, 105⟩, .blk b4 ⟨nums .u32 h, h.length, 105⟩] H_) _ ⟨0, _, rfl, (by omega), Slots.eq ⟨(by rfl), (by rfl), (by rfl), (by rfl), (by rfl), (by rfl), (by rfl),  trivial⟩, (by rw [prK_zero']; exact hS5)⟩ ?_
  rintro m_ _ Hl0 ⟨t, e0, rfl, hf, rfl, hSl0⟩
  try clear hS5
  have hpl := prK_length hh s t
  have huw : IntKind.u32.wrap (IntKind.u32.wrap (IntKind.u32.wrap (IntKind.u32.wrap ((prK h s t).getD (Int.toNat 7) 0 + whl ((prK h s t).getD (Int.toNat 4) 0) 6 11 25) + ixor .u32 (iand .u32 ((prK h s t).getD (Int.toNat 4) 0) ((prK h s t).getD (Int.toNat 5) 0)) (iand .u32 (ixor .u32 IntKind.u32.max ((prK h s t).getD (Int.toNat 4) 0)) ((prK h s t).getD (Int.toNat 6) 0))) + kW t) + (wsK s 64).getD (t : Int).toNat 0) = uW (prK h s t) (kW t) ((wsK s 64).getD t 0) := by rw [uW_def, chW_def, notW_def]; simp only [w32_def]; rfl
  have how : IntKind.u32.wrap (whl ((prK h s t).getD (Int.toNat 0) 0) 2 13 22 + ixor .u32 (ixor .u32 (iand .u32 ((prK h s t).getD (Int.toNat 0) 0) ((prK h s t).getD (Int.toNat 1) 0)) (iand .u32 ((prK h s t).getD (Int.toNat 0) 0) ((prK h s t).getD (Int.toNat 2) 0))) (iand .u32 ((prK h s t).getD (Int.toNat 1) 0) ((prK h s t).getD (Int.toNat 2) 0))) = oW (prK h s t) := by rw [oW_def, majW_def]; simp only [w32_def]; rfl
  refine AW.seq ?_
  refine AW.region ?_
  refine OpsW.q rfl (q_lss rfl rfl) ?_
  refine OpsW.nil ?_
  refine SeqP.go ?_
  refine AW.seq ?_
  refine AW.cond2 rfl (fun h0 => ?_) (fun h0 => ?_)
  ·
    try simp only [decide_eq_true_eq, decide_eq_false_iff_not, Bool.or_eq_true, Bool.and_eq_true, Bool.or_eq_false_iff, Bool.and_eq_false_imp, Bool.not_eq_true', Bool.not_eq_false', ne_eq, Decidable.not_not, Int.not_lt, Int.not_le, Bool.not_eq_true, Bool.not_eq_false] at h0
    refine AW.exit ?_
    refine SeqP.exit ?_
    refine LoopP.exit ?_
    obtain rfl : t = 64 := by omega
    refine BlockP.here ?_
    refine SeqP.go ?_
    refine AW.seq ?_
    refine AW.seq ?_
    refine AW.region ?_
    refine OpsW.q rfl (q_move (v := .int _ _) rfl) ?_
    refine OpsW.nil ?_
    refine SeqP.go ?_
    refine AW.block ?_
    replace hSl0 := hSl0.del del0
    refine AW.loop (fun m_ e_ H_ => ∃ (i : Nat) (e0 : Env), m_ = 8 - i ∧ (i ≤ 8) ∧ e_ = upds e0 [(4, .pointer (some ⟨b4, 0, none⟩)), (6, .pointer (some ⟨b6, 0, none⟩)), (7, .pointer (some ⟨b7, 0, none⟩)), (103, .int .i64 (i : Int))] ∧ Sep H [.blk b7 ⟨nums .u32 ((prK h s 64)), 8, 105⟩, .blk b6 ⟨nums .u32 ([0, 0, 0, 0, 0, 0, 0, 0]), 8, 105⟩, .blk b4 ⟨nums .u32 ((addW h (prK h s 64) i)), h.length, 105⟩] H_) _ ⟨0, _, rfl, (by omega), Slots.eq ⟨(by rfl), (by rfl), (by rfl), (by rfl),  trivial⟩, (by rw [addW_zero']; exact hSl0)⟩ ?_
    rintro m_ _ Hl1 ⟨i, e0, rfl, hf, rfl, hSl1⟩
    try clear hSl0
    have hal := addW_length h (prK h s 64) i
    have hpl := prK_length hh s 64
    refine AW.seq ?_
    refine AW.region ?_
    refine OpsW.q rfl (q_lss rfl rfl) ?_
    refine OpsW.nil ?_
    refine SeqP.go ?_
    refine AW.seq ?_
    refine AW.cond2 rfl (fun h1 => ?_) (fun h1 => ?_)
    ·
      try simp only [decide_eq_true_eq, decide_eq_false_iff_not, Bool.or_eq_true, Bool.and_eq_true, Bool.or_eq_false_iff, Bool.and_eq_false_imp, Bool.not_eq_true', Bool.not_eq_false', ne_eq, Decidable.not_not, Int.not_lt, Int.not_le, Bool.not_eq_true, Bool.not_eq_false] at h1
      refine AW.exit ?_
      refine SeqP.exit ?_
      refine LoopP.exit ?_
      obtain rfl : i = 8 := by omega
      refine BlockP.here ?_
      refine SeqP.go ?_
      refine AW.seq ?_
      refine AW.region ?_
      refine OpsW.q rfl (q_loadAN (n := 8) (k := .u32) (by kernel_rfl) rfl (hSl1.blk at2) (by omega)) ?_
      refine OpsW.ms (s_storeA (n := 8) (k := .u32) hSl1 at1 (by kernel_rfl) rfl rfl (by omega) (by rfl)) ?_
      rintro _ H6 ⟨rfl, hS6⟩
      clear hSl1
      refine OpsW.nil ?_
      refine SeqP.go ?_
      refine AW.ret ?_
      refine RetP.mkc (m := 8) (H' := H) rfl rfl (hS6.blk at1) (by simp only [nums_length, List.length_set, List.length_replicate, List.length_take, List.length_drop, List.length_append, List.length_cons, List.length_nil, ofB_length, toB_length]; omega) (by kernel_rfl) hS6.le ?_
      exact ⟨by rw [pressW_def], rfl⟩
    try simp only [decide_eq_true_eq, decide_eq_false_iff_not, Bool.or_eq_true, Bool.and_eq_true, Bool.or_eq_false_iff, Bool.and_eq_false_imp, Bool.not_eq_true', Bool.not_eq_false', ne_eq, Decidable.not_not, Int.not_lt, Int.not_le, Bool.not_eq_true, Bool.not_eq_false] at h1
    refine AW.skip ?_
    refine SeqP.go ?_
    refine AW.seq ?_
    refine AW.block ?_
    refine AW.seq ?_
    refine AW.region ?_
    refine OpsW.q rfl (q_move (v := .int _ _) rfl) ?_
    refine OpsW.q rfl (q_assign (v := .int _ _) rfl) ?_
    refine OpsW.nil ?_
    refine SeqP.go ?_
    refine AW.drawK [] 6 rfl (by kernel_rfl) ?_
    refine SeqK.q rfl (q_move (v := .int _ _) rfl) ?_
    refine SeqK.q rfl (q_indexAddrA0 Try.underlying105 (by kernel_rfl) rfl rfl (by omega) (by omega)) ?_
    refine SeqK.q rfl (q_loadN (by kernel_rfl) rfl (hSl1.blk at2) (by omega)) ?_
    refine SeqK.q rfl (q_move (v := .int _ _) rfl) ?_
    refine SeqK.q rfl (q_indexAddrA0 Try.underlying105 (by kernel_rfl) rfl rfl (by omega) (by omega)) ?_
    refine SeqK.q rfl (q_loadN (by kernel_rfl) rfl (hSl1.blk at0) (by omega)) ?_
    refine SeqK.done ?_
    refine OpsW.q rfl (q_add rfl rfl) ?_
    refine OpsW.q rfl (q_indexAddrA0 Try.underlying105 (by kernel_rfl) rfl rfl (by omega) (by omega)) ?_
    refine OpsW.ms (s_storeN hSl1 at2 (by kernel_rfl) rfl rfl (by omega)) ?_
    rintro _ H7 ⟨rfl, hS7⟩
    clear hSl1
    refine OpsW.nil ?_
    refine BlockP.go ?_
    refine SeqP.go ?_
    refine AW.region ?_
    refine OpsW.q rfl (q_addI rfl rfl (by omega)) ?_
    refine OpsW.q rfl (q_move (v := .int _ _) rfl) ?_
    refine OpsW.nil ?_
    exact LoopP.go _ (by omega) ⟨i + 1, _, rfl, (by omega), Slots.eq ⟨(by rfl), (by rfl), (by rfl), (by rfl),  trivial⟩, (by have hs9 := hS7; rw [Int.toNat_natCast, w32_def, ← addW_succ] at hs9; exact hs9)⟩
  try simp only [decide_eq_true_eq, decide_eq_false_iff_not, Bool.or_eq_true, Bool.and_eq_true, Bool.or_eq_false_iff, Bool.and_eq_false_imp, Bool.not_eq_true', Bool.not_eq_false', ne_eq, Decidable.not_not, Int.not_lt, Int.not_le, Bool.not_eq_true, Bool.not_eq_false] at h0
  refine AW.skip ?_
  refine SeqP.go ?_
  refine AW.seq ?_
  refine AW.block ?_
  refine AW.seq ?_
  refine AW.region ?_
  refine OpsW.q rfl (q_move (v := .int _ _) rfl) ?_
  refine OpsW.q rfl (q_indexV1 (hSl0.vec at0) Try.underlying95 (by kernel_rfl) rfl rfl (by omega) (by omega)) ?_
  refine OpsW.q rfl (q_loadVN (hSl0.vec at0) (by kernel_rfl) rfl (by omega)) ?_
  refine OpsW.q rfl (q_assign (v := .int _ _) rfl) ?_
  refine OpsW.q rfl (q_assign (v := .int _ _) rfl) ?_
  refine OpsW.nil ?_
  refine SeqP.go ?_
  refine AW.seq ?_
  refine AW.drawK [] 5 rfl (by kernel_rfl) ?_
  refine SeqK.q rfl (q_indexAddrA0 Try.underlying105 (by kernel_rfl) rfl rfl (by omega) (by omega)) ?_
  refine SeqK.q rfl (q_loadN (by kernel_rfl) rfl (hSl0.blk at1) (by omega)) ?_
  refine SeqK.q rfl (q_indexAddrA0 Try.underlying105 (by kernel_rfl) rfl rfl (by omega) (by omega)) ?_
  refine SeqK.q rfl (q_loadN (by kernel_rfl) rfl (hSl0.blk at1) (by omega)) ?_
  refine SeqK.q rfl (q_assign (v := .int _ _) rfl) ?_
  refine SeqK.done ?_
  refine OpsW.q rfl (q_assign (v := .int _ _) rfl) ?_
  refine OpsW.nil ?_
  refine SeqP.go ?_
  refine AW.seq ?_
  refine AW.drawK [] 29 rfl (by kernel_rfl) ?_
  refine SeqK.q rfl (q_indexAddrA0 Try.underlying105 (by kernel_rfl) rfl rfl (by omega) (by omega)) ?_
  refine SeqK.q rfl (q_loadN (by kernel_rfl) rfl (hSl0.blk at1) (by omega)) ?_
  refine SeqK.q rfl (q_move (v := .pointer _) rfl) ?_
  refine SeqK.q rfl (q_move (v := .int _ _) rfl) ?_
  refine SeqK.q rfl (q_move (v := .pointer _) rfl) ?_
  refine SeqK.q rfl (q_nilCheck rfl) ?_
  refine SeqK.q rfl (q_fieldAddr (sz := 2) Try.underlying107 rfl (by kernel_rfl) rfl) ?_
  refine SeqK.q rfl (q_loadA (n := 3) (cs := nums .i64 [6, 11, 25]) (by kernel_rfl) rfl (hSl0.old hx) rfl (part_of (j := 8) rfl)) ?_
  refine SeqK.q rfl (o_call rfl Try.func70 rfl rfl (whirl_con (a := 6) (b := 11) (c := 25) (by decide) (by decide) (by decide) (hSl0.old hx))) ?_
  refine SeqK.q rfl (q_add rfl rfl) ?_
  refine SeqK.q rfl (q_move (v := .int _ _) rfl) ?_
  refine SeqK.q rfl (q_indexAddrA0 Try.underlying105 (by kernel_rfl) rfl rfl (by omega) (by omega)) ?_
  refine SeqK.q rfl (q_loadN (by kernel_rfl) rfl (hSl0.blk at1) (by omega)) ?_
  refine SeqK.q rfl (q_and rfl rfl) ?_
  refine SeqK.q rfl (q_move (v := .int _ _) rfl) ?_
  refine SeqK.q rfl (q_compl rfl rfl) ?_
  refine SeqK.q rfl (q_indexAddrA0 Try.underlying105 (by kernel_rfl) rfl rfl (by omega) (by omega)) ?_
  refine SeqK.q rfl (q_loadN (by kernel_rfl) rfl (hSl0.blk at1) (by omega)) ?_
  refine SeqK.q rfl (q_and rfl rfl) ?_
  refine SeqK.q rfl (q_xor rfl rfl) ?_
  refine SeqK.q rfl (q_add rfl rfl) ?_
  refine SeqK.q rfl (q_move (v := .pointer _) rfl) ?_
  refine SeqK.q rfl (q_nilCheck rfl) ?_
  refine SeqK.q rfl (q_fieldAddr (sz := 0) Try.underlying107 rfl (by kernel_rfl) rfl) ?_
  refine SeqK.q rfl (q_load (v := .func _ _ _) (by kernel_rfl) rfl (hSl0.old hx) rfl) ?_
  refine SeqK.q rfl (q_move (v := .int _ _) rfl) ?_
  refine SeqK.q rfl (o_callV Try.func67 rfl rfl rfl rfl (k_con (by omega) (hSl0.old hp) (hSl0.old hc))) ?_
  refine SeqK.q rfl (q_add rfl rfl) ?_
  refine SeqK.q rfl (q_move (v := .int _ _) rfl) ?_
  refine SeqK.done ?_
  refine OpsW.q rfl (q_add rfl rfl) ?_
  rw [huw]
  refine OpsW.q rfl (q_assign (v := .int _ _) rfl) ?_
  refine OpsW.nil ?_
  refine SeqP.go ?_
  refine AW.seq ?_
  refine AW.drawK [] 22 rfl (by kernel_rfl) ?_
  refine SeqK.q rfl (q_move (v := .pointer _) rfl) ?_
  refine SeqK.q rfl (q_move (v := .int _ _) rfl) ?_
  refine SeqK.q rfl (q_move (v := .pointer _) rfl) ?_
  refine SeqK.q rfl (q_nilCheck rfl) ?_
  refine SeqK.q rfl (q_fieldAddr (sz := 2) Try.underlying107 rfl (by kernel_rfl) rfl) ?_
  refine SeqK.q rfl (q_loadA (n := 3) (cs := nums .i64 [2, 13, 22]) (by kernel_rfl) rfl (hSl0.old hx) rfl (part_of (j := 11) rfl)) ?_
  refine SeqK.q rfl (o_call rfl Try.func70 rfl rfl (whirl_con (a := 2) (b := 13) (c := 22) (by decide) (by decide) (by decide) (hSl0.old hx))) ?_
  refine SeqK.q rfl (q_move (v := .int _ _) rfl) ?_
  refine SeqK.q rfl (q_indexAddrA0 Try.underlying105 (by kernel_rfl) rfl rfl (by omega) (by omega)) ?_
  refine SeqK.q rfl (q_loadN (by kernel_rfl) rfl (hSl0.blk at1) (by omega)) ?_
  refine SeqK.q rfl (q_and rfl rfl) ?_
  refine SeqK.q rfl (q_move (v := .int _ _) rfl) ?_
  refine SeqK.q rfl (q_indexAddrA0 Try.underlying105 (by kernel_rfl) rfl rfl (by omega) (by omega)) ?_
  refine SeqK.q rfl (q_loadN (by kernel_rfl) rfl (hSl0.blk at1) (by omega)) ?_
  refine SeqK.q rfl (q_and rfl rfl) ?_
  refine SeqK.q rfl (q_xor rfl rfl) ?_
  refine SeqK.q rfl (q_indexAddrA0 Try.underlying105 (by kernel_rfl) rfl rfl (by omega) (by omega)) ?_
  refine SeqK.q rfl (q_loadN (by kernel_rfl) rfl (hSl0.blk at1) (by omega)) ?_
  refine SeqK.q rfl (q_indexAddrA0 Try.underlying105 (by kernel_rfl) rfl rfl (by omega) (by omega)) ?_
  refine SeqK.q rfl (q_loadN (by kernel_rfl) rfl (hSl0.blk at1) (by omega)) ?_
  refine SeqK.q rfl (q_and rfl rfl) ?_
  refine SeqK.q rfl (q_xor rfl rfl) ?_
  refine SeqK.done ?_
  refine OpsW.q rfl (q_add rfl rfl) ?_
  rw [how]
  refine OpsW.q rfl (q_assign (v := .int _ _) rfl) ?_
  refine OpsW.nil ?_
  refine SeqP.go ?_
  refine AW.region ?_
  refine OpsW.q rfl (q_move (v := .int _ _) rfl) ?_
  refine OpsW.q rfl (q_move (v := .int _ _) rfl) ?_
  refine OpsW.q rfl (q_add rfl rfl) ?_
  refine OpsW.q rfl (q_indexAddrA0 Try.underlying105 (by kernel_rfl) rfl rfl (by omega) (by omega)) ?_
  refine OpsW.q rfl (q_loadN (by kernel_rfl) rfl (hSl0.blk at1) (by omega)) ?_
  refine OpsW.q rfl (q_indexAddrA0 Try.underlying105 (by kernel_rfl) rfl rfl (by omega) (by omega)) ?_
  refine OpsW.q rfl (q_loadN (by kernel_rfl) rfl (hSl0.blk at1) (by omega)) ?_
  refine OpsW.q rfl (q_indexAddrA0 Try.underlying105 (by kernel_rfl) rfl rfl (by omega) (by omega)) ?_
  refine OpsW.q rfl (q_loadN (by kernel_rfl) rfl (hSl0.blk at1) (by omega)) ?_
  refine OpsW.q rfl (q_indexAddrA0 Try.underlying105 (by kernel_rfl) rfl rfl (by omega) (by omega)) ?_
  refine OpsW.q rfl (q_loadN (by kernel_rfl) rfl (hSl0.blk at1) (by omega)) ?_
  refine OpsW.q rfl (q_move (v := .int _ _) rfl) ?_
  refine OpsW.q rfl (q_add rfl rfl) ?_
  refine OpsW.q rfl (q_indexAddrA0 Try.underlying105 (by kernel_rfl) rfl rfl (by omega) (by omega)) ?_
  refine OpsW.q rfl (q_loadN (by kernel_rfl) rfl (hSl0.blk at1) (by omega)) ?_
  refine OpsW.q rfl (q_indexAddrA0 Try.underlying105 (by kernel_rfl) rfl rfl (by omega) (by omega)) ?_
  refine OpsW.q rfl (q_loadN (by kernel_rfl) rfl (hSl0.blk at1) (by omega)) ?_
  refine OpsW.q rfl (q_indexAddrA0 Try.underlying105 (by kernel_rfl) rfl rfl (by omega) (by omega)) ?_
  refine OpsW.q rfl (q_loadN (by kernel_rfl) rfl (hSl0.blk at1) (by omega)) ?_
  refine OpsW.q rfl (q_buildN (k := .u32) [_, _, _, _, _, _, _, _] rfl (by kernel_rfl)) ?_
  refine OpsW.ms (s_storeA (n := 8) (k := .u32) hSl0 at1 (by kernel_rfl) rfl rfl (by simp; done) (by simp only [nums_length, List.length_set, List.length_replicate, List.length_take, List.length_drop, List.length_append, List.length_cons, List.length_nil, ofB_length, toB_length]; omega)) ?_
  rintro _ H8 ⟨rfl, hS8⟩
  clear hSl0
  refine OpsW.nil ?_
  refine BlockP.go ?_
  refine SeqP.go ?_
  refine AW.region ?_
  refine OpsW.q rfl (q_addI rfl rfl (by omega)) ?_
  refine OpsW.q rfl (q_move (v := .int _ _) rfl) ?_
  refine OpsW.nil ?_
  exact LoopP.go _ (by omega) ⟨t + 1, _, rfl, (by omega), Slots.eq ⟨(by rfl), (by rfl), (by rfl), (by rfl), (by rfl), (by rfl), (by rfl),  trivial⟩, (by rw [prK_succ, rndW_def]; simp only [← w32_def]; exact hS8)⟩
end
end Go.Proofs.Ytfiojlmccflplaa
end
