/-
  The proof's texts, joined, without what the statements do not reach: part 3 of 7. No condition.
-/
import Derived.JoinedCond
import Derived.WalkKit
import Derived.KernelRfl
import Derived.Lib.ConvBytes
import Derived.WalkSpells
import Derived.WalkLawsBesides
import Derived.ProofKit
import Derived.ChangeMaps5
import Derived.ChangeSlices
import Derived.Deep.Strs
import Derived.DataElems
import Derived.OpenShut
import Derived.Test.YtfiojlmccflplaaProg
import Derived.MapKept
import Derived.Laws.StructEq
import Derived.Test.YtfiojlmccflplaaKb
section
namespace Go.Proofs.Ytfiojlmccflplaa
open Go Go.RowKit D
set_option linter.unusedVariables false
set_option linter.unusedSimpArgs false
set_option maxRecDepth 100000
set_option maxHeartbeats 1000000
section
variable {w0 : World} {H H0 : Hp} {b : Nat} {s : TapeS} {fv lv : Value}
theorem wrong_con (hR : TapeAt H0 H b s fv lv) : Con Try.prog w0 48 #[.pointer (some ⟨b, 0, none⟩)] H (fun v H' => v = .int .i64 (if s.dd = true then 41 else 0) ∧ H' = H) := by
  have hT := hR.at'
  refine Con.intro Try.func48 rfl rfl ?_
  refine AW.seq ?_
  refine AW.region ?_
  refine OpsW.q rfl (q_assign (v := .int _ _) rfl) ?_
  refine OpsW.nil ?_
  refine SeqP.go ?_
  refine AW.seq ?_
  refine AW.block ?_
  refine AW.seq ?_
  refine AW.region ?_
  refine OpsW.q rfl (q_move (v := .pointer _) rfl) ?_
  refine OpsW.q rfl (q_eqlP Try.underlying32 rfl rfl) ?_
  refine OpsW.q rfl (q_assign (v := .bool _) rfl) ?_
  refine OpsW.nil ?_
  refine SeqP.go ?_
  refine AW.cond rfl (fun h0 => ?_) (fun h0 => ?_)
  ·
    exfalso
    try simp only [decide_eq_true_eq, decide_eq_false_iff_not, Bool.or_eq_true, Bool.and_eq_true, Bool.or_eq_false_iff, Bool.and_eq_false_imp, Bool.not_eq_true', Bool.not_eq_false', ne_eq, Decidable.not_not, Int.not_lt, Int.not_le, Bool.not_eq_true, Bool.not_eq_false] at h0
    cases h0
  try simp only [decide_eq_true_eq, decide_eq_false_iff_not, Bool.or_eq_true, Bool.and_eq_true, Bool.or_eq_false_iff, Bool.and_eq_false_imp, Bool.not_eq_true', Bool.not_eq_false', ne_eq, Decidable.not_not, Int.not_lt, Int.not_le, Bool.not_eq_true, Bool.not_eq_false] at h0
  refine AW.seq ?_
  refine AW.region ?_
  refine OpsW.q rfl (q_move (v := .pointer _) rfl) ?_
  refine OpsW.q rfl (q_nilCheck rfl) ?_
  refine OpsW.q rfl (q_fieldAddr (sz := 0) Try.underlying83 rfl (by kernel_rfl) rfl) ?_
  refine OpsW.q rfl (q_load (v := .bool _) (by kernel_rfl) rfl (by exact (by assumption)) rfl) ?_
  refine OpsW.q rfl (q_assign (v := .bool _) rfl) ?_
  refine OpsW.nil ?_
  refine SeqP.go ?_
  refine AW.cond rfl (fun h1 => ?_) (fun h1 => ?_)
  ·
    try simp only [decide_eq_true_eq, decide_eq_false_iff_not, Bool.or_eq_true, Bool.and_eq_true, Bool.or_eq_false_iff, Bool.and_eq_false_imp, Bool.not_eq_true', Bool.not_eq_false', ne_eq, Decidable.not_not, Int.not_lt, Int.not_le, Bool.not_eq_true, Bool.not_eq_false] at h1
    refine AW.seq ?_
    refine AW.region ?_
    refine OpsW.q rfl (q_assign (v := .int _ _) rfl) ?_
    refine OpsW.nil ?_
    refine SeqP.go ?_
    refine AW.ret ?_
    refine BlockP.ret ?_
    refine SeqP.ret ?_
    refine RetP.mk1 (H' := H) (v1 := .int _ _) rfl rfl  (by exact (Hp.le_refl _)) ?_
    exact ⟨by simp [h1], rfl⟩
  try simp only [decide_eq_true_eq, decide_eq_false_iff_not, Bool.or_eq_true, Bool.and_eq_true, Bool.or_eq_false_iff, Bool.and_eq_false_imp, Bool.not_eq_true', Bool.not_eq_false', ne_eq, Decidable.not_not, Int.not_lt, Int.not_le, Bool.not_eq_true, Bool.not_eq_false] at h1
  refine AW.skip ?_
  refine BlockP.go ?_
  refine SeqP.go ?_
  refine AW.seq ?_
  refine AW.region ?_
  refine OpsW.q rfl (q_assign (v := .int _ _) rfl) ?_
  refine OpsW.nil ?_
  refine SeqP.go ?_
  refine AW.ret ?_
  refine RetP.mk1 (H' := H) (v1 := .int _ _) rfl rfl  (by exact (Hp.le_refl _)) ?_
  exact ⟨by simp [h1], rfl⟩
theorem act_con (hR : TapeAt H0 H b s fv lv) (ho3 : 0 ≤ s.ar) (ho4 : s.ar ≤ 9223372036854775807) : Con Try.prog w0 53 #[.pointer (some ⟨b, 0, none⟩)] H (fun v H' => v = .int .i64 (actP s).1 ∧ H' = H.set b (tblk (actP s).2 fv lv)) := by
  have hT := hR.at'
  refine Con.intro Try.func53 rfl rfl ?_
  refine AW.seq ?_
  refine AW.region ?_
  refine OpsW.q rfl (q_assign (v := .int _ _) rfl) ?_
  refine OpsW.nil ?_
  refine SeqP.go ?_
  refine AW.seq ?_
  refine AW.seq ?_
  refine AW.region ?_
  refine OpsW.q rfl (q_move (v := .pointer _) rfl) ?_
  refine OpsW.q rfl (q_nilCheck rfl) ?_
  refine OpsW.q rfl (q_fieldAddr (sz := 0) Try.underlying83 rfl (by kernel_rfl) rfl) ?_
  refine OpsW.q rfl (q_load (v := .int _ _) (by kernel_rfl) rfl (by exact (by assumption)) rfl) ?_
  refine OpsW.q rfl (q_eql rfl rfl) ?_
  refine OpsW.nil ?_
  refine SeqP.go ?_
  refine AW.cond rfl (fun h0 => ?_) (fun h0 => ?_)
  ·
    try simp only [decide_eq_true_eq, decide_eq_false_iff_not, Bool.or_eq_true, Bool.and_eq_true, Bool.or_eq_false_iff, Bool.and_eq_false_imp, Bool.not_eq_true', Bool.not_eq_false', ne_eq, Decidable.not_not, Int.not_lt, Int.not_le, Bool.not_eq_true, Bool.not_eq_false] at h0
    refine AW.seq ?_
    refine AW.region ?_
    refine OpsW.q rfl (q_move (v := .pointer _) rfl) ?_
    refine OpsW.q rfl (q_nilCheck rfl) ?_
    refine OpsW.q rfl (q_fieldAddr (sz := 0) Try.underlying83 rfl (by kernel_rfl) rfl) ?_
    refine OpsW.s (o_store (v := .bool _) (by kernel_rfl) rfl rfl rfl (by exact (by assumption)) (by simp; done)) ?_
    refine OpsW.nil ?_
    refine SeqP.go ?_
    refine AW.seq ?_
    refine AW.region ?_
    refine OpsW.q rfl (q_assign (v := .int _ _) rfl) ?_
    refine OpsW.nil ?_
    refine SeqP.go ?_
    refine AW.ret ?_
    refine SeqP.ret ?_
    refine RetP.mk1 (H' := _) (v1 := .int _ _) rfl rfl  (by exact (Hp.le_refl _)) ?_
    first | exact ⟨by rw [actP_die h0], by rw [actP_die h0] <;> rfl⟩ | exact ⟨by rw [actP_go h0], by rw [actP_go h0] <;> rfl⟩
  try simp only [decide_eq_true_eq, decide_eq_false_iff_not, Bool.or_eq_true, Bool.and_eq_true, Bool.or_eq_false_iff, Bool.and_eq_false_imp, Bool.not_eq_true', Bool.not_eq_false', ne_eq, Decidable.not_not, Int.not_lt, Int.not_le, Bool.not_eq_true, Bool.not_eq_false] at h0
  refine AW.skip ?_
  refine SeqP.go ?_
  refine AW.seq ?_
  refine AW.region ?_
  refine OpsW.q rfl (q_move (v := .pointer _) rfl) ?_
  refine OpsW.q rfl (q_move (v := .pointer _) rfl) ?_
  refine OpsW.q rfl (q_nilCheck rfl) ?_
  refine OpsW.q rfl (q_fieldAddr (sz := 0) Try.underlying83 rfl (by kernel_rfl) rfl) ?_
  refine OpsW.q rfl (q_load (v := .int _ _) (by kernel_rfl) rfl (by exact (by assumption)) rfl) ?_
  refine OpsW.q rfl (q_subI rfl rfl (by omega)) ?_
  refine OpsW.q rfl (q_max rfl rfl) ?_
  refine OpsW.q rfl (q_nilCheck rfl) ?_
  refine OpsW.q rfl (q_fieldAddr (sz := 0) Try.underlying83 rfl (by kernel_rfl) rfl) ?_
  refine OpsW.s (o_store (v := .int _ _) (by kernel_rfl) rfl rfl rfl (by exact (by assumption)) (by simp; done)) ?_
  refine OpsW.nil ?_
  refine SeqP.go ?_
  refine AW.seq ?_
  refine AW.region ?_
  refine OpsW.q rfl (q_assign (v := .int _ _) rfl) ?_
  refine OpsW.nil ?_
  refine SeqP.go ?_
  refine AW.ret ?_
  refine RetP.mk1 (H' := _) (v1 := .int _ _) rfl rfl  (by exact (Hp.le_refl _)) ?_
  first | exact ⟨by rw [actP_die h0], by rw [actP_die h0] <;> rfl⟩ | exact ⟨by rw [actP_go h0], by rw [actP_go h0] <;> rfl⟩
theorem Append_con (hR : TapeAt H0 H b s fv lv) (hok : TapeOk s) (d : List UInt8) (hd : d.length ≤ 1073741824) : Con Try.prog w0 31 #[.pointer (some ⟨b, 0, none⟩), S d] H (fun v H' => v = .int .i64 (appendP s d).1 ∧ TapeR H0 H' b (appendP s d).2) := by
  obtain ⟨ho1, ho2, ho3, ho4⟩ := hok
  have hT := hR.at'
  refine Con.intro Try.func31 rfl rfl ?_
  refine AW.seq ?_
  refine AW.region ?_
  refine OpsW.q rfl (q_assign (v := .int _ _) rfl) ?_
  refine OpsW.nil ?_
  refine SeqP.go ?_
  refine AW.seq ?_
  refine AW.seq ?_
  refine AW.region ?_
  refine OpsW.q rfl (q_move (v := .pointer _) rfl) ?_
  refine OpsW.x rfl (o_call rfl Try.func48 rfl rfl (wrong_con hR)) ?_
  refine OpsW.q rfl (q_assign (v := .int _ _) rfl) ?_
  refine OpsW.nil ?_
  refine SeqP.go ?_
  refine AW.seq ?_
  refine AW.region ?_
  refine OpsW.q rfl (q_move (v := .int _ _) rfl) ?_
  refine OpsW.q rfl (q_neq rfl rfl) ?_
  refine OpsW.nil ?_
  refine SeqP.go ?_
  refine AW.cond rfl (fun h0 => ?_) (fun h0 => ?_)
  ·
    try simp only [decide_eq_true_eq, decide_eq_false_iff_not, Bool.or_eq_true, Bool.and_eq_true, Bool.or_eq_false_iff, Bool.and_eq_false_imp, Bool.not_eq_true', Bool.not_eq_false', ne_eq, Decidable.not_not, Int.not_lt, Int.not_le, Bool.not_eq_true, Bool.not_eq_false] at h0
    have hdd : s.dd = true := by split at h0 <;> simp_all
    refine AW.seq ?_
    refine AW.region ?_
    refine OpsW.q rfl (q_move (v := .int _ _) rfl) ?_
    refine OpsW.q rfl (q_assign (v := .int _ _) rfl) ?_
    refine OpsW.nil ?_
    refine SeqP.go ?_
    refine AW.ret ?_
    refine SeqP.ret ?_
    refine RetP.mk1 (H' := _) (v1 := .int _ _) rfl rfl  (by exact (Hp.le_refl _)) ?_
    first | exact ⟨by rw [appendP_dead hdd, if_pos hdd], fv, lv, by rw [appendP_dead hdd]; exact hR⟩ | exact ⟨by rw [appendP_full hdd (by omega)], fv, lv, by rw [appendP_full hdd (by omega)]; exact hR⟩ | exact ⟨by rw [appendP_ok hdd (by omega)], fv, _, by rw [appendP_ok hdd (by omega)]; exact actAt hR2⟩
  try simp only [decide_eq_true_eq, decide_eq_false_iff_not, Bool.or_eq_true, Bool.and_eq_true, Bool.or_eq_false_iff, Bool.and_eq_false_imp, Bool.not_eq_true', Bool.not_eq_false', ne_eq, Decidable.not_not, Int.not_lt, Int.not_le, Bool.not_eq_true, Bool.not_eq_false] at h0
  have hdd : s.dd = false := by split at h0 <;> simp_all
  refine AW.skip ?_
  refine SeqP.go ?_
  refine AW.seq ?_
  refine AW.seq ?_
  refine AW.drawK [] 18 rfl (by kernel_rfl) ?_
  refine SeqK.q rfl (q_move (v := .pointer _) rfl) ?_
  refine SeqK.q rfl (q_nilCheck rfl) ?_
  refine SeqK.q rfl (q_fieldAddr (sz := 0) Try.underlying83 rfl (by kernel_rfl) rfl) ?_
  refine SeqK.q rfl (q_load (v := fv) (by kernel_rfl) rfl (by exact (by assumption)) rfl) ?_
  refine SeqK.q rfl (q_lenVec Try.underlying72 rfl hR.vf) ?_
  refine SeqK.q rfl (q_move (v := .pointer _) rfl) ?_
  refine SeqK.q rfl (q_nilCheck rfl) ?_
  refine SeqK.q rfl (q_fieldAddr (sz := 0) Try.underlying83 rfl (by kernel_rfl) rfl) ?_
  refine SeqK.q rfl (q_load (v := lv) (by kernel_rfl) rfl (by exact (by assumption)) rfl) ?_
  refine SeqK.q rfl (q_lenVec Try.underlying72 rfl hR.vl) ?_
  refine SeqK.q rfl (q_addI rfl rfl (by omega)) ?_
  refine SeqK.q rfl (q_move (v := S _) rfl) ?_
  refine SeqK.q rfl (q_lenS Try.underlying9 rfl) ?_
  refine SeqK.q rfl (q_addI rfl rfl (by omega)) ?_
  refine SeqK.q rfl (q_move (v := .pointer _) rfl) ?_
  refine SeqK.q rfl (q_nilCheck rfl) ?_
  refine SeqK.q rfl (q_fieldAddr (sz := 0) Try.underlying83 rfl (by kernel_rfl) rfl) ?_
  refine SeqK.q rfl (q_load (v := .int _ _) (by kernel_rfl) rfl (by exact (by assumption)) rfl) ?_
  refine SeqK.done ?_
  refine OpsW.q rfl (q_gtr rfl rfl) ?_
  refine OpsW.nil ?_
  refine SeqP.go ?_
  refine AW.cond rfl (fun h1 => ?_) (fun h1 => ?_)
  ·
    try simp only [decide_eq_true_eq, decide_eq_false_iff_not, Bool.or_eq_true, Bool.and_eq_true, Bool.or_eq_false_iff, Bool.and_eq_false_imp, Bool.not_eq_true', Bool.not_eq_false', ne_eq, Decidable.not_not, Int.not_lt, Int.not_le, Bool.not_eq_true, Bool.not_eq_false] at h1
    refine AW.seq ?_
    refine AW.region ?_
    refine OpsW.q rfl (q_assign (v := .int _ _) rfl) ?_
    refine OpsW.nil ?_
    refine SeqP.go ?_
    refine AW.ret ?_
    refine SeqP.ret ?_
    refine RetP.mk1 (H' := _) (v1 := .int _ _) rfl rfl  (by exact (Hp.le_refl _)) ?_
    first | exact ⟨by rw [appendP_dead hdd, if_pos hdd], fv, lv, by rw [appendP_dead hdd]; exact hR⟩ | exact ⟨by rw [appendP_full hdd (by omega)], fv, lv, by rw [appendP_full hdd (by omega)]; exact hR⟩ | exact ⟨by rw [appendP_ok hdd (by omega)], fv, _, by rw [appendP_ok hdd (by omega)]; exact actAt hR2⟩
  try simp only [decide_eq_true_eq, decide_eq_false_iff_not, Bool.or_eq_true, Bool.and_eq_true, Bool.or_eq_false_iff, Bool.and_eq_false_imp, Bool.not_eq_true', Bool.not_eq_false', ne_eq, Decidable.not_not, Int.not_lt, Int.not_le, Bool.not_eq_true, Bool.not_eq_false] at h1
  refine AW.skip ?_
  refine SeqP.go ?_
  refine AW.seq ?_
  refine AW.region ?_
  refine OpsW.q rfl (q_move (v := .pointer _) rfl) ?_
  refine OpsW.q rfl (q_move (v := .pointer _) rfl) ?_
  refine OpsW.q rfl (q_nilCheck rfl) ?_
  refine OpsW.q rfl (q_fieldAddr (sz := 0) Try.underlying83 rfl (by kernel_rfl) rfl) ?_
  refine OpsW.q rfl (q_load (v := lv) (by kernel_rfl) rfl (by exact (by assumption)) rfl) ?_
  refine OpsW.q rfl (q_move (v := S _) rfl) ?_
  refine OpsW.m rfl (o_append (sz := 1) (by_ := 1) (z := .int .u8 0) Try.underlying72 (by kernel_rfl) (by kernel_rfl) (by kernel_rfl) rfl (by kernel_rfl) rfl rfl hR.vl src_str (by unfold maxLen; omega) (by omega)) ?_
  rintro v36 H36 hA36
  have hT36 : H36 b = some (tblk s fv lv) := hA36.keep hR.bl hR.at'
  have hR2 := hR.grewL (l := s.l ++ d) (hA36.cast rfl (by rw [← nums_append, ← ofB_append])) (by simp)
  refine OpsW.q rfl (q_nilCheck rfl) ?_
  refine OpsW.q rfl (q_fieldAddr (sz := 0) Try.underlying83 rfl (by kernel_rfl) rfl) ?_
  refine OpsW.s (o_store (v := v36) (by kernel_rfl) rfl rfl hA36.vec.one (by exact (by assumption)) (by simp; done)) ?_
  refine OpsW.nil ?_
  refine SeqP.go ?_
  refine AW.seq ?_
  refine AW.region ?_
  refine OpsW.q rfl (q_move (v := .pointer _) rfl) ?_
  refine OpsW.x rfl (o_call rfl Try.func53 rfl rfl (act_con hR2 ho3 ho4)) ?_
  refine OpsW.q rfl (q_assign (v := .int _ _) rfl) ?_
  refine OpsW.nil ?_
  refine SeqP.go ?_
  refine AW.ret ?_
  refine RetP.mk1 (H' := _) (v1 := .int _ _) rfl rfl  (by exact (Hp.le_refl _)) ?_
  first | exact ⟨by rw [appendP_dead hdd, if_pos hdd], fv, lv, by rw [appendP_dead hdd]; exact hR⟩ | exact ⟨by rw [appendP_full hdd (by omega)], fv, lv, by rw [appendP_full hdd (by omega)]; exact hR⟩ | exact ⟨by rw [appendP_ok hdd (by omega)], fv, _, by rw [appendP_ok hdd (by omega)]; exact actAt hR2⟩
theorem Read_con (hR : TapeAt H0 H b s fv lv) (hok : TapeOk s) : Con Try.prog w0 24 #[.pointer (some ⟨b, 0, none⟩)] H (fun v H' => v = .tuple #[S (readP s).1, .int .i64 (readP s).2] ∧ H' = H) := by
  obtain ⟨ho1, ho2, ho3, ho4⟩ := hok
  have hT := hR.at'
  refine Con.intro Try.func24 rfl rfl ?_
  refine AW.seq ?_
  refine AW.region ?_
  refine OpsW.q rfl (q_assign (v := S _) rfl) ?_
  refine OpsW.q rfl (q_assign (v := .int _ _) rfl) ?_
  refine OpsW.nil ?_
  refine SeqP.go ?_
  refine AW.seq ?_
  refine AW.seq ?_
  refine AW.region ?_
  refine OpsW.q rfl (q_move (v := .pointer _) rfl) ?_
  refine OpsW.x rfl (o_call rfl Try.func48 rfl rfl (wrong_con hR)) ?_
  refine OpsW.q rfl (q_assign (v := .int _ _) rfl) ?_
  refine OpsW.nil ?_
  refine SeqP.go ?_
  refine AW.seq ?_
  refine AW.region ?_
  refine OpsW.q rfl (q_move (v := .int _ _) rfl) ?_
  refine OpsW.q rfl (q_neq rfl rfl) ?_
  refine OpsW.nil ?_
  refine SeqP.go ?_
  refine AW.cond rfl (fun h0 => ?_) (fun h0 => ?_)
  ·
    try simp only [decide_eq_true_eq, decide_eq_false_iff_not, Bool.or_eq_true, Bool.and_eq_true, Bool.or_eq_false_iff, Bool.and_eq_false_imp, Bool.not_eq_true', Bool.not_eq_false', ne_eq, Decidable.not_not, Int.not_lt, Int.not_le, Bool.not_eq_true, Bool.not_eq_false] at h0
    have hdd : s.dd = true := by split at h0 <;> simp_all
    refine AW.seq ?_
    refine AW.region ?_
    refine OpsW.q rfl (q_move (v := .int _ _) rfl) ?_
    refine OpsW.q rfl (q_assign (v := S _) rfl) ?_
    refine OpsW.q rfl (q_assign (v := .int _ _) rfl) ?_
    refine OpsW.nil ?_
    refine SeqP.go ?_
    refine AW.ret ?_
    refine SeqP.ret ?_
    refine RetP.mk2 (H' := H) (v1 := S _) (v2 := .int _ _) rfl rfl rfl  (by exact (Hp.le_refl _)) ?_
    exact ⟨by unfold readP; simp [hdd], rfl⟩
  try simp only [decide_eq_true_eq, decide_eq_false_iff_not, Bool.or_eq_true, Bool.and_eq_true, Bool.or_eq_false_iff, Bool.and_eq_false_imp, Bool.not_eq_true', Bool.not_eq_false', ne_eq, Decidable.not_not, Int.not_lt, Int.not_le, Bool.not_eq_true, Bool.not_eq_false] at h0
  have hdd : s.dd = false := by split at h0 <;> simp_all
  refine AW.skip ?_
  refine SeqP.go ?_
  refine AW.seq ?_
  refine AW.drawK [] 10 rfl (by kernel_rfl) ?_
  refine SeqK.q rfl (q_move (v := .pointer _) rfl) ?_
  refine SeqK.q rfl (q_nilCheck rfl) ?_
  refine SeqK.q rfl (q_fieldAddr (sz := 0) Try.underlying83 rfl (by kernel_rfl) rfl) ?_
  refine SeqK.q rfl (q_load (v := fv) (by kernel_rfl) rfl (by exact (by assumption)) rfl) ?_
  refine SeqK.q rfl (q_stringV Try.underlying72 Try.underlying5 Try.underlying9 rfl hR.vf) ?_
  refine SeqK.q rfl (q_move (v := .pointer _) rfl) ?_
  refine SeqK.q rfl (q_nilCheck rfl) ?_
  refine SeqK.q rfl (q_fieldAddr (sz := 0) Try.underlying83 rfl (by kernel_rfl) rfl) ?_
  refine SeqK.q rfl (q_load (v := lv) (by kernel_rfl) rfl (by exact (by assumption)) rfl) ?_
  refine SeqK.q rfl (q_stringV Try.underlying72 Try.underlying5 Try.underlying9 rfl hR.vl) ?_
  rw [toB_ofB, toB_ofB]
  refine SeqK.done ?_
  refine OpsW.q rfl (q_cat rfl rfl (by omega)) ?_
  refine OpsW.q rfl (q_assign (v := S _) rfl) ?_
  refine OpsW.q rfl (q_assign (v := .int _ _) rfl) ?_
  refine OpsW.nil ?_
  refine SeqP.go ?_
  refine AW.ret ?_
  refine RetP.mk2 (H' := H) (v1 := S _) (v2 := .int _ _) rfl rfl rfl  (by exact (Hp.le_refl _)) ?_
  exact ⟨by unfold readP; simp [hdd], rfl⟩
theorem Dead_con (hR : TapeAt H0 H b s fv lv) : Con Try.prog w0 34 #[.pointer (some ⟨b, 0, none⟩)] H (fun v H' => v = .bool s.dd ∧ H' = H) := by
  have hT := hR.at'
  refine Con.intro Try.func34 rfl rfl ?_
  refine AW.seq ?_
  refine AW.region ?_
  refine OpsW.q rfl (q_assign (v := .bool _) rfl) ?_
  refine OpsW.nil ?_
  refine SeqP.go ?_
  refine AW.seq ?_
  refine AW.region ?_
  refine OpsW.q rfl (q_move (v := .pointer _) rfl) ?_
  refine OpsW.q rfl (q_neqP Try.underlying32 rfl rfl) ?_
  refine OpsW.qb rfl (q_move (v := .bool _) rfl) ?_
  intro b5 eb5
  refine OpsW.g rfl rfl rfl (fun hB => by simp only [Bool.and_eq_true, beq_iff_eq] at hB; obtain rfl := hB; exact (q_move (v := .pointer _) rfl)) ?_
  refine OpsW.g rfl rfl rfl (fun hB => by simp only [Bool.and_eq_true, beq_iff_eq] at hB; obtain rfl := hB; exact (q_nilCheck rfl)) ?_
  refine OpsW.g rfl rfl rfl (fun hB => by simp only [Bool.and_eq_true, beq_iff_eq] at hB; obtain rfl := hB; exact (q_fieldAddr (sz := 0) Try.underlying83 rfl (by kernel_rfl) rfl)) ?_
  refine OpsW.g rfl rfl rfl (fun hB => by simp only [Bool.and_eq_true, beq_iff_eq] at hB; obtain rfl := hB; exact (q_load (v := .bool _) (by kernel_rfl) rfl (by exact (by assumption)) rfl)) ?_
  refine OpsW.q rfl (q_and2 rfl rfl rfl) ?_
  refine OpsW.q rfl (q_assign (v := .bool _) rfl) ?_
  refine OpsW.nil ?_
  refine SeqP.go ?_
  refine AW.ret ?_
  refine RetP.mk1 (H' := H) (v1 := .bool _) rfl rfl  (by exact (Hp.le_refl _)) ?_
  refine ⟨?_, rfl⟩
  simp_all
theorem Arm_con (hR : TapeAt H0 H b s fv lv) (x : Int) : Con Try.prog w0 21 #[.pointer (some ⟨b, 0, none⟩), .int .i64 x] H (fun v H' => v = .tuple #[] ∧ H' = H.set b (tblk (armP s x) fv lv)) := by
  have hT := hR.at'
  refine Con.intro Try.func21 rfl rfl ?_
  refine AW.seq ?_
  refine AW.region ?_
  refine OpsW.q rfl (q_move (v := .pointer _) rfl) ?_
  refine OpsW.q rfl (q_neqP Try.underlying32 rfl rfl) ?_
  refine OpsW.nil ?_
  refine SeqP.go ?_
  refine AW.cond rfl (fun h0 => ?_) (fun h0 => ?_)
  ·
    try simp only [decide_eq_true_eq, decide_eq_false_iff_not, Bool.or_eq_true, Bool.and_eq_true, Bool.or_eq_false_iff, Bool.and_eq_false_imp, Bool.not_eq_true', Bool.not_eq_false', ne_eq, Decidable.not_not, Int.not_lt, Int.not_le, Bool.not_eq_true, Bool.not_eq_false] at h0
    refine AW.region ?_
    refine OpsW.q rfl (q_move (v := .pointer _) rfl) ?_
    refine OpsW.q rfl (q_move (v := .int _ _) rfl) ?_
    refine OpsW.q rfl (q_max rfl rfl) ?_
    refine OpsW.q rfl (q_nilCheck rfl) ?_
    refine OpsW.q rfl (q_fieldAddr (sz := 0) Try.underlying83 rfl (by kernel_rfl) rfl) ?_
    refine OpsW.s (o_store (v := .int _ _) (by kernel_rfl) rfl rfl rfl (by exact (by assumption)) (by simp; done)) ?_
    refine OpsW.nil ?_
    refine RetP.end0 (H' := _) rfl (by exact (Hp.le_refl _)) ?_
    exact ⟨rfl, rfl⟩
  exfalso
  try simp only [decide_eq_true_eq, decide_eq_false_iff_not, Bool.or_eq_true, Bool.and_eq_true, Bool.or_eq_false_iff, Bool.and_eq_false_imp, Bool.not_eq_true', Bool.not_eq_false', ne_eq, Decidable.not_not, Int.not_lt, Int.not_le, Bool.not_eq_true, Bool.not_eq_false] at h0
  cases h0
theorem Sync_con (hR : TapeAt H0 H b s fv lv) (hok : TapeOk s) : Con Try.prog w0 46 #[.pointer (some ⟨b, 0, none⟩)] H (fun v H' => v = .int .i64 (syncP s).1 ∧ TapeR H0 H' b (syncP s).2) := by
  obtain ⟨ho1, ho2, ho3, ho4⟩ := hok
  have hT := hR.at'
  refine Con.intro Try.func46 rfl rfl ?_
  refine AW.seq ?_
  refine AW.region ?_
  refine OpsW.q rfl (q_assign (v := .int _ _) rfl) ?_
  refine OpsW.nil ?_
  refine SeqP.go ?_
  refine AW.seq ?_
  refine AW.region ?_
  refine OpsW.q rfl (q_move (v := .pointer _) rfl) ?_
  refine OpsW.x rfl (o_call rfl Try.func48 rfl rfl (wrong_con hR)) ?_
  refine OpsW.q rfl (q_assign (v := .int _ _) rfl) ?_
  refine OpsW.nil ?_
  refine SeqP.go ?_
  refine AW.seq ?_
  refine AW.seq ?_
  refine AW.region ?_
  refine OpsW.q rfl (q_move (v := .int _ _) rfl) ?_
  refine OpsW.q rfl (q_eql rfl rfl) ?_
  refine OpsW.nil ?_
  refine SeqP.go ?_
  refine AW.cond rfl (fun h0 => ?_) (fun h0 => ?_)
  ·
    try simp only [decide_eq_true_eq, decide_eq_false_iff_not, Bool.or_eq_true, Bool.and_eq_true, Bool.or_eq_false_iff, Bool.and_eq_false_imp, Bool.not_eq_true', Bool.not_eq_false', ne_eq, Decidable.not_not, Int.not_lt, Int.not_le, Bool.not_eq_true, Bool.not_eq_false] at h0
    have hdd : s.dd = false := by split at h0 <;> simp_all
    refine AW.region ?_
    refine OpsW.q rfl (q_move (v := .pointer _) rfl) ?_
    refine OpsW.x rfl (o_call rfl Try.func53 rfl rfl (act_con hR ho3 ho4)) ?_
    refine OpsW.q rfl (q_assign (v := .int _ _) rfl) ?_
    refine OpsW.nil ?_
    refine SeqP.go ?_
    refine AW.seq ?_
    refine AW.seq ?_
    refine AW.region ?_
    refine OpsW.q rfl (q_move (v := .int _ _) rfl) ?_
    refine OpsW.q rfl (q_eql rfl rfl) ?_
    refine OpsW.nil ?_
    refine SeqP.go ?_
    refine AW.cond rfl (fun h1 => ?_) (fun h1 => ?_)
    ·
      try simp only [decide_eq_true_eq, decide_eq_false_iff_not, Bool.or_eq_true, Bool.and_eq_true, Bool.or_eq_false_iff, Bool.and_eq_false_imp, Bool.not_eq_true', Bool.not_eq_false', ne_eq, Decidable.not_not, Int.not_lt, Int.not_le, Bool.not_eq_true, Bool.not_eq_false] at h1
      have har : ¬ s.ar = 1 := fun h => by rw [actP_die h] at h1; cases h1
      rw [actP_go har]
      have hR1 := hR.put (ar := max 0 (s.ar - 1)) (dd := s.dd)
      have hT1 := hR1.at'
      refine AW.drawK [0, 1] 10 rfl (by kernel_rfl) ?_
      refine SeqK.q rfl (q_move (v := .pointer _) rfl) ?_
      refine SeqK.q rfl (q_move (v := .pointer _) rfl) ?_
      refine SeqK.q rfl (q_move (v := .pointer _) rfl) ?_
      refine SeqK.q rfl (q_nilCheck rfl) ?_
      refine SeqK.q rfl (q_fieldAddr (sz := 0) Try.underlying83 rfl (by kernel_rfl) rfl) ?_
      refine SeqK.q rfl (q_load (v := fv) (by kernel_rfl) rfl (by exact Hp.set_self) rfl) ?_
      refine SeqK.q rfl (q_move (v := .pointer _) rfl) ?_
      refine SeqK.q rfl (q_nilCheck rfl) ?_
      refine SeqK.q rfl (q_fieldAddr (sz := 0) Try.underlying83 rfl (by kernel_rfl) rfl) ?_
      refine SeqK.q rfl (q_load (v := lv) (by kernel_rfl) rfl (by exact Hp.set_self) rfl) ?_
      refine SeqK.done ?_
      refine OpsW.m rfl (o_append (sz := 1) (by_ := 1) (z := .int .u8 0) Try.underlying72 (by kernel_rfl) (by kernel_rfl) (by kernel_rfl) rfl (by kernel_rfl) rfl rfl hR1.vf (src_vec hR1.vl (nums_one _ _)) (by simp only [nums_length, List.length_set, List.length_replicate, List.length_take, List.length_drop, List.length_append, List.length_cons, List.length_nil, ofB_length, toB_length]; unfold maxLen; omega) (by simp only [nums_length, List.length_set, List.length_replicate, List.length_take, List.length_drop, List.length_append, List.length_cons, List.length_nil, ofB_length, toB_length]; omega)) ?_
      rintro v22 H22 hA22
      have hT22 := hA22.keep hR1.bf hR1.at'
      have hR2 := hR1.grewF0 (f := s.f ++ s.l) (hA22.cast rfl (by rw [← nums_append, ← ofB_append])) (by simp)
      refine OpsW.q rfl (q_nilCheck rfl) ?_
      refine OpsW.q rfl (q_fieldAddr (sz := 0) Try.underlying83 rfl (by kernel_rfl) rfl) ?_
      refine OpsW.s (o_store (v := v22) (by kernel_rfl) rfl rfl hA22.vec.one (by exact (by assumption)) (by simp; done)) ?_
      refine OpsW.q rfl (q_nilCheck rfl) ?_
      refine OpsW.q rfl (q_fieldAddr (sz := 0) Try.underlying83 rfl (by kernel_rfl) rfl) ?_
      refine OpsW.s (o_store (v := nilV) (by kernel_rfl) rfl rfl rfl (by exact Hp.set_self) (by simp; done)) ?_
      refine OpsW.nil ?_
      refine SeqP.go ?_
      refine AW.seq ?_
      refine AW.region ?_
      refine OpsW.q rfl (q_move (v := .int _ _) rfl) ?_
      refine OpsW.q rfl (q_assign (v := .int _ _) rfl) ?_
      refine OpsW.nil ?_
      refine SeqP.go ?_
      refine AW.ret ?_
      refine RetP.mk1 (H' := _) (v1 := .int _ _) rfl rfl  (by exact (Hp.le_refl _)) ?_
      first | exact ⟨by rw [syncP_dead hdd, if_pos hdd], fv, lv, by rw [syncP_dead hdd]; exact hR⟩ | exact ⟨by rw [syncP_die hdd har], fv, lv, by rw [syncP_die hdd har]; exact hR.put (ar := s.ar) (dd := true)⟩ | exact ⟨by rw [syncP_ok hdd har], v22, nilV, by rw [Hp.set_set, syncP_ok hdd har]; exact hR2⟩
    try simp only [decide_eq_true_eq, decide_eq_false_iff_not, Bool.or_eq_true, Bool.and_eq_true, Bool.or_eq_false_iff, Bool.and_eq_false_imp, Bool.not_eq_true', Bool.not_eq_false', ne_eq, Decidable.not_not, Int.not_lt, Int.not_le, Bool.not_eq_true, Bool.not_eq_false] at h1
    have har : s.ar = 1 := Classical.byContradiction fun h => by rw [actP_go h] at h1; exact h1 rfl
    rw [actP_die har]
    refine AW.skip ?_
    refine SeqP.go ?_
    refine AW.seq ?_
    refine AW.region ?_
    refine OpsW.q rfl (q_move (v := .int _ _) rfl) ?_
    refine OpsW.q rfl (q_assign (v := .int _ _) rfl) ?_
    refine OpsW.nil ?_
    refine SeqP.go ?_
    refine AW.ret ?_
    refine RetP.mk1 (H' := _) (v1 := .int _ _) rfl rfl  (by exact (Hp.le_refl _)) ?_
    first | exact ⟨by rw [syncP_dead hdd, if_pos hdd], fv, lv, by rw [syncP_dead hdd]; exact hR⟩ | exact ⟨by rw [syncP_die hdd har], fv, lv, by rw [syncP_die hdd har]; exact hR.put (ar := s.ar) (dd := true)⟩ | exact ⟨by rw [syncP_ok hdd har], v22, nilV, by rw [Hp.set_set, syncP_ok hdd har]; exact hR2⟩
  try simp only [decide_eq_true_eq, decide_eq_false_iff_not, Bool.or_eq_true, Bool.and_eq_true, Bool.or_eq_false_iff, Bool.and_eq_false_imp, Bool.not_eq_true', Bool.not_eq_false', ne_eq, Decidable.not_not, Int.not_lt, Int.not_le, Bool.not_eq_true, Bool.not_eq_false] at h0
  have hdd : s.dd = true := by split at h0 <;> simp_all
  refine AW.skip ?_
  refine SeqP.go ?_
  refine AW.seq ?_
  refine AW.seq ?_
  refine AW.region ?_
  refine OpsW.q rfl (q_move (v := .int _ _) rfl) ?_
  refine OpsW.q rfl (q_eql rfl rfl) ?_
  refine OpsW.nil ?_
  refine SeqP.go ?_
  refine AW.cond rfl (fun h1 => ?_) (fun h1 => ?_)
  ·
    exfalso
    try simp only [decide_eq_true_eq, decide_eq_false_iff_not, Bool.or_eq_true, Bool.and_eq_true, Bool.or_eq_false_iff, Bool.and_eq_false_imp, Bool.not_eq_true', Bool.not_eq_false', ne_eq, Decidable.not_not, Int.not_lt, Int.not_le, Bool.not_eq_true, Bool.not_eq_false] at h1
    simp_all
  try simp only [decide_eq_true_eq, decide_eq_false_iff_not, Bool.or_eq_true, Bool.and_eq_true, Bool.or_eq_false_iff, Bool.and_eq_false_imp, Bool.not_eq_true', Bool.not_eq_false', ne_eq, Decidable.not_not, Int.not_lt, Int.not_le, Bool.not_eq_true, Bool.not_eq_false] at h1
  refine AW.skip ?_
  refine SeqP.go ?_
  refine AW.seq ?_
  refine AW.region ?_
  refine OpsW.q rfl (q_move (v := .int _ _) rfl) ?_
  refine OpsW.q rfl (q_assign (v := .int _ _) rfl) ?_
  refine OpsW.nil ?_
  refine SeqP.go ?_
  refine AW.ret ?_
  refine RetP.mk1 (H' := _) (v1 := .int _ _) rfl rfl  (by exact (Hp.le_refl _)) ?_
  first | exact ⟨by rw [syncP_dead hdd, if_pos hdd], fv, lv, by rw [syncP_dead hdd]; exact hR⟩ | exact ⟨by rw [syncP_die hdd har], fv, lv, by rw [syncP_die hdd har]; exact hR.put (ar := s.ar) (dd := true)⟩ | exact ⟨by rw [syncP_ok hdd har], v22, nilV, by rw [Hp.set_set, syncP_ok hdd har]; exact hR2⟩
theorem Cut_con (hR : TapeAt H0 H b s fv lv) (hok : TapeOk s) (x : Int) : Con Try.prog w0 45 #[.pointer (some ⟨b, 0, none⟩), .int .i64 x] H (fun v H' => v = .int .i64 (cutP s x).1 ∧ TapeR H0 H' b (cutP s x).2) := by
  obtain ⟨ho1, ho2, ho3, ho4⟩ := hok
  have hT := hR.at'
  refine Con.intro Try.func45 rfl rfl ?_
  refine AW.seq ?_
  refine AW.region ?_
  refine OpsW.q rfl (q_assign (v := .int _ _) rfl) ?_
  refine OpsW.nil ?_
  refine SeqP.go ?_
  refine AW.seq ?_
  refine AW.region ?_
  refine OpsW.q rfl (q_move (v := .pointer _) rfl) ?_
  refine OpsW.x rfl (o_call rfl Try.func48 rfl rfl (wrong_con hR)) ?_
  refine OpsW.q rfl (q_assign (v := .int _ _) rfl) ?_
  refine OpsW.nil ?_
  refine SeqP.go ?_
  refine AW.seq ?_
  refine AW.seq ?_
  refine AW.drawK [] 18 rfl (by kernel_rfl) ?_
  refine SeqK.q rfl (q_move (v := .int _ _) rfl) ?_
  refine SeqK.q rfl (q_eql rfl rfl) ?_
  refine SeqK.qb rfl (q_move (v := .bool _) rfl) ?_
  intro b10 eb10
  refine SeqK.g rfl rfl rfl (fun hB => by simp only [Bool.and_eq_true, beq_iff_eq] at hB; obtain rfl := hB; exact (q_move (v := .int _ _) rfl)) ?_
  refine SeqK.g rfl rfl rfl (fun hB => by simp only [Bool.and_eq_true, beq_iff_eq] at hB; obtain rfl := hB; exact (q_lss rfl rfl)) ?_
  refine SeqK.gb rfl rfl rfl (fun hB => by simp only [Bool.and_eq_true, beq_iff_eq] at hB; obtain rfl := hB; exact (q_move (v := .bool _) rfl)) ?_
  intro b13 eb13
  refine SeqK.gg rfl rfl rfl (fun hB => by simp only [Bool.and_eq_true, beq_iff_eq] at hB; obtain ⟨rfl, rfl⟩ := hB; exact (q_move (v := .int _ _) rfl)) ?_
  refine SeqK.gg rfl rfl rfl (fun hB => by simp only [Bool.and_eq_true, beq_iff_eq] at hB; obtain ⟨rfl, rfl⟩ := hB; exact (q_move (v := .pointer _) rfl)) ?_
  refine SeqK.gg rfl rfl rfl (fun hB => by simp only [Bool.and_eq_true, beq_iff_eq] at hB; obtain ⟨rfl, rfl⟩ := hB; exact (q_nilCheck rfl)) ?_
  refine SeqK.gg rfl rfl rfl (fun hB => by simp only [Bool.and_eq_true, beq_iff_eq] at hB; obtain ⟨rfl, rfl⟩ := hB; exact (q_fieldAddr (sz := 0) Try.underlying83 rfl (by kernel_rfl) rfl)) ?_
  refine SeqK.gg rfl rfl rfl (fun hB => by simp only [Bool.and_eq_true, beq_iff_eq] at hB; obtain ⟨rfl, rfl⟩ := hB; exact (q_load (v := fv) (by kernel_rfl) rfl (by exact (by assumption)) rfl)) ?_
  refine SeqK.gg rfl rfl rfl (fun hB => by simp only [Bool.and_eq_true, beq_iff_eq] at hB; obtain ⟨rfl, rfl⟩ := hB; exact (q_lenVec Try.underlying72 rfl hR.vf)) ?_
  refine SeqK.gg rfl rfl rfl (fun hB => by simp only [Bool.and_eq_true, beq_iff_eq] at hB; obtain ⟨rfl, rfl⟩ := hB; exact (q_move (v := .pointer _) rfl)) ?_
  refine SeqK.gg rfl rfl rfl (fun hB => by simp only [Bool.and_eq_true, beq_iff_eq] at hB; obtain ⟨rfl, rfl⟩ := hB; exact (q_nilCheck rfl)) ?_
  refine SeqK.gg rfl rfl rfl (fun hB => by simp only [Bool.and_eq_true, beq_iff_eq] at hB; obtain ⟨rfl, rfl⟩ := hB; exact (q_fieldAddr (sz := 0) Try.underlying83 rfl (by kernel_rfl) rfl)) ?_
  refine SeqK.gg rfl rfl rfl (fun hB => by simp only [Bool.and_eq_true, beq_iff_eq] at hB; obtain ⟨rfl, rfl⟩ := hB; exact (q_load (v := lv) (by kernel_rfl) rfl (by exact (by assumption)) rfl)) ?_
  refine SeqK.gg rfl rfl rfl (fun hB => by simp only [Bool.and_eq_true, beq_iff_eq] at hB; obtain ⟨rfl, rfl⟩ := hB; exact (q_lenVec Try.underlying72 rfl hR.vl)) ?_
  refine SeqK.gg rfl rfl rfl (fun hB => by simp only [Bool.and_eq_true, beq_iff_eq] at hB; obtain ⟨rfl, rfl⟩ := hB; exact (q_addI rfl rfl (by omega))) ?_
  refine SeqK.done ?_
  refine OpsW.gg rfl rfl rfl (fun hB => by simp only [Bool.and_eq_true, beq_iff_eq] at hB; obtain ⟨rfl, rfl⟩ := hB; exact (q_gtr rfl rfl)) ?_
  refine OpsW.g rfl rfl rfl (fun hB => by simp only [Bool.and_eq_true, beq_iff_eq] at hB; obtain rfl := hB; exact (q_or2 rfl rfl rfl)) ?_
  refine OpsW.q rfl (q_and2 rfl rfl rfl) ?_
  refine OpsW.nil ?_
  refine SeqP.go ?_
  refine AW.cond rfl (fun h0 => ?_) (fun h0 => ?_)
  ·
    try simp only [eb10, eb13, decide_eq_true_eq, decide_eq_false_iff_not, Bool.or_eq_true, Bool.and_eq_true, Bool.or_eq_false_iff, Bool.and_eq_false_imp, Bool.not_eq_true', Bool.not_eq_false', ne_eq, Decidable.not_not, Int.not_lt, Int.not_le, Bool.not_eq_true, Bool.not_eq_false] at h0
    have hdd : s.dd = false := by cases hq : s.dd <;> simp_all
    have hbad : x < 0 ∨ ((s.f.length + s.l.length : Nat) : Int) < x := by simp_all <;> omega
    refine AW.region ?_
    refine OpsW.q rfl (q_assign (v := .int _ _) rfl) ?_
    refine OpsW.nil ?_
    refine SeqP.go ?_
    refine AW.seq ?_
    refine AW.seq ?_
    refine AW.region ?_
    refine OpsW.q rfl (q_move (v := .int _ _) rfl) ?_
    refine OpsW.q rfl (q_eql rfl rfl) ?_
    refine OpsW.nil ?_
    refine SeqP.go ?_
    refine AW.cond rfl (fun h1 => ?_) (fun h1 => ?_)
    ·
      exfalso
      try simp only [eb10, eb13, decide_eq_true_eq, decide_eq_false_iff_not, Bool.or_eq_true, Bool.and_eq_true, Bool.or_eq_false_iff, Bool.and_eq_false_imp, Bool.not_eq_true', Bool.not_eq_false', ne_eq, Decidable.not_not, Int.not_lt, Int.not_le, Bool.not_eq_true, Bool.not_eq_false] at h1
      cases h1
    try simp only [eb10, eb13, decide_eq_true_eq, decide_eq_false_iff_not, Bool.or_eq_true, Bool.and_eq_true, Bool.or_eq_false_iff, Bool.and_eq_false_imp, Bool.not_eq_true', Bool.not_eq_false', ne_eq, Decidable.not_not, Int.not_lt, Int.not_le, Bool.not_eq_true, Bool.not_eq_false] at h1
    refine AW.skip ?_
    refine SeqP.go ?_
    refine AW.seq ?_
    refine AW.seq ?_
    refine AW.region ?_
    refine OpsW.q rfl (q_move (v := .int _ _) rfl) ?_
    refine OpsW.q rfl (q_eql rfl rfl) ?_
    refine OpsW.nil ?_
    refine SeqP.go ?_
    refine AW.cond rfl (fun h2 => ?_) (fun h2 => ?_)
    ·
      exfalso
      try simp only [eb10, eb13, decide_eq_true_eq, decide_eq_false_iff_not, Bool.or_eq_true, Bool.and_eq_true, Bool.or_eq_false_iff, Bool.and_eq_false_imp, Bool.not_eq_true', Bool.not_eq_false', ne_eq, Decidable.not_not, Int.not_lt, Int.not_le, Bool.not_eq_true, Bool.not_eq_false] at h2
      cases h2
    try simp only [eb10, eb13, decide_eq_true_eq, decide_eq_false_iff_not, Bool.or_eq_true, Bool.and_eq_true, Bool.or_eq_false_iff, Bool.and_eq_false_imp, Bool.not_eq_true', Bool.not_eq_false', ne_eq, Decidable.not_not, Int.not_lt, Int.not_le, Bool.not_eq_true, Bool.not_eq_false] at h2
    refine AW.skip ?_
    refine SeqP.go ?_
    refine AW.seq ?_
    refine AW.region ?_
    refine OpsW.q rfl (q_move (v := .int _ _) rfl) ?_
    refine OpsW.q rfl (q_assign (v := .int _ _) rfl) ?_
    refine OpsW.nil ?_
    refine SeqP.go ?_
    refine AW.ret ?_
    refine RetP.mk1 (H' := _) (v1 := .int _ _) rfl rfl  (by exact (Hp.le_refl _)) ?_
    first | exact ⟨by rw [cutP_dead hdd, if_pos hdd], fv, lv, by rw [cutP_dead hdd]; exact hR⟩ | exact ⟨by rw [cutP_bad hdd hbad], fv, lv, by rw [cutP_bad hdd hbad]; exact hR⟩ | exact ⟨by rw [cutP_die hdd hin har], fv, lv, by rw [cutP_die hdd hin har]; exact hR.put (ar := s.ar) (dd := true)⟩ | exact ⟨by rw [cutP_ok hdd hin har], _, nilV, by rw [Hp.set_set, cutP_ok hdd hin har]; exact hR2⟩
  try simp only [eb10, eb13, decide_eq_true_eq, decide_eq_false_iff_not, Bool.or_eq_true, Bool.and_eq_true, Bool.or_eq_false_iff, Bool.and_eq_false_imp, Bool.not_eq_true', Bool.not_eq_false', ne_eq, Decidable.not_not, Int.not_lt, Int.not_le, Bool.not_eq_true, Bool.not_eq_false] at h0
  have hne : s.dd = true ∨ (0 ≤ x ∧ x ≤ ((s.f.length + s.l.length : Nat) : Int)) := by cases hq : s.dd <;> simp_all <;> omega
  refine AW.skip ?_
  refine SeqP.go ?_
  refine AW.seq ?_
  refine AW.seq ?_
  refine AW.region ?_
  refine OpsW.q rfl (q_move (v := .int _ _) rfl) ?_
  refine OpsW.q rfl (q_eql rfl rfl) ?_
  refine OpsW.nil ?_
  refine SeqP.go ?_
  refine AW.cond rfl (fun h1 => ?_) (fun h1 => ?_)
  ·
    try simp only [eb10, eb13, decide_eq_true_eq, decide_eq_false_iff_not, Bool.or_eq_true, Bool.and_eq_true, Bool.or_eq_false_iff, Bool.and_eq_false_imp, Bool.not_eq_true', Bool.not_eq_false', ne_eq, Decidable.not_not, Int.not_lt, Int.not_le, Bool.not_eq_true, Bool.not_eq_false] at h1
    have hdd : s.dd = false := by split at h1 <;> simp_all
    have hin := hne.resolve_left (by simp [hdd])
    refine AW.region ?_
    refine OpsW.q rfl (q_move (v := .pointer _) rfl) ?_
    refine OpsW.x rfl (o_call rfl Try.func53 rfl rfl (act_con hR ho3 ho4)) ?_
    refine OpsW.q rfl (q_assign (v := .int _ _) rfl) ?_
    refine OpsW.nil ?_
    refine SeqP.go ?_
    refine AW.seq ?_
    refine AW.seq ?_
    refine AW.region ?_
    refine OpsW.q rfl (q_move (v := .int _ _) rfl) ?_
    refine OpsW.q rfl (q_eql rfl rfl) ?_
    refine OpsW.nil ?_
    refine SeqP.go ?_
    refine AW.cond rfl (fun h2 => ?_) (fun h2 => ?_)
    ·
      try simp only [eb10, eb13, decide_eq_true_eq, decide_eq_false_iff_not, Bool.or_eq_true, Bool.and_eq_true, Bool.or_eq_false_iff, Bool.and_eq_false_imp, Bool.not_eq_true', Bool.not_eq_false', ne_eq, Decidable.not_not, Int.not_lt, Int.not_le, Bool.not_eq_true, Bool.not_eq_false] at h2
      have har : ¬ s.ar = 1 := fun h => by rw [actP_die h] at h2; cases h2
      rw [actP_go har]
      have hR1 := hR.put (ar := max 0 (s.ar - 1)) (dd := s.dd)
      have hT1 := hR1.at'
      refine AW.drawF [0, 1] 10 11 46 (.int _ _) rfl (by kernel_rfl) rfl rfl rfl rfl ?_
      refine SeqC.q rfl (q_move (v := .pointer _) rfl) ?_
      refine SeqC.q rfl (q_move (v := .pointer _) rfl) ?_
      refine SeqC.q rfl (q_move (v := .pointer _) rfl) ?_
      refine SeqC.q rfl (q_nilCheck rfl) ?_
      refine SeqC.q rfl (q_fieldAddr (sz := 0) Try.underlying83 rfl (by kernel_rfl) rfl) ?_
      refine SeqC.q rfl (q_load (v := fv) (by kernel_rfl) rfl (by exact Hp.set_self) rfl) ?_
      refine SeqC.q rfl (q_move (v := .pointer _) rfl) ?_
      refine SeqC.q rfl (q_nilCheck rfl) ?_
      refine SeqC.q rfl (q_fieldAddr (sz := 0) Try.underlying83 rfl (by kernel_rfl) rfl) ?_
      refine SeqC.q rfl (q_load (v := lv) (by kernel_rfl) rfl (by exact Hp.set_self) rfl) ?_
      refine SeqC.done ?_
      refine OpsW.m rfl (o_append (sz := 1) (by_ := 1) (z := .int .u8 0) Try.underlying72 (by kernel_rfl) (by kernel_rfl) (by kernel_rfl) rfl (by kernel_rfl) rfl rfl hR1.vf (src_vec hR1.vl (nums_one _ _)) (by simp only [nums_length, List.length_set, List.length_replicate, List.length_take, List.length_drop, List.length_append, List.length_cons, List.length_nil, ofB_length, toB_length]; unfold maxLen; omega) (by simp only [nums_length, List.length_set, List.length_replicate, List.length_take, List.length_drop, List.length_append, List.length_cons, List.length_nil, ofB_length, toB_length]; omega)) ?_
      rintro v45 H45 hA45
      have hT45 := hA45.keep hR1.bf hR1.at'
      have hR2 := hR1.grewF (f := s.f ++ s.l) (k := x.toNat) (hA45.cast rfl (by rw [← nums_append, ← ofB_append])) (by simp) (by simp; omega)
      refine OpsW.q rfl (q_sliceVec_hi Try.underlying72 (by kernel_rfl) rfl hA45.vec rfl (by omega) (by dsimp only; omega)) ?_
      refine OpsW.q rfl (q_nilCheck rfl) ?_
      refine OpsW.q rfl (q_fieldAddr (sz := 0) Try.underlying83 rfl (by kernel_rfl) rfl) ?_
      refine OpsW.s (o_store (v := takeV v45 x.toNat) (by kernel_rfl) rfl rfl hA45.vec.takeOne (by exact (by assumption)) (by simp; done)) ?_
      refine OpsW.q rfl (q_nilCheck rfl) ?_
      refine OpsW.q rfl (q_fieldAddr (sz := 0) Try.underlying83 rfl (by kernel_rfl) rfl) ?_
      refine OpsW.s (o_store (v := nilV) (by kernel_rfl) rfl rfl rfl (by exact Hp.set_self) (by simp; done)) ?_
      refine OpsW.nil ?_
      refine SeqP.go ?_
      refine AW.seq ?_
      refine AW.region ?_
      refine OpsW.q rfl (q_move (v := .int _ _) rfl) ?_
      refine OpsW.q rfl (q_assign (v := .int _ _) rfl) ?_
      refine OpsW.nil ?_
      refine SeqP.go ?_
      refine AW.ret ?_
      refine RetP.mk1 (H' := _) (v1 := .int _ _) rfl rfl  (by exact (Hp.le_refl _)) ?_
      first | exact ⟨by rw [cutP_dead hdd, if_pos hdd], fv, lv, by rw [cutP_dead hdd]; exact hR⟩ | exact ⟨by rw [cutP_bad hdd hbad], fv, lv, by rw [cutP_bad hdd hbad]; exact hR⟩ | exact ⟨by rw [cutP_die hdd hin har], fv, lv, by rw [cutP_die hdd hin har]; exact hR.put (ar := s.ar) (dd := true)⟩ | exact ⟨by rw [cutP_ok hdd hin har], _, nilV, by rw [Hp.set_set, cutP_ok hdd hin har]; exact hR2⟩
    try simp only [eb10, eb13, decide_eq_true_eq, decide_eq_false_iff_not, Bool.or_eq_true, Bool.and_eq_true, Bool.or_eq_false_iff, Bool.and_eq_false_imp, Bool.not_eq_true', Bool.not_eq_false', ne_eq, Decidable.not_not, Int.not_lt, Int.not_le, Bool.not_eq_true, Bool.not_eq_false] at h2
    have har : s.ar = 1 := Classical.byContradiction fun h => by rw [actP_go h] at h2; exact h2 rfl
    rw [actP_die har]
    refine AW.skip ?_
    refine SeqP.go ?_
    refine AW.seq ?_
    refine AW.region ?_
    refine OpsW.q rfl (q_move (v := .int _ _) rfl) ?_
    refine OpsW.q rfl (q_assign (v := .int _ _) rfl) ?_
    refine OpsW.nil ?_
    refine SeqP.go ?_
    refine AW.ret ?_
    refine RetP.mk1 (H' := _) (v1 := .int _ _) rfl rfl  (by exact (Hp.le_refl _)) ?_
    first | exact ⟨by rw [cutP_dead hdd, if_pos hdd], fv, lv, by rw [cutP_dead hdd]; exact hR⟩ | exact ⟨by rw [cutP_bad hdd hbad], fv, lv, by rw [cutP_bad hdd hbad]; exact hR⟩ | exact ⟨by rw [cutP_die hdd hin har], fv, lv, by rw [cutP_die hdd hin har]; exact hR.put (ar := s.ar) (dd := true)⟩ | exact ⟨by rw [cutP_ok hdd hin har], _, nilV, by rw [Hp.set_set, cutP_ok hdd hin har]; exact hR2⟩
  try simp only [eb10, eb13, decide_eq_true_eq, decide_eq_false_iff_not, Bool.or_eq_true, Bool.and_eq_true, Bool.or_eq_false_iff, Bool.and_eq_false_imp, Bool.not_eq_true', Bool.not_eq_false', ne_eq, Decidable.not_not, Int.not_lt, Int.not_le, Bool.not_eq_true, Bool.not_eq_false] at h1
  have hdd : s.dd = true := by split at h1 <;> simp_all
  refine AW.skip ?_
  refine SeqP.go ?_
  refine AW.seq ?_
  refine AW.seq ?_
  refine AW.region ?_
  refine OpsW.q rfl (q_move (v := .int _ _) rfl) ?_
  refine OpsW.q rfl (q_eql rfl rfl) ?_
  refine OpsW.nil ?_
  refine SeqP.go ?_
  refine AW.cond rfl (fun h2 => ?_) (fun h2 => ?_)
  ·
    exfalso
    try simp only [eb10, eb13, decide_eq_true_eq, decide_eq_false_iff_not, Bool.or_eq_true, Bool.and_eq_true, Bool.or_eq_false_iff, Bool.and_eq_false_imp, Bool.not_eq_true', Bool.not_eq_false', ne_eq, Decidable.not_not, Int.not_lt, Int.not_le, Bool.not_eq_true, Bool.not_eq_false] at h2
    simp_all
  try simp only [eb10, eb13, decide_eq_true_eq, decide_eq_false_iff_not, Bool.or_eq_true, Bool.and_eq_true, Bool.or_eq_false_iff, Bool.and_eq_false_imp, Bool.not_eq_true', Bool.not_eq_false', ne_eq, Decidable.not_not, Int.not_lt, Int.not_le, Bool.not_eq_true, Bool.not_eq_false] at h2
  refine AW.skip ?_
  refine SeqP.go ?_
  refine AW.seq ?_
  refine AW.region ?_
  refine OpsW.q rfl (q_move (v := .int _ _) rfl) ?_
  refine OpsW.q rfl (q_assign (v := .int _ _) rfl) ?_
  refine OpsW.nil ?_
  refine SeqP.go ?_
  refine AW.ret ?_
  refine RetP.mk1 (H' := _) (v1 := .int _ _) rfl rfl  (by exact (Hp.le_refl _)) ?_
  first | exact ⟨by rw [cutP_dead hdd, if_pos hdd], fv, lv, by rw [cutP_dead hdd]; exact hR⟩ | exact ⟨by rw [cutP_bad hdd hbad], fv, lv, by rw [cutP_bad hdd hbad]; exact hR⟩ | exact ⟨by rw [cutP_die hdd hin har], fv, lv, by rw [cutP_die hdd hin har]; exact hR.put (ar := s.ar) (dd := true)⟩ | exact ⟨by rw [cutP_ok hdd hin har], _, nilV, by rw [Hp.set_set, cutP_ok hdd hin har]; exact hR2⟩
theorem Crash_con (hR : TapeAt H0 H b s fv lv) (hok : TapeOk s) (x : Int) (sp : Bool) : Con Try.prog w0 22 #[.pointer (some ⟨b, 0, none⟩), .int .i64 x, .bool sp] H (fun v H' => v = .tuple #[] ∧ TapeR H0 H' b (crashP s x sp)) := by
  obtain ⟨ho1, ho2, ho3, ho4⟩ := hok
  have hT := hR.at'
  refine Con.intro Try.func22 rfl rfl ?_
  refine AW.seq ?_
  refine AW.seq ?_
  refine AW.region ?_
  refine OpsW.q rfl (q_move (v := .pointer _) rfl) ?_
  refine OpsW.q rfl (q_eqlP Try.underlying32 rfl rfl) ?_
  refine OpsW.nil ?_
  refine SeqP.go ?_
  refine AW.cond rfl (fun h0 => ?_) (fun h0 => ?_)
  ·
    exfalso
    try simp only [decide_eq_true_eq, decide_eq_false_iff_not, Bool.or_eq_true, Bool.and_eq_true, Bool.or_eq_false_iff, Bool.and_eq_false_imp, Bool.not_eq_true', Bool.not_eq_false', ne_eq, Decidable.not_not, Int.not_lt, Int.not_le, Bool.not_eq_true, Bool.not_eq_false] at h0
    cases h0
  try simp only [decide_eq_true_eq, decide_eq_false_iff_not, Bool.or_eq_true, Bool.and_eq_true, Bool.or_eq_false_iff, Bool.and_eq_false_imp, Bool.not_eq_true', Bool.not_eq_false', ne_eq, Decidable.not_not, Int.not_lt, Int.not_le, Bool.not_eq_true, Bool.not_eq_false] at h0
  refine AW.skip ?_
  refine SeqP.go ?_
  refine AW.seq ?_
  refine AW.drawK [] 12 rfl (by kernel_rfl) ?_
  refine SeqK.q rfl (q_move (v := .pointer _) rfl) ?_
  refine SeqK.q rfl (q_nilCheck rfl) ?_
  refine SeqK.q rfl (q_fieldAddr (sz := 0) Try.underlying83 rfl (by kernel_rfl) rfl) ?_
  refine SeqK.q rfl (q_load (v := lv) (by kernel_rfl) rfl (by exact (by assumption)) rfl) ?_
  refine SeqK.q rfl (q_move (v := .int _ _) rfl) ?_
  refine SeqK.q rfl (q_move (v := .pointer _) rfl) ?_
  refine SeqK.q rfl (q_nilCheck rfl) ?_
  refine SeqK.q rfl (q_fieldAddr (sz := 0) Try.underlying83 rfl (by kernel_rfl) rfl) ?_
  refine SeqK.q rfl (q_load (v := lv) (by kernel_rfl) rfl (by exact (by assumption)) rfl) ?_
  refine SeqK.q rfl (q_lenVec Try.underlying72 rfl hR.vl) ?_
  refine SeqK.q rfl (q_min rfl rfl) ?_
  refine SeqK.q rfl (q_max rfl rfl) ?_
  obtain ⟨k, hk, hk1⟩ : ∃ k : Nat, max 0 (min x (s.l.length : Int)) = (k : Int) ∧ k ≤ s.l.length := ⟨(max 0 (min x (s.l.length : Int))).toNat, by omega, by omega⟩
  have hcr : crashP s x sp = { s with f := s.f ++ (if sp = true then spoilP (s.l.take k) else s.l.take k), l := [], dd := false, ar := 0 } := by unfold crashP; rw [hk, Int.toNat_natCast]
  rw [hk]
  have hlk : (s.l.take k).length = k := by rw [List.length_take]; omega
  have hVk : Vec H 5 1 (takeV lv k) k (nums .u8 (ofB (s.l.take k))) := by have := hR.vl.take hk1; rw [Nat.mul_one, nums_take] at this; simpa [ofB, List.map_take] using this
  refine SeqK.done ?_
  refine OpsW.q rfl (q_sliceVec_hi Try.underlying72 (by kernel_rfl) rfl hR.vl rfl (by omega) (by omega)) ?_
  rw [Int.toNat_natCast]
  refine OpsW.q rfl (q_assign (v := takeV lv k) rfl) ?_
  refine OpsW.nil ?_
  refine SeqP.go ?_
  refine AW.seq ?_
  refine AW.seq ?_
  refine AW.region ?_
  refine OpsW.q rfl (q_move (v := takeV lv k) rfl) ?_
  refine OpsW.q rfl (q_lenVec Try.underlying72 rfl hVk) ?_
  refine OpsW.q rfl (q_assign (v := .int _ _) rfl) ?_
  refine OpsW.nil ?_
  refine SeqP.go ?_
  refine AW.seq ?_
  refine AW.region ?_
  refine OpsW.q rfl (q_move (v := .bool _) rfl) ?_
  refine OpsW.qb rfl (q_move (v := .bool _) rfl) ?_
  intro b26 eb26
  refine OpsW.g rfl rfl rfl (fun hB => by simp only [Bool.and_eq_true, beq_iff_eq] at hB; obtain rfl := hB; exact (q_move (v := .int _ _) rfl)) ?_
  refine OpsW.g rfl rfl rfl (fun hB => by simp only [Bool.and_eq_true, beq_iff_eq] at hB; obtain rfl := hB; exact (q_gtr rfl rfl)) ?_
  refine OpsW.q rfl (q_and2 rfl rfl rfl) ?_
  refine OpsW.nil ?_
  refine SeqP.go ?_
  refine AW.cond rfl (fun h1 => ?_) (fun h1 => ?_)
  ·
    try simp only [eb26, decide_eq_true_eq, decide_eq_false_iff_not, Bool.or_eq_true, Bool.and_eq_true, Bool.or_eq_false_iff, Bool.and_eq_false_imp, Bool.not_eq_true', Bool.not_eq_false', ne_eq, Decidable.not_not, Int.not_lt, Int.not_le, Bool.not_eq_true, Bool.not_eq_false] at h1
    obtain ⟨hsp, hk0⟩ : sp = true ∧ 0 < k := by simp_all <;> omega
    obtain ⟨bk, ck, qk, hvk, hbk, hqe, hqt, hqn, hqc, hqs, hqm⟩ := hVk.resolve_left (fun h => by have := h.2.1; omega)
    have hVk2 := hVk
    rw [hvk] at hVk2 ⊢
    have hbkl : vblock lv = some bk := by rw [← takeV_block lv k, hvk]; rfl
    have hql : k ≤ qk.cells.length := by have := congrArg List.length hqt; simp [nums_length, ofB_length, hlk] at this; omega
    obtain ⟨kp, hkp⟩ : ∃ kp, kp = spoilP (s.l.take k) := ⟨_, rfl⟩
    have hcr2 : crashP s x sp = { s with f := s.f ++ kp, l := [], dd := false, ar := 0 } := by rw [hcr, if_pos hsp, hkp]
    refine AW.region ?_
    refine OpsW.q rfl (q_move (v := .slice (some ⟨bk, 0, none⟩) k ck) rfl) ?_
    refine OpsW.q rfl (q_move (v := .int _ _) rfl) ?_
    refine OpsW.q rfl (q_subI rfl rfl (by omega)) ?_
    rw [show ((k : Int) - 1) = ((k - 1 : Nat) : Int) from by omega]
    refine OpsW.q rfl (q_indexAddrV0 Try.underlying72 (by kernel_rfl) rfl rfl (by omega) (by omega)) ?_
    rw [Int.toNat_natCast]
    refine OpsW.q rfl (q_load (v := .int .u8 ((ofB (s.l.take k)).getD (k - 1) 0)) (by kernel_rfl) rfl hbk (cell_of hqt (by rw [ofB_length, hlk]; omega) (by omega))) ?_
    rw [ofB_getD]
    refine OpsW.q rfl (q_xor rfl rfl) ?_
    refine OpsW.q rfl (q_indexAddrV0 Try.underlying72 (by kernel_rfl) rfl rfl (by omega) (by omega)) ?_
    rw [Int.toNat_natCast]
    refine OpsW.s (o_store (v := .int .u8 (ixor .u8 (bt (s.l.take k) (k - 1)) 255)) (by kernel_rfl) rfl rfl rfl hbk (by omega)) ?_
    have hF2 : TapeF H0 (H.set bk { qk with cells := qk.cells.set (k - 1) (.int .u8 (ixor .u8 (bt (s.l.take k) (k - 1)) 255)) }) b s fv lv := hR.toF.other (hR.nl bk hbkl) (fun e => hR.bl (e ▸ hbkl)) (fun e => hR.fl bk e hbkl)
    have hF2T := hF2.at'
    have hV2 := hVk2.put hbk (j := k - 1) (x := .int .u8 (ixor .u8 (bt (s.l.take k) (k - 1)) 255)) (by omega)
    have hss := spoil_set (l := s.l.take k) (by omega)
    rw [hlk] at hss
    rw [nums_set, hss, ← hkp] at hV2
    have hkl : kp.length = k := by have := congrArg List.length hss; simp [ofB_length, hlk] at this; rw [hkp]; omega
    refine OpsW.nil ?_
    refine SeqP.go ?_
    refine AW.seq ?_
    refine AW.region ?_
    refine OpsW.q rfl (q_move (v := .pointer _) rfl) ?_
    refine OpsW.q rfl (q_move (v := .pointer _) rfl) ?_
    refine OpsW.q rfl (q_move (v := .pointer _) rfl) ?_
    refine OpsW.q rfl (q_nilCheck rfl) ?_
    refine OpsW.q rfl (q_fieldAddr (sz := 0) Try.underlying83 rfl (by kernel_rfl) rfl) ?_
    refine OpsW.q rfl (q_load (v := fv) (by kernel_rfl) rfl (by exact (by assumption)) rfl) ?_
    refine OpsW.q rfl (q_move (v := .slice (some ⟨bk, 0, none⟩) k ck) rfl) ?_
    refine OpsW.m rfl (o_append (sz := 1) (by_ := 1) (z := .int .u8 0) Try.underlying72 (by kernel_rfl) (by kernel_rfl) (by kernel_rfl) rfl (by kernel_rfl) rfl rfl hF2.vf (src_vec hV2 (nums_one _ _)) (by unfold maxLen; omega) (by omega)) ?_
    rintro v44 H44 hA44
    have hT44 := hA44.keep hF2.bf hF2.at'
    have hR2 := hF2.grew (f := s.f ++ kp) (hA44.cast rfl (by rw [← nums_append, ← ofB_append])) (by simp [hkl])
    refine OpsW.q rfl (q_nilCheck rfl) ?_
    refine OpsW.q rfl (q_fieldAddr (sz := 0) Try.underlying83 rfl (by kernel_rfl) rfl) ?_
    refine OpsW.s (o_store (v := v44) (by kernel_rfl) rfl rfl hA44.vec.one (by exact (by assumption)) (by simp; done)) ?_
    refine OpsW.q rfl (q_nilCheck rfl) ?_
    refine OpsW.q rfl (q_fieldAddr (sz := 0) Try.underlying83 rfl (by kernel_rfl) rfl) ?_
    refine OpsW.s (o_store (v := nilV) (by kernel_rfl) rfl rfl rfl (by exact Hp.set_self) (by simp; done)) ?_
    refine OpsW.nil ?_
    refine SeqP.go ?_
    refine AW.region ?_
    refine OpsW.q rfl (q_move (v := .pointer _) rfl) ?_
    refine OpsW.q rfl (q_move (v := .pointer _) rfl) ?_
    refine OpsW.q rfl (q_nilCheck rfl) ?_
    refine OpsW.q rfl (q_fieldAddr (sz := 0) Try.underlying83 rfl (by kernel_rfl) rfl) ?_
    refine OpsW.s (o_store (v := .bool _) (by kernel_rfl) rfl rfl rfl (by exact Hp.set_self) (by simp; done)) ?_
    refine OpsW.q rfl (q_nilCheck rfl) ?_
    refine OpsW.q rfl (q_fieldAddr (sz := 0) Try.underlying83 rfl (by kernel_rfl) rfl) ?_
    refine OpsW.s (o_store (v := .int _ _) (by kernel_rfl) rfl rfl rfl (by exact Hp.set_self) (by simp; done)) ?_
    refine OpsW.nil ?_
    refine RetP.end0 (H' := _) rfl (by exact (Hp.le_refl _)) ?_
    refine ⟨rfl, v44, nilV, ?_⟩
    have hp := hR2.put (ar := 0) (dd := false)
    simp only [Hp.set_set] at hp ⊢
    rw [hcr2]
    exact hp
  try simp only [eb26, decide_eq_true_eq, decide_eq_false_iff_not, Bool.or_eq_true, Bool.and_eq_true, Bool.or_eq_false_iff, Bool.and_eq_false_imp, Bool.not_eq_true', Bool.not_eq_false', ne_eq, Decidable.not_not, Int.not_lt, Int.not_le, Bool.not_eq_true, Bool.not_eq_false] at h1
  have hkp0 : (if sp = true then spoilP (s.l.take k) else s.l.take k) = s.l.take k := by by_cases hz : k = 0; (subst hz; simp [spoilP]); (have : sp = false := by cases sp <;> simp_all <;> omega); simp [this]
  obtain ⟨kp, hkp⟩ : ∃ kp, kp = s.l.take k := ⟨_, rfl⟩
  have hcr2 : crashP s x sp = { s with f := s.f ++ kp, l := [], dd := false, ar := 0 } := by rw [hcr, hkp0, hkp]
  have hF2 := hR.toF
  have hF2T := hF2.at'
  have hV2 := hVk
  rw [← hkp] at hV2
  have hkl : kp.length = k := by rw [hkp]; exact hlk
  refine AW.skip ?_
  refine SeqP.go ?_
  refine AW.seq ?_
  refine AW.region ?_
  refine OpsW.q rfl (q_move (v := .pointer _) rfl) ?_
  refine OpsW.q rfl (q_move (v := .pointer _) rfl) ?_
  refine OpsW.q rfl (q_move (v := .pointer _) rfl) ?_
  refine OpsW.q rfl (q_nilCheck rfl) ?_
  refine OpsW.q rfl (q_fieldAddr (sz := 0) Try.underlying83 rfl (by kernel_rfl) rfl) ?_
  refine OpsW.q rfl (q_load (v := fv) (by kernel_rfl) rfl (by exact (by assumption)) rfl) ?_
  refine OpsW.q rfl (q_move (v := takeV lv k) rfl) ?_
  refine OpsW.m rfl (o_append (sz := 1) (by_ := 1) (z := .int .u8 0) Try.underlying72 (by kernel_rfl) (by kernel_rfl) (by kernel_rfl) rfl (by kernel_rfl) rfl rfl hF2.vf (src_vec hV2 (nums_one _ _)) (by unfold maxLen; omega) (by omega)) ?_
  rintro v44 H44 hA44
  have hT44 := hA44.keep hF2.bf hF2.at'
  have hR2 := hF2.grew (f := s.f ++ kp) (hA44.cast rfl (by rw [← nums_append, ← ofB_append])) (by simp [hkl])
  refine OpsW.q rfl (q_nilCheck rfl) ?_
  refine OpsW.q rfl (q_fieldAddr (sz := 0) Try.underlying83 rfl (by kernel_rfl) rfl) ?_
  refine OpsW.s (o_store (v := v44) (by kernel_rfl) rfl rfl hA44.vec.one (by exact (by assumption)) (by simp; done)) ?_
  refine OpsW.q rfl (q_nilCheck rfl) ?_
  refine OpsW.q rfl (q_fieldAddr (sz := 0) Try.underlying83 rfl (by kernel_rfl) rfl) ?_
  refine OpsW.s (o_store (v := nilV) (by kernel_rfl) rfl rfl rfl (by exact Hp.set_self) (by simp; done)) ?_
  refine OpsW.nil ?_
  refine SeqP.go ?_
  refine AW.region ?_
  refine OpsW.q rfl (q_move (v := .pointer _) rfl) ?_
  refine OpsW.q rfl (q_move (v := .pointer _) rfl) ?_
  refine OpsW.q rfl (q_nilCheck rfl) ?_
  refine OpsW.q rfl (q_fieldAddr (sz := 0) Try.underlying83 rfl (by kernel_rfl) rfl) ?_
  refine OpsW.s (o_store (v := .bool _) (by kernel_rfl) rfl rfl rfl (by exact Hp.set_self) (by simp; done)) ?_
  refine OpsW.q rfl (q_nilCheck rfl) ?_
  refine OpsW.q rfl (q_fieldAddr (sz := 0) Try.underlying83 rfl (by kernel_rfl) rfl) ?_
  refine OpsW.s (o_store (v := .int _ _) (by kernel_rfl) rfl rfl rfl (by exact Hp.set_self) (by simp; done)) ?_
  refine OpsW.nil ?_
  refine RetP.end0 (H' := _) rfl (by exact (Hp.le_refl _)) ?_
  refine ⟨rfl, v44, nilV, ?_⟩
  have hp := hR2.put (ar := 0) (dd := false)
  simp only [Hp.set_set] at hp ⊢
  rw [hcr2]
  exact hp
end
end Go.Proofs.Ytfiojlmccflplaa
end
section
namespace Go.Proofs.Ytfiojlmccflplaa
open Go Go.RowKit D
set_option linter.unusedVariables false
set_option linter.unusedSimpArgs false
structure RefS where
  t : List UInt8
  firm : Int
  lim : Int
  ar : Int
  dd : Bool
def rcells (r : RefS) : List Value := [S r.t, .int .i64 r.firm, .int .i64 r.lim, .int .i64 r.ar, .bool r.dd]
abbrev rblk (r : RefS) : Blk := ⟨rcells r, 5, 90⟩
@[simp] theorem rcells_length (r : RefS) : (rcells r).length = 5 := rfl
def actR (r : RefS) : RefS := if 0 < r.ar then { r with ar := r.ar - 1, dd := decide (r.ar - 1 = 0) } else r
theorem actR_pos {r : RefS} (h : 0 < r.ar) : actR r = { r with ar := r.ar - 1, dd := decide (r.ar - 1 = 0) } := if_pos h
theorem actR_zero {r : RefS} (h : r.ar ≤ 0) : actR r = r := if_neg (by omega)
theorem actR_same (r : RefS) : (actR r).t = r.t ∧ (actR r).firm = r.firm ∧ (actR r).lim = r.lim := by unfold actR; split <;> exact ⟨rfl, rfl, rfl⟩
def appendR (r : RefS) (d : List UInt8) : Int × RefS :=
  if r.dd = true then (41, r) else if r.lim < (r.t.length : Int) + (d.length : Int) then (40, r) else (if (actR { r with t := r.t ++ d }).dd = true then 41 else 0, actR { r with t := r.t ++ d })
def syncR (r : RefS) : Int × RefS := if r.dd = true then (41, r) else if (actR r).dd = true then (41, actR r) else (0, { actR r with firm := (r.t.length : Int) })
def cutR (r : RefS) (n : Int) : Int × RefS :=
  if r.dd = true then (41, r) else if n < 0 ∨ (r.t.length : Int) < n then (1, r) else if (actR r).dd = true then (41, actR r) else (0, { actR r with t := r.t.take n.toNat, firm := n })
theorem syncR_dead {r : RefS} (h : r.dd = true) : syncR r = (41, r) := if_pos h
theorem syncR_die {r : RefS} (h : r.dd = false) (h1 : (actR r).dd = true) : syncR r = (41, actR r) := by unfold syncR; rw [if_neg (by simp [h]), if_pos h1]
theorem syncR_ok {r : RefS} (h : r.dd = false) (h1 : (actR r).dd = false) : syncR r = (0, { actR r with firm := ((actR r).t.length : Int) }) := by unfold syncR; rw [if_neg (by simp [h]), if_neg (by simp [h1]), (actR_same r).1]
theorem cutR_dead {r : RefS} {n : Int} (h : r.dd = true) : cutR r n = (41, r) := if_pos h
theorem cutR_bad {r : RefS} {n : Int} (h : r.dd = false) (h1 : n < 0 ∨ (r.t.length : Int) < n) : cutR r n = (1, r) := by unfold cutR; rw [if_neg (by simp [h]), if_pos h1]
theorem cutR_die {r : RefS} {n : Int} (h : r.dd = false) (h1 : 0 ≤ n ∧ n ≤ (r.t.length : Int)) (h2 : (actR r).dd = true) : cutR r n = (41, actR r) := by unfold cutR; rw [if_neg (by simp [h]), if_neg (by omega), if_pos h2]
theorem cutR_ok {r : RefS} {n : Int} (h : r.dd = false) (h1 : 0 ≤ n ∧ n ≤ (r.t.length : Int)) (h2 : (actR r).dd = false) : cutR r n = (0, { actR r with t := (actR r).t.take n.toNat, firm := n }) := by unfold cutR; rw [if_neg (by simp [h]), if_neg (by omega), if_neg (by simp [h2]), (actR_same r).1]
def readR (r : RefS) : List UInt8 × Int := if r.dd = true then ([], 41) else (r.t, 0)
def armR (r : RefS) (n : Int) : RefS := { r with ar := max n 0 }
def crashT (r : RefS) (keep : Int) (spoil : Bool) : List UInt8 :=
  if spoil = true ∧ 0 < max 0 (min keep ((r.t.length : Int) - r.firm)) then spoilP (r.t.take (r.firm + max 0 (min keep ((r.t.length : Int) - r.firm))).toNat) else r.t.take (r.firm + max 0 (min keep ((r.t.length : Int) - r.firm))).toNat
def crashR (r : RefS) (keep : Int) (spoil : Bool) : RefS := { r with t := crashT r keep spoil, firm := ((crashT r keep spoil).length : Int), dd := false, ar := 0 }
def RefOk (r : RefS) : Prop := 0 ≤ r.firm ∧ r.firm ≤ (r.t.length : Int) ∧ (r.t.length : Int) ≤ 16777216 ∧ r.ar ≤ 9223372036854775807
/-- The two say the same. -/
structure Sim (s : TapeS) (r : RefS) : Prop where
  t : r.t = s.f ++ s.l
  firm : r.firm = (s.f.length : Int)
  lim : r.lim = s.lim
  dd : r.dd = s.dd
  ar : s.dd = false → r.ar = s.ar
theorem Sim.ok {s : TapeS} {r : RefS} (h : Sim s r) (hs : TapeOk s) (hr : r.ar ≤ 9223372036854775807) : RefOk r := by
  obtain ⟨h1, h2, h3, h4⟩ := hs
  have := congrArg List.length h.t
  rw [List.length_append] at this
  refine ⟨?_, ?_, ?_, hr⟩
  · rw [h.firm]; omega
  · rw [h.firm]; omega
  · omega
end Go.Proofs.Ytfiojlmccflplaa
end
