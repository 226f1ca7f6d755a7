/-
  The proof's texts, joined, without what the statements do not reach: part 3 of 5. No condition.
-/
import Derived.WalkKit
import Derived.KernelRfl
import Derived.Lib.ConvBytes
import Derived.WalkSpells
import Derived.WalkLawsBesides
import Derived.ProofKit
import Derived.ChangeMaps5
import Derived.ChangeSlices
import Derived.Deep.Strs
import Derived.DataElems
import Derived.OpenShut
import Derived.Test.YtfiojlmccflplaaProg
import Derived.MapKept
import Derived.Laws.StructEq
import Derived.Test.YtfiojlmccflplaaLb
section
namespace Go.Proofs.Ytfiojlmccflplaa
open Go Go.RowKit D
set_option linter.unusedVariables false
set_option linter.unusedSimpArgs false
set_option maxRecDepth 100000
set_option maxHeartbeats 1000000
section
variable {w0 : World} {H H0 : Hp} {b : Nat} {s : TapeS} {fv lv : Value}
theorem wrong_con (hR : TapeAt H0 H b s fv lv) : Con Try.prog w0 48 #[.pointer (some ⟨b, 0, none⟩)] H (fun v H' => v = .int .i64 (if s.dd = true then 41 else 0) ∧ H' = H) := by
  have hT := hR.at'
  refine Con.intro Try.func48 rfl rfl ?_
  refine AW.seq ?_
  refine AW.region ?_
  refine OpsW.q rfl (q_assign (v := .int _ _) rfl) ?_
  refine OpsW.nil ?_
  refine SeqP.go ?_
  refine AW.seq ?_
  refine AW.block ?_
  refine AW.seq ?_
  refine AW.region ?_
  refine OpsW.q rfl (q_move (v := .pointer _) rfl) ?_
  refine OpsW.q rfl (q_eqlP Try.underlying32 rfl rfl) ?_
  refine OpsW.q rfl (q_assign (v := .bool _) rfl) ?_
  refine OpsW.nil ?_
  refine SeqP.go ?_
  refine AW.cond rfl (fun h0 => ?_) (fun h0 => ?_)
  ·
    exfalso
    try simp only [decide_eq_true_eq, decide_eq_false_iff_not, Bool.or_eq_true, Bool.and_eq_true, Bool.or_eq_false_iff, Bool.and_eq_false_imp, Bool.not_eq_true', Bool.not_eq_false', ne_eq, Decidable.not_not, Int.not_lt, Int.not_le, Bool.not_eq_true, Bool.not_eq_false] at h0
    cases h0
  try simp only [decide_eq_true_eq, decide_eq_false_iff_not, Bool.or_eq_true, Bool.and_eq_true, Bool.or_eq_false_iff, Bool.and_eq_false_imp, Bool.not_eq_true', Bool.not_eq_false', ne_eq, Decidable.not_not, Int.not_lt, Int.not_le, Bool.not_eq_true, Bool.not_eq_false] at h0
  refine AW.seq ?_
  refine AW.region ?_
  refine OpsW.q rfl (q_move (v := .pointer _) rfl) ?_
  refine OpsW.q rfl (q_nilCheck rfl) ?_
  refine OpsW.q rfl (q_fieldAddr (sz := 0) Try.underlying83 rfl (by kernel_rfl) rfl) ?_
  refine OpsW.q rfl (q_load (v := .bool _) (by kernel_rfl) rfl (by exact (by assumption)) rfl) ?_
  refine OpsW.q rfl (q_assign (v := .bool _) rfl) ?_
  refine OpsW.nil ?_
  refine SeqP.go ?_
  refine AW.cond rfl (fun h1 => ?_) (fun h1 => ?_)
  ·
    try simp only [decide_eq_true_eq, decide_eq_false_iff_not, Bool.or_eq_true, Bool.and_eq_true, Bool.or_eq_false_iff, Bool.and_eq_false_imp, Bool.not_eq_true', Bool.not_eq_false', ne_eq, Decidable.not_not, Int.not_lt, Int.not_le, Bool.not_eq_true, Bool.not_eq_false] at h1
    refine AW.seq ?_
    refine AW.region ?_
    refine OpsW.q rfl (q_assign (v := .int _ _) rfl) ?_
    refine OpsW.nil ?_
    refine SeqP.go ?_
    refine AW.ret ?_
    refine BlockP.ret ?_
    refine SeqP.ret ?_
    refine RetP.mk1 (H' := H) (v1 := .int _ _) rfl rfl  (by exact (Hp.le_refl _)) ?_
    exact ⟨by simp [h1], rfl⟩
  try simp only [decide_eq_true_eq, decide_eq_false_iff_not, Bool.or_eq_true, Bool.and_eq_true, Bool.or_eq_false_iff, Bool.and_eq_false_imp, Bool.not_eq_true', Bool.not_eq_false', ne_eq, Decidable.not_not, Int.not_lt, Int.not_le, Bool.not_eq_true, Bool.not_eq_false] at h1
  refine AW.skip ?_
  refine BlockP.go ?_
  refine SeqP.go ?_
  refine AW.seq ?_
  refine AW.region ?_
  refine OpsW.q rfl (q_assign (v := .int _ _) rfl) ?_
  refine OpsW.nil ?_
  refine SeqP.go ?_
  refine AW.ret ?_
  refine RetP.mk1 (H' := H) (v1 := .int _ _) rfl rfl  (by exact (Hp.le_refl _)) ?_
  exact ⟨by simp [h1], rfl⟩
theorem act_con (hR : TapeAt H0 H b s fv lv) (ho3 : 0 ≤ s.ar) (ho4 : s.ar ≤ 9223372036854775807) : Con Try.prog w0 53 #[.pointer (some ⟨b, 0, none⟩)] H (fun v H' => v = .int .i64 (actP s).1 ∧ H' = H.set b (tblk (actP s).2 fv lv)) := by
  have hT := hR.at'
  refine Con.intro Try.func53 rfl rfl ?_
  refine AW.seq ?_
  refine AW.region ?_
  refine OpsW.q rfl (q_assign (v := .int _ _) rfl) ?_
  refine OpsW.nil ?_
  refine SeqP.go ?_
  refine AW.seq ?_
  refine AW.seq ?_
  refine AW.region ?_
  refine OpsW.q rfl (q_move (v := .pointer _) rfl) ?_
  refine OpsW.q rfl (q_nilCheck rfl) ?_
  refine OpsW.q rfl (q_fieldAddr (sz := 0) Try.underlying83 rfl (by kernel_rfl) rfl) ?_
  refine OpsW.q rfl (q_load (v := .int _ _) (by kernel_rfl) rfl (by exact (by assumption)) rfl) ?_
  refine OpsW.q rfl (q_eql rfl rfl) ?_
  refine OpsW.nil ?_
  refine SeqP.go ?_
  refine AW.cond rfl (fun h0 => ?_) (fun h0 => ?_)
  ·
    try simp only [decide_eq_true_eq, decide_eq_false_iff_not, Bool.or_eq_true, Bool.and_eq_true, Bool.or_eq_false_iff, Bool.and_eq_false_imp, Bool.not_eq_true', Bool.not_eq_false', ne_eq, Decidable.not_not, Int.not_lt, Int.not_le, Bool.not_eq_true, Bool.not_eq_false] at h0
    refine AW.seq ?_
    refine AW.region ?_
    refine OpsW.q rfl (q_move (v := .pointer _) rfl) ?_
    refine OpsW.q rfl (q_nilCheck rfl) ?_
    refine OpsW.q rfl (q_fieldAddr (sz := 0) Try.underlying83 rfl (by kernel_rfl) rfl) ?_
    refine OpsW.s (o_store (v := .bool _) (by kernel_rfl) rfl rfl rfl (by exact (by assumption)) (by simp; done)) ?_
    refine OpsW.nil ?_
    refine SeqP.go ?_
    refine AW.seq ?_
    refine AW.region ?_
    refine OpsW.q rfl (q_assign (v := .int _ _) rfl) ?_
    refine OpsW.nil ?_
    refine SeqP.go ?_
    refine AW.ret ?_
    refine SeqP.ret ?_
    refine RetP.mk1 (H' := _) (v1 := .int _ _) rfl rfl  (by exact (Hp.le_refl _)) ?_
    first | exact ⟨by rw [actP_die h0], by rw [actP_die h0] <;> rfl⟩ | exact ⟨by rw [actP_go h0], by rw [actP_go h0] <;> rfl⟩
  try simp only [decide_eq_true_eq, decide_eq_false_iff_not, Bool.or_eq_true, Bool.and_eq_true, Bool.or_eq_false_iff, Bool.and_eq_false_imp, Bool.not_eq_true', Bool.not_eq_false', ne_eq, Decidable.not_not, Int.not_lt, Int.not_le, Bool.not_eq_true, Bool.not_eq_false] at h0
  refine AW.skip ?_
  refine SeqP.go ?_
  refine AW.seq ?_
  refine AW.region ?_
  refine OpsW.q rfl (q_move (v := .pointer _) rfl) ?_
  refine OpsW.q rfl (q_move (v := .pointer _) rfl) ?_
  refine OpsW.q rfl (q_nilCheck rfl) ?_
  refine OpsW.q rfl (q_fieldAddr (sz := 0) Try.underlying83 rfl (by kernel_rfl) rfl) ?_
  refine OpsW.q rfl (q_load (v := .int _ _) (by kernel_rfl) rfl (by exact (by assumption)) rfl) ?_
  refine OpsW.q rfl (q_subI rfl rfl (by omega)) ?_
  refine OpsW.q rfl (q_max rfl rfl) ?_
  refine OpsW.q rfl (q_nilCheck rfl) ?_
  refine OpsW.q rfl (q_fieldAddr (sz := 0) Try.underlying83 rfl (by kernel_rfl) rfl) ?_
  refine OpsW.s (o_store (v := .int _ _) (by kernel_rfl) rfl rfl rfl (by exact (by assumption)) (by simp; done)) ?_
  refine OpsW.nil ?_
  refine SeqP.go ?_
  refine AW.seq ?_
  refine AW.region ?_
  refine OpsW.q rfl (q_assign (v := .int _ _) rfl) ?_
  refine OpsW.nil ?_
  refine SeqP.go ?_
  refine AW.ret ?_
  refine RetP.mk1 (H' := _) (v1 := .int _ _) rfl rfl  (by exact (Hp.le_refl _)) ?_
  first | exact ⟨by rw [actP_die h0], by rw [actP_die h0] <;> rfl⟩ | exact ⟨by rw [actP_go h0], by rw [actP_go h0] <;> rfl⟩
theorem Append_con (hR : TapeAt H0 H b s fv lv) (hok : TapeOk s) (d : List UInt8) (hd : d.length ≤ 1073741824) : Con Try.prog w0 31 #[.pointer (some ⟨b, 0, none⟩), S d] H (fun v H' => v = .int .i64 (appendP s d).1 ∧ TapeR H0 H' b (appendP s d).2) := by
  obtain ⟨ho1, ho2, ho3, ho4⟩ := hok
  have hT := hR.at'
  refine Con.intro Try.func31 rfl rfl ?_
  refine AW.seq ?_
  refine AW.region ?_
  refine OpsW.q rfl (q_assign (v := .int _ _) rfl) ?_
  refine OpsW.nil ?_
  refine SeqP.go ?_
  refine AW.seq ?_
  refine AW.seq ?_
  refine AW.region ?_
  refine OpsW.q rfl (q_move (v := .pointer _) rfl) ?_
  refine OpsW.x rfl (o_call rfl Try.func48 rfl rfl (wrong_con hR)) ?_
  refine OpsW.q rfl (q_assign (v := .int _ _) rfl) ?_
  refine OpsW.nil ?_
  refine SeqP.go ?_
  refine AW.seq ?_
  refine AW.region ?_
  refine OpsW.q rfl (q_move (v := .int _ _) rfl) ?_
  refine OpsW.q rfl (q_neq rfl rfl) ?_
  refine OpsW.nil ?_
  refine SeqP.go ?_
  refine AW.cond rfl (fun h0 => ?_) (fun h0 => ?_)
  ·
    try simp only [decide_eq_true_eq, decide_eq_false_iff_not, Bool.or_eq_true, Bool.and_eq_true, Bool.or_eq_false_iff, Bool.and_eq_false_imp, Bool.not_eq_true', Bool.not_eq_false', ne_eq, Decidable.not_not, Int.not_lt, Int.not_le, Bool.not_eq_true, Bool.not_eq_false] at h0
    have hdd : s.dd = true := by split at h0 <;> simp_all
    refine AW.seq ?_
    refine AW.region ?_
    refine OpsW.q rfl (q_move (v := .int _ _) rfl) ?_
    refine OpsW.q rfl (q_assign (v := .int _ _) rfl) ?_
    refine OpsW.nil ?_
    refine SeqP.go ?_
    refine AW.ret ?_
    refine SeqP.ret ?_
    refine RetP.mk1 (H' := _) (v1 := .int _ _) rfl rfl  (by exact (Hp.le_refl _)) ?_
    first | exact ⟨by rw [appendP_dead hdd, if_pos hdd], fv, lv, by rw [appendP_dead hdd]; exact hR⟩ | exact ⟨by rw [appendP_full hdd (by omega)], fv, lv, by rw [appendP_full hdd (by omega)]; exact hR⟩ | exact ⟨by rw [appendP_ok hdd (by omega)], fv, _, by rw [appendP_ok hdd (by omega)]; exact actAt hR2⟩
  try simp only [decide_eq_true_eq, decide_eq_false_iff_not, Bool.or_eq_true, Bool.and_eq_true, Bool.or_eq_false_iff, Bool.and_eq_false_imp, Bool.not_eq_true', Bool.not_eq_false', ne_eq, Decidable.not_not, Int.not_lt, Int.not_le, Bool.not_eq_true, Bool.not_eq_false] at h0
  have hdd : s.dd = false := by split at h0 <;> simp_all
  refine AW.skip ?_
  refine SeqP.go ?_
  refine AW.seq ?_
  refine AW.seq ?_
  refine AW.drawK [] 18 rfl (by kernel_rfl) ?_
  refine SeqK.q rfl (q_move (v := .pointer _) rfl) ?_
  refine SeqK.q rfl (q_nilCheck rfl) ?_
  refine SeqK.q rfl (q_fieldAddr (sz := 0) Try.underlying83 rfl (by kernel_rfl) rfl) ?_
  refine SeqK.q rfl (q_load (v := fv) (by kernel_rfl) rfl (by exact (by assumption)) rfl) ?_
  refine SeqK.q rfl (q_lenVec Try.underlying72 rfl hR.vf) ?_
  refine SeqK.q rfl (q_move (v := .pointer _) rfl) ?_
  refine SeqK.q rfl (q_nilCheck rfl) ?_
  refine SeqK.q rfl (q_fieldAddr (sz := 0) Try.underlying83 rfl (by kernel_rfl) rfl) ?_
  refine SeqK.q rfl (q_load (v := lv) (by kernel_rfl) rfl (by exact (by assumption)) rfl) ?_
  refine SeqK.q rfl (q_lenVec Try.underlying72 rfl hR.vl) ?_
  refine SeqK.q rfl (q_addI rfl rfl (by omega)) ?_
  refine SeqK.q rfl (q_move (v := S _) rfl) ?_
  refine SeqK.q rfl (q_lenS Try.underlying9 rfl) ?_
  refine SeqK.q rfl (q_addI rfl rfl (by omega)) ?_
  refine SeqK.q rfl (q_move (v := .pointer _) rfl) ?_
  refine SeqK.q rfl (q_nilCheck rfl) ?_
  refine SeqK.q rfl (q_fieldAddr (sz := 0) Try.underlying83 rfl (by kernel_rfl) rfl) ?_
  refine SeqK.q rfl (q_load (v := .int _ _) (by kernel_rfl) rfl (by exact (by assumption)) rfl) ?_
  refine SeqK.done ?_
  refine OpsW.q rfl (q_gtr rfl rfl) ?_
  refine OpsW.nil ?_
  refine SeqP.go ?_
  refine AW.cond rfl (fun h1 => ?_) (fun h1 => ?_)
  ·
    try simp only [decide_eq_true_eq, decide_eq_false_iff_not, Bool.or_eq_true, Bool.and_eq_true, Bool.or_eq_false_iff, Bool.and_eq_false_imp, Bool.not_eq_true', Bool.not_eq_false', ne_eq, Decidable.not_not, Int.not_lt, Int.not_le, Bool.not_eq_true, Bool.not_eq_false] at h1
    refine AW.seq ?_
    refine AW.region ?_
    refine OpsW.q rfl (q_assign (v := .int _ _) rfl) ?_
    refine OpsW.nil ?_
    refine SeqP.go ?_
    refine AW.ret ?_
    refine SeqP.ret ?_
    refine RetP.mk1 (H' := _) (v1 := .int _ _) rfl rfl  (by exact (Hp.le_refl _)) ?_
    first | exact ⟨by rw [appendP_dead hdd, if_pos hdd], fv, lv, by rw [appendP_dead hdd]; exact hR⟩ | exact ⟨by rw [appendP_full hdd (by omega)], fv, lv, by rw [appendP_full hdd (by omega)]; exact hR⟩ | exact ⟨by rw [appendP_ok hdd (by omega)], fv, _, by rw [appendP_ok hdd (by omega)]; exact actAt hR2⟩
  try simp only [decide_eq_true_eq, decide_eq_false_iff_not, Bool.or_eq_true, Bool.and_eq_true, Bool.or_eq_false_iff, Bool.and_eq_false_imp, Bool.not_eq_true', Bool.not_eq_false', ne_eq, Decidable.not_not, Int.not_lt, Int.not_le, Bool.not_eq_true, Bool.not_eq_false] at h1
  refine AW.skip ?_
  refine SeqP.go ?_
  refine AW.seq ?_
  refine AW.region ?_
  refine OpsW.q rfl (q_move (v := .pointer _) rfl) ?_
  refine OpsW.q rfl (q_move (v := .pointer _) rfl) ?_
  refine OpsW.q rfl (q_nilCheck rfl) ?_
  refine OpsW.q rfl (q_fieldAddr (sz := 0) Try.underlying83 rfl (by kernel_rfl) rfl) ?_
  refine OpsW.q rfl (q_load (v := lv) (by kernel_rfl) rfl (by exact (by assumption)) rfl) ?_
  refine OpsW.q rfl (q_move (v := S _) rfl) ?_
  refine OpsW.m rfl (o_append (sz := 1) (by_ := 1) (z := .int .u8 0) Try.underlying72 (by kernel_rfl) (by kernel_rfl) (by kernel_rfl) rfl (by kernel_rfl) rfl rfl hR.vl src_str (by unfold maxLen; omega) (by omega)) ?_
  rintro v36 H36 hA36
  have hT36 : H36 b = some (tblk s fv lv) := hA36.keep hR.bl hR.at'
  have hR2 := hR.grewL (l := s.l ++ d) (hA36.cast rfl (by rw [← nums_append, ← ofB_append])) (by simp)
  refine OpsW.q rfl (q_nilCheck rfl) ?_
  refine OpsW.q rfl (q_fieldAddr (sz := 0) Try.underlying83 rfl (by kernel_rfl) rfl) ?_
  refine OpsW.s (o_store (v := v36) (by kernel_rfl) rfl rfl hA36.vec.one (by exact (by assumption)) (by simp; done)) ?_
  refine OpsW.nil ?_
  refine SeqP.go ?_
  refine AW.seq ?_
  refine AW.region ?_
  refine OpsW.q rfl (q_move (v := .pointer _) rfl) ?_
  refine OpsW.x rfl (o_call rfl Try.func53 rfl rfl (act_con hR2 ho3 ho4)) ?_
  refine OpsW.q rfl (q_assign (v := .int _ _) rfl) ?_
  refine OpsW.nil ?_
  refine SeqP.go ?_
  refine AW.ret ?_
  refine RetP.mk1 (H' := _) (v1 := .int _ _) rfl rfl  (by exact (Hp.le_refl _)) ?_
  first | exact ⟨by rw [appendP_dead hdd, if_pos hdd], fv, lv, by rw [appendP_dead hdd]; exact hR⟩ | exact ⟨by rw [appendP_full hdd (by omega)], fv, lv, by rw [appendP_full hdd (by omega)]; exact hR⟩ | exact ⟨by rw [appendP_ok hdd (by omega)], fv, _, by rw [appendP_ok hdd (by omega)]; exact actAt hR2⟩
theorem Read_con (hR : TapeAt H0 H b s fv lv) (hok : TapeOk s) : Con Try.prog w0 24 #[.pointer (some ⟨b, 0, none⟩)] H (fun v H' => v = .tuple #[S (readP s).1, .int .i64 (readP s).2] ∧ H' = H) := by
  obtain ⟨ho1, ho2, ho3, ho4⟩ := hok
  have hT := hR.at'
  refine Con.intro Try.func24 rfl rfl ?_
  refine AW.seq ?_
  refine AW.region ?_
  refine OpsW.q rfl (q_assign (v := S _) rfl) ?_
  refine OpsW.q rfl (q_assign (v := .int _ _) rfl) ?_
  refine OpsW.nil ?_
  refine SeqP.go ?_
  refine AW.seq ?_
  refine AW.seq ?_
  refine AW.region ?_
  refine OpsW.q rfl (q_move (v := .pointer _) rfl) ?_
  refine OpsW.x rfl (o_call rfl Try.func48 rfl rfl (wrong_con hR)) ?_
  refine OpsW.q rfl (q_assign (v := .int _ _) rfl) ?_
  refine OpsW.nil ?_
  refine SeqP.go ?_
  refine AW.seq ?_
  refine AW.region ?_
  refine OpsW.q rfl (q_move (v := .int _ _) rfl) ?_
  refine OpsW.q rfl (q_neq rfl rfl) ?_
  refine OpsW.nil ?_
  refine SeqP.go ?_
  refine AW.cond rfl (fun h0 => ?_) (fun h0 => ?_)
  ·
    try simp only [decide_eq_true_eq, decide_eq_false_iff_not, Bool.or_eq_true, Bool.and_eq_true, Bool.or_eq_false_iff, Bool.and_eq_false_imp, Bool.not_eq_true', Bool.not_eq_false', ne_eq, Decidable.not_not, Int.not_lt, Int.not_le, Bool.not_eq_true, Bool.not_eq_false] at h0
    have hdd : s.dd = true := by split at h0 <;> simp_all
    refine AW.seq ?_
    refine AW.region ?_
    refine OpsW.q rfl (q_move (v := .int _ _) rfl) ?_
    refine OpsW.q rfl (q_assign (v := S _) rfl) ?_
    refine OpsW.q rfl (q_assign (v := .int _ _) rfl) ?_
    refine OpsW.nil ?_
    refine SeqP.go ?_
    refine AW.ret ?_
    refine SeqP.ret ?_
    refine RetP.mk2 (H' := H) (v1 := S _) (v2 := .int _ _) rfl rfl rfl  (by exact (Hp.le_refl _)) ?_
    exact ⟨by unfold readP; simp [hdd], rfl⟩
  try simp only [decide_eq_true_eq, decide_eq_false_iff_not, Bool.or_eq_true, Bool.and_eq_true, Bool.or_eq_false_iff, Bool.and_eq_false_imp, Bool.not_eq_true', Bool.not_eq_false', ne_eq, Decidable.not_not, Int.not_lt, Int.not_le, Bool.not_eq_true, Bool.not_eq_false] at h0
  have hdd : s.dd = false := by split at h0 <;> simp_all
  refine AW.skip ?_
  refine SeqP.go ?_
  refine AW.seq ?_
  refine AW.drawK [] 10 rfl (by kernel_rfl) ?_
  refine SeqK.q rfl (q_move (v := .pointer _) rfl) ?_
  refine SeqK.q rfl (q_nilCheck rfl) ?_
  refine SeqK.q rfl (q_fieldAddr (sz := 0) Try.underlying83 rfl (by kernel_rfl) rfl) ?_
  refine SeqK.q rfl (q_load (v := fv) (by kernel_rfl) rfl (by exact (by assumption)) rfl) ?_
  refine SeqK.q rfl (q_stringV Try.underlying72 Try.underlying5 Try.underlying9 rfl hR.vf) ?_
  refine SeqK.q rfl (q_move (v := .pointer _) rfl) ?_
  refine SeqK.q rfl (q_nilCheck rfl) ?_
  refine SeqK.q rfl (q_fieldAddr (sz := 0) Try.underlying83 rfl (by kernel_rfl) rfl) ?_
  refine SeqK.q rfl (q_load (v := lv) (by kernel_rfl) rfl (by exact (by assumption)) rfl) ?_
  refine SeqK.q rfl (q_stringV Try.underlying72 Try.underlying5 Try.underlying9 rfl hR.vl) ?_
  rw [toB_ofB, toB_ofB]
  refine SeqK.done ?_
  refine OpsW.q rfl (q_cat rfl rfl (by omega)) ?_
  refine OpsW.q rfl (q_assign (v := S _) rfl) ?_
  refine OpsW.q rfl (q_assign (v := .int _ _) rfl) ?_
  refine OpsW.nil ?_
  refine SeqP.go ?_
  refine AW.ret ?_
  refine RetP.mk2 (H' := H) (v1 := S _) (v2 := .int _ _) rfl rfl rfl  (by exact (Hp.le_refl _)) ?_
  exact ⟨by unfold readP; simp [hdd], rfl⟩
theorem Arm_con (hR : TapeAt H0 H b s fv lv) (x : Int) : Con Try.prog w0 21 #[.pointer (some ⟨b, 0, none⟩), .int .i64 x] H (fun v H' => v = .tuple #[] ∧ H' = H.set b (tblk (armP s x) fv lv)) := by
  have hT := hR.at'
  refine Con.intro Try.func21 rfl rfl ?_
  refine AW.seq ?_
  refine AW.region ?_
  refine OpsW.q rfl (q_move (v := .pointer _) rfl) ?_
  refine OpsW.q rfl (q_neqP Try.underlying32 rfl rfl) ?_
  refine OpsW.nil ?_
  refine SeqP.go ?_
  refine AW.cond rfl (fun h0 => ?_) (fun h0 => ?_)
  ·
    try simp only [decide_eq_true_eq, decide_eq_false_iff_not, Bool.or_eq_true, Bool.and_eq_true, Bool.or_eq_false_iff, Bool.and_eq_false_imp, Bool.not_eq_true', Bool.not_eq_false', ne_eq, Decidable.not_not, Int.not_lt, Int.not_le, Bool.not_eq_true, Bool.not_eq_false] at h0
    refine AW.region ?_
    refine OpsW.q rfl (q_move (v := .pointer _) rfl) ?_
    refine OpsW.q rfl (q_move (v := .int _ _) rfl) ?_
    refine OpsW.q rfl (q_max rfl rfl) ?_
    refine OpsW.q rfl (q_nilCheck rfl) ?_
    refine OpsW.q rfl (q_fieldAddr (sz := 0) Try.underlying83 rfl (by kernel_rfl) rfl) ?_
    refine OpsW.s (o_store (v := .int _ _) (by kernel_rfl) rfl rfl rfl (by exact (by assumption)) (by simp; done)) ?_
    refine OpsW.nil ?_
    refine RetP.end0 (H' := _) rfl (by exact (Hp.le_refl _)) ?_
    exact ⟨rfl, rfl⟩
  exfalso
  try simp only [decide_eq_true_eq, decide_eq_false_iff_not, Bool.or_eq_true, Bool.and_eq_true, Bool.or_eq_false_iff, Bool.and_eq_false_imp, Bool.not_eq_true', Bool.not_eq_false', ne_eq, Decidable.not_not, Int.not_lt, Int.not_le, Bool.not_eq_true, Bool.not_eq_false] at h0
  cases h0
theorem Sync_con (hR : TapeAt H0 H b s fv lv) (hok : TapeOk s) : Con Try.prog w0 46 #[.pointer (some ⟨b, 0, none⟩)] H (fun v H' => v = .int .i64 (syncP s).1 ∧ TapeR H0 H' b (syncP s).2) := by
  obtain ⟨ho1, ho2, ho3, ho4⟩ := hok
  have hT := hR.at'
  refine Con.intro Try.func46 rfl rfl ?_
  refine AW.seq ?_
  refine AW.region ?_
  refine OpsW.q rfl (q_assign (v := .int _ _) rfl) ?_
  refine OpsW.nil ?_
  refine SeqP.go ?_
  refine AW.seq ?_
  refine AW.region ?_
  refine OpsW.q rfl (q_move (v := .pointer _) rfl) ?_
  refine OpsW.x rfl (o_call rfl Try.func48 rfl rfl (wrong_con hR)) ?_
  refine OpsW.q rfl (q_assign (v := .int _ _) rfl) ?_
  refine OpsW.nil ?_
  refine SeqP.go ?_
  refine AW.seq ?_
  refine AW.seq ?_
  refine AW.region ?_
  refine OpsW.q rfl (q_move (v := .int _ _) rfl) ?_
  refine OpsW.q rfl (q_eql rfl rfl) ?_
  refine OpsW.nil ?_
  refine SeqP.go ?_
  refine AW.cond rfl (fun h0 => ?_) (fun h0 => ?_)
  ·
    try simp only [decide_eq_true_eq, decide_eq_false_iff_not, Bool.or_eq_true, Bool.and_eq_true, Bool.or_eq_false_iff, Bool.and_eq_false_imp, Bool.not_eq_true', Bool.not_eq_false', ne_eq, Decidable.not_not, Int.not_lt, Int.not_le, Bool.not_eq_true, Bool.not_eq_false] at h0
    have hdd : s.dd = false := by split at h0 <;> simp_all
    refine AW.region ?_
    refine OpsW.q rfl (q_move (v := .pointer _) rfl) ?_
    refine OpsW.x rfl (o_call rfl Try.func53 rfl rfl (act_con hR ho3 ho4)) ?_
    refine OpsW.q rfl (q_assign (v := .int _ _) rfl) ?_
    refine OpsW.nil ?_
    refine SeqP.go ?_
    refine AW.seq ?_
    refine AW.seq ?_
    refine AW.region ?_
    refine OpsW.q rfl (q_move (v := .int _ _) rfl) ?_
    refine OpsW.q rfl (q_eql rfl rfl) ?_
    refine OpsW.nil ?_
    refine SeqP.go ?_
    refine AW.cond rfl (fun h1 => ?_) (fun h1 => ?_)
    ·
      try simp only [decide_eq_true_eq, decide_eq_false_iff_not, Bool.or_eq_true, Bool.and_eq_true, Bool.or_eq_false_iff, Bool.and_eq_false_imp, Bool.not_eq_true', Bool.not_eq_false', ne_eq, Decidable.not_not, Int.not_lt, Int.not_le, Bool.not_eq_true, Bool.not_eq_false] at h1
      have har : ¬ s.ar = 1 := fun h => by rw [actP_die h] at h1; cases h1
      rw [actP_go har]
      have hR1 := hR.put (ar := max 0 (s.ar - 1)) (dd := s.dd)
      have hT1 := hR1.at'
      refine AW.drawK [0, 1] 10 rfl (by kernel_rfl) ?_
      refine SeqK.q rfl (q_move (v := .pointer _) rfl) ?_
      refine SeqK.q rfl (q_move (v := .pointer _) rfl) ?_
      refine SeqK.q rfl (q_move (v := .pointer _) rfl) ?_
      refine SeqK.q rfl (q_nilCheck rfl) ?_
      refine SeqK.q rfl (q_fieldAddr (sz := 0) Try.underlying83 rfl (by kernel_rfl) rfl) ?_
      refine SeqK.q rfl (q_load (v := fv) (by kernel_rfl) rfl (by exact Hp.set_self) rfl) ?_
      refine SeqK.q rfl (q_move (v := .pointer _) rfl) ?_
      refine SeqK.q rfl (q_nilCheck rfl) ?_
      refine SeqK.q rfl (q_fieldAddr (sz := 0) Try.underlying83 rfl (by kernel_rfl) rfl) ?_
      refine SeqK.q rfl (q_load (v := lv) (by kernel_rfl) rfl (by exact Hp.set_self) rfl) ?_
      refine SeqK.done ?_
      refine OpsW.m rfl (o_append (sz := 1) (by_ := 1) (z := .int .u8 0) Try.underlying72 (by kernel_rfl) (by kernel_rfl) (by kernel_rfl) rfl (by kernel_rfl) rfl rfl hR1.vf (src_vec hR1.vl (nums_one _ _)) (by simp only [nums_length, List.length_set, List.length_replicate, List.length_take, List.length_drop, List.length_append, List.length_cons, List.length_nil, ofB_length, toB_length]; unfold maxLen; omega) (by simp only [nums_length, List.length_set, List.length_replicate, List.length_take, List.length_drop, List.length_append, List.length_cons, List.length_nil, ofB_length, toB_length]; omega)) ?_
      rintro v22 H22 hA22
      have hT22 := hA22.keep hR1.bf hR1.at'
      have hR2 := hR1.grewF0 (f := s.f ++ s.l) (hA22.cast rfl (by rw [← nums_append, ← ofB_append])) (by simp)
      refine OpsW.q rfl (q_nilCheck rfl) ?_
      refine OpsW.q rfl (q_fieldAddr (sz := 0) Try.underlying83 rfl (by kernel_rfl) rfl) ?_
      refine OpsW.s (o_store (v := v22) (by kernel_rfl) rfl rfl hA22.vec.one (by exact (by assumption)) (by simp; done)) ?_
      refine OpsW.q rfl (q_nilCheck rfl) ?_
      refine OpsW.q rfl (q_fieldAddr (sz := 0) Try.underlying83 rfl (by kernel_rfl) rfl) ?_
      refine OpsW.s (o_store (v := nilV) (by kernel_rfl) rfl rfl rfl (by exact Hp.set_self) (by simp; done)) ?_
      refine OpsW.nil ?_
      refine SeqP.go ?_
      refine AW.seq ?_
      refine AW.region ?_
      refine OpsW.q rfl (q_move (v := .int _ _) rfl) ?_
      refine OpsW.q rfl (q_assign (v := .int _ _) rfl) ?_
      refine OpsW.nil ?_
      refine SeqP.go ?_
      refine AW.ret ?_
      refine RetP.mk1 (H' := _) (v1 := .int _ _) rfl rfl  (by exact (Hp.le_refl _)) ?_
      first | exact ⟨by rw [syncP_dead hdd, if_pos hdd], fv, lv, by rw [syncP_dead hdd]; exact hR⟩ | exact ⟨by rw [syncP_die hdd har], fv, lv, by rw [syncP_die hdd har]; exact hR.put (ar := s.ar) (dd := true)⟩ | exact ⟨by rw [syncP_ok hdd har], v22, nilV, by rw [Hp.set_set, syncP_ok hdd har]; exact hR2⟩
    try simp only [decide_eq_true_eq, decide_eq_false_iff_not, Bool.or_eq_true, Bool.and_eq_true, Bool.or_eq_false_iff, Bool.and_eq_false_imp, Bool.not_eq_true', Bool.not_eq_false', ne_eq, Decidable.not_not, Int.not_lt, Int.not_le, Bool.not_eq_true, Bool.not_eq_false] at h1
    have har : s.ar = 1 := Classical.byContradiction fun h => by rw [actP_go h] at h1; exact h1 rfl
    rw [actP_die har]
    refine AW.skip ?_
    refine SeqP.go ?_
    refine AW.seq ?_
    refine AW.region ?_
    refine OpsW.q rfl (q_move (v := .int _ _) rfl) ?_
    refine OpsW.q rfl (q_assign (v := .int _ _) rfl) ?_
    refine OpsW.nil ?_
    refine SeqP.go ?_
    refine AW.ret ?_
    refine RetP.mk1 (H' := _) (v1 := .int _ _) rfl rfl  (by exact (Hp.le_refl _)) ?_
    first | exact ⟨by rw [syncP_dead hdd, if_pos hdd], fv, lv, by rw [syncP_dead hdd]; exact hR⟩ | exact ⟨by rw [syncP_die hdd har], fv, lv, by rw [syncP_die hdd har]; exact hR.put (ar := s.ar) (dd := true)⟩ | exact ⟨by rw [syncP_ok hdd har], v22, nilV, by rw [Hp.set_set, syncP_ok hdd har]; exact hR2⟩
  try simp only [decide_eq_true_eq, decide_eq_false_iff_not, Bool.or_eq_true, Bool.and_eq_true, Bool.or_eq_false_iff, Bool.and_eq_false_imp, Bool.not_eq_true', Bool.not_eq_false', ne_eq, Decidable.not_not, Int.not_lt, Int.not_le, Bool.not_eq_true, Bool.not_eq_false] at h0
  have hdd : s.dd = true := by split at h0 <;> simp_all
  refine AW.skip ?_
  refine SeqP.go ?_
  refine AW.seq ?_
  refine AW.seq ?_
  refine AW.region ?_
  refine OpsW.q rfl (q_move (v := .int _ _) rfl) ?_
  refine OpsW.q rfl (q_eql rfl rfl) ?_
  refine OpsW.nil ?_
  refine SeqP.go ?_
  refine AW.cond rfl (fun h1 => ?_) (fun h1 => ?_)
  ·
    exfalso
    try simp only [decide_eq_true_eq, decide_eq_false_iff_not, Bool.or_eq_true, Bool.and_eq_true, Bool.or_eq_false_iff, Bool.and_eq_false_imp, Bool.not_eq_true', Bool.not_eq_false', ne_eq, Decidable.not_not, Int.not_lt, Int.not_le, Bool.not_eq_true, Bool.not_eq_false] at h1
    simp_all
  try simp only [decide_eq_true_eq, decide_eq_false_iff_not, Bool.or_eq_true, Bool.and_eq_true, Bool.or_eq_false_iff, Bool.and_eq_false_imp, Bool.not_eq_true', Bool.not_eq_false', ne_eq, Decidable.not_not, Int.not_lt, Int.not_le, Bool.not_eq_true, Bool.not_eq_false] at h1
  refine AW.skip ?_
  refine SeqP.go ?_
  refine AW.seq ?_
  refine AW.region ?_
  refine OpsW.q rfl (q_move (v := .int _ _) rfl) ?_
  refine OpsW.q rfl (q_assign (v := .int _ _) rfl) ?_
  refine OpsW.nil ?_
  refine SeqP.go ?_
  refine AW.ret ?_
  refine RetP.mk1 (H' := _) (v1 := .int _ _) rfl rfl  (by exact (Hp.le_refl _)) ?_
  first | exact ⟨by rw [syncP_dead hdd, if_pos hdd], fv, lv, by rw [syncP_dead hdd]; exact hR⟩ | exact ⟨by rw [syncP_die hdd har], fv, lv, by rw [syncP_die hdd har]; exact hR.put (ar := s.ar) (dd := true)⟩ | exact ⟨by rw [syncP_ok hdd har], v22, nilV, by rw [Hp.set_set, syncP_ok hdd har]; exact hR2⟩
theorem Cut_con (hR : TapeAt H0 H b s fv lv) (hok : TapeOk s) (x : Int) : Con Try.prog w0 45 #[.pointer (some ⟨b, 0, none⟩), .int .i64 x] H (fun v H' => v = .int .i64 (cutP s x).1 ∧ TapeR H0 H' b (cutP s x).2) := by
  obtain ⟨ho1, ho2, ho3, ho4⟩ := hok
  have hT := hR.at'
  refine Con.intro Try.func45 rfl rfl ?_
  refine AW.seq ?_
  refine AW.region ?_
  refine OpsW.q rfl (q_assign (v := .int _ _) rfl) ?_
  refine OpsW.nil ?_
  refine SeqP.go ?_
  refine AW.seq ?_
  refine AW.region ?_
  refine OpsW.q rfl (q_move (v := .pointer _) rfl) ?_
  refine OpsW.x rfl (o_call rfl Try.func48 rfl rfl (wrong_con hR)) ?_
  refine OpsW.q rfl (q_assign (v := .int _ _) rfl) ?_
  refine OpsW.nil ?_
  refine SeqP.go ?_
  refine AW.seq ?_
  refine AW.seq ?_
  refine AW.drawK [] 18 rfl (by kernel_rfl) ?_
  refine SeqK.q rfl (q_move (v := .int _ _) rfl) ?_
  refine SeqK.q rfl (q_eql rfl rfl) ?_
  refine SeqK.qb rfl (q_move (v := .bool _) rfl) ?_
  intro b10 eb10
  refine SeqK.g rfl rfl rfl (fun hB => by simp only [Bool.and_eq_true, beq_iff_eq] at hB; obtain rfl := hB; exact (q_move (v := .int _ _) rfl)) ?_
  refine SeqK.g rfl rfl rfl (fun hB => by simp only [Bool.and_eq_true, beq_iff_eq] at hB; obtain rfl := hB; exact (q_lss rfl rfl)) ?_
  refine SeqK.gb rfl rfl rfl (fun hB => by simp only [Bool.and_eq_true, beq_iff_eq] at hB; obtain rfl := hB; exact (q_move (v := .bool _) rfl)) ?_
  intro b13 eb13
  refine SeqK.gg rfl rfl rfl (fun hB => by simp only [Bool.and_eq_true, beq_iff_eq] at hB; obtain ⟨rfl, rfl⟩ := hB; exact (q_move (v := .int _ _) rfl)) ?_
  refine SeqK.gg rfl rfl rfl (fun hB => by simp only [Bool.and_eq_true, beq_iff_eq] at hB; obtain ⟨rfl, rfl⟩ := hB; exact (q_move (v := .pointer _) rfl)) ?_
  refine SeqK.gg rfl rfl rfl (fun hB => by simp only [Bool.and_eq_true, beq_iff_eq] at hB; obtain ⟨rfl, rfl⟩ := hB; exact (q_nilCheck rfl)) ?_
  refine SeqK.gg rfl rfl rfl (fun hB => by simp only [Bool.and_eq_true, beq_iff_eq] at hB; obtain ⟨rfl, rfl⟩ := hB; exact (q_fieldAddr (sz := 0) Try.underlying83 rfl (by kernel_rfl) rfl)) ?_
  refine SeqK.gg rfl rfl rfl (fun hB => by simp only [Bool.and_eq_true, beq_iff_eq] at hB; obtain ⟨rfl, rfl⟩ := hB; exact (q_load (v := fv) (by kernel_rfl) rfl (by exact (by assumption)) rfl)) ?_
  refine SeqK.gg rfl rfl rfl (fun hB => by simp only [Bool.and_eq_true, beq_iff_eq] at hB; obtain ⟨rfl, rfl⟩ := hB; exact (q_lenVec Try.underlying72 rfl hR.vf)) ?_
  refine SeqK.gg rfl rfl rfl (fun hB => by simp only [Bool.and_eq_true, beq_iff_eq] at hB; obtain ⟨rfl, rfl⟩ := hB; exact (q_move (v := .pointer _) rfl)) ?_
  refine SeqK.gg rfl rfl rfl (fun hB => by simp only [Bool.and_eq_true, beq_iff_eq] at hB; obtain ⟨rfl, rfl⟩ := hB; exact (q_nilCheck rfl)) ?_
  refine SeqK.gg rfl rfl rfl (fun hB => by simp only [Bool.and_eq_true, beq_iff_eq] at hB; obtain ⟨rfl, rfl⟩ := hB; exact (q_fieldAddr (sz := 0) Try.underlying83 rfl (by kernel_rfl) rfl)) ?_
  refine SeqK.gg rfl rfl rfl (fun hB => by simp only [Bool.and_eq_true, beq_iff_eq] at hB; obtain ⟨rfl, rfl⟩ := hB; exact (q_load (v := lv) (by kernel_rfl) rfl (by exact (by assumption)) rfl)) ?_
  refine SeqK.gg rfl rfl rfl (fun hB => by simp only [Bool.and_eq_true, beq_iff_eq] at hB; obtain ⟨rfl, rfl⟩ := hB; exact (q_lenVec Try.underlying72 rfl hR.vl)) ?_
  refine SeqK.gg rfl rfl rfl (fun hB => by simp only [Bool.and_eq_true, beq_iff_eq] at hB; obtain ⟨rfl, rfl⟩ := hB; exact (q_addI rfl rfl (by omega))) ?_
  refine SeqK.done ?_
  refine OpsW.gg rfl rfl rfl (fun hB => by simp only [Bool.and_eq_true, beq_iff_eq] at hB; obtain ⟨rfl, rfl⟩ := hB; exact (q_gtr rfl rfl)) ?_
  refine OpsW.g rfl rfl rfl (fun hB => by simp only [Bool.and_eq_true, beq_iff_eq] at hB; obtain rfl := hB; exact (q_or2 rfl rfl rfl)) ?_
  refine OpsW.q rfl (q_and2 rfl rfl rfl) ?_
  refine OpsW.nil ?_
  refine SeqP.go ?_
  refine AW.cond rfl (fun h0 => ?_) (fun h0 => ?_)
  ·
    try simp only [eb10, eb13, decide_eq_true_eq, decide_eq_false_iff_not, Bool.or_eq_true, Bool.and_eq_true, Bool.or_eq_false_iff, Bool.and_eq_false_imp, Bool.not_eq_true', Bool.not_eq_false', ne_eq, Decidable.not_not, Int.not_lt, Int.not_le, Bool.not_eq_true, Bool.not_eq_false] at h0
    have hdd : s.dd = false := by cases hq : s.dd <;> simp_all
    have hbad : x < 0 ∨ ((s.f.length + s.l.length : Nat) : Int) < x := by simp_all <;> omega
    refine AW.region ?_
    refine OpsW.q rfl (q_assign (v := .int _ _) rfl) ?_
    refine OpsW.nil ?_
    refine SeqP.go ?_
    refine AW.seq ?_
    refine AW.seq ?_
    refine AW.region ?_
    refine OpsW.q rfl (q_move (v := .int _ _) rfl) ?_
    refine OpsW.q rfl (q_eql rfl rfl) ?_
    refine OpsW.nil ?_
    refine SeqP.go ?_
    refine AW.cond rfl (fun h1 => ?_) (fun h1 => ?_)
    ·
      exfalso
      try simp only [eb10, eb13, decide_eq_true_eq, decide_eq_false_iff_not, Bool.or_eq_true, Bool.and_eq_true, Bool.or_eq_false_iff, Bool.and_eq_false_imp, Bool.not_eq_true', Bool.not_eq_false', ne_eq, Decidable.not_not, Int.not_lt, Int.not_le, Bool.not_eq_true, Bool.not_eq_false] at h1
      cases h1
    try simp only [eb10, eb13, decide_eq_true_eq, decide_eq_false_iff_not, Bool.or_eq_true, Bool.and_eq_true, Bool.or_eq_false_iff, Bool.and_eq_false_imp, Bool.not_eq_true', Bool.not_eq_false', ne_eq, Decidable.not_not, Int.not_lt, Int.not_le, Bool.not_eq_true, Bool.not_eq_false] at h1
    refine AW.skip ?_
    refine SeqP.go ?_
    refine AW.seq ?_
    refine AW.seq ?_
    refine AW.region ?_
    refine OpsW.q rfl (q_move (v := .int _ _) rfl) ?_
    refine OpsW.q rfl (q_eql rfl rfl) ?_
    refine OpsW.nil ?_
    refine SeqP.go ?_
    refine AW.cond rfl (fun h2 => ?_) (fun h2 => ?_)
    ·
      exfalso
      try simp only [eb10, eb13, decide_eq_true_eq, decide_eq_false_iff_not, Bool.or_eq_true, Bool.and_eq_true, Bool.or_eq_false_iff, Bool.and_eq_false_imp, Bool.not_eq_true', Bool.not_eq_false', ne_eq, Decidable.not_not, Int.not_lt, Int.not_le, Bool.not_eq_true, Bool.not_eq_false] at h2
      cases h2
    try simp only [eb10, eb13, decide_eq_true_eq, decide_eq_false_iff_not, Bool.or_eq_true, Bool.and_eq_true, Bool.or_eq_false_iff, Bool.and_eq_false_imp, Bool.not_eq_true', Bool.not_eq_false', ne_eq, Decidable.not_not, Int.not_lt, Int.not_le, Bool.not_eq_true, Bool.not_eq_false] at h2
    refine AW.skip ?_
    refine SeqP.go ?_
    refine AW.seq ?_
    refine AW.region ?_
    refine OpsW.q rfl (q_move (v := .int _ _) rfl) ?_
    refine OpsW.q rfl (q_assign (v := .int _ _) rfl) ?_
    refine OpsW.nil ?_
    refine SeqP.go ?_
    refine AW.ret ?_
    refine RetP.mk1 (H' := _) (v1 := .int _ _) rfl rfl  (by exact (Hp.le_refl _)) ?_
    first | exact ⟨by rw [cutP_dead hdd, if_pos hdd], fv, lv, by rw [cutP_dead hdd]; exact hR⟩ | exact ⟨by rw [cutP_bad hdd hbad], fv, lv, by rw [cutP_bad hdd hbad]; exact hR⟩ | exact ⟨by rw [cutP_die hdd hin har], fv, lv, by rw [cutP_die hdd hin har]; exact hR.put (ar := s.ar) (dd := true)⟩ | exact ⟨by rw [cutP_ok hdd hin har], _, nilV, by rw [Hp.set_set, cutP_ok hdd hin har]; exact hR2⟩
  try simp only [eb10, eb13, decide_eq_true_eq, decide_eq_false_iff_not, Bool.or_eq_true, Bool.and_eq_true, Bool.or_eq_false_iff, Bool.and_eq_false_imp, Bool.not_eq_true', Bool.not_eq_false', ne_eq, Decidable.not_not, Int.not_lt, Int.not_le, Bool.not_eq_true, Bool.not_eq_false] at h0
  have hne : s.dd = true ∨ (0 ≤ x ∧ x ≤ ((s.f.length + s.l.length : Nat) : Int)) := by cases hq : s.dd <;> simp_all <;> omega
  refine AW.skip ?_
  refine SeqP.go ?_
  refine AW.seq ?_
  refine AW.seq ?_
  refine AW.region ?_
  refine OpsW.q rfl (q_move (v := .int _ _) rfl) ?_
  refine OpsW.q rfl (q_eql rfl rfl) ?_
  refine OpsW.nil ?_
  refine SeqP.go ?_
  refine AW.cond rfl (fun h1 => ?_) (fun h1 => ?_)
  ·
    try simp only [eb10, eb13, decide_eq_true_eq, decide_eq_false_iff_not, Bool.or_eq_true, Bool.and_eq_true, Bool.or_eq_false_iff, Bool.and_eq_false_imp, Bool.not_eq_true', Bool.not_eq_false', ne_eq, Decidable.not_not, Int.not_lt, Int.not_le, Bool.not_eq_true, Bool.not_eq_false] at h1
    have hdd : s.dd = false := by split at h1 <;> simp_all
    have hin := hne.resolve_left (by simp [hdd])
    refine AW.region ?_
    refine OpsW.q rfl (q_move (v := .pointer _) rfl) ?_
    refine OpsW.x rfl (o_call rfl Try.func53 rfl rfl (act_con hR ho3 ho4)) ?_
    refine OpsW.q rfl (q_assign (v := .int _ _) rfl) ?_
    refine OpsW.nil ?_
    refine SeqP.go ?_
    refine AW.seq ?_
    refine AW.seq ?_
    refine AW.region ?_
    refine OpsW.q rfl (q_move (v := .int _ _) rfl) ?_
    refine OpsW.q rfl (q_eql rfl rfl) ?_
    refine OpsW.nil ?_
    refine SeqP.go ?_
    refine AW.cond rfl (fun h2 => ?_) (fun h2 => ?_)
    ·
      try simp only [eb10, eb13, decide_eq_true_eq, decide_eq_false_iff_not, Bool.or_eq_true, Bool.and_eq_true, Bool.or_eq_false_iff, Bool.and_eq_false_imp, Bool.not_eq_true', Bool.not_eq_false', ne_eq, Decidable.not_not, Int.not_lt, Int.not_le, Bool.not_eq_true, Bool.not_eq_false] at h2
      have har : ¬ s.ar = 1 := fun h => by rw [actP_die h] at h2; cases h2
      rw [actP_go har]
      have hR1 := hR.put (ar := max 0 (s.ar - 1)) (dd := s.dd)
      have hT1 := hR1.at'
      refine AW.drawF [0, 1] 10 11 46 (.int _ _) rfl (by kernel_rfl) rfl rfl rfl rfl ?_
      refine SeqC.q rfl (q_move (v := .pointer _) rfl) ?_
      refine SeqC.q rfl (q_move (v := .pointer _) rfl) ?_
      refine SeqC.q rfl (q_move (v := .pointer _) rfl) ?_
      refine SeqC.q rfl (q_nilCheck rfl) ?_
      refine SeqC.q rfl (q_fieldAddr (sz := 0) Try.underlying83 rfl (by kernel_rfl) rfl) ?_
      refine SeqC.q rfl (q_load (v := fv) (by kernel_rfl) rfl (by exact Hp.set_self) rfl) ?_
      refine SeqC.q rfl (q_move (v := .pointer _) rfl) ?_
      refine SeqC.q rfl (q_nilCheck rfl) ?_
      refine SeqC.q rfl (q_fieldAddr (sz := 0) Try.underlying83 rfl (by kernel_rfl) rfl) ?_
      refine SeqC.q rfl (q_load (v := lv) (by kernel_rfl) rfl (by exact Hp.set_self) rfl) ?_
      refine SeqC.done ?_
      refine OpsW.m rfl (o_append (sz := 1) (by_ := 1) (z := .int .u8 0) Try.underlying72 (by kernel_rfl) (by kernel_rfl) (by kernel_rfl) rfl (by kernel_rfl) rfl rfl hR1.vf (src_vec hR1.vl (nums_one _ _)) (by simp only [nums_length, List.length_set, List.length_replicate, List.length_take, List.length_drop, List.length_append, List.length_cons, List.length_nil, ofB_length, toB_length]; unfold maxLen; omega) (by simp only [nums_length, List.length_set, List.length_replicate, List.length_take, List.length_drop, List.length_append, List.length_cons, List.length_nil, ofB_length, toB_length]; omega)) ?_
      rintro v45 H45 hA45
      have hT45 := hA45.keep hR1.bf hR1.at'
      have hR2 := hR1.grewF (f := s.f ++ s.l) (k := x.toNat) (hA45.cast rfl (by rw [← nums_append, ← ofB_append])) (by simp) (by simp; omega)
      refine OpsW.q rfl (q_sliceVec_hi Try.underlying72 (by kernel_rfl) rfl hA45.vec rfl (by omega) (by dsimp only; omega)) ?_
      refine OpsW.q rfl (q_nilCheck rfl) ?_
      refine OpsW.q rfl (q_fieldAddr (sz := 0) Try.underlying83 rfl (by kernel_rfl) rfl) ?_
      refine OpsW.s (o_store (v := takeV v45 x.toNat) (by kernel_rfl) rfl rfl hA45.vec.takeOne (by exact (by assumption)) (by simp; done)) ?_
      refine OpsW.q rfl (q_nilCheck rfl) ?_
      refine OpsW.q rfl (q_fieldAddr (sz := 0) Try.underlying83 rfl (by kernel_rfl) rfl) ?_
      refine OpsW.s (o_store (v := nilV) (by kernel_rfl) rfl rfl rfl (by exact Hp.set_self) (by simp; done)) ?_
      refine OpsW.nil ?_
      refine SeqP.go ?_
      refine AW.seq ?_
      refine AW.region ?_
      refine OpsW.q rfl (q_move (v := .int _ _) rfl) ?_
      refine OpsW.q rfl (q_assign (v := .int _ _) rfl) ?_
      refine OpsW.nil ?_
      refine SeqP.go ?_
      refine AW.ret ?_
      refine RetP.mk1 (H' := _) (v1 := .int _ _) rfl rfl  (by exact (Hp.le_refl _)) ?_
      first | exact ⟨by rw [cutP_dead hdd, if_pos hdd], fv, lv, by rw [cutP_dead hdd]; exact hR⟩ | exact ⟨by rw [cutP_bad hdd hbad], fv, lv, by rw [cutP_bad hdd hbad]; exact hR⟩ | exact ⟨by rw [cutP_die hdd hin har], fv, lv, by rw [cutP_die hdd hin har]; exact hR.put (ar := s.ar) (dd := true)⟩ | exact ⟨by rw [cutP_ok hdd hin har], _, nilV, by rw [Hp.set_set, cutP_ok hdd hin har]; exact hR2⟩
    try simp only [eb10, eb13, decide_eq_true_eq, decide_eq_false_iff_not, Bool.or_eq_true, Bool.and_eq_true, Bool.or_eq_false_iff, Bool.and_eq_false_imp, Bool.not_eq_true', Bool.not_eq_false', ne_eq, Decidable.not_not, Int.not_lt, Int.not_le, Bool.not_eq_true, Bool.not_eq_false] at h2
    have har : s.ar = 1 := Classical.byContradiction fun h => by rw [actP_go h] at h2; exact h2 rfl
    rw [actP_die har]
    refine AW.skip ?_
    refine SeqP.go ?_
    refine AW.seq ?_
    refine AW.region ?_
    refine OpsW.q rfl (q_move (v := .int _ _) rfl) ?_
    refine OpsW.q rfl (q_assign (v := .int _ _) rfl) ?_
    refine OpsW.nil ?_
    refine SeqP.go ?_
    refine AW.ret ?_
    refine RetP.mk1 (H' := _) (v1 := .int _ _) rfl rfl  (by exact (Hp.le_refl _)) ?_
    first | exact ⟨by rw [cutP_dead hdd, if_pos hdd], fv, lv, by rw [cutP_dead hdd]; exact hR⟩ | exact ⟨by rw [cutP_bad hdd hbad], fv, lv, by rw [cutP_bad hdd hbad]; exact hR⟩ | exact ⟨by rw [cutP_die hdd hin har], fv, lv, by rw [cutP_die hdd hin har]; exact hR.put (ar := s.ar) (dd := true)⟩ | exact ⟨by rw [cutP_ok hdd hin har], _, nilV, by rw [Hp.set_set, cutP_ok hdd hin har]; exact hR2⟩
  try simp only [eb10, eb13, decide_eq_true_eq, decide_eq_false_iff_not, Bool.or_eq_true, Bool.and_eq_true, Bool.or_eq_false_iff, Bool.and_eq_false_imp, Bool.not_eq_true', Bool.not_eq_false', ne_eq, Decidable.not_not, Int.not_lt, Int.not_le, Bool.not_eq_true, Bool.not_eq_false] at h1
  have hdd : s.dd = true := by split at h1 <;> simp_all
  refine AW.skip ?_
  refine SeqP.go ?_
  refine AW.seq ?_
  refine AW.seq ?_
  refine AW.region ?_
  refine OpsW.q rfl (q_move (v := .int _ _) rfl) ?_
  refine OpsW.q rfl (q_eql rfl rfl) ?_
  refine OpsW.nil ?_
  refine SeqP.go ?_
  refine AW.cond rfl (fun h2 => ?_) (fun h2 => ?_)
  ·
    exfalso
    try simp only [eb10, eb13, decide_eq_true_eq, decide_eq_false_iff_not, Bool.or_eq_true, Bool.and_eq_true, Bool.or_eq_false_iff, Bool.and_eq_false_imp, Bool.not_eq_true', Bool.not_eq_false', ne_eq, Decidable.not_not, Int.not_lt, Int.not_le, Bool.not_eq_true, Bool.not_eq_false] at h2
    simp_all
  try simp only [eb10, eb13, decide_eq_true_eq, decide_eq_false_iff_not, Bool.or_eq_true, Bool.and_eq_true, Bool.or_eq_false_iff, Bool.and_eq_false_imp, Bool.not_eq_true', Bool.not_eq_false', ne_eq, Decidable.not_not, Int.not_lt, Int.not_le, Bool.not_eq_true, Bool.not_eq_false] at h2
  refine AW.skip ?_
  refine SeqP.go ?_
  refine AW.seq ?_
  refine AW.region ?_
  refine OpsW.q rfl (q_move (v := .int _ _) rfl) ?_
  refine OpsW.q rfl (q_assign (v := .int _ _) rfl) ?_
  refine OpsW.nil ?_
  refine SeqP.go ?_
  refine AW.ret ?_
  refine RetP.mk1 (H' := _) (v1 := .int _ _) rfl rfl  (by exact (Hp.le_refl _)) ?_
  first | exact ⟨by rw [cutP_dead hdd, if_pos hdd], fv, lv, by rw [cutP_dead hdd]; exact hR⟩ | exact ⟨by rw [cutP_bad hdd hbad], fv, lv, by rw [cutP_bad hdd hbad]; exact hR⟩ | exact ⟨by rw [cutP_die hdd hin har], fv, lv, by rw [cutP_die hdd hin har]; exact hR.put (ar := s.ar) (dd := true)⟩ | exact ⟨by rw [cutP_ok hdd hin har], _, nilV, by rw [Hp.set_set, cutP_ok hdd hin har]; exact hR2⟩
theorem Crash_con (hR : TapeAt H0 H b s fv lv) (hok : TapeOk s) (x : Int) (sp : Bool) : Con Try.prog w0 22 #[.pointer (some ⟨b, 0, none⟩), .int .i64 x, .bool sp] H (fun v H' => v = .tuple #[] ∧ TapeR H0 H' b (crashP s x sp)) := by
  obtain ⟨ho1, ho2, ho3, ho4⟩ := hok
  have hT := hR.at'
  refine Con.intro Try.func22 rfl rfl ?_
  refine AW.seq ?_
  refine AW.seq ?_
  refine AW.region ?_
  refine OpsW.q rfl (q_move (v := .pointer _) rfl) ?_
  refine OpsW.q rfl (q_eqlP Try.underlying32 rfl rfl) ?_
  refine OpsW.nil ?_
  refine SeqP.go ?_
  refine AW.cond rfl (fun h0 => ?_) (fun h0 => ?_)
  ·
    exfalso
    try simp only [decide_eq_true_eq, decide_eq_false_iff_not, Bool.or_eq_true, Bool.and_eq_true, Bool.or_eq_false_iff, Bool.and_eq_false_imp, Bool.not_eq_true', Bool.not_eq_false', ne_eq, Decidable.not_not, Int.not_lt, Int.not_le, Bool.not_eq_true, Bool.not_eq_false] at h0
    cases h0
  try simp only [decide_eq_true_eq, decide_eq_false_iff_not, Bool.or_eq_true, Bool.and_eq_true, Bool.or_eq_false_iff, Bool.and_eq_false_imp, Bool.not_eq_true', Bool.not_eq_false', ne_eq, Decidable.not_not, Int.not_lt, Int.not_le, Bool.not_eq_true, Bool.not_eq_false] at h0
  refine AW.skip ?_
  refine SeqP.go ?_
  refine AW.seq ?_
  refine AW.drawK [] 12 rfl (by kernel_rfl) ?_
  refine SeqK.q rfl (q_move (v := .pointer _) rfl) ?_
  refine SeqK.q rfl (q_nilCheck rfl) ?_
  refine SeqK.q rfl (q_fieldAddr (sz := 0) Try.underlying83 rfl (by kernel_rfl) rfl) ?_
  refine SeqK.q rfl (q_load (v := lv) (by kernel_rfl) rfl (by exact (by assumption)) rfl) ?_
  refine SeqK.q rfl (q_move (v := .int _ _) rfl) ?_
  refine SeqK.q rfl (q_move (v := .pointer _) rfl) ?_
  refine SeqK.q rfl (q_nilCheck rfl) ?_
  refine SeqK.q rfl (q_fieldAddr (sz := 0) Try.underlying83 rfl (by kernel_rfl) rfl) ?_
  refine SeqK.q rfl (q_load (v := lv) (by kernel_rfl) rfl (by exact (by assumption)) rfl) ?_
  refine SeqK.q rfl (q_lenVec Try.underlying72 rfl hR.vl) ?_
  refine SeqK.q rfl (q_min rfl rfl) ?_
  refine SeqK.q rfl (q_max rfl rfl) ?_
  obtain ⟨k, hk, hk1⟩ : ∃ k : Nat, max 0 (min x (s.l.length : Int)) = (k : Int) ∧ k ≤ s.l.length := ⟨(max 0 (min x (s.l.length : Int))).toNat, by omega, by omega⟩
  have hcr : crashP s x sp = { s with f := s.f ++ (if sp = true then spoilP (s.l.take k) else s.l.take k), l := [], dd := false, ar := 0 } := by unfold crashP; rw [hk, Int.toNat_natCast]
  rw [hk]
  have hlk : (s.l.take k).length = k := by rw [List.length_take]; omega
  have hVk : Vec H 5 1 (takeV lv k) k (nums .u8 (ofB (s.l.take k))) := by have := hR.vl.take hk1; rw [Nat.mul_one, nums_take] at this; simpa [ofB, List.map_take] using this
  refine SeqK.done ?_
  refine OpsW.q rfl (q_sliceVec_hi Try.underlying72 (by kernel_rfl) rfl hR.vl rfl (by omega) (by omega)) ?_
  rw [Int.toNat_natCast]
  refine OpsW.q rfl (q_assign (v := takeV lv k) rfl) ?_
  refine OpsW.nil ?_
  refine SeqP.go ?_
  refine AW.seq ?_
  refine AW.seq ?_
  refine AW.region ?_
  refine OpsW.q rfl (q_move (v := takeV lv k) rfl) ?_
  refine OpsW.q rfl (q_lenVec Try.underlying72 rfl hVk) ?_
  refine OpsW.q rfl (q_assign (v := .int _ _) rfl) ?_
  refine OpsW.nil ?_
  refine SeqP.go ?_
  refine AW.seq ?_
  refine AW.region ?_
  refine OpsW.q rfl (q_move (v := .bool _) rfl) ?_
  refine OpsW.qb rfl (q_move (v := .bool _) rfl) ?_
  intro b26 eb26
  refine OpsW.g rfl rfl rfl (fun hB => by simp only [Bool.and_eq_true, beq_iff_eq] at hB; obtain rfl := hB; exact (q_move (v := .int _ _) rfl)) ?_
  refine OpsW.g rfl rfl rfl (fun hB => by simp only [Bool.and_eq_true, beq_iff_eq] at hB; obtain rfl := hB; exact (q_gtr rfl rfl)) ?_
  refine OpsW.q rfl (q_and2 rfl rfl rfl) ?_
  refine OpsW.nil ?_
  refine SeqP.go ?_
  refine AW.cond rfl (fun h1 => ?_) (fun h1 => ?_)
  ·
    try simp only [eb26, decide_eq_true_eq, decide_eq_false_iff_not, Bool.or_eq_true, Bool.and_eq_true, Bool.or_eq_false_iff, Bool.and_eq_false_imp, Bool.not_eq_true', Bool.not_eq_false', ne_eq, Decidable.not_not, Int.not_lt, Int.not_le, Bool.not_eq_true, Bool.not_eq_false] at h1
    obtain ⟨hsp, hk0⟩ : sp = true ∧ 0 < k := by simp_all <;> omega
    obtain ⟨bk, ck, qk, hvk, hbk, hqe, hqt, hqn, hqc, hqs, hqm⟩ := hVk.resolve_left (fun h => by have := h.2.1; omega)
    have hVk2 := hVk
    rw [hvk] at hVk2 ⊢
    have hbkl : vblock lv = some bk := by rw [← takeV_block lv k, hvk]; rfl
    have hql : k ≤ qk.cells.length := by have := congrArg List.length hqt; simp [nums_length, ofB_length, hlk] at this; omega
    obtain ⟨kp, hkp⟩ : ∃ kp, kp = spoilP (s.l.take k) := ⟨_, rfl⟩
    have hcr2 : crashP s x sp = { s with f := s.f ++ kp, l := [], dd := false, ar := 0 } := by rw [hcr, if_pos hsp, hkp]
    refine AW.region ?_
    refine OpsW.q rfl (q_move (v := .slice (some ⟨bk, 0, none⟩) k ck) rfl) ?_
    refine OpsW.q rfl (q_move (v := .int _ _) rfl) ?_
    refine OpsW.q rfl (q_subI rfl rfl (by omega)) ?_
    rw [show ((k : Int) - 1) = ((k - 1 : Nat) : Int) from by omega]
    refine OpsW.q rfl (q_indexAddrV0 Try.underlying72 (by kernel_rfl) rfl rfl (by omega) (by omega)) ?_
    rw [Int.toNat_natCast]
    refine OpsW.q rfl (q_load (v := .int .u8 ((ofB (s.l.take k)).getD (k - 1) 0)) (by kernel_rfl) rfl hbk (cell_of hqt (by rw [ofB_length, hlk]; omega) (by omega))) ?_
    rw [ofB_getD]
    refine OpsW.q rfl (q_xor rfl rfl) ?_
    refine OpsW.q rfl (q_indexAddrV0 Try.underlying72 (by kernel_rfl) rfl rfl (by omega) (by omega)) ?_
    rw [Int.toNat_natCast]
    refine OpsW.s (o_store (v := .int .u8 (ixor .u8 (bt (s.l.take k) (k - 1)) 255)) (by kernel_rfl) rfl rfl rfl hbk (by omega)) ?_
    have hF2 : TapeF H0 (H.set bk { qk with cells := qk.cells.set (k - 1) (.int .u8 (ixor .u8 (bt (s.l.take k) (k - 1)) 255)) }) b s fv lv := hR.toF.other (hR.nl bk hbkl) (fun e => hR.bl (e ▸ hbkl)) (fun e => hR.fl bk e hbkl)
    have hF2T := hF2.at'
    have hV2 := hVk2.put hbk (j := k - 1) (x := .int .u8 (ixor .u8 (bt (s.l.take k) (k - 1)) 255)) (by omega)
    have hss := spoil_set (l := s.l.take k) (by omega)
    rw [hlk] at hss
    rw [nums_set, hss, ← hkp] at hV2
    have hkl : kp.length = k := by have := congrArg List.length hss; simp [ofB_length, hlk] at this; rw [hkp]; omega
    refine OpsW.nil ?_
    refine SeqP.go ?_
    refine AW.seq ?_
    refine AW.region ?_
    refine OpsW.q rfl (q_move (v := .pointer _) rfl) ?_
    refine OpsW.q rfl (q_move (v := .pointer _) rfl) ?_
    refine OpsW.q rfl (q_move (v := .pointer _) rfl) ?_
    refine OpsW.q rfl (q_nilCheck rfl) ?_
    refine OpsW.q rfl (q_fieldAddr (sz := 0) Try.underlying83 rfl (by kernel_rfl) rfl) ?_
    refine OpsW.q rfl (q_load (v := fv) (by kernel_rfl) rfl (by exact (by assumption)) rfl) ?_
    refine OpsW.q rfl (q_move (v := .slice (some ⟨bk, 0, none⟩) k ck) rfl) ?_
    refine OpsW.m rfl (o_append (sz := 1) (by_ := 1) (z := .int .u8 0) Try.underlying72 (by kernel_rfl) (by kernel_rfl) (by kernel_rfl) rfl (by kernel_rfl) rfl rfl hF2.vf (src_vec hV2 (nums_one _ _)) (by unfold maxLen; omega) (by omega)) ?_
    rintro v44 H44 hA44
    have hT44 := hA44.keep hF2.bf hF2.at'
    have hR2 := hF2.grew (f := s.f ++ kp) (hA44.cast rfl (by rw [← nums_append, ← ofB_append])) (by simp [hkl])
    refine OpsW.q rfl (q_nilCheck rfl) ?_
    refine OpsW.q rfl (q_fieldAddr (sz := 0) Try.underlying83 rfl (by kernel_rfl) rfl) ?_
    refine OpsW.s (o_store (v := v44) (by kernel_rfl) rfl rfl hA44.vec.one (by exact (by assumption)) (by simp; done)) ?_
    refine OpsW.q rfl (q_nilCheck rfl) ?_
    refine OpsW.q rfl (q_fieldAddr (sz := 0) Try.underlying83 rfl (by kernel_rfl) rfl) ?_
    refine OpsW.s (o_store (v := nilV) (by kernel_rfl) rfl rfl rfl (by exact Hp.set_self) (by simp; done)) ?_
    refine OpsW.nil ?_
    refine SeqP.go ?_
    refine AW.region ?_
    refine OpsW.q rfl (q_move (v := .pointer _) rfl) ?_
    refine OpsW.q rfl (q_move (v := .pointer _) rfl) ?_
    refine OpsW.q rfl (q_nilCheck rfl) ?_
    refine OpsW.q rfl (q_fieldAddr (sz := 0) Try.underlying83 rfl (by kernel_rfl) rfl) ?_
    refine OpsW.s (o_store (v := .bool _) (by kernel_rfl) rfl rfl rfl (by exact Hp.set_self) (by simp; done)) ?_
    refine OpsW.q rfl (q_nilCheck rfl) ?_
    refine OpsW.q rfl (q_fieldAddr (sz := 0) Try.underlying83 rfl (by kernel_rfl) rfl) ?_
    refine OpsW.s (o_store (v := .int _ _) (by kernel_rfl) rfl rfl rfl (by exact Hp.set_self) (by simp; done)) ?_
    refine OpsW.nil ?_
    refine RetP.end0 (H' := _) rfl (by exact (Hp.le_refl _)) ?_
    refine ⟨rfl, v44, nilV, ?_⟩
    have hp := hR2.put (ar := 0) (dd := false)
    simp only [Hp.set_set] at hp ⊢
    rw [hcr2]
    exact hp
  try simp only [eb26, decide_eq_true_eq, decide_eq_false_iff_not, Bool.or_eq_true, Bool.and_eq_true, Bool.or_eq_false_iff, Bool.and_eq_false_imp, Bool.not_eq_true', Bool.not_eq_false', ne_eq, Decidable.not_not, Int.not_lt, Int.not_le, Bool.not_eq_true, Bool.not_eq_false] at h1
  have hkp0 : (if sp = true then spoilP (s.l.take k) else s.l.take k) = s.l.take k := by by_cases hz : k = 0; (subst hz; simp [spoilP]); (have : sp = false := by cases sp <;> simp_all <;> omega); simp [this]
  obtain ⟨kp, hkp⟩ : ∃ kp, kp = s.l.take k := ⟨_, rfl⟩
  have hcr2 : crashP s x sp = { s with f := s.f ++ kp, l := [], dd := false, ar := 0 } := by rw [hcr, hkp0, hkp]
  have hF2 := hR.toF
  have hF2T := hF2.at'
  have hV2 := hVk
  rw [← hkp] at hV2
  have hkl : kp.length = k := by rw [hkp]; exact hlk
  refine AW.skip ?_
  refine SeqP.go ?_
  refine AW.seq ?_
  refine AW.region ?_
  refine OpsW.q rfl (q_move (v := .pointer _) rfl) ?_
  refine OpsW.q rfl (q_move (v := .pointer _) rfl) ?_
  refine OpsW.q rfl (q_move (v := .pointer _) rfl) ?_
  refine OpsW.q rfl (q_nilCheck rfl) ?_
  refine OpsW.q rfl (q_fieldAddr (sz := 0) Try.underlying83 rfl (by kernel_rfl) rfl) ?_
  refine OpsW.q rfl (q_load (v := fv) (by kernel_rfl) rfl (by exact (by assumption)) rfl) ?_
  refine OpsW.q rfl (q_move (v := takeV lv k) rfl) ?_
  refine OpsW.m rfl (o_append (sz := 1) (by_ := 1) (z := .int .u8 0) Try.underlying72 (by kernel_rfl) (by kernel_rfl) (by kernel_rfl) rfl (by kernel_rfl) rfl rfl hF2.vf (src_vec hV2 (nums_one _ _)) (by unfold maxLen; omega) (by omega)) ?_
  rintro v44 H44 hA44
  have hT44 := hA44.keep hF2.bf hF2.at'
  have hR2 := hF2.grew (f := s.f ++ kp) (hA44.cast rfl (by rw [← nums_append, ← ofB_append])) (by simp [hkl])
  refine OpsW.q rfl (q_nilCheck rfl) ?_
  refine OpsW.q rfl (q_fieldAddr (sz := 0) Try.underlying83 rfl (by kernel_rfl) rfl) ?_
  refine OpsW.s (o_store (v := v44) (by kernel_rfl) rfl rfl hA44.vec.one (by exact (by assumption)) (by simp; done)) ?_
  refine OpsW.q rfl (q_nilCheck rfl) ?_
  refine OpsW.q rfl (q_fieldAddr (sz := 0) Try.underlying83 rfl (by kernel_rfl) rfl) ?_
  refine OpsW.s (o_store (v := nilV) (by kernel_rfl) rfl rfl rfl (by exact Hp.set_self) (by simp; done)) ?_
  refine OpsW.nil ?_
  refine SeqP.go ?_
  refine AW.region ?_
  refine OpsW.q rfl (q_move (v := .pointer _) rfl) ?_
  refine OpsW.q rfl (q_move (v := .pointer _) rfl) ?_
  refine OpsW.q rfl (q_nilCheck rfl) ?_
  refine OpsW.q rfl (q_fieldAddr (sz := 0) Try.underlying83 rfl (by kernel_rfl) rfl) ?_
  refine OpsW.s (o_store (v := .bool _) (by kernel_rfl) rfl rfl rfl (by exact Hp.set_self) (by simp; done)) ?_
  refine OpsW.q rfl (q_nilCheck rfl) ?_
  refine OpsW.q rfl (q_fieldAddr (sz := 0) Try.underlying83 rfl (by kernel_rfl) rfl) ?_
  refine OpsW.s (o_store (v := .int _ _) (by kernel_rfl) rfl rfl rfl (by exact Hp.set_self) (by simp; done)) ?_
  refine OpsW.nil ?_
  refine RetP.end0 (H' := _) rfl (by exact (Hp.le_refl _)) ?_
  refine ⟨rfl, v44, nilV, ?_⟩
  have hp := hR2.put (ar := 0) (dd := false)
  simp only [Hp.set_set] at hp ⊢
  rw [hcr2]
  exact hp
end
end Go.Proofs.Ytfiojlmccflplaa
end
section
namespace Go.Proofs.Ytfiojlmccflplaa
open Go Go.RowKit D
set_option linter.unusedVariables false
set_option linter.unusedSimpArgs false
structure RefS where
  t : List UInt8
  firm : Int
  lim : Int
  ar : Int
  dd : Bool
def rcells (r : RefS) : List Value := [S r.t, .int .i64 r.firm, .int .i64 r.lim, .int .i64 r.ar, .bool r.dd]
@[simp] theorem rcells_length (r : RefS) : (rcells r).length = 5 := rfl
def RefOk (r : RefS) : Prop := 0 ≤ r.firm ∧ r.firm ≤ (r.t.length : Int) ∧ (r.t.length : Int) ≤ 16777216 ∧ r.ar ≤ 9223372036854775807
/-- The two say the same. -/
structure Sim (s : TapeS) (r : RefS) : Prop where
  t : r.t = s.f ++ s.l
  firm : r.firm = (s.f.length : Int)
  lim : r.lim = s.lim
  dd : r.dd = s.dd
  ar : s.dd = false → r.ar = s.ar
theorem Sim.ok {s : TapeS} {r : RefS} (h : Sim s r) (hs : TapeOk s) (hr : r.ar ≤ 9223372036854775807) : RefOk r := by
  obtain ⟨h1, h2, h3, h4⟩ := hs
  have := congrArg List.length h.t
  rw [List.length_append] at this
  refine ⟨?_, ?_, ?_, hr⟩
  · rw [h.firm]; omega
  · rw [h.firm]; omega
  · omega
end Go.Proofs.Ytfiojlmccflplaa
end
section
namespace Go.Proofs.Ytfiojlmccflplaa
open Go Go.RowKit D
set_option linter.unusedVariables false
set_option linter.unusedSimpArgs false
set_option maxHeartbeats 1000000
def tapeA (b : Nat) (s : TapeS) : Hp → Prop := fun h => ∃ fv lv, TapeAt emp h b s fv lv
abbrev tapeC (b : Nat) (s : TapeS) : Chunk := .pred (tapeA b s)
section
variable {w0 : World} {H0 H : Hp} {b : Nat} {s : TapeS}
theorem vblock_owned {v : Value} {el : TypeId} {sz n : Nat} {cs : List Value} (h : Vec H el sz v n cs) {c : Nat} (hc : vblock v = some c) : ∃ o, H c = some o := by
  rcases h with ⟨rfl, _⟩ | ⟨b, cap, q, rfl, h2, _⟩
  · simp [vblock] at hc
  · simp [vblock] at hc; subst hc; exact ⟨q, h2⟩
theorem tape_in (h : Sep H0 [tapeC b s] H) : TapeR H0 H b s := by
  obtain ⟨h1, h2, a, l1, l2, ⟨g, hg, fv, lv, hT⟩, hl⟩ := h
  have hgH : g.le H := Hp.le_trans hg l1
  have out : ∀ c o, g c = some o → H0 c = none := fun c o hc => Hp.le_none hl ((a c).resolve_left (by rw [hg c o hc]; simp))
  refine ⟨fv, lv, hgH _ _ hT.at', hT.vf.le hgH, hT.vl.le hgH, Hp.le_trans hl l2, out _ _ hT.at', ?_, ?_, hT.bf, hT.bl, hT.fl⟩
  · intro c hc; obtain ⟨o, ho⟩ := vblock_owned hT.vf hc; exact out c o ho
  · intro c hc; obtain ⟨o, ho⟩ := vblock_owned hT.vl hc; exact out c o ho
theorem tape_out (h : TapeR H0 H b s) : Sep H0 [tapeC b s] H := by
  obtain ⟨fv, lv, hT⟩ := h
  classical
  let D : Nat → Prop := fun c => c = b ∨ vblock fv = some c ∨ vblock lv = some c
  refine ⟨fun c => if D c then H c else none, fun c => if D c then none else H c, ?_, ?_, ?_, ⟨_, Hp.le_refl _, fv, lv, ?_, ?_, ?_, ?_, rfl, fun _ _ => rfl, fun _ _ => rfl, hT.bf, hT.bl, hT.fl⟩, ?_⟩
  · intro c
    by_cases h : D c
    · exact .inr (if_pos h)
    · exact .inl (if_neg h)
  · intro c o hc
    by_cases h : D c
    · simp only [if_pos h] at hc; exact hc
    · simp only [if_neg h] at hc; cases hc
  · intro c o hc
    by_cases h : D c
    · simp only [if_pos h] at hc; cases hc
    · simp only [if_neg h] at hc; exact hc
  · show (if D b then H b else none) = _
    rw [if_pos (.inl rfl)]; exact hT.at'
  · exact hT.vf.keep fun c o hc ho => by show (if D c then H c else none) = _; rw [if_pos (.inr (.inl hc))]; exact ho
  · exact hT.vl.keep fun c o hc ho => by show (if D c then H c else none) = _; rw [if_pos (.inr (.inr hc))]; exact ho
  · intro c o hc; simp [emp] at hc
  · intro c o hc
    have hn : ¬ D c := by
      rintro (rfl | h | h)
      · rw [hT.nb] at hc; cases hc
      · rw [hT.nf c h] at hc; cases hc
      · rw [hT.nl c h] at hc; cases hc
    show (if D c then none else H c) = _
    rw [if_neg hn]; exact hT.le c o hc
abbrev PT (b : Nat) : Value := .pointer (some ⟨b, 0, none⟩)
theorem Append_s (h : Sep H0 [tapeC b s] H) (hok : TapeOk s) (d : List UInt8) (hd : d.length ≤ 1073741824) : Con Try.prog w0 31 #[PT b, S d] H (fun v H' => v = .int .i64 (appendP s d).1 ∧ Sep H0 [tapeC b (appendP s d).2] H') := by
  obtain ⟨fv, lv, hT⟩ := tape_in h
  exact (Append_con hT hok d hd).mono fun _ _ ⟨h1, h2⟩ => ⟨h1, tape_out h2⟩
theorem Sync_s (h : Sep H0 [tapeC b s] H) (hok : TapeOk s) : Con Try.prog w0 46 #[PT b] H (fun v H' => v = .int .i64 (syncP s).1 ∧ Sep H0 [tapeC b (syncP s).2] H') := by
  obtain ⟨fv, lv, hT⟩ := tape_in h
  exact (Sync_con hT hok).mono fun _ _ ⟨h1, h2⟩ => ⟨h1, tape_out h2⟩
theorem Cut_s (h : Sep H0 [tapeC b s] H) (hok : TapeOk s) (x : Int) : Con Try.prog w0 45 #[PT b, .int .i64 x] H (fun v H' => v = .int .i64 (cutP s x).1 ∧ Sep H0 [tapeC b (cutP s x).2] H') := by
  obtain ⟨fv, lv, hT⟩ := tape_in h
  exact (Cut_con hT hok x).mono fun _ _ ⟨h1, h2⟩ => ⟨h1, tape_out h2⟩
theorem Crash_s (h : Sep H0 [tapeC b s] H) (hok : TapeOk s) (x : Int) (sp : Bool) : Con Try.prog w0 22 #[PT b, .int .i64 x, .bool sp] H (fun v H' => v = .tuple #[] ∧ Sep H0 [tapeC b (crashP s x sp)] H') := by
  obtain ⟨fv, lv, hT⟩ := tape_in h
  exact (Crash_con hT hok x sp).mono fun _ _ ⟨h1, h2⟩ => ⟨h1, tape_out h2⟩
theorem Arm_s (h : Sep H0 [tapeC b s] H) (x : Int) : Con Try.prog w0 21 #[PT b, .int .i64 x] H (fun v H' => v = .tuple #[] ∧ Sep H0 [tapeC b (armP s x)] H') := by
  obtain ⟨fv, lv, hT⟩ := tape_in h
  exact (Arm_con hT x).mono fun _ _ ⟨h1, h2⟩ => ⟨h1, tape_out ⟨fv, lv, by rw [h2]; exact hT.put (ar := max x 0) (dd := s.dd)⟩⟩
theorem Read_s {L : List Chunk} {F : Chunk → List Chunk} (h : Sep H0 L H) (hA : At L (tapeC b s) F) (hok : TapeOk s) : Con Try.prog w0 24 #[PT b] H (fun v H' => v = .tuple #[S (readP s).1, .int .i64 (readP s).2] ∧ H' = H) := by
  obtain ⟨Hf, _, h1, _⟩ := h.framed hA
  obtain ⟨fv, lv, hT⟩ := tape_in h1
  exact Read_con hT hok
/-- A tape of so many bytes, with nothing on it. -/
def tape0 (n : Int) : TapeS := ⟨n, [], [], 0, false⟩
theorem tape_new {n : Int} {L : List Chunk} (h : Sep H0 (.blk b ⟨tcells (tape0 n) nilV nilV, 5, 83⟩ :: L) H) : Sep H0 (tapeC b (tape0 n) :: L) H := by
  obtain ⟨h1, h2, a, l1, l2, e, f⟩ := h
  refine ⟨h1, h2, a, l1, l2, ⟨h1, Hp.le_refl _, nilV, nilV, e, .inl ⟨rfl, rfl, rfl⟩, .inl ⟨rfl, rfl, rfl⟩, ?_, rfl, fun _ _ => rfl, fun _ _ => rfl, ?_, ?_, ?_⟩, f⟩
  · intro c o hc; simp [emp] at hc
  · simp [vblock]
  · simp [vblock]
  · simp [vblock]
variable {r : RefS}
end
end Go.Proofs.Ytfiojlmccflplaa
end
section
namespace Go.Proofs.Ytfiojlmccflplaa
open Go Go.RowKit D
set_option linter.unusedVariables false
set_option linter.unusedSimpArgs false
abbrev recV (v : Value) (l : RecL) : Chunk := .vec v 44 2 l.length (rowsV recC l)
abbrev Vals := List (List UInt8 × Value)
def pieM (L : OneL) (vs : Vals) : List Chunk := vs.map fun p => recV p.2 (ofP L p.1)
def exc (vs : Vals) (who : List UInt8) : Vals := vs.filter fun p => decide (p.1 ≠ who)
/-- A map at block mb that has each sender's messages. -/
def stM (mb : Nat) (L : OneL) : Hp → Prop := fun h => ∃ vs : Vals, (vs.map (·.1)).Nodup ∧ (∀ w, mgt vs w = none → ofP L w = []) ∧ Sep emp (.blk mb (mpB (ents S vs)) :: pieM L vs) h
def stEx (L : OneL) (vs : Vals) (who : List UInt8) : Hp → Prop := fun h => Sep emp (pieM L (exc vs who)) h
theorem exc_none {vs : Vals} {who : List UInt8} (h : mgt vs who = none) : exc vs who = vs := by
  unfold exc
  rw [List.filter_eq_self]
  intro p hp
  have : p.1 ≠ who := by
    intro e
    have : ∀ {vs : Vals}, p ∈ vs → mgt vs who ≠ none := by
      intro vs
      induction vs with
      | nil => intro h; cases h
      | cons q vs ih =>
        intro h
        by_cases hq : q.1 = who
        · simp [mgt, hq]
        · rcases List.mem_cons.1 h with rfl | h
          · exact absurd e hq
          · simp [mgt, hq]; exact ih h
    exact this hp h
  simpa using this
theorem mgt_mem {vs : Vals} {who : List UInt8} (h : who ∉ vs.map (·.1)) : mgt vs who = none := by
  induction vs with
  | nil => rfl
  | cons q vs ih =>
    simp only [List.map_cons, List.mem_cons, not_or] at h
    simp [mgt, Ne.symm h.1, ih h.2]
theorem mst_keys {vs : Vals} {who : List UInt8} {v : Value} : (mst vs who v).map (·.1) = if mgt vs who = none then vs.map (·.1) ++ [who] else vs.map (·.1) := by
  induction vs with
  | nil => simp [mst, mgt]
  | cons q vs ih =>
    by_cases hq : q.1 = who
    · simp [mst, mgt, hq]
    · simp only [mst, if_neg hq, mgt, List.map_cons, ih]
      split <;> simp
theorem nodup_mst {vs : Vals} {who : List UInt8} {v : Value} (h : (vs.map (·.1)).Nodup) : ((mst vs who v).map (·.1)).Nodup := by
  rw [mst_keys]
  split
  · rename_i hn
    rw [List.nodup_append]
    refine ⟨h, by simp, ?_⟩
    intro a ha b hb e
    rw [List.mem_singleton] at hb
    subst hb; subst e
    have : ∀ {vs : Vals}, a ∈ vs.map (·.1) → mgt vs a ≠ none := by
      intro vs
      induction vs with
      | nil => intro h; cases h
      | cons q vs ih =>
        intro h
        by_cases hq : q.1 = a
        · simp [mgt, hq]
        · simp only [List.map_cons, List.mem_cons] at h
          rcases h with rfl | h
          · exact absurd rfl hq
          · simp only [mgt, if_neg hq]; exact ih h
    exact this ha hn
  · exact h
theorem exc_mst {vs : Vals} {who : List UInt8} {v : Value} : exc (mst vs who v) who = exc vs who := by
  induction vs with
  | nil => simp [mst, exc]
  | cons q vs ih =>
    unfold exc at *
    by_cases hq : q.1 = who
    · simp [mst, hq]
    · simp [mst, hq] at ih ⊢; exact ih
theorem exc_mem {vs : Vals} {who : List UInt8} : ∀ p ∈ exc vs who, p.1 ≠ who := by
  intro p hp
  have := (List.mem_filter.1 hp).2
  simpa using this
theorem pie_del {L : OneL} {who : List UInt8} {v : Value} : ∀ {vs : Vals}, (vs.map (·.1)).Nodup → mgt vs who = some v → Del (pieM L vs) (recV v (ofP L who)) (pieM L (exc vs who)) := by
  intro vs
  induction vs with
  | nil => intro _ h; simp [mgt] at h
  | cons q vs ih =>
    intro hn h
    simp only [List.map_cons, List.nodup_cons] at hn
    by_cases hq : q.1 = who
    · simp only [mgt, if_pos hq, Option.some.injEq] at h
      have he : exc (q :: vs) who = vs := by
        have := exc_none (mgt_mem (vs := vs) (who := who) (by rw [← hq]; exact hn.1))
        unfold exc at *
        rw [List.filter_cons_of_neg (by simp [hq]), this]
      rw [he, ← h, ← hq]
      exact .z
    · simp only [mgt, if_neg hq] at h
      have he : exc (q :: vs) who = q :: exc vs who := by unfold exc; rw [List.filter_cons_of_pos (by simp [hq])]
      rw [he]
      exact .s (ih hn.2 h)
theorem pie_congr {L L' : OneL} {who : List UInt8} {vs : Vals} (h : ∀ w, w ≠ who → ofP L' w = ofP L w) : pieM L' (exc vs who) = pieM L (exc vs who) := by
  unfold pieM
  exact List.map_congr_left fun p hp => by rw [h _ (exc_mem p hp)]
section
variable {H0 H : Hp} {K : List Chunk} {F : Chunk → List Chunk} {mb : Nat} {L L' : OneL}
theorem st_new (h : Sep H0 (.blk mb (mpB []) :: K) H) : Sep H0 (.pred (stM mb []) :: K) H :=
  Sep.close _ (K := [.blk mb (mpB [])]) h fun h1 hK => ⟨h1, Hp.le_refl _, [], by simp, fun w _ => ofP_nil w, hK⟩
/-- One sender's messages alone. -/
theorem st_open (who : List UInt8) (h : Sep H0 (.pred (stM mb L) :: K) H) : ∃ (vs : Vals) (v : Value), (mgt vs who).getD nilV = v ∧ (vs.map (·.1)).Nodup ∧ (∀ w, mgt vs w = none → ofP L w = []) ∧
    Sep H0 (.blk mb (mpB (ents S vs)) :: recV v (ofP L who) :: .pred (stEx L vs who) :: K) H := by
  obtain ⟨h1, ⟨g, hg, vs, hn, hz, hK⟩, hall⟩ := Sep.opened h
  have hA := hall _ (hK.mono hg)
  cases hm : mgt vs who with
  | none =>
    refine ⟨vs, nilV, by rw [hm]; rfl, hn, hz, ?_⟩
    refine Sep.under hA fun {G} hG => ?_
    have h2 : Sep H0 (.pred (stEx L vs who) :: K) G := Sep.close _ (K := pieM L vs) hG fun h1 hK => ⟨h1, Hp.le_refl _, by show Sep emp (pieM L (exc vs who)) h1; rw [exc_none hm]; exact hK⟩
    have h3 := h2.nil (el := 44) (sz := 2)
    show Sep H0 (.vec nilV _ 2 (ofP L who).length (rowsV recC (ofP L who)) :: _) G
    rw [hz who hm]
    exact h3
  | some v =>
    refine ⟨vs, v, by rw [hm]; rfl, hn, hz, ?_⟩
    refine Sep.under hA fun {G} hG => ?_
    have hd := pie_del (L := L) hn hm
    have hd2 : Del (pieM L vs ++ K) (recV v (ofP L who)) (pieM L (exc vs who) ++ K) := by
      have : ∀ {A B : List Chunk} {c : Chunk}, Del A c B → Del (A ++ K) c (B ++ K) := by
        intro A B c hd
        induction hd with
        | z => exact .z
        | s _ ih => exact .s ih
      exact this hd
    refine Sep.under (Sep.bring hd2 hG) fun {G2} hG2 => ?_
    exact Sep.close _ (K := pieM L (exc vs who)) hG2 fun h1 hK => ⟨h1, Hp.le_refl _, hK⟩
theorem st_close {vs : Vals} {who : List UInt8} {v : Value} (hn : (vs.map (·.1)).Nodup) (hz : ∀ w, mgt vs w = none → ofP L w = []) (he : ∀ w, w ≠ who → ofP L' w = ofP L w)
    (h : Sep H0 (.blk mb (mpB (ents S (mst vs who v))) :: recV v (ofP L' who) :: .pred (stEx L vs who) :: K) H) : Sep H0 (.pred (stM mb L') :: K) H := by
  have hd := pie_del (L := L') (nodup_mst (v := v) hn) (mgt_mst_self vs who v)
  rw [exc_mst, pie_congr he] at hd
  have h2 : Sep H0 (.blk mb (mpB (ents S (mst vs who v))) :: recV v (ofP L' who) :: (pieM L (exc vs who) ++ K)) H :=
    Sep.under h fun hG => Sep.under hG fun hG2 => by
      obtain ⟨h1, ⟨g, hg, hK⟩, hall⟩ := Sep.opened hG2
      exact hall _ (Sep.mono hK hg)
  refine Sep.close _ (K := .blk mb (mpB (ents S (mst vs who v))) :: recV v (ofP L' who) :: pieM L (exc vs who)) h2 fun h1 hK => ⟨h1, Hp.le_refl _, mst vs who v, nodup_mst hn, ?_, Sep.under hK fun hG => Sep.back hd hG⟩
  intro w hw
  by_cases e : w = who
  · subst e; rw [mgt_mst_self] at hw; cases hw
  · rw [mgt_mst_ne vs e] at hw
    rw [he w e]; exact hz w hw
theorem st_shut {vs : Vals} {who : List UInt8} {v : Value} (hv : (mgt vs who).getD nilV = v) (hn : (vs.map (·.1)).Nodup) (hz : ∀ w, mgt vs w = none → ofP L w = [])
    (h : Sep H0 (.blk mb (mpB (ents S vs)) :: recV v (ofP L who) :: .pred (stEx L vs who) :: K) H) : Sep H0 (.pred (stM mb L) :: K) H := by
  have h2 : Sep H0 (.blk mb (mpB (ents S vs)) :: recV v (ofP L who) :: (pieM L (exc vs who) ++ K)) H :=
    Sep.under h fun hG => Sep.under hG fun hG2 => by
      obtain ⟨h1, ⟨g, hg, hK⟩, hall⟩ := Sep.opened hG2
      exact hall _ (Sep.mono hK hg)
  refine Sep.close _ (K := .blk mb (mpB (ents S vs)) :: recV v (ofP L who) :: pieM L (exc vs who)) h2 fun h1 hK => ⟨h1, Hp.le_refl _, vs, hn, hz, Sep.under hK fun hG => ?_⟩
  cases hm : mgt vs who with
  | none => rw [exc_none hm] at hG; exact hG.tail
  | some u =>
    rw [hm] at hv
    have : u = v := hv
    subst this
    exact Sep.back (pie_del (L := L) hn hm) hG
theorem st_look (h : Sep H0 K H) (hA : At K (.pred (stM mb L)) F) (who : List UInt8) : ∃ vs : Vals, H mb = some (mpB (ents S vs)) ∧ Vec H 44 2 ((mgt vs who).getD nilV) (ofP L who).length (rowsV recC (ofP L who)) := by
  obtain ⟨g, hg, hM⟩ := h.get hA
  have h1 : Sep emp (.pred (stM mb L) :: []) g := ⟨g, emp, fun _ => .inr rfl, Hp.le_refl _, fun _ _ e => by simp [emp] at e, ⟨g, Hp.le_refl _, hM⟩, fun _ _ e => e⟩
  obtain ⟨vs, v, hv, _, _, hS⟩ := st_open who h1
  refine ⟨vs, hg _ _ (hS.blk at0), ?_⟩
  rw [hv]
  exact (hS.vec at1).le hg
end
abbrev stCells (tb mb : Nat) (x : StF) : List Value := [PT tb, S x.st.h, .map (some mb), .bool x.dd]
abbrev stBlk (tb mb : Nat) (x : StF) : Blk := ⟨stCells tb mb x, 4, 85⟩
def stA (b tb : Nat) (x : StF) (t : TapeS) : Hp → Prop := fun h => ∃ mb, Sep emp [.blk b (stBlk tb mb x), .pred (stM mb x.st.L), tapeC tb t] h
abbrev stC (b tb : Nat) (x : StF) (t : TapeS) : Chunk := .pred (stA b tb x t)
section
variable {H0 H : Hp} {K : List Chunk} {F : Chunk → List Chunk} {b tb mb : Nat} {x : StF} {t : TapeS}
theorem sto_open (h : Sep H0 (stC b tb x t :: K) H) : ∃ mb, Sep H0 (.blk b (stBlk tb mb x) :: .pred (stM mb x.st.L) :: tapeC tb t :: K) H := by
  obtain ⟨h1, ⟨g, hg, mb, hK⟩, hall⟩ := Sep.opened h
  exact ⟨mb, hall _ (hK.mono hg)⟩
theorem sto_close (h : Sep H0 (.blk b (stBlk tb mb x) :: .pred (stM mb x.st.L) :: tapeC tb t :: K) H) : Sep H0 (stC b tb x t :: K) H :=
  Sep.close _ (K := [.blk b (stBlk tb mb x), .pred (stM mb x.st.L), tapeC tb t]) h fun h1 hK => ⟨h1, Hp.le_refl _, mb, hK⟩
theorem sto_tape (h : Sep H0 (stC b tb x t :: K) H) : Sep H0 (tapeC tb t :: K) H := by
  obtain ⟨mb, h1⟩ := sto_open h
  exact h1.tail.tail
theorem sto_look (h : Sep H0 K H) (hA : At K (stC b tb x t) F) (who : List UInt8) : ∃ (mb : Nat) (vs : Vals), H b = some (stBlk tb mb x) ∧ H mb = some (mpB (ents S vs)) ∧ Vec H 44 2 ((mgt vs who).getD nilV) (ofP x.st.L who).length (rowsV recC (ofP x.st.L who)) := by
  obtain ⟨g, hg, mb, hK⟩ := h.get hA
  obtain ⟨vs, h1, h2⟩ := st_look hK at1 who
  exact ⟨mb, vs, hg _ _ (hK.blk at0), hg _ _ h1, h2.le hg⟩
end
end Go.Proofs.Ytfiojlmccflplaa
end
