/-
  The walks of the statements of chapter 3: each is true of all that it is asked about.
-/
import Derived.Test.YthdckldmlbeofaaCh
import Derived.Test.YthdckldmlbeofaaRf
import Derived.Test.YthdckldmlbeofaaChLaw
namespace Go.Proofs.Ythdckldmlbeofaa
open Go Go.RowKit D
set_option linter.unusedVariables false
set_option linter.unusedSimpArgs false
set_option maxRecDepth 100000
set_option maxHeartbeats 1000000
section
variable {w0 : World} {H : Hp}

theorem awake_con : Con Try.prog w0 9 #[] H (fun v H' => v = .bool true ∧ H' = H) := by
  refine Con.intro Try.func9 rfl rfl ?_
  refine AW.seq ?_
  refine AW.region ?_
  refine OpsW.q rfl (q_assign (v := .bool _) rfl) ?_
  refine OpsW.nil ?_
  refine SeqP.go ?_
  refine AW.seq ?_
  refine AW.region ?_
  refine OpsW.q rfl (q_assign (v := .slice _ _ _) rfl) ?_
  refine OpsW.nil ?_
  refine SeqP.go ?_
  refine AW.seq ?_
  refine AW.seq ?_
  refine AW.region ?_
  refine OpsW.q rfl (q_assign (v := .int _ _) rfl) ?_
  refine OpsW.nil ?_
  refine SeqP.go ?_
  refine AW.block ?_
  refine AW.loop (fun m e H' => ∃ (i : Nat) (v : Value) (e0 : Env), m = 32 - i ∧ (i ≤ 32) ∧ e = upds e0 [(1, v), (2, .int .i64 (i : Int))] ∧ Grew H 5 1 nilV i (nums .u8 (awakeK i)) v H') _ ⟨0, nilV, _, rfl, (by omega), Slots.eq ⟨(by first | rfl | exact i64_int (by omega) (by omega) (by omega) | assumption), (by first | rfl | exact i64_int (by omega) (by omega) (by omega) | assumption),  trivial⟩, (by rw [awakeK_zero]; exact Grew.nil)⟩ ?_
  rintro m _ H1 ⟨i, v, e0, rfl, hf, rfl, hG⟩
  refine AW.seq ?_
  refine AW.seq ?_
  refine AW.region ?_
  refine OpsW.q rfl (q_move (v := .int _ _) rfl) ?_
  refine OpsW.q rfl (q_lss rfl rfl) ?_
  refine OpsW.nil ?_
  refine SeqP.go ?_
  refine AW.cond2 rfl (fun h0 => ?_) (fun h0 => ?_)
  ·
    try simp only [decide_eq_true_eq, decide_eq_false_iff_not, Bool.or_eq_true, Bool.and_eq_true, Bool.or_eq_false_iff, Bool.and_eq_false_imp, Bool.not_eq_true', Bool.not_eq_false', ne_eq, Decidable.not_not, Int.not_lt, Int.not_le, Bool.not_eq_true, Bool.not_eq_false] at h0
    refine AW.exit ?_
    refine SeqP.exit ?_
    refine LoopP.exit ?_
    obtain rfl : i = 32 := by omega
    obtain ⟨ha, hb, hc⟩ := awake_ok
    refine BlockP.here ?_
    refine SeqP.go ?_
    refine AW.seq ?_
    refine AW.region ?_
    refine OpsW.q rfl (q_move (v := v) rfl) ?_
    refine OpsW.q rfl (q_stringV Try.underlying31 Try.underlying5 Try.underlying9 rfl hG.vec) ?_
    refine OpsW.x rfl (o_call rfl Try.func7 rfl rfl (block_con _ _ _)) ?_
    refine OpsW.q rfl (q_move (v := .tuple _) rfl) ?_
    refine OpsW.q rfl (q_extract (v := S _) rfl rfl) ?_
    refine OpsW.q rfl (q_extract (v := .int _ _) rfl rfl) ?_
    refine OpsW.q rfl (q_assign (v := S _) rfl) ?_
    refine OpsW.q rfl (q_assign (v := .int _ _) rfl) ?_
    refine OpsW.nil ?_
    refine SeqP.go ?_
    refine AW.seq ?_
    refine AW.region ?_
    refine OpsW.q rfl (q_move (v := .int _ _) rfl) ?_
    refine OpsW.q rfl (q_eql rfl rfl) ?_
    refine OpsW.qb rfl (q_move (v := .bool _) rfl) ?_
    intro b22 eb22
    refine OpsW.g rfl rfl rfl (fun hB => by simp only [Bool.and_eq_true, beq_iff_eq] at hB; obtain rfl := hB; exact (q_move (v := S _) rfl)) ?_
    refine OpsW.g rfl rfl rfl (fun hB => by simp only [Bool.and_eq_true, beq_iff_eq] at hB; obtain rfl := hB; exact (q_lenS Try.underlying9 rfl)) ?_
    refine OpsW.g rfl rfl rfl (fun hB => by simp only [Bool.and_eq_true, beq_iff_eq] at hB; obtain rfl := hB; exact (q_eql rfl rfl)) ?_
    refine OpsW.q rfl (q_and2 rfl rfl rfl) ?_
    refine OpsW.qb rfl (q_move (v := .bool _) rfl) ?_
    intro b27 eb27
    refine OpsW.g rfl rfl rfl (fun hB => by simp only [Bool.and_eq_true, beq_iff_eq] at hB; obtain rfl := hB; exact (q_move (v := S _) rfl)) ?_
    refine OpsW.g rfl rfl rfl (fun hB => by simp only [Bool.and_eq_true, beq_iff_eq] at hB; obtain rfl := hB; exact (q_sliceS_hi Try.underlying9 rfl rfl (by first | omega | decide) (by first | omega | decide))) ?_
    refine OpsW.g rfl rfl rfl (fun hB => by simp only [Bool.and_eq_true, beq_iff_eq] at hB; obtain rfl := hB; exact (q_eqS rfl rfl)) ?_
    refine OpsW.q rfl (q_and2 rfl rfl rfl) ?_
    refine OpsW.q rfl (q_assign (v := .bool _) rfl) ?_
    refine OpsW.nil ?_
    refine SeqP.go ?_
    refine AW.ret ?_
    refine RetP.mk1 (H' := H) (v1 := .bool _) rfl rfl  hG.le ?_
    refine ⟨?_, rfl⟩
    simp_all
  try simp only [decide_eq_true_eq, decide_eq_false_iff_not, Bool.or_eq_true, Bool.and_eq_true, Bool.or_eq_false_iff, Bool.and_eq_false_imp, Bool.not_eq_true', Bool.not_eq_false', ne_eq, Decidable.not_not, Int.not_lt, Int.not_le, Bool.not_eq_true, Bool.not_eq_false] at h0
  refine AW.skip ?_
  refine SeqP.go ?_
  refine AW.seq ?_
  refine AW.block ?_
  refine AW.region ?_
  refine OpsW.q rfl (q_move (v := v) rfl) ?_
  refine OpsW.q rfl (q_move (v := .int _ _) rfl) ?_
  refine OpsW.q rfl (q_convInt rfl Try.underlying5 rfl) ?_
  refine OpsW.m rfl (o_buildSlice (z := .int .u8 0) (vs := [.int _ _]) Try.underlying31 (by kernel_rfl) (by kernel_rfl) rfl (by rfl) (by rfl) (by decide) rfl (ones_all rfl)) ?_
  rintro _ _ ⟨b12, hb12, rfl, rfl⟩
  refine OpsW.m rfl (o_append (sz := 1) (by_ := 1) (z := .int .u8 0) Try.underlying31 (by kernel_rfl) (by kernel_rfl) (by kernel_rfl) rfl (by kernel_rfl) rfl rfl (hG.vec.le (by first | exact (Hp.le_refl _) | exact (Hp.le_set (by first | assumption | exact Hp.set_none (by assumption) (by first | assumption | exact Ne.symm (by assumption)) | exact Hp.set_none (Hp.set_none (by assumption) (by first | assumption | exact Ne.symm (by assumption))) (by first | assumption | exact Ne.symm (by assumption))) (Hp.le_refl _)) | exact (Hp.le_set (by first | assumption | exact Hp.set_none (by assumption) (by first | assumption | exact Ne.symm (by assumption)) | exact Hp.set_none (Hp.set_none (by assumption) (by first | assumption | exact Ne.symm (by assumption))) (by first | assumption | exact Ne.symm (by assumption))) (Hp.le_set (by first | assumption | exact Hp.set_none (by assumption) (by first | assumption | exact Ne.symm (by assumption)) | exact Hp.set_none (Hp.set_none (by assumption) (by first | assumption | exact Ne.symm (by assumption))) (by first | assumption | exact Ne.symm (by assumption))) (Hp.le_refl _))) | exact (Hp.le_set (by first | assumption | exact Hp.set_none (by assumption) (by first | assumption | exact Ne.symm (by assumption)) | exact Hp.set_none (Hp.set_none (by assumption) (by first | assumption | exact Ne.symm (by assumption))) (by first | assumption | exact Ne.symm (by assumption))) (Hp.le_set (by first | assumption | exact Hp.set_none (by assumption) (by first | assumption | exact Ne.symm (by assumption)) | exact Hp.set_none (Hp.set_none (by assumption) (by first | assumption | exact Ne.symm (by assumption))) (by first | assumption | exact Ne.symm (by assumption))) (Hp.le_set (by first | assumption | exact Hp.set_none (by assumption) (by first | assumption | exact Ne.symm (by assumption)) | exact Hp.set_none (Hp.set_none (by assumption) (by first | assumption | exact Ne.symm (by assumption))) (by first | assumption | exact Ne.symm (by assumption))) (Hp.le_refl _)))) | exact (Hp.le_set (by first | assumption | exact Hp.set_none (by assumption) (by first | assumption | exact Ne.symm (by assumption)) | exact Hp.set_none (Hp.set_none (by assumption) (by first | assumption | exact Ne.symm (by assumption))) (by first | assumption | exact Ne.symm (by assumption))) (Hp.le_set (by first | assumption | exact Hp.set_none (by assumption) (by first | assumption | exact Ne.symm (by assumption)) | exact Hp.set_none (Hp.set_none (by assumption) (by first | assumption | exact Ne.symm (by assumption))) (by first | assumption | exact Ne.symm (by assumption))) (Hp.le_set (by first | assumption | exact Hp.set_none (by assumption) (by first | assumption | exact Ne.symm (by assumption)) | exact Hp.set_none (Hp.set_none (by assumption) (by first | assumption | exact Ne.symm (by assumption))) (by first | assumption | exact Ne.symm (by assumption))) (Hp.le_set (by first | assumption | exact Hp.set_none (by assumption) (by first | assumption | exact Ne.symm (by assumption)) | exact Hp.set_none (Hp.set_none (by assumption) (by first | assumption | exact Ne.symm (by assumption))) (by first | assumption | exact Ne.symm (by assumption))) (Hp.le_refl _))))) | exact (Hp.le_set (by first | assumption | exact Hp.set_none (by assumption) (by first | assumption | exact Ne.symm (by assumption)) | exact Hp.set_none (Hp.set_none (by assumption) (by first | assumption | exact Ne.symm (by assumption))) (by first | assumption | exact Ne.symm (by assumption))) (Hp.le_set (by first | assumption | exact Hp.set_none (by assumption) (by first | assumption | exact Ne.symm (by assumption)) | exact Hp.set_none (Hp.set_none (by assumption) (by first | assumption | exact Ne.symm (by assumption))) (by first | assumption | exact Ne.symm (by assumption))) (Hp.le_set (by first | assumption | exact Hp.set_none (by assumption) (by first | assumption | exact Ne.symm (by assumption)) | exact Hp.set_none (Hp.set_none (by assumption) (by first | assumption | exact Ne.symm (by assumption))) (by first | assumption | exact Ne.symm (by assumption))) (Hp.le_set (by first | assumption | exact Hp.set_none (by assumption) (by first | assumption | exact Ne.symm (by assumption)) | exact Hp.set_none (Hp.set_none (by assumption) (by first | assumption | exact Ne.symm (by assumption))) (by first | assumption | exact Ne.symm (by assumption))) (Hp.le_set (by first | assumption | exact Hp.set_none (by assumption) (by first | assumption | exact Ne.symm (by assumption)) | exact Hp.set_none (Hp.set_none (by assumption) (by first | assumption | exact Ne.symm (by assumption))) (by first | assumption | exact Ne.symm (by assumption))) (Hp.le_refl _)))))))) (src_lit (by first | exact Hp.set_self | exact (Hp.set_ne (by first | assumption | exact Ne.symm (by assumption))).trans (Hp.set_self) | exact (Hp.set_ne (by first | assumption | exact Ne.symm (by assumption))).trans ((Hp.set_ne (by first | assumption | exact Ne.symm (by assumption))).trans (Hp.set_self)) | exact (Hp.set_ne (by first | assumption | exact Ne.symm (by assumption))).trans ((Hp.set_ne (by first | assumption | exact Ne.symm (by assumption))).trans ((Hp.set_ne (by first | assumption | exact Ne.symm (by assumption))).trans (Hp.set_self))) | exact (Hp.set_ne (by first | assumption | exact Ne.symm (by assumption))).trans ((Hp.set_ne (by first | assumption | exact Ne.symm (by assumption))).trans ((Hp.set_ne (by first | assumption | exact Ne.symm (by assumption))).trans ((Hp.set_ne (by first | assumption | exact Ne.symm (by assumption))).trans (Hp.set_self)))) | exact (by assumption) | exact (Hp.set_ne (by first | assumption | exact Ne.symm (by assumption))).trans ((by assumption)) | exact (Hp.set_ne (by first | assumption | exact Ne.symm (by assumption))).trans ((Hp.set_ne (by first | assumption | exact Ne.symm (by assumption))).trans ((by assumption))) | exact (Hp.set_ne (by first | assumption | exact Ne.symm (by assumption))).trans ((Hp.set_ne (by first | assumption | exact Ne.symm (by assumption))).trans ((Hp.set_ne (by first | assumption | exact Ne.symm (by assumption))).trans ((by assumption))))) rfl (ones_all rfl)) (by first | (with_reducible assumption) | omega | (unfold maxLen; omega) | (simp only [nums_length, List.length_set, List.length_replicate, List.length_take, List.length_drop, List.length_append, List.length_cons, List.length_nil, ofB_length, toB_length]; omega) | (simp; done) | (simp; omega) | decide) (by first | (with_reducible assumption) | omega | (unfold maxLen; omega) | (simp only [nums_length, List.length_set, List.length_replicate, List.length_take, List.length_drop, List.length_append, List.length_cons, List.length_nil, ofB_length, toB_length]; omega) | (simp; done) | (simp; omega) | decide)) ?_
  rintro v13 H13 hA13
  obtain ⟨H13b, hl13, hB13⟩ := Grew.step hG (by first | exact (Hp.le_refl _) | exact (Hp.le_set (by first | assumption | exact Hp.set_none (by assumption) (by first | assumption | exact Ne.symm (by assumption)) | exact Hp.set_none (Hp.set_none (by assumption) (by first | assumption | exact Ne.symm (by assumption))) (by first | assumption | exact Ne.symm (by assumption))) (Hp.le_refl _)) | exact (Hp.le_set (by first | assumption | exact Hp.set_none (by assumption) (by first | assumption | exact Ne.symm (by assumption)) | exact Hp.set_none (Hp.set_none (by assumption) (by first | assumption | exact Ne.symm (by assumption))) (by first | assumption | exact Ne.symm (by assumption))) (Hp.le_set (by first | assumption | exact Hp.set_none (by assumption) (by first | assumption | exact Ne.symm (by assumption)) | exact Hp.set_none (Hp.set_none (by assumption) (by first | assumption | exact Ne.symm (by assumption))) (by first | assumption | exact Ne.symm (by assumption))) (Hp.le_refl _))) | exact (Hp.le_set (by first | assumption | exact Hp.set_none (by assumption) (by first | assumption | exact Ne.symm (by assumption)) | exact Hp.set_none (Hp.set_none (by assumption) (by first | assumption | exact Ne.symm (by assumption))) (by first | assumption | exact Ne.symm (by assumption))) (Hp.le_set (by first | assumption | exact Hp.set_none (by assumption) (by first | assumption | exact Ne.symm (by assumption)) | exact Hp.set_none (Hp.set_none (by assumption) (by first | assumption | exact Ne.symm (by assumption))) (by first | assumption | exact Ne.symm (by assumption))) (Hp.le_set (by first | assumption | exact Hp.set_none (by assumption) (by first | assumption | exact Ne.symm (by assumption)) | exact Hp.set_none (Hp.set_none (by assumption) (by first | assumption | exact Ne.symm (by assumption))) (by first | assumption | exact Ne.symm (by assumption))) (Hp.le_refl _)))) | exact (Hp.le_set (by first | assumption | exact Hp.set_none (by assumption) (by first | assumption | exact Ne.symm (by assumption)) | exact Hp.set_none (Hp.set_none (by assumption) (by first | assumption | exact Ne.symm (by assumption))) (by first | assumption | exact Ne.symm (by assumption))) (Hp.le_set (by first | assumption | exact Hp.set_none (by assumption) (by first | assumption | exact Ne.symm (by assumption)) | exact Hp.set_none (Hp.set_none (by assumption) (by first | assumption | exact Ne.symm (by assumption))) (by first | assumption | exact Ne.symm (by assumption))) (Hp.le_set (by first | assumption | exact Hp.set_none (by assumption) (by first | assumption | exact Ne.symm (by assumption)) | exact Hp.set_none (Hp.set_none (by assumption) (by first | assumption | exact Ne.symm (by assumption))) (by first | assumption | exact Ne.symm (by assumption))) (Hp.le_set (by first | assumption | exact Hp.set_none (by assumption) (by first | assumption | exact Ne.symm (by assumption)) | exact Hp.set_none (Hp.set_none (by assumption) (by first | assumption | exact Ne.symm (by assumption))) (by first | assumption | exact Ne.symm (by assumption))) (Hp.le_refl _))))) | exact (Hp.le_set (by first | assumption | exact Hp.set_none (by assumption) (by first | assumption | exact Ne.symm (by assumption)) | exact Hp.set_none (Hp.set_none (by assumption) (by first | assumption | exact Ne.symm (by assumption))) (by first | assumption | exact Ne.symm (by assumption))) (Hp.le_set (by first | assumption | exact Hp.set_none (by assumption) (by first | assumption | exact Ne.symm (by assumption)) | exact Hp.set_none (Hp.set_none (by assumption) (by first | assumption | exact Ne.symm (by assumption))) (by first | assumption | exact Ne.symm (by assumption))) (Hp.le_set (by first | assumption | exact Hp.set_none (by assumption) (by first | assumption | exact Ne.symm (by assumption)) | exact Hp.set_none (Hp.set_none (by assumption) (by first | assumption | exact Ne.symm (by assumption))) (by first | assumption | exact Ne.symm (by assumption))) (Hp.le_set (by first | assumption | exact Hp.set_none (by assumption) (by first | assumption | exact Ne.symm (by assumption)) | exact Hp.set_none (Hp.set_none (by assumption) (by first | assumption | exact Ne.symm (by assumption))) (by first | assumption | exact Ne.symm (by assumption))) (Hp.le_set (by first | assumption | exact Hp.set_none (by assumption) (by first | assumption | exact Ne.symm (by assumption)) | exact Hp.set_none (Hp.set_none (by assumption) (by first | assumption | exact Ne.symm (by assumption))) (by first | assumption | exact Ne.symm (by assumption))) (Hp.le_refl _))))))) hA13
  refine OpsW.forget hl13 ?_
  clear hA13 hl13
  refine OpsW.q rfl (q_assign (v := v13) rfl) ?_
  refine OpsW.nil ?_
  refine BlockP.go ?_
  refine SeqP.go ?_
  refine AW.region ?_
  refine OpsW.q rfl (q_move (v := .int _ _) rfl) ?_
  refine OpsW.q rfl (q_addI rfl rfl (by omega)) ?_
  refine OpsW.q rfl (q_assign (v := .int _ _) rfl) ?_
  refine OpsW.nil ?_
  exact LoopP.go _ (by omega) ⟨i + 1, v13, _, rfl, (by omega), Slots.eq ⟨(by first | rfl | exact i64_int (by omega) (by omega) (by omega) | assumption), (by first | rfl | exact i64_int (by omega) (by omega) (by omega) | assumption),  trivial⟩, (hB13.cast rfl (by rw [awakeK_succ, nums_snoc]))⟩
theorem blocks_con (key nonce : List UInt8) (n : Int) : Con Try.prog w0 3 #[S key, S nonce, .int .i64 n] H (fun v H' => v = .bool true ∧ H' = H) := by
  refine Con.intro Try.func3 rfl rfl ?_
  refine AW.seq ?_
  refine AW.region ?_
  refine OpsW.q rfl (q_assign (v := .bool _) rfl) ?_
  refine OpsW.nil ?_
  refine SeqP.go ?_
  refine AW.seq ?_
  refine AW.region ?_
  refine OpsW.q rfl (q_move (v := S _) rfl) ?_
  refine OpsW.q rfl (q_move (v := S _) rfl) ?_
  refine OpsW.q rfl (q_move (v := .int _ _) rfl) ?_
  refine OpsW.x rfl (o_call rfl Try.func7 rfl rfl (block_con _ _ _)) ?_
  refine OpsW.q rfl (q_move (v := .tuple _) rfl) ?_
  refine OpsW.q rfl (q_extract (v := S _) rfl rfl) ?_
  refine OpsW.q rfl (q_extract (v := .int _ _) rfl rfl) ?_
  refine OpsW.q rfl (q_assign (v := S _) rfl) ?_
  refine OpsW.q rfl (q_assign (v := .int _ _) rfl) ?_
  refine OpsW.nil ?_
  refine SeqP.go ?_
  refine AW.seq ?_
  refine AW.region ?_
  refine OpsW.q rfl (q_move (v := S _) rfl) ?_
  refine OpsW.q rfl (q_move (v := S _) rfl) ?_
  refine OpsW.q rfl (q_move (v := .int _ _) rfl) ?_
  refine OpsW.x rfl (o_call rfl Try.func8 rfl rfl (blockR_con _ _ _)) ?_
  refine OpsW.q rfl (q_move (v := .tuple _) rfl) ?_
  refine OpsW.q rfl (q_extract (v := S _) rfl rfl) ?_
  refine OpsW.q rfl (q_extract (v := .int _ _) rfl rfl) ?_
  refine OpsW.q rfl (q_assign (v := S _) rfl) ?_
  refine OpsW.q rfl (q_assign (v := .int _ _) rfl) ?_
  refine OpsW.nil ?_
  refine SeqP.go ?_
  refine AW.seq ?_
  refine AW.region ?_
  refine OpsW.q rfl (q_move (v := S _) rfl) ?_
  refine OpsW.q rfl (q_move (v := S _) rfl) ?_
  refine OpsW.q rfl (q_eqS rfl rfl) ?_
  refine OpsW.qb rfl (q_move (v := .bool _) rfl) ?_
  intro b28 eb28
  refine OpsW.g rfl rfl rfl (fun hB => by simp only [Bool.and_eq_true, beq_iff_eq] at hB; obtain rfl := hB; exact (q_move (v := .int _ _) rfl)) ?_
  refine OpsW.g rfl rfl rfl (fun hB => by simp only [Bool.and_eq_true, beq_iff_eq] at hB; obtain rfl := hB; exact (q_move (v := .int _ _) rfl)) ?_
  refine OpsW.g rfl rfl rfl (fun hB => by simp only [Bool.and_eq_true, beq_iff_eq] at hB; obtain rfl := hB; exact (q_eql rfl rfl)) ?_
  refine OpsW.q rfl (q_and2 rfl rfl rfl) ?_
  refine OpsW.qb rfl (q_move (v := .bool _) rfl) ?_
  intro b33 eb33
  refine OpsW.g rfl rfl rfl (fun hB => by simp only [Bool.and_eq_true, beq_iff_eq] at hB; obtain rfl := hB; exact (o_call rfl Try.func9 rfl rfl (awake_con))) ?_
  refine OpsW.q rfl (q_and2 rfl rfl rfl) ?_
  refine OpsW.q rfl (q_assign (v := .bool _) rfl) ?_
  refine OpsW.nil ?_
  refine SeqP.go ?_
  refine AW.ret ?_
  refine RetP.mk1 (H' := H) (v1 := .bool _) rfl rfl  (by first | exact (Hp.le_refl _) | exact (Hp.le_set (by first | assumption | exact Hp.set_none (by assumption) (by first | assumption | exact Ne.symm (by assumption)) | exact Hp.set_none (Hp.set_none (by assumption) (by first | assumption | exact Ne.symm (by assumption))) (by first | assumption | exact Ne.symm (by assumption))) (Hp.le_refl _)) | exact (Hp.le_set (by first | assumption | exact Hp.set_none (by assumption) (by first | assumption | exact Ne.symm (by assumption)) | exact Hp.set_none (Hp.set_none (by assumption) (by first | assumption | exact Ne.symm (by assumption))) (by first | assumption | exact Ne.symm (by assumption))) (Hp.le_set (by first | assumption | exact Hp.set_none (by assumption) (by first | assumption | exact Ne.symm (by assumption)) | exact Hp.set_none (Hp.set_none (by assumption) (by first | assumption | exact Ne.symm (by assumption))) (by first | assumption | exact Ne.symm (by assumption))) (Hp.le_refl _))) | exact (Hp.le_set (by first | assumption | exact Hp.set_none (by assumption) (by first | assumption | exact Ne.symm (by assumption)) | exact Hp.set_none (Hp.set_none (by assumption) (by first | assumption | exact Ne.symm (by assumption))) (by first | assumption | exact Ne.symm (by assumption))) (Hp.le_set (by first | assumption | exact Hp.set_none (by assumption) (by first | assumption | exact Ne.symm (by assumption)) | exact Hp.set_none (Hp.set_none (by assumption) (by first | assumption | exact Ne.symm (by assumption))) (by first | assumption | exact Ne.symm (by assumption))) (Hp.le_set (by first | assumption | exact Hp.set_none (by assumption) (by first | assumption | exact Ne.symm (by assumption)) | exact Hp.set_none (Hp.set_none (by assumption) (by first | assumption | exact Ne.symm (by assumption))) (by first | assumption | exact Ne.symm (by assumption))) (Hp.le_refl _)))) | exact (Hp.le_set (by first | assumption | exact Hp.set_none (by assumption) (by first | assumption | exact Ne.symm (by assumption)) | exact Hp.set_none (Hp.set_none (by assumption) (by first | assumption | exact Ne.symm (by assumption))) (by first | assumption | exact Ne.symm (by assumption))) (Hp.le_set (by first | assumption | exact Hp.set_none (by assumption) (by first | assumption | exact Ne.symm (by assumption)) | exact Hp.set_none (Hp.set_none (by assumption) (by first | assumption | exact Ne.symm (by assumption))) (by first | assumption | exact Ne.symm (by assumption))) (Hp.le_set (by first | assumption | exact Hp.set_none (by assumption) (by first | assumption | exact Ne.symm (by assumption)) | exact Hp.set_none (Hp.set_none (by assumption) (by first | assumption | exact Ne.symm (by assumption))) (by first | assumption | exact Ne.symm (by assumption))) (Hp.le_set (by first | assumption | exact Hp.set_none (by assumption) (by first | assumption | exact Ne.symm (by assumption)) | exact Hp.set_none (Hp.set_none (by assumption) (by first | assumption | exact Ne.symm (by assumption))) (by first | assumption | exact Ne.symm (by assumption))) (Hp.le_refl _))))) | exact (Hp.le_set (by first | assumption | exact Hp.set_none (by assumption) (by first | assumption | exact Ne.symm (by assumption)) | exact Hp.set_none (Hp.set_none (by assumption) (by first | assumption | exact Ne.symm (by assumption))) (by first | assumption | exact Ne.symm (by assumption))) (Hp.le_set (by first | assumption | exact Hp.set_none (by assumption) (by first | assumption | exact Ne.symm (by assumption)) | exact Hp.set_none (Hp.set_none (by assumption) (by first | assumption | exact Ne.symm (by assumption))) (by first | assumption | exact Ne.symm (by assumption))) (Hp.le_set (by first | assumption | exact Hp.set_none (by assumption) (by first | assumption | exact Ne.symm (by assumption)) | exact Hp.set_none (Hp.set_none (by assumption) (by first | assumption | exact Ne.symm (by assumption))) (by first | assumption | exact Ne.symm (by assumption))) (Hp.le_set (by first | assumption | exact Hp.set_none (by assumption) (by first | assumption | exact Ne.symm (by assumption)) | exact Hp.set_none (Hp.set_none (by assumption) (by first | assumption | exact Ne.symm (by assumption))) (by first | assumption | exact Ne.symm (by assumption))) (Hp.le_set (by first | assumption | exact Hp.set_none (by assumption) (by first | assumption | exact Ne.symm (by assumption)) | exact Hp.set_none (Hp.set_none (by assumption) (by first | assumption | exact Ne.symm (by assumption))) (by first | assumption | exact Ne.symm (by assumption))) (Hp.le_refl _))))))) ?_
  refine ⟨?_, rfl⟩
  simp_all
theorem xors_con (key nonce : List UInt8) (xn : Int) (xs : List UInt8) : Con Try.prog w0 4 #[S key, S nonce, .agg #[.int .i64 xn, S xs]] H (fun v H' => v = .bool true ∧ H' = H) := by
  refine Con.intro Try.func4 rfl rfl ?_
  refine AW.seq ?_
  refine AW.region ?_
  refine OpsW.m rfl (o_box (v := .agg _) rfl rfl) ?_
  rintro _ _ ⟨b5, hb5, rfl, rfl⟩
  refine OpsW.q rfl (q_assign (v := .bool _) rfl) ?_
  refine OpsW.nil ?_
  refine SeqP.go ?_
  refine AW.seq ?_
  refine AW.seq ?_
  refine AW.region ?_
  refine OpsW.q rfl (q_fieldAddr (sz := 0) Try.underlying28 rfl (by kernel_rfl) rfl) ?_
  refine OpsW.q rfl (q_load (v := S _) (by kernel_rfl) rfl (by first | exact Hp.set_self | exact (Hp.set_ne (by first | assumption | exact Ne.symm (by assumption))).trans (Hp.set_self) | exact (Hp.set_ne (by first | assumption | exact Ne.symm (by assumption))).trans ((Hp.set_ne (by first | assumption | exact Ne.symm (by assumption))).trans (Hp.set_self)) | exact (Hp.set_ne (by first | assumption | exact Ne.symm (by assumption))).trans ((Hp.set_ne (by first | assumption | exact Ne.symm (by assumption))).trans ((Hp.set_ne (by first | assumption | exact Ne.symm (by assumption))).trans (Hp.set_self))) | exact (Hp.set_ne (by first | assumption | exact Ne.symm (by assumption))).trans ((Hp.set_ne (by first | assumption | exact Ne.symm (by assumption))).trans ((Hp.set_ne (by first | assumption | exact Ne.symm (by assumption))).trans ((Hp.set_ne (by first | assumption | exact Ne.symm (by assumption))).trans (Hp.set_self)))) | exact (by assumption) | exact (Hp.set_ne (by first | assumption | exact Ne.symm (by assumption))).trans ((by assumption)) | exact (Hp.set_ne (by first | assumption | exact Ne.symm (by assumption))).trans ((Hp.set_ne (by first | assumption | exact Ne.symm (by assumption))).trans ((by assumption))) | exact (Hp.set_ne (by first | assumption | exact Ne.symm (by assumption))).trans ((Hp.set_ne (by first | assumption | exact Ne.symm (by assumption))).trans ((Hp.set_ne (by first | assumption | exact Ne.symm (by assumption))).trans ((by assumption))))) rfl) ?_
  refine OpsW.q rfl (q_lenS Try.underlying9 rfl) ?_
  refine OpsW.q rfl (q_gtr rfl rfl) ?_
  refine OpsW.nil ?_
  refine SeqP.go ?_
  refine AW.cond rfl (fun h0 => ?_) (fun h0 => ?_)
  ·
    try simp only [decide_eq_true_eq, decide_eq_false_iff_not, Bool.or_eq_true, Bool.and_eq_true, Bool.or_eq_false_iff, Bool.and_eq_false_imp, Bool.not_eq_true', Bool.not_eq_false', ne_eq, Decidable.not_not, Int.not_lt, Int.not_le, Bool.not_eq_true, Bool.not_eq_false] at h0
    refine AW.seq ?_
    refine AW.region ?_
    refine OpsW.x rfl (o_call rfl Try.func9 rfl rfl (awake_con)) ?_
    refine OpsW.q rfl (q_assign (v := .bool _) rfl) ?_
    refine OpsW.nil ?_
    refine SeqP.go ?_
    refine AW.ret ?_
    refine SeqP.ret ?_
    refine RetP.mk1 (H' := H) (v1 := .bool _) rfl rfl  (by first | exact (Hp.le_refl _) | exact (Hp.le_set (by first | assumption | exact Hp.set_none (by assumption) (by first | assumption | exact Ne.symm (by assumption)) | exact Hp.set_none (Hp.set_none (by assumption) (by first | assumption | exact Ne.symm (by assumption))) (by first | assumption | exact Ne.symm (by assumption))) (Hp.le_refl _)) | exact (Hp.le_set (by first | assumption | exact Hp.set_none (by assumption) (by first | assumption | exact Ne.symm (by assumption)) | exact Hp.set_none (Hp.set_none (by assumption) (by first | assumption | exact Ne.symm (by assumption))) (by first | assumption | exact Ne.symm (by assumption))) (Hp.le_set (by first | assumption | exact Hp.set_none (by assumption) (by first | assumption | exact Ne.symm (by assumption)) | exact Hp.set_none (Hp.set_none (by assumption) (by first | assumption | exact Ne.symm (by assumption))) (by first | assumption | exact Ne.symm (by assumption))) (Hp.le_refl _))) | exact (Hp.le_set (by first | assumption | exact Hp.set_none (by assumption) (by first | assumption | exact Ne.symm (by assumption)) | exact Hp.set_none (Hp.set_none (by assumption) (by first | assumption | exact Ne.symm (by assumption))) (by first | assumption | exact Ne.symm (by assumption))) (Hp.le_set (by first | assumption | exact Hp.set_none (by assumption) (by first | assumption | exact Ne.symm (by assumption)) | exact Hp.set_none (Hp.set_none (by assumption) (by first | assumption | exact Ne.symm (by assumption))) (by first | assumption | exact Ne.symm (by assumption))) (Hp.le_set (by first | assumption | exact Hp.set_none (by assumption) (by first | assumption | exact Ne.symm (by assumption)) | exact Hp.set_none (Hp.set_none (by assumption) (by first | assumption | exact Ne.symm (by assumption))) (by first | assumption | exact Ne.symm (by assumption))) (Hp.le_refl _)))) | exact (Hp.le_set (by first | assumption | exact Hp.set_none (by assumption) (by first | assumption | exact Ne.symm (by assumption)) | exact Hp.set_none (Hp.set_none (by assumption) (by first | assumption | exact Ne.symm (by assumption))) (by first | assumption | exact Ne.symm (by assumption))) (Hp.le_set (by first | assumption | exact Hp.set_none (by assumption) (by first | assumption | exact Ne.symm (by assumption)) | exact Hp.set_none (Hp.set_none (by assumption) (by first | assumption | exact Ne.symm (by assumption))) (by first | assumption | exact Ne.symm (by assumption))) (Hp.le_set (by first | assumption | exact Hp.set_none (by assumption) (by first | assumption | exact Ne.symm (by assumption)) | exact Hp.set_none (Hp.set_none (by assumption) (by first | assumption | exact Ne.symm (by assumption))) (by first | assumption | exact Ne.symm (by assumption))) (Hp.le_set (by first | assumption | exact Hp.set_none (by assumption) (by first | assumption | exact Ne.symm (by assumption)) | exact Hp.set_none (Hp.set_none (by assumption) (by first | assumption | exact Ne.symm (by assumption))) (by first | assumption | exact Ne.symm (by assumption))) (Hp.le_refl _))))) | exact (Hp.le_set (by first | assumption | exact Hp.set_none (by assumption) (by first | assumption | exact Ne.symm (by assumption)) | exact Hp.set_none (Hp.set_none (by assumption) (by first | assumption | exact Ne.symm (by assumption))) (by first | assumption | exact Ne.symm (by assumption))) (Hp.le_set (by first | assumption | exact Hp.set_none (by assumption) (by first | assumption | exact Ne.symm (by assumption)) | exact Hp.set_none (Hp.set_none (by assumption) (by first | assumption | exact Ne.symm (by assumption))) (by first | assumption | exact Ne.symm (by assumption))) (Hp.le_set (by first | assumption | exact Hp.set_none (by assumption) (by first | assumption | exact Ne.symm (by assumption)) | exact Hp.set_none (Hp.set_none (by assumption) (by first | assumption | exact Ne.symm (by assumption))) (by first | assumption | exact Ne.symm (by assumption))) (Hp.le_set (by first | assumption | exact Hp.set_none (by assumption) (by first | assumption | exact Ne.symm (by assumption)) | exact Hp.set_none (Hp.set_none (by assumption) (by first | assumption | exact Ne.symm (by assumption))) (by first | assumption | exact Ne.symm (by assumption))) (Hp.le_set (by first | assumption | exact Hp.set_none (by assumption) (by first | assumption | exact Ne.symm (by assumption)) | exact Hp.set_none (Hp.set_none (by assumption) (by first | assumption | exact Ne.symm (by assumption))) (by first | assumption | exact Ne.symm (by assumption))) (Hp.le_refl _))))))) ?_
    refine ⟨?_, rfl⟩
    simp_all [xor_same]
  try simp only [decide_eq_true_eq, decide_eq_false_iff_not, Bool.or_eq_true, Bool.and_eq_true, Bool.or_eq_false_iff, Bool.and_eq_false_imp, Bool.not_eq_true', Bool.not_eq_false', ne_eq, Decidable.not_not, Int.not_lt, Int.not_le, Bool.not_eq_true, Bool.not_eq_false] at h0
  refine AW.skip ?_
  refine SeqP.go ?_
  refine AW.seq ?_
  refine AW.region ?_
  refine OpsW.q rfl (q_move (v := S _) rfl) ?_
  refine OpsW.q rfl (q_move (v := S _) rfl) ?_
  refine OpsW.q rfl (q_fieldAddr (sz := 0) Try.underlying28 rfl (by kernel_rfl) rfl) ?_
  refine OpsW.q rfl (q_load (v := .int _ _) (by kernel_rfl) rfl (by first | exact Hp.set_self | exact (Hp.set_ne (by first | assumption | exact Ne.symm (by assumption))).trans (Hp.set_self) | exact (Hp.set_ne (by first | assumption | exact Ne.symm (by assumption))).trans ((Hp.set_ne (by first | assumption | exact Ne.symm (by assumption))).trans (Hp.set_self)) | exact (Hp.set_ne (by first | assumption | exact Ne.symm (by assumption))).trans ((Hp.set_ne (by first | assumption | exact Ne.symm (by assumption))).trans ((Hp.set_ne (by first | assumption | exact Ne.symm (by assumption))).trans (Hp.set_self))) | exact (Hp.set_ne (by first | assumption | exact Ne.symm (by assumption))).trans ((Hp.set_ne (by first | assumption | exact Ne.symm (by assumption))).trans ((Hp.set_ne (by first | assumption | exact Ne.symm (by assumption))).trans ((Hp.set_ne (by first | assumption | exact Ne.symm (by assumption))).trans (Hp.set_self)))) | exact (by assumption) | exact (Hp.set_ne (by first | assumption | exact Ne.symm (by assumption))).trans ((by assumption)) | exact (Hp.set_ne (by first | assumption | exact Ne.symm (by assumption))).trans ((Hp.set_ne (by first | assumption | exact Ne.symm (by assumption))).trans ((by assumption))) | exact (Hp.set_ne (by first | assumption | exact Ne.symm (by assumption))).trans ((Hp.set_ne (by first | assumption | exact Ne.symm (by assumption))).trans ((Hp.set_ne (by first | assumption | exact Ne.symm (by assumption))).trans ((by assumption))))) rfl) ?_
  refine OpsW.q rfl (q_fieldAddr (sz := 0) Try.underlying28 rfl (by kernel_rfl) rfl) ?_
  refine OpsW.q rfl (q_load (v := S _) (by kernel_rfl) rfl (by first | exact Hp.set_self | exact (Hp.set_ne (by first | assumption | exact Ne.symm (by assumption))).trans (Hp.set_self) | exact (Hp.set_ne (by first | assumption | exact Ne.symm (by assumption))).trans ((Hp.set_ne (by first | assumption | exact Ne.symm (by assumption))).trans (Hp.set_self)) | exact (Hp.set_ne (by first | assumption | exact Ne.symm (by assumption))).trans ((Hp.set_ne (by first | assumption | exact Ne.symm (by assumption))).trans ((Hp.set_ne (by first | assumption | exact Ne.symm (by assumption))).trans (Hp.set_self))) | exact (Hp.set_ne (by first | assumption | exact Ne.symm (by assumption))).trans ((Hp.set_ne (by first | assumption | exact Ne.symm (by assumption))).trans ((Hp.set_ne (by first | assumption | exact Ne.symm (by assumption))).trans ((Hp.set_ne (by first | assumption | exact Ne.symm (by assumption))).trans (Hp.set_self)))) | exact (by assumption) | exact (Hp.set_ne (by first | assumption | exact Ne.symm (by assumption))).trans ((by assumption)) | exact (Hp.set_ne (by first | assumption | exact Ne.symm (by assumption))).trans ((Hp.set_ne (by first | assumption | exact Ne.symm (by assumption))).trans ((by assumption))) | exact (Hp.set_ne (by first | assumption | exact Ne.symm (by assumption))).trans ((Hp.set_ne (by first | assumption | exact Ne.symm (by assumption))).trans ((Hp.set_ne (by first | assumption | exact Ne.symm (by assumption))).trans ((by assumption))))) rfl) ?_
  refine OpsW.x rfl (o_call rfl Try.func10 rfl rfl (xor_con _ _ _ _ (by first | (with_reducible assumption) | omega | (unfold maxLen; omega) | (simp only [nums_length, List.length_set, List.length_replicate, List.length_take, List.length_drop, List.length_append, List.length_cons, List.length_nil, ofB_length, toB_length]; omega) | (simp; done) | (simp; omega) | decide))) ?_
  refine OpsW.q rfl (q_move (v := .tuple _) rfl) ?_
  refine OpsW.q rfl (q_extract (v := S _) rfl rfl) ?_
  refine OpsW.q rfl (q_extract (v := .int _ _) rfl rfl) ?_
  refine OpsW.q rfl (q_assign (v := S _) rfl) ?_
  refine OpsW.q rfl (q_assign (v := .int _ _) rfl) ?_
  refine OpsW.nil ?_
  refine SeqP.go ?_
  refine AW.seq ?_
  refine AW.region ?_
  refine OpsW.q rfl (q_move (v := S _) rfl) ?_
  refine OpsW.q rfl (q_move (v := S _) rfl) ?_
  refine OpsW.q rfl (q_fieldAddr (sz := 0) Try.underlying28 rfl (by kernel_rfl) rfl) ?_
  refine OpsW.q rfl (q_load (v := .int _ _) (by kernel_rfl) rfl (by first | exact Hp.set_self | exact (Hp.set_ne (by first | assumption | exact Ne.symm (by assumption))).trans (Hp.set_self) | exact (Hp.set_ne (by first | assumption | exact Ne.symm (by assumption))).trans ((Hp.set_ne (by first | assumption | exact Ne.symm (by assumption))).trans (Hp.set_self)) | exact (Hp.set_ne (by first | assumption | exact Ne.symm (by assumption))).trans ((Hp.set_ne (by first | assumption | exact Ne.symm (by assumption))).trans ((Hp.set_ne (by first | assumption | exact Ne.symm (by assumption))).trans (Hp.set_self))) | exact (Hp.set_ne (by first | assumption | exact Ne.symm (by assumption))).trans ((Hp.set_ne (by first | assumption | exact Ne.symm (by assumption))).trans ((Hp.set_ne (by first | assumption | exact Ne.symm (by assumption))).trans ((Hp.set_ne (by first | assumption | exact Ne.symm (by assumption))).trans (Hp.set_self)))) | exact (by assumption) | exact (Hp.set_ne (by first | assumption | exact Ne.symm (by assumption))).trans ((by assumption)) | exact (Hp.set_ne (by first | assumption | exact Ne.symm (by assumption))).trans ((Hp.set_ne (by first | assumption | exact Ne.symm (by assumption))).trans ((by assumption))) | exact (Hp.set_ne (by first | assumption | exact Ne.symm (by assumption))).trans ((Hp.set_ne (by first | assumption | exact Ne.symm (by assumption))).trans ((Hp.set_ne (by first | assumption | exact Ne.symm (by assumption))).trans ((by assumption))))) rfl) ?_
  refine OpsW.q rfl (q_fieldAddr (sz := 0) Try.underlying28 rfl (by kernel_rfl) rfl) ?_
  refine OpsW.q rfl (q_load (v := S _) (by kernel_rfl) rfl (by first | exact Hp.set_self | exact (Hp.set_ne (by first | assumption | exact Ne.symm (by assumption))).trans (Hp.set_self) | exact (Hp.set_ne (by first | assumption | exact Ne.symm (by assumption))).trans ((Hp.set_ne (by first | assumption | exact Ne.symm (by assumption))).trans (Hp.set_self)) | exact (Hp.set_ne (by first | assumption | exact Ne.symm (by assumption))).trans ((Hp.set_ne (by first | assumption | exact Ne.symm (by assumption))).trans ((Hp.set_ne (by first | assumption | exact Ne.symm (by assumption))).trans (Hp.set_self))) | exact (Hp.set_ne (by first | assumption | exact Ne.symm (by assumption))).trans ((Hp.set_ne (by first | assumption | exact Ne.symm (by assumption))).trans ((Hp.set_ne (by first | assumption | exact Ne.symm (by assumption))).trans ((Hp.set_ne (by first | assumption | exact Ne.symm (by assumption))).trans (Hp.set_self)))) | exact (by assumption) | exact (Hp.set_ne (by first | assumption | exact Ne.symm (by assumption))).trans ((by assumption)) | exact (Hp.set_ne (by first | assumption | exact Ne.symm (by assumption))).trans ((Hp.set_ne (by first | assumption | exact Ne.symm (by assumption))).trans ((by assumption))) | exact (Hp.set_ne (by first | assumption | exact Ne.symm (by assumption))).trans ((Hp.set_ne (by first | assumption | exact Ne.symm (by assumption))).trans ((Hp.set_ne (by first | assumption | exact Ne.symm (by assumption))).trans ((by assumption))))) rfl) ?_
  refine OpsW.x rfl (o_call rfl Try.func11 rfl rfl (xorR_con _ _ _ _ (by first | (with_reducible assumption) | omega | (unfold maxLen; omega) | (simp only [nums_length, List.length_set, List.length_replicate, List.length_take, List.length_drop, List.length_append, List.length_cons, List.length_nil, ofB_length, toB_length]; omega) | (simp; done) | (simp; omega) | decide))) ?_
  refine OpsW.q rfl (q_move (v := .tuple _) rfl) ?_
  refine OpsW.q rfl (q_extract (v := S _) rfl rfl) ?_
  refine OpsW.q rfl (q_extract (v := .int _ _) rfl rfl) ?_
  refine OpsW.q rfl (q_assign (v := S _) rfl) ?_
  refine OpsW.q rfl (q_assign (v := .int _ _) rfl) ?_
  refine OpsW.nil ?_
  refine SeqP.go ?_
  refine AW.seq ?_
  refine AW.region ?_
  refine OpsW.q rfl (q_move (v := S _) rfl) ?_
  refine OpsW.q rfl (q_move (v := S _) rfl) ?_
  refine OpsW.q rfl (q_eqS rfl rfl) ?_
  refine OpsW.qb rfl (q_move (v := .bool _) rfl) ?_
  intro b39 eb39
  refine OpsW.g rfl rfl rfl (fun hB => by simp only [Bool.and_eq_true, beq_iff_eq] at hB; obtain rfl := hB; exact (q_move (v := .int _ _) rfl)) ?_
  refine OpsW.g rfl rfl rfl (fun hB => by simp only [Bool.and_eq_true, beq_iff_eq] at hB; obtain rfl := hB; exact (q_move (v := .int _ _) rfl)) ?_
  refine OpsW.g rfl rfl rfl (fun hB => by simp only [Bool.and_eq_true, beq_iff_eq] at hB; obtain rfl := hB; exact (q_eql rfl rfl)) ?_
  refine OpsW.q rfl (q_and2 rfl rfl rfl) ?_
  refine OpsW.qb rfl (q_move (v := .bool _) rfl) ?_
  intro b44 eb44
  refine OpsW.g rfl rfl rfl (fun hB => by simp only [Bool.and_eq_true, beq_iff_eq] at hB; obtain rfl := hB; exact (o_call rfl Try.func9 rfl rfl (awake_con))) ?_
  refine OpsW.q rfl (q_and2 rfl rfl rfl) ?_
  refine OpsW.q rfl (q_assign (v := .bool _) rfl) ?_
  refine OpsW.nil ?_
  refine SeqP.go ?_
  refine AW.ret ?_
  refine RetP.mk1 (H' := H) (v1 := .bool _) rfl rfl  (by first | exact (Hp.le_refl _) | exact (Hp.le_set (by first | assumption | exact Hp.set_none (by assumption) (by first | assumption | exact Ne.symm (by assumption)) | exact Hp.set_none (Hp.set_none (by assumption) (by first | assumption | exact Ne.symm (by assumption))) (by first | assumption | exact Ne.symm (by assumption))) (Hp.le_refl _)) | exact (Hp.le_set (by first | assumption | exact Hp.set_none (by assumption) (by first | assumption | exact Ne.symm (by assumption)) | exact Hp.set_none (Hp.set_none (by assumption) (by first | assumption | exact Ne.symm (by assumption))) (by first | assumption | exact Ne.symm (by assumption))) (Hp.le_set (by first | assumption | exact Hp.set_none (by assumption) (by first | assumption | exact Ne.symm (by assumption)) | exact Hp.set_none (Hp.set_none (by assumption) (by first | assumption | exact Ne.symm (by assumption))) (by first | assumption | exact Ne.symm (by assumption))) (Hp.le_refl _))) | exact (Hp.le_set (by first | assumption | exact Hp.set_none (by assumption) (by first | assumption | exact Ne.symm (by assumption)) | exact Hp.set_none (Hp.set_none (by assumption) (by first | assumption | exact Ne.symm (by assumption))) (by first | assumption | exact Ne.symm (by assumption))) (Hp.le_set (by first | assumption | exact Hp.set_none (by assumption) (by first | assumption | exact Ne.symm (by assumption)) | exact Hp.set_none (Hp.set_none (by assumption) (by first | assumption | exact Ne.symm (by assumption))) (by first | assumption | exact Ne.symm (by assumption))) (Hp.le_set (by first | assumption | exact Hp.set_none (by assumption) (by first | assumption | exact Ne.symm (by assumption)) | exact Hp.set_none (Hp.set_none (by assumption) (by first | assumption | exact Ne.symm (by assumption))) (by first | assumption | exact Ne.symm (by assumption))) (Hp.le_refl _)))) | exact (Hp.le_set (by first | assumption | exact Hp.set_none (by assumption) (by first | assumption | exact Ne.symm (by assumption)) | exact Hp.set_none (Hp.set_none (by assumption) (by first | assumption | exact Ne.symm (by assumption))) (by first | assumption | exact Ne.symm (by assumption))) (Hp.le_set (by first | assumption | exact Hp.set_none (by assumption) (by first | assumption | exact Ne.symm (by assumption)) | exact Hp.set_none (Hp.set_none (by assumption) (by first | assumption | exact Ne.symm (by assumption))) (by first | assumption | exact Ne.symm (by assumption))) (Hp.le_set (by first | assumption | exact Hp.set_none (by assumption) (by first | assumption | exact Ne.symm (by assumption)) | exact Hp.set_none (Hp.set_none (by assumption) (by first | assumption | exact Ne.symm (by assumption))) (by first | assumption | exact Ne.symm (by assumption))) (Hp.le_set (by first | assumption | exact Hp.set_none (by assumption) (by first | assumption | exact Ne.symm (by assumption)) | exact Hp.set_none (Hp.set_none (by assumption) (by first | assumption | exact Ne.symm (by assumption))) (by first | assumption | exact Ne.symm (by assumption))) (Hp.le_refl _))))) | exact (Hp.le_set (by first | assumption | exact Hp.set_none (by assumption) (by first | assumption | exact Ne.symm (by assumption)) | exact Hp.set_none (Hp.set_none (by assumption) (by first | assumption | exact Ne.symm (by assumption))) (by first | assumption | exact Ne.symm (by assumption))) (Hp.le_set (by first | assumption | exact Hp.set_none (by assumption) (by first | assumption | exact Ne.symm (by assumption)) | exact Hp.set_none (Hp.set_none (by assumption) (by first | assumption | exact Ne.symm (by assumption))) (by first | assumption | exact Ne.symm (by assumption))) (Hp.le_set (by first | assumption | exact Hp.set_none (by assumption) (by first | assumption | exact Ne.symm (by assumption)) | exact Hp.set_none (Hp.set_none (by assumption) (by first | assumption | exact Ne.symm (by assumption))) (by first | assumption | exact Ne.symm (by assumption))) (Hp.le_set (by first | assumption | exact Hp.set_none (by assumption) (by first | assumption | exact Ne.symm (by assumption)) | exact Hp.set_none (Hp.set_none (by assumption) (by first | assumption | exact Ne.symm (by assumption))) (by first | assumption | exact Ne.symm (by assumption))) (Hp.le_set (by first | assumption | exact Hp.set_none (by assumption) (by first | assumption | exact Ne.symm (by assumption)) | exact Hp.set_none (Hp.set_none (by assumption) (by first | assumption | exact Ne.symm (by assumption))) (by first | assumption | exact Ne.symm (by assumption))) (Hp.le_refl _))))))) ?_
  refine ⟨?_, rfl⟩
  simp_all [xor_same]
theorem back_con (key nonce : List UInt8) (xn : Int) (xs : List UInt8) : Con Try.prog w0 5 #[S key, S nonce, .agg #[.int .i64 xn, S xs]] H (fun v H' => v = .bool true ∧ H' = H) := by
  refine Con.intro Try.func5 rfl rfl ?_
  refine AW.seq ?_
  refine AW.region ?_
  refine OpsW.m rfl (o_box (v := .agg _) rfl rfl) ?_
  rintro _ _ ⟨b5, hb5, rfl, rfl⟩
  refine OpsW.q rfl (q_assign (v := .bool _) rfl) ?_
  refine OpsW.nil ?_
  refine SeqP.go ?_
  refine AW.seq ?_
  refine AW.seq ?_
  refine AW.region ?_
  refine OpsW.q rfl (q_fieldAddr (sz := 0) Try.underlying28 rfl (by kernel_rfl) rfl) ?_
  refine OpsW.q rfl (q_load (v := S _) (by kernel_rfl) rfl (by first | exact Hp.set_self | exact (Hp.set_ne (by first | assumption | exact Ne.symm (by assumption))).trans (Hp.set_self) | exact (Hp.set_ne (by first | assumption | exact Ne.symm (by assumption))).trans ((Hp.set_ne (by first | assumption | exact Ne.symm (by assumption))).trans (Hp.set_self)) | exact (Hp.set_ne (by first | assumption | exact Ne.symm (by assumption))).trans ((Hp.set_ne (by first | assumption | exact Ne.symm (by assumption))).trans ((Hp.set_ne (by first | assumption | exact Ne.symm (by assumption))).trans (Hp.set_self))) | exact (Hp.set_ne (by first | assumption | exact Ne.symm (by assumption))).trans ((Hp.set_ne (by first | assumption | exact Ne.symm (by assumption))).trans ((Hp.set_ne (by first | assumption | exact Ne.symm (by assumption))).trans ((Hp.set_ne (by first | assumption | exact Ne.symm (by assumption))).trans (Hp.set_self)))) | exact (by assumption) | exact (Hp.set_ne (by first | assumption | exact Ne.symm (by assumption))).trans ((by assumption)) | exact (Hp.set_ne (by first | assumption | exact Ne.symm (by assumption))).trans ((Hp.set_ne (by first | assumption | exact Ne.symm (by assumption))).trans ((by assumption))) | exact (Hp.set_ne (by first | assumption | exact Ne.symm (by assumption))).trans ((Hp.set_ne (by first | assumption | exact Ne.symm (by assumption))).trans ((Hp.set_ne (by first | assumption | exact Ne.symm (by assumption))).trans ((by assumption))))) rfl) ?_
  refine OpsW.q rfl (q_lenS Try.underlying9 rfl) ?_
  refine OpsW.q rfl (q_gtr rfl rfl) ?_
  refine OpsW.nil ?_
  refine SeqP.go ?_
  refine AW.cond rfl (fun h0 => ?_) (fun h0 => ?_)
  ·
    try simp only [decide_eq_true_eq, decide_eq_false_iff_not, Bool.or_eq_true, Bool.and_eq_true, Bool.or_eq_false_iff, Bool.and_eq_false_imp, Bool.not_eq_true', Bool.not_eq_false', ne_eq, Decidable.not_not, Int.not_lt, Int.not_le, Bool.not_eq_true, Bool.not_eq_false] at h0
    refine AW.seq ?_
    refine AW.region ?_
    refine OpsW.x rfl (o_call rfl Try.func9 rfl rfl (awake_con)) ?_
    refine OpsW.q rfl (q_assign (v := .bool _) rfl) ?_
    refine OpsW.nil ?_
    refine SeqP.go ?_
    refine AW.ret ?_
    refine SeqP.ret ?_
    refine RetP.mk1 (H' := H) (v1 := .bool _) rfl rfl  (by first | exact (Hp.le_refl _) | exact (Hp.le_set (by first | assumption | exact Hp.set_none (by assumption) (by first | assumption | exact Ne.symm (by assumption)) | exact Hp.set_none (Hp.set_none (by assumption) (by first | assumption | exact Ne.symm (by assumption))) (by first | assumption | exact Ne.symm (by assumption))) (Hp.le_refl _)) | exact (Hp.le_set (by first | assumption | exact Hp.set_none (by assumption) (by first | assumption | exact Ne.symm (by assumption)) | exact Hp.set_none (Hp.set_none (by assumption) (by first | assumption | exact Ne.symm (by assumption))) (by first | assumption | exact Ne.symm (by assumption))) (Hp.le_set (by first | assumption | exact Hp.set_none (by assumption) (by first | assumption | exact Ne.symm (by assumption)) | exact Hp.set_none (Hp.set_none (by assumption) (by first | assumption | exact Ne.symm (by assumption))) (by first | assumption | exact Ne.symm (by assumption))) (Hp.le_refl _))) | exact (Hp.le_set (by first | assumption | exact Hp.set_none (by assumption) (by first | assumption | exact Ne.symm (by assumption)) | exact Hp.set_none (Hp.set_none (by assumption) (by first | assumption | exact Ne.symm (by assumption))) (by first | assumption | exact Ne.symm (by assumption))) (Hp.le_set (by first | assumption | exact Hp.set_none (by assumption) (by first | assumption | exact Ne.symm (by assumption)) | exact Hp.set_none (Hp.set_none (by assumption) (by first | assumption | exact Ne.symm (by assumption))) (by first | assumption | exact Ne.symm (by assumption))) (Hp.le_set (by first | assumption | exact Hp.set_none (by assumption) (by first | assumption | exact Ne.symm (by assumption)) | exact Hp.set_none (Hp.set_none (by assumption) (by first | assumption | exact Ne.symm (by assumption))) (by first | assumption | exact Ne.symm (by assumption))) (Hp.le_refl _)))) | exact (Hp.le_set (by first | assumption | exact Hp.set_none (by assumption) (by first | assumption | exact Ne.symm (by assumption)) | exact Hp.set_none (Hp.set_none (by assumption) (by first | assumption | exact Ne.symm (by assumption))) (by first | assumption | exact Ne.symm (by assumption))) (Hp.le_set (by first | assumption | exact Hp.set_none (by assumption) (by first | assumption | exact Ne.symm (by assumption)) | exact Hp.set_none (Hp.set_none (by assumption) (by first | assumption | exact Ne.symm (by assumption))) (by first | assumption | exact Ne.symm (by assumption))) (Hp.le_set (by first | assumption | exact Hp.set_none (by assumption) (by first | assumption | exact Ne.symm (by assumption)) | exact Hp.set_none (Hp.set_none (by assumption) (by first | assumption | exact Ne.symm (by assumption))) (by first | assumption | exact Ne.symm (by assumption))) (Hp.le_set (by first | assumption | exact Hp.set_none (by assumption) (by first | assumption | exact Ne.symm (by assumption)) | exact Hp.set_none (Hp.set_none (by assumption) (by first | assumption | exact Ne.symm (by assumption))) (by first | assumption | exact Ne.symm (by assumption))) (Hp.le_refl _))))) | exact (Hp.le_set (by first | assumption | exact Hp.set_none (by assumption) (by first | assumption | exact Ne.symm (by assumption)) | exact Hp.set_none (Hp.set_none (by assumption) (by first | assumption | exact Ne.symm (by assumption))) (by first | assumption | exact Ne.symm (by assumption))) (Hp.le_set (by first | assumption | exact Hp.set_none (by assumption) (by first | assumption | exact Ne.symm (by assumption)) | exact Hp.set_none (Hp.set_none (by assumption) (by first | assumption | exact Ne.symm (by assumption))) (by first | assumption | exact Ne.symm (by assumption))) (Hp.le_set (by first | assumption | exact Hp.set_none (by assumption) (by first | assumption | exact Ne.symm (by assumption)) | exact Hp.set_none (Hp.set_none (by assumption) (by first | assumption | exact Ne.symm (by assumption))) (by first | assumption | exact Ne.symm (by assumption))) (Hp.le_set (by first | assumption | exact Hp.set_none (by assumption) (by first | assumption | exact Ne.symm (by assumption)) | exact Hp.set_none (Hp.set_none (by assumption) (by first | assumption | exact Ne.symm (by assumption))) (by first | assumption | exact Ne.symm (by assumption))) (Hp.le_set (by first | assumption | exact Hp.set_none (by assumption) (by first | assumption | exact Ne.symm (by assumption)) | exact Hp.set_none (Hp.set_none (by assumption) (by first | assumption | exact Ne.symm (by assumption))) (by first | assumption | exact Ne.symm (by assumption))) (Hp.le_refl _))))))) ?_
    refine ⟨?_, rfl⟩
    simp_all
  try simp only [decide_eq_true_eq, decide_eq_false_iff_not, Bool.or_eq_true, Bool.and_eq_true, Bool.or_eq_false_iff, Bool.and_eq_false_imp, Bool.not_eq_true', Bool.not_eq_false', ne_eq, Decidable.not_not, Int.not_lt, Int.not_le, Bool.not_eq_true, Bool.not_eq_false] at h0
  refine AW.skip ?_
  refine SeqP.go ?_
  refine AW.seq ?_
  refine AW.region ?_
  refine OpsW.q rfl (q_move (v := S _) rfl) ?_
  refine OpsW.q rfl (q_move (v := S _) rfl) ?_
  refine OpsW.q rfl (q_fieldAddr (sz := 0) Try.underlying28 rfl (by kernel_rfl) rfl) ?_
  refine OpsW.q rfl (q_load (v := .int _ _) (by kernel_rfl) rfl (by first | exact Hp.set_self | exact (Hp.set_ne (by first | assumption | exact Ne.symm (by assumption))).trans (Hp.set_self) | exact (Hp.set_ne (by first | assumption | exact Ne.symm (by assumption))).trans ((Hp.set_ne (by first | assumption | exact Ne.symm (by assumption))).trans (Hp.set_self)) | exact (Hp.set_ne (by first | assumption | exact Ne.symm (by assumption))).trans ((Hp.set_ne (by first | assumption | exact Ne.symm (by assumption))).trans ((Hp.set_ne (by first | assumption | exact Ne.symm (by assumption))).trans (Hp.set_self))) | exact (Hp.set_ne (by first | assumption | exact Ne.symm (by assumption))).trans ((Hp.set_ne (by first | assumption | exact Ne.symm (by assumption))).trans ((Hp.set_ne (by first | assumption | exact Ne.symm (by assumption))).trans ((Hp.set_ne (by first | assumption | exact Ne.symm (by assumption))).trans (Hp.set_self)))) | exact (by assumption) | exact (Hp.set_ne (by first | assumption | exact Ne.symm (by assumption))).trans ((by assumption)) | exact (Hp.set_ne (by first | assumption | exact Ne.symm (by assumption))).trans ((Hp.set_ne (by first | assumption | exact Ne.symm (by assumption))).trans ((by assumption))) | exact (Hp.set_ne (by first | assumption | exact Ne.symm (by assumption))).trans ((Hp.set_ne (by first | assumption | exact Ne.symm (by assumption))).trans ((Hp.set_ne (by first | assumption | exact Ne.symm (by assumption))).trans ((by assumption))))) rfl) ?_
  refine OpsW.q rfl (q_fieldAddr (sz := 0) Try.underlying28 rfl (by kernel_rfl) rfl) ?_
  refine OpsW.q rfl (q_load (v := S _) (by kernel_rfl) rfl (by first | exact Hp.set_self | exact (Hp.set_ne (by first | assumption | exact Ne.symm (by assumption))).trans (Hp.set_self) | exact (Hp.set_ne (by first | assumption | exact Ne.symm (by assumption))).trans ((Hp.set_ne (by first | assumption | exact Ne.symm (by assumption))).trans (Hp.set_self)) | exact (Hp.set_ne (by first | assumption | exact Ne.symm (by assumption))).trans ((Hp.set_ne (by first | assumption | exact Ne.symm (by assumption))).trans ((Hp.set_ne (by first | assumption | exact Ne.symm (by assumption))).trans (Hp.set_self))) | exact (Hp.set_ne (by first | assumption | exact Ne.symm (by assumption))).trans ((Hp.set_ne (by first | assumption | exact Ne.symm (by assumption))).trans ((Hp.set_ne (by first | assumption | exact Ne.symm (by assumption))).trans ((Hp.set_ne (by first | assumption | exact Ne.symm (by assumption))).trans (Hp.set_self)))) | exact (by assumption) | exact (Hp.set_ne (by first | assumption | exact Ne.symm (by assumption))).trans ((by assumption)) | exact (Hp.set_ne (by first | assumption | exact Ne.symm (by assumption))).trans ((Hp.set_ne (by first | assumption | exact Ne.symm (by assumption))).trans ((by assumption))) | exact (Hp.set_ne (by first | assumption | exact Ne.symm (by assumption))).trans ((Hp.set_ne (by first | assumption | exact Ne.symm (by assumption))).trans ((Hp.set_ne (by first | assumption | exact Ne.symm (by assumption))).trans ((by assumption))))) rfl) ?_
  refine OpsW.x rfl (o_call rfl Try.func10 rfl rfl (xor_con _ _ _ _ (by first | (with_reducible assumption) | omega | (unfold maxLen; omega) | (simp only [nums_length, List.length_set, List.length_replicate, List.length_take, List.length_drop, List.length_append, List.length_cons, List.length_nil, ofB_length, toB_length]; omega) | (simp; done) | (simp; omega) | decide))) ?_
  refine OpsW.q rfl (q_move (v := .tuple _) rfl) ?_
  refine OpsW.q rfl (q_extract (v := S _) rfl rfl) ?_
  refine OpsW.q rfl (q_extract (v := .int _ _) rfl rfl) ?_
  refine OpsW.q rfl (q_assign (v := S _) rfl) ?_
  refine OpsW.q rfl (q_assign (v := .int _ _) rfl) ?_
  refine OpsW.nil ?_
  refine SeqP.go ?_
  refine AW.seq ?_
  refine AW.seq ?_
  refine AW.region ?_
  refine OpsW.q rfl (q_move (v := .int _ _) rfl) ?_
  refine OpsW.q rfl (q_neq rfl rfl) ?_
  refine OpsW.nil ?_
  refine SeqP.go ?_
  refine AW.cond rfl (fun h1 => ?_) (fun h1 => ?_)
  ·
    try simp only [decide_eq_true_eq, decide_eq_false_iff_not, Bool.or_eq_true, Bool.and_eq_true, Bool.or_eq_false_iff, Bool.and_eq_false_imp, Bool.not_eq_true', Bool.not_eq_false', ne_eq, Decidable.not_not, Int.not_lt, Int.not_le, Bool.not_eq_true, Bool.not_eq_false] at h1
    have hno := xorP_none h1
    have hkk := xorP_key key nonce xs xn
    have hk1 : ((key.length : Int) = 32) = (key.length = 32) := propext ⟨by omega, by omega⟩
    have hk2 : ((nonce.length : Int) = 12) = (nonce.length = 12) := propext ⟨by omega, by omega⟩
    refine AW.seq ?_
    refine AW.region ?_
    refine OpsW.q rfl (q_move (v := S _) rfl) ?_
    refine OpsW.q rfl (q_eqS rfl rfl) ?_
    refine OpsW.qb rfl (q_move (v := .bool _) rfl) ?_
    intro b33 eb33
    refine OpsW.g rfl rfl rfl (fun hB => by simp only [Bool.and_eq_true, beq_iff_eq] at hB; obtain rfl := hB; exact (q_move (v := .int _ _) rfl)) ?_
    refine OpsW.g rfl rfl rfl (fun hB => by simp only [Bool.and_eq_true, beq_iff_eq] at hB; obtain rfl := hB; exact (q_eql rfl rfl)) ?_
    refine OpsW.g rfl rfl rfl (fun hB => by simp only [Bool.and_eq_true, beq_iff_eq] at hB; obtain rfl := hB; exact (q_move (v := S _) rfl)) ?_
    refine OpsW.g rfl rfl rfl (fun hB => by simp only [Bool.and_eq_true, beq_iff_eq] at hB; obtain rfl := hB; exact (q_lenS Try.underlying9 rfl)) ?_
    refine OpsW.g rfl rfl rfl (fun hB => by simp only [Bool.and_eq_true, beq_iff_eq] at hB; obtain rfl := hB; exact (q_neq rfl rfl)) ?_
    refine OpsW.gb rfl rfl rfl (fun hB => by simp only [Bool.and_eq_true, beq_iff_eq] at hB; obtain rfl := hB; exact (q_move (v := .bool _) rfl)) ?_
    intro b39 eb39
    refine OpsW.gg rfl rfl rfl (fun hB => by simp only [Bool.and_eq_true, beq_iff_eq] at hB; obtain ⟨rfl, rfl⟩ := hB; exact (q_move (v := S _) rfl)) ?_
    refine OpsW.gg rfl rfl rfl (fun hB => by simp only [Bool.and_eq_true, beq_iff_eq] at hB; obtain ⟨rfl, rfl⟩ := hB; exact (q_lenS Try.underlying9 rfl)) ?_
    refine OpsW.gg rfl rfl rfl (fun hB => by simp only [Bool.and_eq_true, beq_iff_eq] at hB; obtain ⟨rfl, rfl⟩ := hB; exact (q_neq rfl rfl)) ?_
    refine OpsW.g rfl rfl rfl (fun hB => by simp only [Bool.and_eq_true, beq_iff_eq] at hB; obtain rfl := hB; exact (q_or2 rfl rfl rfl)) ?_
    refine OpsW.g rfl rfl rfl (fun hB => by simp only [Bool.and_eq_true, beq_iff_eq] at hB; obtain rfl := hB; exact (q_eqlB Try.underlying4 rfl rfl)) ?_
    refine OpsW.q rfl (q_and2 rfl rfl rfl) ?_
    refine OpsW.qb rfl (q_move (v := .bool _) rfl) ?_
    intro b46 eb46
    refine OpsW.g rfl rfl rfl (fun hB => by simp only [Bool.and_eq_true, beq_iff_eq] at hB; obtain rfl := hB; exact (o_call rfl Try.func9 rfl rfl (awake_con))) ?_
    refine OpsW.q rfl (q_and2 rfl rfl rfl) ?_
    refine OpsW.q rfl (q_assign (v := .bool _) rfl) ?_
    refine OpsW.nil ?_
    refine SeqP.go ?_
    refine AW.ret ?_
    refine SeqP.ret ?_
    refine RetP.mk1 (H' := H) (v1 := .bool _) rfl rfl  (by first | exact (Hp.le_refl _) | exact (Hp.le_set (by first | assumption | exact Hp.set_none (by assumption) (by first | assumption | exact Ne.symm (by assumption)) | exact Hp.set_none (Hp.set_none (by assumption) (by first | assumption | exact Ne.symm (by assumption))) (by first | assumption | exact Ne.symm (by assumption))) (Hp.le_refl _)) | exact (Hp.le_set (by first | assumption | exact Hp.set_none (by assumption) (by first | assumption | exact Ne.symm (by assumption)) | exact Hp.set_none (Hp.set_none (by assumption) (by first | assumption | exact Ne.symm (by assumption))) (by first | assumption | exact Ne.symm (by assumption))) (Hp.le_set (by first | assumption | exact Hp.set_none (by assumption) (by first | assumption | exact Ne.symm (by assumption)) | exact Hp.set_none (Hp.set_none (by assumption) (by first | assumption | exact Ne.symm (by assumption))) (by first | assumption | exact Ne.symm (by assumption))) (Hp.le_refl _))) | exact (Hp.le_set (by first | assumption | exact Hp.set_none (by assumption) (by first | assumption | exact Ne.symm (by assumption)) | exact Hp.set_none (Hp.set_none (by assumption) (by first | assumption | exact Ne.symm (by assumption))) (by first | assumption | exact Ne.symm (by assumption))) (Hp.le_set (by first | assumption | exact Hp.set_none (by assumption) (by first | assumption | exact Ne.symm (by assumption)) | exact Hp.set_none (Hp.set_none (by assumption) (by first | assumption | exact Ne.symm (by assumption))) (by first | assumption | exact Ne.symm (by assumption))) (Hp.le_set (by first | assumption | exact Hp.set_none (by assumption) (by first | assumption | exact Ne.symm (by assumption)) | exact Hp.set_none (Hp.set_none (by assumption) (by first | assumption | exact Ne.symm (by assumption))) (by first | assumption | exact Ne.symm (by assumption))) (Hp.le_refl _)))) | exact (Hp.le_set (by first | assumption | exact Hp.set_none (by assumption) (by first | assumption | exact Ne.symm (by assumption)) | exact Hp.set_none (Hp.set_none (by assumption) (by first | assumption | exact Ne.symm (by assumption))) (by first | assumption | exact Ne.symm (by assumption))) (Hp.le_set (by first | assumption | exact Hp.set_none (by assumption) (by first | assumption | exact Ne.symm (by assumption)) | exact Hp.set_none (Hp.set_none (by assumption) (by first | assumption | exact Ne.symm (by assumption))) (by first | assumption | exact Ne.symm (by assumption))) (Hp.le_set (by first | assumption | exact Hp.set_none (by assumption) (by first | assumption | exact Ne.symm (by assumption)) | exact Hp.set_none (Hp.set_none (by assumption) (by first | assumption | exact Ne.symm (by assumption))) (by first | assumption | exact Ne.symm (by assumption))) (Hp.le_set (by first | assumption | exact Hp.set_none (by assumption) (by first | assumption | exact Ne.symm (by assumption)) | exact Hp.set_none (Hp.set_none (by assumption) (by first | assumption | exact Ne.symm (by assumption))) (by first | assumption | exact Ne.symm (by assumption))) (Hp.le_refl _))))) | exact (Hp.le_set (by first | assumption | exact Hp.set_none (by assumption) (by first | assumption | exact Ne.symm (by assumption)) | exact Hp.set_none (Hp.set_none (by assumption) (by first | assumption | exact Ne.symm (by assumption))) (by first | assumption | exact Ne.symm (by assumption))) (Hp.le_set (by first | assumption | exact Hp.set_none (by assumption) (by first | assumption | exact Ne.symm (by assumption)) | exact Hp.set_none (Hp.set_none (by assumption) (by first | assumption | exact Ne.symm (by assumption))) (by first | assumption | exact Ne.symm (by assumption))) (Hp.le_set (by first | assumption | exact Hp.set_none (by assumption) (by first | assumption | exact Ne.symm (by assumption)) | exact Hp.set_none (Hp.set_none (by assumption) (by first | assumption | exact Ne.symm (by assumption))) (by first | assumption | exact Ne.symm (by assumption))) (Hp.le_set (by first | assumption | exact Hp.set_none (by assumption) (by first | assumption | exact Ne.symm (by assumption)) | exact Hp.set_none (Hp.set_none (by assumption) (by first | assumption | exact Ne.symm (by assumption))) (by first | assumption | exact Ne.symm (by assumption))) (Hp.le_set (by first | assumption | exact Hp.set_none (by assumption) (by first | assumption | exact Ne.symm (by assumption)) | exact Hp.set_none (Hp.set_none (by assumption) (by first | assumption | exact Ne.symm (by assumption))) (by first | assumption | exact Ne.symm (by assumption))) (Hp.le_refl _))))))) ?_
    refine ⟨?_, rfl⟩
    simp_all
  try simp only [decide_eq_true_eq, decide_eq_false_iff_not, Bool.or_eq_true, Bool.and_eq_true, Bool.or_eq_false_iff, Bool.and_eq_false_imp, Bool.not_eq_true', Bool.not_eq_false', ne_eq, Decidable.not_not, Int.not_lt, Int.not_le, Bool.not_eq_true, Bool.not_eq_false] at h1
  have hxl := xorP_length h1
  have hback := xorP_back h1
  obtain ⟨hw, hbd⟩ := xorP_zero h1
  obtain ⟨hk, hn, hn0, hn1⟩ := wrong_zero hw
  refine AW.skip ?_
  refine SeqP.go ?_
  refine AW.seq ?_
  refine AW.region ?_
  refine OpsW.q rfl (q_move (v := S _) rfl) ?_
  refine OpsW.q rfl (q_move (v := S _) rfl) ?_
  refine OpsW.q rfl (q_fieldAddr (sz := 0) Try.underlying28 rfl (by kernel_rfl) rfl) ?_
  refine OpsW.q rfl (q_load (v := .int _ _) (by kernel_rfl) rfl (by first | exact Hp.set_self | exact (Hp.set_ne (by first | assumption | exact Ne.symm (by assumption))).trans (Hp.set_self) | exact (Hp.set_ne (by first | assumption | exact Ne.symm (by assumption))).trans ((Hp.set_ne (by first | assumption | exact Ne.symm (by assumption))).trans (Hp.set_self)) | exact (Hp.set_ne (by first | assumption | exact Ne.symm (by assumption))).trans ((Hp.set_ne (by first | assumption | exact Ne.symm (by assumption))).trans ((Hp.set_ne (by first | assumption | exact Ne.symm (by assumption))).trans (Hp.set_self))) | exact (Hp.set_ne (by first | assumption | exact Ne.symm (by assumption))).trans ((Hp.set_ne (by first | assumption | exact Ne.symm (by assumption))).trans ((Hp.set_ne (by first | assumption | exact Ne.symm (by assumption))).trans ((Hp.set_ne (by first | assumption | exact Ne.symm (by assumption))).trans (Hp.set_self)))) | exact (by assumption) | exact (Hp.set_ne (by first | assumption | exact Ne.symm (by assumption))).trans ((by assumption)) | exact (Hp.set_ne (by first | assumption | exact Ne.symm (by assumption))).trans ((Hp.set_ne (by first | assumption | exact Ne.symm (by assumption))).trans ((by assumption))) | exact (Hp.set_ne (by first | assumption | exact Ne.symm (by assumption))).trans ((Hp.set_ne (by first | assumption | exact Ne.symm (by assumption))).trans ((Hp.set_ne (by first | assumption | exact Ne.symm (by assumption))).trans ((by assumption))))) rfl) ?_
  refine OpsW.q rfl (q_move (v := S _) rfl) ?_
  refine OpsW.x rfl (o_call rfl Try.func10 rfl rfl (xor_con _ _ _ _ (by first | (with_reducible assumption) | omega | (unfold maxLen; omega) | (simp only [nums_length, List.length_set, List.length_replicate, List.length_take, List.length_drop, List.length_append, List.length_cons, List.length_nil, ofB_length, toB_length]; omega) | (simp; done) | (simp; omega) | decide))) ?_
  refine OpsW.q rfl (q_move (v := .tuple _) rfl) ?_
  refine OpsW.q rfl (q_extract (v := S _) rfl rfl) ?_
  refine OpsW.q rfl (q_extract (v := .int _ _) rfl rfl) ?_
  refine OpsW.q rfl (q_assign (v := S _) rfl) ?_
  refine OpsW.q rfl (q_assign (v := .int _ _) rfl) ?_
  refine OpsW.nil ?_
  refine SeqP.go ?_
  refine AW.seq ?_
  refine AW.seq ?_
  refine AW.region ?_
  refine OpsW.q rfl (q_move (v := .int _ _) rfl) ?_
  refine OpsW.q rfl (q_neq rfl rfl) ?_
  refine OpsW.qb rfl (q_move (v := .bool _) rfl) ?_
  intro b60 eb60
  refine OpsW.g rfl rfl rfl (fun hB => by simp only [Bool.and_eq_true, beq_iff_eq] at hB; obtain rfl := hB; exact (q_move (v := S _) rfl)) ?_
  refine OpsW.g rfl rfl rfl (fun hB => by simp only [Bool.and_eq_true, beq_iff_eq] at hB; obtain rfl := hB; exact (q_fieldAddr (sz := 0) Try.underlying28 rfl (by kernel_rfl) rfl)) ?_
  refine OpsW.g rfl rfl rfl (fun hB => by simp only [Bool.and_eq_true, beq_iff_eq] at hB; obtain rfl := hB; exact (q_load (v := S _) (by kernel_rfl) rfl (by first | exact Hp.set_self | exact (Hp.set_ne (by first | assumption | exact Ne.symm (by assumption))).trans (Hp.set_self) | exact (Hp.set_ne (by first | assumption | exact Ne.symm (by assumption))).trans ((Hp.set_ne (by first | assumption | exact Ne.symm (by assumption))).trans (Hp.set_self)) | exact (Hp.set_ne (by first | assumption | exact Ne.symm (by assumption))).trans ((Hp.set_ne (by first | assumption | exact Ne.symm (by assumption))).trans ((Hp.set_ne (by first | assumption | exact Ne.symm (by assumption))).trans (Hp.set_self))) | exact (Hp.set_ne (by first | assumption | exact Ne.symm (by assumption))).trans ((Hp.set_ne (by first | assumption | exact Ne.symm (by assumption))).trans ((Hp.set_ne (by first | assumption | exact Ne.symm (by assumption))).trans ((Hp.set_ne (by first | assumption | exact Ne.symm (by assumption))).trans (Hp.set_self)))) | exact (by assumption) | exact (Hp.set_ne (by first | assumption | exact Ne.symm (by assumption))).trans ((by assumption)) | exact (Hp.set_ne (by first | assumption | exact Ne.symm (by assumption))).trans ((Hp.set_ne (by first | assumption | exact Ne.symm (by assumption))).trans ((by assumption))) | exact (Hp.set_ne (by first | assumption | exact Ne.symm (by assumption))).trans ((Hp.set_ne (by first | assumption | exact Ne.symm (by assumption))).trans ((Hp.set_ne (by first | assumption | exact Ne.symm (by assumption))).trans ((by assumption))))) rfl)) ?_
  refine OpsW.g rfl rfl rfl (fun hB => by simp only [Bool.and_eq_true, beq_iff_eq] at hB; obtain rfl := hB; exact (q_neS rfl rfl)) ?_
  refine OpsW.q rfl (q_or2 rfl rfl rfl) ?_
  refine OpsW.qb rfl (q_move (v := .bool _) rfl) ?_
  intro b66 eb66
  refine OpsW.g rfl rfl rfl (fun hB => by simp only [Bool.and_eq_true, beq_iff_eq] at hB; obtain rfl := hB; exact (q_move (v := S _) rfl)) ?_
  refine OpsW.g rfl rfl rfl (fun hB => by simp only [Bool.and_eq_true, beq_iff_eq] at hB; obtain rfl := hB; exact (q_lenS Try.underlying9 rfl)) ?_
  refine OpsW.g rfl rfl rfl (fun hB => by simp only [Bool.and_eq_true, beq_iff_eq] at hB; obtain rfl := hB; exact (q_fieldAddr (sz := 0) Try.underlying28 rfl (by kernel_rfl) rfl)) ?_
  refine OpsW.g rfl rfl rfl (fun hB => by simp only [Bool.and_eq_true, beq_iff_eq] at hB; obtain rfl := hB; exact (q_load (v := S _) (by kernel_rfl) rfl (by first | exact Hp.set_self | exact (Hp.set_ne (by first | assumption | exact Ne.symm (by assumption))).trans (Hp.set_self) | exact (Hp.set_ne (by first | assumption | exact Ne.symm (by assumption))).trans ((Hp.set_ne (by first | assumption | exact Ne.symm (by assumption))).trans (Hp.set_self)) | exact (Hp.set_ne (by first | assumption | exact Ne.symm (by assumption))).trans ((Hp.set_ne (by first | assumption | exact Ne.symm (by assumption))).trans ((Hp.set_ne (by first | assumption | exact Ne.symm (by assumption))).trans (Hp.set_self))) | exact (Hp.set_ne (by first | assumption | exact Ne.symm (by assumption))).trans ((Hp.set_ne (by first | assumption | exact Ne.symm (by assumption))).trans ((Hp.set_ne (by first | assumption | exact Ne.symm (by assumption))).trans ((Hp.set_ne (by first | assumption | exact Ne.symm (by assumption))).trans (Hp.set_self)))) | exact (by assumption) | exact (Hp.set_ne (by first | assumption | exact Ne.symm (by assumption))).trans ((by assumption)) | exact (Hp.set_ne (by first | assumption | exact Ne.symm (by assumption))).trans ((Hp.set_ne (by first | assumption | exact Ne.symm (by assumption))).trans ((by assumption))) | exact (Hp.set_ne (by first | assumption | exact Ne.symm (by assumption))).trans ((Hp.set_ne (by first | assumption | exact Ne.symm (by assumption))).trans ((Hp.set_ne (by first | assumption | exact Ne.symm (by assumption))).trans ((by assumption))))) rfl)) ?_
  refine OpsW.g rfl rfl rfl (fun hB => by simp only [Bool.and_eq_true, beq_iff_eq] at hB; obtain rfl := hB; exact (q_lenS Try.underlying9 rfl)) ?_
  refine OpsW.g rfl rfl rfl (fun hB => by simp only [Bool.and_eq_true, beq_iff_eq] at hB; obtain rfl := hB; exact (q_neq rfl rfl)) ?_
  refine OpsW.q rfl (q_or2 rfl rfl rfl) ?_
  refine OpsW.nil ?_
  refine SeqP.go ?_
  refine AW.cond rfl (fun h2 => ?_) (fun h2 => ?_)
  ·
    exfalso
    try simp only [eb60, eb66, decide_eq_true_eq, decide_eq_false_iff_not, Bool.or_eq_true, Bool.and_eq_true, Bool.or_eq_false_iff, Bool.and_eq_false_imp, Bool.not_eq_true', Bool.not_eq_false', ne_eq, Decidable.not_not, Int.not_lt, Int.not_le, Bool.not_eq_true, Bool.not_eq_false] at h2
    simp_all
  try simp only [eb60, eb66, decide_eq_true_eq, decide_eq_false_iff_not, Bool.or_eq_true, Bool.and_eq_true, Bool.or_eq_false_iff, Bool.and_eq_false_imp, Bool.not_eq_true', Bool.not_eq_false', ne_eq, Decidable.not_not, Int.not_lt, Int.not_le, Bool.not_eq_true, Bool.not_eq_false] at h2
  refine AW.skip ?_
  refine SeqP.go ?_
  refine AW.seq ?_
  refine AW.seq ?_
  refine AW.region ?_
  refine OpsW.q rfl (q_assign (v := .int _ _) rfl) ?_
  refine OpsW.nil ?_
  refine SeqP.go ?_
  refine AW.block ?_
  refine AW.loop (fun m e H' => ∃ (q : Nat) (e0 : Env), m = xs.length - 64 * (q + 1) ∧ (0 ≤ q) ∧ e = upds e0 [(0, S key), (1, S nonce), (5, .pointer (some ⟨b5, 0, none⟩)), (7, S (xorP key nonce xn xs).1), (11, .int .i64 ((64 * (q + 1) : Nat) : Int))] ∧ H' = H.set b5 ⟨[.int .i64 xn, S xs], 2, 28⟩) _ ⟨0, _, rfl, (by omega), Slots.eq ⟨(by first | rfl | exact i64_int (by omega) (by omega) (by omega) | assumption), (by first | rfl | exact i64_int (by omega) (by omega) (by omega) | assumption), (by first | rfl | exact i64_int (by omega) (by omega) (by omega) | assumption), (by first | rfl | exact i64_int (by omega) (by omega) (by omega) | assumption), (by first | rfl | exact i64_int (by omega) (by omega) (by omega) | assumption),  trivial⟩, rfl⟩ ?_
  rintro m _ _ ⟨q, e0, rfl, hf, rfl, rfl⟩
  have hz1 : ((64 * (q + 1) : Nat) : Int) / 64 = ((q + 1 : Nat) : Int) := by omega
  have hz2 : (((64 * (q + 1) : Nat) : Int)).toNat = 64 * (q + 1) := by omega
  refine AW.seq ?_
  refine AW.seq ?_
  refine AW.region ?_
  refine OpsW.q rfl (q_move (v := .int _ _) rfl) ?_
  refine OpsW.q rfl (q_fieldAddr (sz := 0) Try.underlying28 rfl (by kernel_rfl) rfl) ?_
  refine OpsW.q rfl (q_load (v := S _) (by kernel_rfl) rfl (by first | exact Hp.set_self | exact (Hp.set_ne (by first | assumption | exact Ne.symm (by assumption))).trans (Hp.set_self) | exact (Hp.set_ne (by first | assumption | exact Ne.symm (by assumption))).trans ((Hp.set_ne (by first | assumption | exact Ne.symm (by assumption))).trans (Hp.set_self)) | exact (Hp.set_ne (by first | assumption | exact Ne.symm (by assumption))).trans ((Hp.set_ne (by first | assumption | exact Ne.symm (by assumption))).trans ((Hp.set_ne (by first | assumption | exact Ne.symm (by assumption))).trans (Hp.set_self))) | exact (Hp.set_ne (by first | assumption | exact Ne.symm (by assumption))).trans ((Hp.set_ne (by first | assumption | exact Ne.symm (by assumption))).trans ((Hp.set_ne (by first | assumption | exact Ne.symm (by assumption))).trans ((Hp.set_ne (by first | assumption | exact Ne.symm (by assumption))).trans (Hp.set_self)))) | exact (by assumption) | exact (Hp.set_ne (by first | assumption | exact Ne.symm (by assumption))).trans ((by assumption)) | exact (Hp.set_ne (by first | assumption | exact Ne.symm (by assumption))).trans ((Hp.set_ne (by first | assumption | exact Ne.symm (by assumption))).trans ((by assumption))) | exact (Hp.set_ne (by first | assumption | exact Ne.symm (by assumption))).trans ((Hp.set_ne (by first | assumption | exact Ne.symm (by assumption))).trans ((Hp.set_ne (by first | assumption | exact Ne.symm (by assumption))).trans ((by assumption))))) rfl) ?_
  refine OpsW.q rfl (q_lenS Try.underlying9 rfl) ?_
  refine OpsW.q rfl (q_lss rfl rfl) ?_
  refine OpsW.nil ?_
  refine SeqP.go ?_
  refine AW.cond2 rfl (fun h3 => ?_) (fun h3 => ?_)
  ·
    try simp only [eb60, eb66, decide_eq_true_eq, decide_eq_false_iff_not, Bool.or_eq_true, Bool.and_eq_true, Bool.or_eq_false_iff, Bool.and_eq_false_imp, Bool.not_eq_true', Bool.not_eq_false', ne_eq, Decidable.not_not, Int.not_lt, Int.not_le, Bool.not_eq_true, Bool.not_eq_false] at h3
    refine AW.exit ?_
    refine SeqP.exit ?_
    refine LoopP.exit ?_
    refine BlockP.here ?_
    refine SeqP.go ?_
    refine AW.seq ?_
    refine AW.region ?_
    refine OpsW.x rfl (o_call rfl Try.func9 rfl rfl (awake_con)) ?_
    refine OpsW.q rfl (q_assign (v := .bool _) rfl) ?_
    refine OpsW.nil ?_
    refine SeqP.go ?_
    refine AW.ret ?_
    refine RetP.mk1 (H' := H) (v1 := .bool _) rfl rfl  (by first | exact (Hp.le_refl _) | exact (Hp.le_set (by first | assumption | exact Hp.set_none (by assumption) (by first | assumption | exact Ne.symm (by assumption)) | exact Hp.set_none (Hp.set_none (by assumption) (by first | assumption | exact Ne.symm (by assumption))) (by first | assumption | exact Ne.symm (by assumption))) (Hp.le_refl _)) | exact (Hp.le_set (by first | assumption | exact Hp.set_none (by assumption) (by first | assumption | exact Ne.symm (by assumption)) | exact Hp.set_none (Hp.set_none (by assumption) (by first | assumption | exact Ne.symm (by assumption))) (by first | assumption | exact Ne.symm (by assumption))) (Hp.le_set (by first | assumption | exact Hp.set_none (by assumption) (by first | assumption | exact Ne.symm (by assumption)) | exact Hp.set_none (Hp.set_none (by assumption) (by first | assumption | exact Ne.symm (by assumption))) (by first | assumption | exact Ne.symm (by assumption))) (Hp.le_refl _))) | exact (Hp.le_set (by first | assumption | exact Hp.set_none (by assumption) (by first | assumption | exact Ne.symm (by assumption)) | exact Hp.set_none (Hp.set_none (by assumption) (by first | assumption | exact Ne.symm (by assumption))) (by first | assumption | exact Ne.symm (by assumption))) (Hp.le_set (by first | assumption | exact Hp.set_none (by assumption) (by first | assumption | exact Ne.symm (by assumption)) | exact Hp.set_none (Hp.set_none (by assumption) (by first | assumption | exact Ne.symm (by assumption))) (by first | assumption | exact Ne.symm (by assumption))) (Hp.le_set (by first | assumption | exact Hp.set_none (by assumption) (by first | assumption | exact Ne.symm (by assumption)) | exact Hp.set_none (Hp.set_none (by assumption) (by first | assumption | exact Ne.symm (by assumption))) (by first | assumption | exact Ne.symm (by assumption))) (Hp.le_refl _)))) | exact (Hp.le_set (by first | assumption | exact Hp.set_none (by assumption) (by first | assumption | exact Ne.symm (by assumption)) | exact Hp.set_none (Hp.set_none (by assumption) (by first | assumption | exact Ne.symm (by assumption))) (by first | assumption | exact Ne.symm (by assumption))) (Hp.le_set (by first | assumption | exact Hp.set_none (by assumption) (by first | assumption | exact Ne.symm (by assumption)) | exact Hp.set_none (Hp.set_none (by assumption) (by first | assumption | exact Ne.symm (by assumption))) (by first | assumption | exact Ne.symm (by assumption))) (Hp.le_set (by first | assumption | exact Hp.set_none (by assumption) (by first | assumption | exact Ne.symm (by assumption)) | exact Hp.set_none (Hp.set_none (by assumption) (by first | assumption | exact Ne.symm (by assumption))) (by first | assumption | exact Ne.symm (by assumption))) (Hp.le_set (by first | assumption | exact Hp.set_none (by assumption) (by first | assumption | exact Ne.symm (by assumption)) | exact Hp.set_none (Hp.set_none (by assumption) (by first | assumption | exact Ne.symm (by assumption))) (by first | assumption | exact Ne.symm (by assumption))) (Hp.le_refl _))))) | exact (Hp.le_set (by first | assumption | exact Hp.set_none (by assumption) (by first | assumption | exact Ne.symm (by assumption)) | exact Hp.set_none (Hp.set_none (by assumption) (by first | assumption | exact Ne.symm (by assumption))) (by first | assumption | exact Ne.symm (by assumption))) (Hp.le_set (by first | assumption | exact Hp.set_none (by assumption) (by first | assumption | exact Ne.symm (by assumption)) | exact Hp.set_none (Hp.set_none (by assumption) (by first | assumption | exact Ne.symm (by assumption))) (by first | assumption | exact Ne.symm (by assumption))) (Hp.le_set (by first | assumption | exact Hp.set_none (by assumption) (by first | assumption | exact Ne.symm (by assumption)) | exact Hp.set_none (Hp.set_none (by assumption) (by first | assumption | exact Ne.symm (by assumption))) (by first | assumption | exact Ne.symm (by assumption))) (Hp.le_set (by first | assumption | exact Hp.set_none (by assumption) (by first | assumption | exact Ne.symm (by assumption)) | exact Hp.set_none (Hp.set_none (by assumption) (by first | assumption | exact Ne.symm (by assumption))) (by first | assumption | exact Ne.symm (by assumption))) (Hp.le_set (by first | assumption | exact Hp.set_none (by assumption) (by first | assumption | exact Ne.symm (by assumption)) | exact Hp.set_none (Hp.set_none (by assumption) (by first | assumption | exact Ne.symm (by assumption))) (by first | assumption | exact Ne.symm (by assumption))) (Hp.le_refl _))))))) ?_
    refine ⟨?_, rfl⟩
    simp_all
  try simp only [eb60, eb66, decide_eq_true_eq, decide_eq_false_iff_not, Bool.or_eq_true, Bool.and_eq_true, Bool.or_eq_false_iff, Bool.and_eq_false_imp, Bool.not_eq_true', Bool.not_eq_false', ne_eq, Decidable.not_not, Int.not_lt, Int.not_le, Bool.not_eq_true, Bool.not_eq_false] at h3
  refine AW.skip ?_
  refine SeqP.go ?_
  refine AW.seq ?_
  refine AW.block ?_
  refine AW.seq ?_
  refine AW.drawK [] 16 rfl (by kernel_rfl) ?_
  refine SeqK.q rfl (q_move (v := S _) rfl) ?_
  refine SeqK.q rfl (q_move (v := S _) rfl) ?_
  refine SeqK.q rfl (q_fieldAddr (sz := 0) Try.underlying28 rfl (by kernel_rfl) rfl) ?_
  refine SeqK.q rfl (q_load (v := .int _ _) (by kernel_rfl) rfl (by first | exact Hp.set_self | exact (Hp.set_ne (by first | assumption | exact Ne.symm (by assumption))).trans (Hp.set_self) | exact (Hp.set_ne (by first | assumption | exact Ne.symm (by assumption))).trans ((Hp.set_ne (by first | assumption | exact Ne.symm (by assumption))).trans (Hp.set_self)) | exact (Hp.set_ne (by first | assumption | exact Ne.symm (by assumption))).trans ((Hp.set_ne (by first | assumption | exact Ne.symm (by assumption))).trans ((Hp.set_ne (by first | assumption | exact Ne.symm (by assumption))).trans (Hp.set_self))) | exact (Hp.set_ne (by first | assumption | exact Ne.symm (by assumption))).trans ((Hp.set_ne (by first | assumption | exact Ne.symm (by assumption))).trans ((Hp.set_ne (by first | assumption | exact Ne.symm (by assumption))).trans ((Hp.set_ne (by first | assumption | exact Ne.symm (by assumption))).trans (Hp.set_self)))) | exact (by assumption) | exact (Hp.set_ne (by first | assumption | exact Ne.symm (by assumption))).trans ((by assumption)) | exact (Hp.set_ne (by first | assumption | exact Ne.symm (by assumption))).trans ((Hp.set_ne (by first | assumption | exact Ne.symm (by assumption))).trans ((by assumption))) | exact (Hp.set_ne (by first | assumption | exact Ne.symm (by assumption))).trans ((Hp.set_ne (by first | assumption | exact Ne.symm (by assumption))).trans ((Hp.set_ne (by first | assumption | exact Ne.symm (by assumption))).trans ((by assumption))))) rfl) ?_
  refine SeqK.q rfl (q_move (v := .int _ _) rfl) ?_
  refine SeqK.q rfl (q_quoI rfl rfl (by omega)) ?_
  refine SeqK.q rfl (q_addI rfl rfl (by omega)) ?_
  refine SeqK.q rfl (q_fieldAddr (sz := 0) Try.underlying28 rfl (by kernel_rfl) rfl) ?_
  refine SeqK.q rfl (q_load (v := S _) (by kernel_rfl) rfl (by first | exact Hp.set_self | exact (Hp.set_ne (by first | assumption | exact Ne.symm (by assumption))).trans (Hp.set_self) | exact (Hp.set_ne (by first | assumption | exact Ne.symm (by assumption))).trans ((Hp.set_ne (by first | assumption | exact Ne.symm (by assumption))).trans (Hp.set_self)) | exact (Hp.set_ne (by first | assumption | exact Ne.symm (by assumption))).trans ((Hp.set_ne (by first | assumption | exact Ne.symm (by assumption))).trans ((Hp.set_ne (by first | assumption | exact Ne.symm (by assumption))).trans (Hp.set_self))) | exact (Hp.set_ne (by first | assumption | exact Ne.symm (by assumption))).trans ((Hp.set_ne (by first | assumption | exact Ne.symm (by assumption))).trans ((Hp.set_ne (by first | assumption | exact Ne.symm (by assumption))).trans ((Hp.set_ne (by first | assumption | exact Ne.symm (by assumption))).trans (Hp.set_self)))) | exact (by assumption) | exact (Hp.set_ne (by first | assumption | exact Ne.symm (by assumption))).trans ((by assumption)) | exact (Hp.set_ne (by first | assumption | exact Ne.symm (by assumption))).trans ((Hp.set_ne (by first | assumption | exact Ne.symm (by assumption))).trans ((by assumption))) | exact (Hp.set_ne (by first | assumption | exact Ne.symm (by assumption))).trans ((Hp.set_ne (by first | assumption | exact Ne.symm (by assumption))).trans ((Hp.set_ne (by first | assumption | exact Ne.symm (by assumption))).trans ((by assumption))))) rfl) ?_
  refine SeqK.q rfl (q_move (v := .int _ _) rfl) ?_
  refine SeqK.q rfl (q_sliceS_lo Try.underlying9 rfl rfl (by first | omega | decide) (by first | omega | decide)) ?_
  refine SeqK.q rfl (o_call rfl Try.func10 rfl rfl (xor_con _ _ _ _ (by first | (with_reducible assumption) | omega | (unfold maxLen; omega) | (simp only [nums_length, List.length_set, List.length_replicate, List.length_take, List.length_drop, List.length_append, List.length_cons, List.length_nil, ofB_length, toB_length]; omega) | (simp; done) | (simp; omega) | decide))) ?_
  refine SeqK.q rfl (q_move (v := .tuple _) rfl) ?_
  refine SeqK.q rfl (q_extract (v := S _) rfl rfl) ?_
  refine SeqK.q rfl (q_extract (v := .int _ _) rfl rfl) ?_
  refine SeqK.q rfl (q_assign (v := S _) rfl) ?_
  refine SeqK.done ?_
  refine OpsW.q rfl (q_assign (v := .int _ _) rfl) ?_
  refine OpsW.nil ?_
  refine SeqP.go ?_
  refine AW.seq ?_
  refine AW.region ?_
  refine OpsW.q rfl (q_move (v := .int _ _) rfl) ?_
  refine OpsW.q rfl (q_neq rfl rfl) ?_
  refine OpsW.qb rfl (q_move (v := .bool _) rfl) ?_
  intro b98 eb98
  refine OpsW.g rfl rfl rfl (fun hB => by simp only [Bool.and_eq_true, beq_iff_eq] at hB; obtain rfl := hB; exact (q_move (v := S _) rfl)) ?_
  refine OpsW.g rfl rfl rfl (fun hB => by simp only [Bool.and_eq_true, beq_iff_eq] at hB; obtain rfl := hB; exact (q_move (v := S _) rfl)) ?_
  refine OpsW.g rfl rfl rfl (fun hB => by simp only [Bool.and_eq_true, beq_iff_eq] at hB; obtain rfl := hB; exact (q_move (v := .int _ _) rfl)) ?_
  refine OpsW.g rfl rfl rfl (fun hB => by simp only [Bool.and_eq_true, beq_iff_eq] at hB; obtain rfl := hB; exact (q_sliceS_lo Try.underlying9 rfl rfl (by first | omega | decide) (by first | omega | decide))) ?_
  refine OpsW.g rfl rfl rfl (fun hB => by simp only [Bool.and_eq_true, beq_iff_eq] at hB; obtain rfl := hB; exact (q_neS rfl rfl)) ?_
  refine OpsW.q rfl (q_or2 rfl rfl rfl) ?_
  refine OpsW.nil ?_
  refine SeqP.go ?_
  refine AW.cond rfl (fun h4 => ?_) (fun h4 => ?_)
  ·
    exfalso
    try simp only [eb60, eb66, eb98, decide_eq_true_eq, decide_eq_false_iff_not, Bool.or_eq_true, Bool.and_eq_true, Bool.or_eq_false_iff, Bool.and_eq_false_imp, Bool.not_eq_true', Bool.not_eq_false', ne_eq, Decidable.not_not, Int.not_lt, Int.not_le, Bool.not_eq_true, Bool.not_eq_false] at h4
    have hp := xorP_part h1 (q := q + 1) (by omega)
    simp_all
  try simp only [eb60, eb66, eb98, decide_eq_true_eq, decide_eq_false_iff_not, Bool.or_eq_true, Bool.and_eq_true, Bool.or_eq_false_iff, Bool.and_eq_false_imp, Bool.not_eq_true', Bool.not_eq_false', ne_eq, Decidable.not_not, Int.not_lt, Int.not_le, Bool.not_eq_true, Bool.not_eq_false] at h4
  refine AW.skip ?_
  refine BlockP.go ?_
  refine SeqP.go ?_
  refine AW.region ?_
  refine OpsW.q rfl (q_move (v := .int _ _) rfl) ?_
  refine OpsW.q rfl (q_addI rfl rfl (by omega)) ?_
  refine OpsW.q rfl (q_assign (v := .int _ _) rfl) ?_
  refine OpsW.nil ?_
  exact LoopP.go _ (by omega) ⟨q + 1, _, rfl, (by omega), Slots.eq ⟨(by first | rfl | exact i64_int (by omega) (by omega) (by omega) | assumption), (by first | rfl | exact i64_int (by omega) (by omega) (by omega) | assumption), (by first | rfl | exact i64_int (by omega) (by omega) (by omega) | assumption), (by first | rfl | exact i64_int (by omega) (by omega) (by omega) | assumption), (by first | rfl | exact i64_int (by omega) (by omega) (by omega) | assumption),  trivial⟩, rfl⟩
theorem zero_con (key nonce : List UInt8) (n : Int) : Con Try.prog w0 6 #[S key, S nonce, .int .i64 n] H (fun v H' => v = .bool true ∧ H' = H) := by
  refine Con.intro Try.func6 rfl rfl ?_
  refine AW.seq ?_
  refine AW.region ?_
  refine OpsW.q rfl (q_assign (v := .bool _) rfl) ?_
  refine OpsW.nil ?_
  refine SeqP.go ?_
  refine AW.seq ?_
  refine AW.seq ?_
  refine AW.region ?_
  refine OpsW.q rfl (q_move (v := S _) rfl) ?_
  refine OpsW.q rfl (q_lenS Try.underlying9 rfl) ?_
  refine OpsW.q rfl (q_neq rfl rfl) ?_
  refine OpsW.qb rfl (q_move (v := .bool _) rfl) ?_
  intro b16 eb16
  refine OpsW.g rfl rfl rfl (fun hB => by simp only [Bool.and_eq_true, beq_iff_eq] at hB; obtain rfl := hB; exact (q_move (v := S _) rfl)) ?_
  refine OpsW.g rfl rfl rfl (fun hB => by simp only [Bool.and_eq_true, beq_iff_eq] at hB; obtain rfl := hB; exact (q_lenS Try.underlying9 rfl)) ?_
  refine OpsW.g rfl rfl rfl (fun hB => by simp only [Bool.and_eq_true, beq_iff_eq] at hB; obtain rfl := hB; exact (q_neq rfl rfl)) ?_
  refine OpsW.q rfl (q_or2 rfl rfl rfl) ?_
  refine OpsW.qb rfl (q_move (v := .bool _) rfl) ?_
  intro b21 eb21
  refine OpsW.g rfl rfl rfl (fun hB => by simp only [Bool.and_eq_true, beq_iff_eq] at hB; obtain rfl := hB; exact (q_move (v := .int _ _) rfl)) ?_
  refine OpsW.g rfl rfl rfl (fun hB => by simp only [Bool.and_eq_true, beq_iff_eq] at hB; obtain rfl := hB; exact (q_lss rfl rfl)) ?_
  refine OpsW.q rfl (q_or2 rfl rfl rfl) ?_
  refine OpsW.qb rfl (q_move (v := .bool _) rfl) ?_
  intro b25 eb25
  refine OpsW.g rfl rfl rfl (fun hB => by simp only [Bool.and_eq_true, beq_iff_eq] at hB; obtain rfl := hB; exact (q_move (v := .int _ _) rfl)) ?_
  refine OpsW.g rfl rfl rfl (fun hB => by simp only [Bool.and_eq_true, beq_iff_eq] at hB; obtain rfl := hB; exact (q_gtr rfl rfl)) ?_
  refine OpsW.q rfl (q_or2 rfl rfl rfl) ?_
  refine OpsW.nil ?_
  refine SeqP.go ?_
  refine AW.cond rfl (fun h0 => ?_) (fun h0 => ?_)
  ·
    try simp only [eb16, eb21, eb25, decide_eq_true_eq, decide_eq_false_iff_not, Bool.or_eq_true, Bool.and_eq_true, Bool.or_eq_false_iff, Bool.and_eq_false_imp, Bool.not_eq_true', Bool.not_eq_false', ne_eq, Decidable.not_not, Int.not_lt, Int.not_le, Bool.not_eq_true, Bool.not_eq_false] at h0
    refine AW.seq ?_
    refine AW.region ?_
    refine OpsW.x rfl (o_call rfl Try.func9 rfl rfl (awake_con)) ?_
    refine OpsW.q rfl (q_assign (v := .bool _) rfl) ?_
    refine OpsW.nil ?_
    refine SeqP.go ?_
    refine AW.ret ?_
    refine SeqP.ret ?_
    refine RetP.mk1 (H' := H) (v1 := .bool _) rfl rfl  (by first | exact (Hp.le_refl _) | exact (Hp.le_set (by first | assumption | exact Hp.set_none (by assumption) (by first | assumption | exact Ne.symm (by assumption)) | exact Hp.set_none (Hp.set_none (by assumption) (by first | assumption | exact Ne.symm (by assumption))) (by first | assumption | exact Ne.symm (by assumption))) (Hp.le_refl _)) | exact (Hp.le_set (by first | assumption | exact Hp.set_none (by assumption) (by first | assumption | exact Ne.symm (by assumption)) | exact Hp.set_none (Hp.set_none (by assumption) (by first | assumption | exact Ne.symm (by assumption))) (by first | assumption | exact Ne.symm (by assumption))) (Hp.le_set (by first | assumption | exact Hp.set_none (by assumption) (by first | assumption | exact Ne.symm (by assumption)) | exact Hp.set_none (Hp.set_none (by assumption) (by first | assumption | exact Ne.symm (by assumption))) (by first | assumption | exact Ne.symm (by assumption))) (Hp.le_refl _))) | exact (Hp.le_set (by first | assumption | exact Hp.set_none (by assumption) (by first | assumption | exact Ne.symm (by assumption)) | exact Hp.set_none (Hp.set_none (by assumption) (by first | assumption | exact Ne.symm (by assumption))) (by first | assumption | exact Ne.symm (by assumption))) (Hp.le_set (by first | assumption | exact Hp.set_none (by assumption) (by first | assumption | exact Ne.symm (by assumption)) | exact Hp.set_none (Hp.set_none (by assumption) (by first | assumption | exact Ne.symm (by assumption))) (by first | assumption | exact Ne.symm (by assumption))) (Hp.le_set (by first | assumption | exact Hp.set_none (by assumption) (by first | assumption | exact Ne.symm (by assumption)) | exact Hp.set_none (Hp.set_none (by assumption) (by first | assumption | exact Ne.symm (by assumption))) (by first | assumption | exact Ne.symm (by assumption))) (Hp.le_refl _)))) | exact (Hp.le_set (by first | assumption | exact Hp.set_none (by assumption) (by first | assumption | exact Ne.symm (by assumption)) | exact Hp.set_none (Hp.set_none (by assumption) (by first | assumption | exact Ne.symm (by assumption))) (by first | assumption | exact Ne.symm (by assumption))) (Hp.le_set (by first | assumption | exact Hp.set_none (by assumption) (by first | assumption | exact Ne.symm (by assumption)) | exact Hp.set_none (Hp.set_none (by assumption) (by first | assumption | exact Ne.symm (by assumption))) (by first | assumption | exact Ne.symm (by assumption))) (Hp.le_set (by first | assumption | exact Hp.set_none (by assumption) (by first | assumption | exact Ne.symm (by assumption)) | exact Hp.set_none (Hp.set_none (by assumption) (by first | assumption | exact Ne.symm (by assumption))) (by first | assumption | exact Ne.symm (by assumption))) (Hp.le_set (by first | assumption | exact Hp.set_none (by assumption) (by first | assumption | exact Ne.symm (by assumption)) | exact Hp.set_none (Hp.set_none (by assumption) (by first | assumption | exact Ne.symm (by assumption))) (by first | assumption | exact Ne.symm (by assumption))) (Hp.le_refl _))))) | exact (Hp.le_set (by first | assumption | exact Hp.set_none (by assumption) (by first | assumption | exact Ne.symm (by assumption)) | exact Hp.set_none (Hp.set_none (by assumption) (by first | assumption | exact Ne.symm (by assumption))) (by first | assumption | exact Ne.symm (by assumption))) (Hp.le_set (by first | assumption | exact Hp.set_none (by assumption) (by first | assumption | exact Ne.symm (by assumption)) | exact Hp.set_none (Hp.set_none (by assumption) (by first | assumption | exact Ne.symm (by assumption))) (by first | assumption | exact Ne.symm (by assumption))) (Hp.le_set (by first | assumption | exact Hp.set_none (by assumption) (by first | assumption | exact Ne.symm (by assumption)) | exact Hp.set_none (Hp.set_none (by assumption) (by first | assumption | exact Ne.symm (by assumption))) (by first | assumption | exact Ne.symm (by assumption))) (Hp.le_set (by first | assumption | exact Hp.set_none (by assumption) (by first | assumption | exact Ne.symm (by assumption)) | exact Hp.set_none (Hp.set_none (by assumption) (by first | assumption | exact Ne.symm (by assumption))) (by first | assumption | exact Ne.symm (by assumption))) (Hp.le_set (by first | assumption | exact Hp.set_none (by assumption) (by first | assumption | exact Ne.symm (by assumption)) | exact Hp.set_none (Hp.set_none (by assumption) (by first | assumption | exact Ne.symm (by assumption))) (by first | assumption | exact Ne.symm (by assumption))) (Hp.le_refl _))))))) ?_
    refine ⟨?_, rfl⟩
    simp_all
  try simp only [eb16, eb21, eb25, decide_eq_true_eq, decide_eq_false_iff_not, Bool.or_eq_true, Bool.and_eq_true, Bool.or_eq_false_iff, Bool.and_eq_false_imp, Bool.not_eq_true', Bool.not_eq_false', ne_eq, Decidable.not_not, Int.not_lt, Int.not_le, Bool.not_eq_true, Bool.not_eq_false] at h0
  have hk : key.length = 32 := by simp_all <;> omega
  have hn : nonce.length = 12 := by simp_all <;> omega
  have hn0 : 0 ≤ n ∧ n ≤ 1000000 := by simp_all <;> omega
  obtain ⟨hz1, hz2, hz3, hz4⟩ := xorP_noughts hk hn hn0
  have hl2 : (blockP key nonce (n + 1)).1.length = 64 := blockP_len (wrong_none hk hn (by omega))
  refine AW.skip ?_
  refine SeqP.go ?_
  refine AW.seq ?_
  refine AW.region ?_
  refine OpsW.q rfl (q_move (v := S _) rfl) ?_
  refine OpsW.q rfl (q_move (v := S _) rfl) ?_
  refine OpsW.q rfl (q_move (v := .int _ _) rfl) ?_
  refine OpsW.m rfl (o_makeSlice (by_ := 1) (z := .int .u8 0) Try.underlying31 (by kernel_rfl) (by kernel_rfl) (by kernel_rfl) rfl rfl rfl (by first | omega | decide) (by first | omega | decide) (by first | (with_reducible assumption) | omega | (unfold maxLen; omega) | (simp only [nums_length, List.length_set, List.length_replicate, List.length_take, List.length_drop, List.length_append, List.length_cons, List.length_nil, ofB_length, toB_length]; omega) | (simp; done) | (simp; omega) | decide) (by first | (with_reducible assumption) | omega | (unfold maxLen; omega) | (simp only [nums_length, List.length_set, List.length_replicate, List.length_take, List.length_drop, List.length_append, List.length_cons, List.length_nil, ofB_length, toB_length]; omega) | (simp; done) | (simp; omega) | decide)) ?_
  rintro _ _ ⟨b34, hb34, rfl, rfl⟩
  rw [show List.replicate (128 : Int).toNat (Value.int .u8 0) = nums .u8 (List.replicate 128 0) from rfl]
  refine OpsW.q rfl (q_string0 Try.underlying31 Try.underlying5 Try.underlying9 rfl (by first | exact Hp.set_self | exact (Hp.set_ne (by first | assumption | exact Ne.symm (by assumption))).trans (Hp.set_self) | exact (Hp.set_ne (by first | assumption | exact Ne.symm (by assumption))).trans ((Hp.set_ne (by first | assumption | exact Ne.symm (by assumption))).trans (Hp.set_self)) | exact (Hp.set_ne (by first | assumption | exact Ne.symm (by assumption))).trans ((Hp.set_ne (by first | assumption | exact Ne.symm (by assumption))).trans ((Hp.set_ne (by first | assumption | exact Ne.symm (by assumption))).trans (Hp.set_self))) | exact (Hp.set_ne (by first | assumption | exact Ne.symm (by assumption))).trans ((Hp.set_ne (by first | assumption | exact Ne.symm (by assumption))).trans ((Hp.set_ne (by first | assumption | exact Ne.symm (by assumption))).trans ((Hp.set_ne (by first | assumption | exact Ne.symm (by assumption))).trans (Hp.set_self)))) | exact (by assumption) | exact (Hp.set_ne (by first | assumption | exact Ne.symm (by assumption))).trans ((by assumption)) | exact (Hp.set_ne (by first | assumption | exact Ne.symm (by assumption))).trans ((Hp.set_ne (by first | assumption | exact Ne.symm (by assumption))).trans ((by assumption))) | exact (Hp.set_ne (by first | assumption | exact Ne.symm (by assumption))).trans ((Hp.set_ne (by first | assumption | exact Ne.symm (by assumption))).trans ((Hp.set_ne (by first | assumption | exact Ne.symm (by assumption))).trans ((by assumption))))) (by first | (with_reducible assumption) | omega | (unfold maxLen; omega) | (simp only [nums_length, List.length_set, List.length_replicate, List.length_take, List.length_drop, List.length_append, List.length_cons, List.length_nil, ofB_length, toB_length]; omega) | (simp; done) | (simp; omega) | decide)) ?_
  rw [show toB ((List.replicate 128 (0 : Int)).take (128 : Int).toNat) = List.replicate 128 0 from by decide]
  refine OpsW.x rfl (o_call rfl Try.func10 rfl rfl (xor_con _ _ _ _ (by first | (with_reducible assumption) | omega | (unfold maxLen; omega) | (simp only [nums_length, List.length_set, List.length_replicate, List.length_take, List.length_drop, List.length_append, List.length_cons, List.length_nil, ofB_length, toB_length]; omega) | (simp; done) | (simp; omega) | decide))) ?_
  refine OpsW.q rfl (q_move (v := .tuple _) rfl) ?_
  refine OpsW.q rfl (q_extract (v := S _) rfl rfl) ?_
  refine OpsW.q rfl (q_extract (v := .int _ _) rfl rfl) ?_
  refine OpsW.q rfl (q_assign (v := S _) rfl) ?_
  refine OpsW.q rfl (q_assign (v := .int _ _) rfl) ?_
  refine OpsW.nil ?_
  refine SeqP.go ?_
  refine AW.seq ?_
  refine AW.region ?_
  refine OpsW.q rfl (q_move (v := S _) rfl) ?_
  refine OpsW.q rfl (q_move (v := S _) rfl) ?_
  refine OpsW.q rfl (q_move (v := .int _ _) rfl) ?_
  refine OpsW.x rfl (o_call rfl Try.func7 rfl rfl (block_con _ _ _)) ?_
  refine OpsW.q rfl (q_move (v := .tuple _) rfl) ?_
  refine OpsW.q rfl (q_extract (v := S _) rfl rfl) ?_
  refine OpsW.q rfl (q_extract (v := .int _ _) rfl rfl) ?_
  refine OpsW.q rfl (q_assign (v := S _) rfl) ?_
  refine OpsW.q rfl (q_assign (v := .int _ _) rfl) ?_
  refine OpsW.nil ?_
  refine SeqP.go ?_
  refine AW.seq ?_
  refine AW.region ?_
  refine OpsW.q rfl (q_move (v := S _) rfl) ?_
  refine OpsW.q rfl (q_move (v := S _) rfl) ?_
  refine OpsW.q rfl (q_move (v := .int _ _) rfl) ?_
  refine OpsW.q rfl (q_addI rfl rfl (by omega)) ?_
  refine OpsW.x rfl (o_call rfl Try.func7 rfl rfl (block_con _ _ _)) ?_
  refine OpsW.q rfl (q_move (v := .tuple _) rfl) ?_
  refine OpsW.q rfl (q_extract (v := S _) rfl rfl) ?_
  refine OpsW.q rfl (q_extract (v := .int _ _) rfl rfl) ?_
  refine OpsW.q rfl (q_assign (v := S _) rfl) ?_
  refine OpsW.q rfl (q_assign (v := .int _ _) rfl) ?_
  refine OpsW.nil ?_
  refine SeqP.go ?_
  refine AW.seq ?_
  refine AW.region ?_
  refine OpsW.q rfl (q_move (v := .int _ _) rfl) ?_
  refine OpsW.q rfl (q_eql rfl rfl) ?_
  refine OpsW.qb rfl (q_move (v := .bool _) rfl) ?_
  intro b56 eb56
  refine OpsW.g rfl rfl rfl (fun hB => by simp only [Bool.and_eq_true, beq_iff_eq] at hB; obtain rfl := hB; exact (q_move (v := .int _ _) rfl)) ?_
  refine OpsW.g rfl rfl rfl (fun hB => by simp only [Bool.and_eq_true, beq_iff_eq] at hB; obtain rfl := hB; exact (q_eql rfl rfl)) ?_
  refine OpsW.q rfl (q_and2 rfl rfl rfl) ?_
  refine OpsW.qb rfl (q_move (v := .bool _) rfl) ?_
  intro b60 eb60
  refine OpsW.g rfl rfl rfl (fun hB => by simp only [Bool.and_eq_true, beq_iff_eq] at hB; obtain rfl := hB; exact (q_move (v := .int _ _) rfl)) ?_
  refine OpsW.g rfl rfl rfl (fun hB => by simp only [Bool.and_eq_true, beq_iff_eq] at hB; obtain rfl := hB; exact (q_eql rfl rfl)) ?_
  refine OpsW.q rfl (q_and2 rfl rfl rfl) ?_
  refine OpsW.qb rfl (q_move (v := .bool _) rfl) ?_
  intro b64 eb64
  refine OpsW.g rfl rfl rfl (fun hB => by simp only [Bool.and_eq_true, beq_iff_eq] at hB; obtain rfl := hB; exact (q_move (v := S _) rfl)) ?_
  refine OpsW.g rfl rfl rfl (fun hB => by simp only [Bool.and_eq_true, beq_iff_eq] at hB; obtain rfl := hB; exact (q_lenS Try.underlying9 rfl)) ?_
  refine OpsW.g rfl rfl rfl (fun hB => by simp only [Bool.and_eq_true, beq_iff_eq] at hB; obtain rfl := hB; exact (q_eql rfl rfl)) ?_
  refine OpsW.q rfl (q_and2 rfl rfl rfl) ?_
  refine OpsW.qb rfl (q_move (v := .bool _) rfl) ?_
  intro b69 eb69
  refine OpsW.g rfl rfl rfl (fun hB => by simp only [Bool.and_eq_true, beq_iff_eq] at hB; obtain rfl := hB; exact (q_move (v := S _) rfl)) ?_
  refine OpsW.g rfl rfl rfl (fun hB => by simp only [Bool.and_eq_true, beq_iff_eq] at hB; obtain rfl := hB; exact (q_move (v := S _) rfl)) ?_
  refine OpsW.g rfl rfl rfl (fun hB => by simp only [Bool.and_eq_true, beq_iff_eq] at hB; obtain rfl := hB; exact (q_move (v := S _) rfl)) ?_
  refine OpsW.g rfl rfl rfl (fun hB => by simp only [Bool.and_eq_true, beq_iff_eq] at hB; obtain rfl := hB; exact (q_cat rfl rfl (by first | (with_reducible assumption) | omega | (unfold maxLen; omega) | (simp only [nums_length, List.length_set, List.length_replicate, List.length_take, List.length_drop, List.length_append, List.length_cons, List.length_nil, ofB_length, toB_length]; omega) | (simp; done) | (simp; omega) | decide))) ?_
  refine OpsW.g rfl rfl rfl (fun hB => by simp only [Bool.and_eq_true, beq_iff_eq] at hB; obtain rfl := hB; exact (q_eqS rfl rfl)) ?_
  refine OpsW.q rfl (q_and2 rfl rfl rfl) ?_
  refine OpsW.qb rfl (q_move (v := .bool _) rfl) ?_
  intro b76 eb76
  refine OpsW.g rfl rfl rfl (fun hB => by simp only [Bool.and_eq_true, beq_iff_eq] at hB; obtain rfl := hB; exact (o_call rfl Try.func9 rfl rfl (awake_con))) ?_
  refine OpsW.q rfl (q_and2 rfl rfl rfl) ?_
  refine OpsW.q rfl (q_assign (v := .bool _) rfl) ?_
  refine OpsW.nil ?_
  refine SeqP.go ?_
  refine AW.ret ?_
  refine RetP.mk1 (H' := H) (v1 := .bool _) rfl rfl  (by first | exact (Hp.le_refl _) | exact (Hp.le_set (by first | assumption | exact Hp.set_none (by assumption) (by first | assumption | exact Ne.symm (by assumption)) | exact Hp.set_none (Hp.set_none (by assumption) (by first | assumption | exact Ne.symm (by assumption))) (by first | assumption | exact Ne.symm (by assumption))) (Hp.le_refl _)) | exact (Hp.le_set (by first | assumption | exact Hp.set_none (by assumption) (by first | assumption | exact Ne.symm (by assumption)) | exact Hp.set_none (Hp.set_none (by assumption) (by first | assumption | exact Ne.symm (by assumption))) (by first | assumption | exact Ne.symm (by assumption))) (Hp.le_set (by first | assumption | exact Hp.set_none (by assumption) (by first | assumption | exact Ne.symm (by assumption)) | exact Hp.set_none (Hp.set_none (by assumption) (by first | assumption | exact Ne.symm (by assumption))) (by first | assumption | exact Ne.symm (by assumption))) (Hp.le_refl _))) | exact (Hp.le_set (by first | assumption | exact Hp.set_none (by assumption) (by first | assumption | exact Ne.symm (by assumption)) | exact Hp.set_none (Hp.set_none (by assumption) (by first | assumption | exact Ne.symm (by assumption))) (by first | assumption | exact Ne.symm (by assumption))) (Hp.le_set (by first | assumption | exact Hp.set_none (by assumption) (by first | assumption | exact Ne.symm (by assumption)) | exact Hp.set_none (Hp.set_none (by assumption) (by first | assumption | exact Ne.symm (by assumption))) (by first | assumption | exact Ne.symm (by assumption))) (Hp.le_set (by first | assumption | exact Hp.set_none (by assumption) (by first | assumption | exact Ne.symm (by assumption)) | exact Hp.set_none (Hp.set_none (by assumption) (by first | assumption | exact Ne.symm (by assumption))) (by first | assumption | exact Ne.symm (by assumption))) (Hp.le_refl _)))) | exact (Hp.le_set (by first | assumption | exact Hp.set_none (by assumption) (by first | assumption | exact Ne.symm (by assumption)) | exact Hp.set_none (Hp.set_none (by assumption) (by first | assumption | exact Ne.symm (by assumption))) (by first | assumption | exact Ne.symm (by assumption))) (Hp.le_set (by first | assumption | exact Hp.set_none (by assumption) (by first | assumption | exact Ne.symm (by assumption)) | exact Hp.set_none (Hp.set_none (by assumption) (by first | assumption | exact Ne.symm (by assumption))) (by first | assumption | exact Ne.symm (by assumption))) (Hp.le_set (by first | assumption | exact Hp.set_none (by assumption) (by first | assumption | exact Ne.symm (by assumption)) | exact Hp.set_none (Hp.set_none (by assumption) (by first | assumption | exact Ne.symm (by assumption))) (by first | assumption | exact Ne.symm (by assumption))) (Hp.le_set (by first | assumption | exact Hp.set_none (by assumption) (by first | assumption | exact Ne.symm (by assumption)) | exact Hp.set_none (Hp.set_none (by assumption) (by first | assumption | exact Ne.symm (by assumption))) (by first | assumption | exact Ne.symm (by assumption))) (Hp.le_refl _))))) | exact (Hp.le_set (by first | assumption | exact Hp.set_none (by assumption) (by first | assumption | exact Ne.symm (by assumption)) | exact Hp.set_none (Hp.set_none (by assumption) (by first | assumption | exact Ne.symm (by assumption))) (by first | assumption | exact Ne.symm (by assumption))) (Hp.le_set (by first | assumption | exact Hp.set_none (by assumption) (by first | assumption | exact Ne.symm (by assumption)) | exact Hp.set_none (Hp.set_none (by assumption) (by first | assumption | exact Ne.symm (by assumption))) (by first | assumption | exact Ne.symm (by assumption))) (Hp.le_set (by first | assumption | exact Hp.set_none (by assumption) (by first | assumption | exact Ne.symm (by assumption)) | exact Hp.set_none (Hp.set_none (by assumption) (by first | assumption | exact Ne.symm (by assumption))) (by first | assumption | exact Ne.symm (by assumption))) (Hp.le_set (by first | assumption | exact Hp.set_none (by assumption) (by first | assumption | exact Ne.symm (by assumption)) | exact Hp.set_none (Hp.set_none (by assumption) (by first | assumption | exact Ne.symm (by assumption))) (by first | assumption | exact Ne.symm (by assumption))) (Hp.le_set (by first | assumption | exact Hp.set_none (by assumption) (by first | assumption | exact Ne.symm (by assumption)) | exact Hp.set_none (Hp.set_none (by assumption) (by first | assumption | exact Ne.symm (by assumption))) (by first | assumption | exact Ne.symm (by assumption))) (Hp.le_refl _))))))) ?_
  refine ⟨?_, rfl⟩
  simp_all
end
end Go.Proofs.Ythdckldmlbeofaa

