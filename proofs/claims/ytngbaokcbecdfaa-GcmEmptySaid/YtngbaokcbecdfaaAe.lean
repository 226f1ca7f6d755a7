/-
  The walks of package aes.
-/
import Derived.Test.YtngbaokcbecdfaaDQ
import Derived.Test.YtngbaokcbecdfaaProg
import Derived.Test.YtngbaokcbecdfaaAeSp2
namespace Go.Proofs.Ytngbaokcbecdfaa
open Go Go.RowKit D
set_option linter.unusedVariables false
set_option linter.unusedSimpArgs false
set_option maxRecDepth 100000
set_option maxHeartbeats 2000000
section
variable {w0 : World} {H : Hp} {H0 : Hp}

theorem twice_con (n : Nat) (hn : n < 256) : Con Try.prog w0 47 #[.int .u8 ((n : Nat) : Int)] H (fun v H' => v = .int .u8 ((twN n : Nat) : Int) ∧ H' = H) := by
  have hS0 : Sep H [] H := Sep.refl
  refine Con.intro Try.func47 rfl rfl ?_
  refine AW.seq ?_
  refine AW.region ?_
  refine OpsW.q rfl (q_assign (v := .int _ _) rfl) ?_
  refine OpsW.nil ?_
  refine SeqP.go ?_
  refine AW.seq ?_
  refine AW.region ?_
  refine OpsW.q rfl (q_move (v := .int _ _) rfl) ?_
  refine OpsW.q rfl (q_shlL 1 rfl rfl (by decide) rfl) ?_
  refine OpsW.q rfl (q_move (v := .int _ _) rfl) ?_
  refine OpsW.q rfl (q_shrL 7 rfl rfl (by decide) rfl) ?_
  refine OpsW.q rfl (q_mul rfl rfl) ?_
  refine OpsW.q rfl (q_xor rfl rfl) ?_
  refine OpsW.q rfl (q_assign (v := .int _ _) rfl) ?_
  refine OpsW.nil ?_
  refine SeqP.go ?_
  refine AW.ret ?_
  refine RetP.mk1 (H' := H) (v1 := .int _ _) rfl rfl  hS0.le ?_
  have e := twice_eq (UInt8.ofNat n)
  rw [tw_toNat, UInt8.toNat_ofNat', Nat.mod_eq_of_lt hn] at e
  exact ⟨congrArg (Value.int .u8) e, rfl⟩
theorem twiceB_con (c : UInt8) : Con Try.prog w0 47 #[BV c] H (fun v H' => v = BV (tw c) ∧ H' = H) := (twice_con c.toNat c.toNat_lt).mono fun _ _ ⟨h1, h2⟩ => ⟨by rw [h1, ← tw_toNat], h2⟩

theorem times_con (a b : UInt8) : Con Try.prog w0 50 #[BV a, BV b] H (fun v H' => v = BV (tm a b) ∧ H' = H) := by
  have hS0 : Sep H [] H := Sep.refl
  have ha := a.toNat_lt
  have hb := b.toNat_lt
  refine Con.intro Try.func50 rfl rfl ?_
  refine AW.seq ?_
  refine AW.region ?_
  refine OpsW.q rfl (q_assign (v := .int _ _) rfl) ?_
  refine OpsW.nil ?_
  refine SeqP.go ?_
  refine AW.seq ?_
  refine AW.region ?_
  refine OpsW.q rfl (q_assign (v := .int _ _) rfl) ?_
  refine OpsW.nil ?_
  refine SeqP.go ?_
  refine AW.seq ?_
  refine AW.block ?_
  refine AW.loop (fun m_ e_ H_ => ∃ (j : Nat) (e0 : Env), m_ = 8 - j ∧ (j ≤ 8) ∧ e_ = upds e0 [(0, .int .u8 ((twI a.toNat j : Nat) : Int)), (1, .int .u8 ((b.toNat / 2 ^ j : Nat) : Int)), (5, .int .u8 ((tmK a.toNat b.toNat j : Nat) : Int))] ∧ Sep H [] H_) _ ⟨0, _, rfl, (by omega), Slots.eq ⟨(by first | rfl | exact i64_int (by omega) (by omega) (by omega) | assumption), (by rw [Nat.pow_zero, Nat.div_one]; rfl), (by first | rfl | exact i64_int (by omega) (by omega) (by omega) | assumption),  trivial⟩, hS0⟩ ?_
  rintro m_ _ Hl0 ⟨j, e0, rfl, hf, rfl, hSl0⟩
  try clear hS0
  refine AW.seq ?_
  refine AW.seq ?_
  refine AW.region ?_
  refine OpsW.q rfl (q_move (v := .int _ _) rfl) ?_
  refine OpsW.q rfl (q_gtr rfl rfl) ?_
  refine OpsW.nil ?_
  refine SeqP.go ?_
  refine AW.cond2 rfl (fun h0 => ?_) (fun h0 => ?_)
  ·
    try simp only [decide_eq_true_eq, decide_eq_false_iff_not, Bool.or_eq_true, Bool.and_eq_true, Bool.or_eq_false_iff, Bool.and_eq_false_imp, Bool.not_eq_true', Bool.not_eq_false', ne_eq, Decidable.not_not, Int.not_lt, Int.not_le, Bool.not_eq_true, Bool.not_eq_false] at h0
    have hz : b.toNat / 2 ^ j = 0 := Nat.le_zero.1 (Int.ofNat_le.1 h0)
    refine AW.exit ?_
    refine SeqP.exit ?_
    refine LoopP.exit ?_
    refine BlockP.here ?_
    refine SeqP.go ?_
    refine AW.seq ?_
    refine AW.region ?_
    refine OpsW.q rfl (q_move (v := .int _ _) rfl) ?_
    refine OpsW.q rfl (q_assign (v := .int _ _) rfl) ?_
    refine OpsW.nil ?_
    refine SeqP.go ?_
    refine AW.ret ?_
    refine RetP.mk1 (H' := H) (v1 := .int _ _) rfl rfl  hSl0.le ?_
    exact ⟨by rw [tmK_done hb hz hf, ← tm_toNat], rfl⟩
  try simp only [decide_eq_true_eq, decide_eq_false_iff_not, Bool.or_eq_true, Bool.and_eq_true, Bool.or_eq_false_iff, Bool.and_eq_false_imp, Bool.not_eq_true', Bool.not_eq_false', ne_eq, Decidable.not_not, Int.not_lt, Int.not_le, Bool.not_eq_true, Bool.not_eq_false] at h0
  have hj8 := lt8 hb (Int.ofNat_lt.1 h0) hf
  refine AW.skip ?_
  refine SeqP.go ?_
  refine AW.seq ?_
  refine AW.block ?_
  refine AW.seq ?_
  refine AW.region ?_
  refine OpsW.q rfl (q_move (v := .int _ _) rfl) ?_
  refine OpsW.q rfl (q_move (v := .int _ _) rfl) ?_
  refine OpsW.q rfl (q_and rfl rfl) ?_
  rw [and_one (div_lt hb)]
  refine OpsW.q rfl (q_move (v := .int _ _) rfl) ?_
  refine OpsW.q rfl (q_mul rfl rfl) ?_
  refine OpsW.q rfl (q_xor rfl rfl) ?_
  refine OpsW.q rfl (q_assign (v := .int _ _) rfl) ?_
  refine OpsW.nil ?_
  refine SeqP.go ?_
  refine AW.region ?_
  refine OpsW.q rfl (q_move (v := .int _ _) rfl) ?_
  refine OpsW.q rfl (o_call rfl Try.func47 rfl rfl (twice_con _ (twI_lt ha j))) ?_
  refine OpsW.q rfl (q_assign (v := .int _ _) rfl) ?_
  refine OpsW.nil ?_
  refine BlockP.go ?_
  refine SeqP.go ?_
  refine AW.region ?_
  refine OpsW.q rfl (q_move (v := .int _ _) rfl) ?_
  refine OpsW.q rfl (q_shrL 1 rfl rfl (by decide) rfl) ?_
  refine OpsW.q rfl (q_assign (v := .int _ _) rfl) ?_
  refine OpsW.nil ?_
  exact LoopP.go _ (by omega) ⟨j + 1, _, rfl, (by omega), Slots.eq ⟨(by first | rfl | exact i64_int (by omega) (by omega) (by omega) | assumption), (by rw [← half_step]; rfl), (by rw [← times_step ha]; rfl),  trivial⟩, hSl0⟩
theorem rot_con (c : UInt8) {k : Nat} (hk : k < 5) : Con Try.prog w0 51 #[BV c, .int .i64 (k : Int)] H (fun v H' => v = BV (rotB c k) ∧ H' = H) := by
  have hS0 : Sep H [] H := Sep.refl
  refine Con.intro Try.func51 rfl rfl ?_
  refine AW.seq ?_
  refine AW.region ?_
  refine OpsW.q rfl (q_assign (v := .int _ _) rfl) ?_
  refine OpsW.nil ?_
  refine SeqP.go ?_
  refine AW.seq ?_
  refine AW.region ?_
  refine OpsW.q rfl (q_move (v := .int _ _) rfl) ?_
  refine OpsW.q rfl (q_convInt rfl Try.underlying52 rfl) ?_
  refine OpsW.q rfl (q_and rfl rfl) ?_
  refine OpsW.q rfl (q_assign (v := .int _ _) rfl) ?_
  refine OpsW.nil ?_
  refine SeqP.go ?_
  refine AW.seq ?_
  refine AW.region ?_
  refine OpsW.q rfl (q_move (v := .int _ _) rfl) ?_
  refine OpsW.q rfl (q_move (v := .int _ _) rfl) ?_
  refine OpsW.q rfl (q_shl rfl rfl (iand64_nonneg _ _)) ?_
  refine OpsW.q rfl (q_move (v := .int _ _) rfl) ?_
  refine OpsW.q rfl (q_move (v := .int _ _) rfl) ?_
  refine OpsW.q rfl (q_sub rfl rfl) ?_
  refine OpsW.q rfl (q_shr rfl rfl (wrap64_nonneg _)) ?_
  refine OpsW.q rfl (q_or rfl rfl) ?_
  refine OpsW.q rfl (q_assign (v := .int _ _) rfl) ?_
  refine OpsW.nil ?_
  refine SeqP.go ?_
  refine AW.ret ?_
  refine RetP.mk1 (H' := H) (v1 := .int _ _) rfl rfl  hS0.le ?_
  exact ⟨congrArg (Value.int .u8) (rot_eq c hk), rfl⟩
theorem table_con : Con Try.prog w0 46 #[] H (fun v H' => ∃ b, v = .pointer (some ⟨b, 0, none⟩) ∧ Sep H [.blk b ⟨nums .u8 (ofB sbox), 256, 79⟩] H') := by
  have hS0 : Sep H [] H := Sep.refl
  refine Con.intro Try.func46 rfl rfl ?_
  refine AW.seq ?_
  refine AW.region ?_
  refine OpsW.q rfl (q_assign (v := .pointer _) rfl) ?_
  refine OpsW.nil ?_
  refine SeqP.go ?_
  refine AW.seq ?_
  refine AW.region ?_
  refine OpsW.m rfl (s_allocB 256 hS0 (by kernel_rfl)) ?_
  rintro _ H1 ⟨b1, rfl, hS1⟩
  clear hS0
  refine OpsW.nil ?_
  refine SeqP.go ?_
  refine AW.seq ?_
  refine AW.region ?_
  refine OpsW.q rfl (q_assign (v := .int _ _) rfl) ?_
  refine OpsW.q rfl (q_assign (v := .int _ _) rfl) ?_
  refine OpsW.nil ?_
  refine SeqP.go ?_
  refine AW.seq ?_
  refine AW.seq ?_
  refine AW.region ?_
  refine OpsW.q rfl (q_move (v := .int _ _) rfl) ?_
  refine OpsW.nil ?_
  refine SeqP.go ?_
  refine AW.block ?_
  refine AW.loop (fun m_ e_ H_ => ∃ (i : Nat) (e0 : Env), m_ = 255 - i ∧ (i ≤ 255) ∧ e_ = upds e0 [(1, .pointer (some ⟨b1, 0, none⟩)), (2, BV (tabK i).1.1), (3, BV (tabK i).1.2), (6, .int .i64 (i : Int))] ∧ Sep H [.blk b1 ⟨nums .u8 ((ofB (tabK i).2)), 256, 79⟩] H_) _ ⟨0, _, rfl, (by omega), Slots.eq ⟨(by first | rfl | exact i64_int (by omega) (by omega) (by omega) | assumption), (by rw [tabK_zero']; rfl), (by rw [tabK_zero']; rfl), (by first | rfl | exact i64_int (by omega) (by omega) (by omega) | assumption),  trivial⟩, (by rw [tabK_zero']; exact hS1)⟩ ?_
  rintro m_ _ Hl0 ⟨i, e0, rfl, hf, rfl, hSl0⟩
  try clear hS1
  have htl := tabK_length i
  have hp1 := (tm (tabK i).1.1 3).toNat_lt
  refine AW.seq ?_
  refine AW.region ?_
  refine OpsW.q rfl (q_lss rfl rfl) ?_
  refine OpsW.nil ?_
  refine SeqP.go ?_
  refine AW.seq ?_
  refine AW.cond2 rfl (fun h0 => ?_) (fun h0 => ?_)
  ·
    try simp only [decide_eq_true_eq, decide_eq_false_iff_not, Bool.or_eq_true, Bool.and_eq_true, Bool.or_eq_false_iff, Bool.and_eq_false_imp, Bool.not_eq_true', Bool.not_eq_false', ne_eq, Decidable.not_not, Int.not_lt, Int.not_le, Bool.not_eq_true, Bool.not_eq_false] at h0
    refine AW.exit ?_
    refine SeqP.exit ?_
    refine LoopP.exit ?_
    obtain rfl : i = 255 := by omega
    refine BlockP.here ?_
    refine SeqP.go ?_
    refine AW.seq ?_
    refine AW.region ?_
    refine OpsW.q rfl (q_indexAddrA0 Try.underlying79 (by kernel_rfl) rfl rfl (by first | omega | decide) (by first | omega | decide)) ?_
    refine OpsW.ms (s_storeB (c := 99) hSl0 at0 (by kernel_rfl) rfl rfl (by first | (with_reducible assumption) | omega | (unfold maxLen; omega) | (simp only [nums_length, List.length_set, List.length_replicate, List.length_take, List.length_drop, List.length_append, List.length_cons, List.length_nil, ofB_length, toB_length]; omega) | (simp only [nums_length, List.length_set, List.length_replicate, List.length_take, List.length_drop, List.length_append, List.length_cons, List.length_nil, ofB_length, toB_length]; unfold maxLen; omega) | (simp; done) | (simp; omega) | rfl | decide)) ?_
    rintro _ H2 ⟨rfl, hS2⟩
    clear hSl0
    refine OpsW.nil ?_
    refine SeqP.go ?_
    refine AW.seq ?_
    refine AW.region ?_
    refine OpsW.q rfl (q_assign (v := .pointer _) rfl) ?_
    refine OpsW.nil ?_
    refine SeqP.go ?_
    refine AW.ret ?_
    refine RetP.mk1 (H' := H2) (v1 := .pointer _) rfl rfl  (Hp.le_refl _) ?_
    have hs := hS2
    rw [show (0 : Int).toNat = 0 from rfl, tab_fin] at hs
    exact ⟨b1, rfl, hs⟩
  try simp only [decide_eq_true_eq, decide_eq_false_iff_not, Bool.or_eq_true, Bool.and_eq_true, Bool.or_eq_false_iff, Bool.and_eq_false_imp, Bool.not_eq_true', Bool.not_eq_false', ne_eq, Decidable.not_not, Int.not_lt, Int.not_le, Bool.not_eq_true, Bool.not_eq_false] at h0
  refine AW.skip ?_
  refine SeqP.go ?_
  refine AW.seq ?_
  refine AW.block ?_
  refine AW.seq ?_
  refine AW.region ?_
  refine OpsW.q rfl (q_move (v := .int _ _) rfl) ?_
  refine OpsW.q rfl (o_call rfl Try.func50 rfl rfl (times_con _ 3)) ?_
  refine OpsW.q rfl (q_assign (v := .int _ _) rfl) ?_
  refine OpsW.nil ?_
  refine SeqP.go ?_
  refine AW.seq ?_
  refine AW.region ?_
  refine OpsW.q rfl (q_move (v := .int _ _) rfl) ?_
  refine OpsW.q rfl (o_call rfl Try.func50 rfl rfl (times_con _ 246)) ?_
  refine OpsW.q rfl (q_assign (v := .int _ _) rfl) ?_
  refine OpsW.nil ?_
  refine SeqP.go ?_
  refine AW.seq ?_
  refine AW.region ?_
  refine OpsW.q rfl (q_assign (v := .int _ _) rfl) ?_
  refine OpsW.nil ?_
  refine SeqP.go ?_
  refine AW.seq ?_
  refine AW.seq ?_
  refine AW.region ?_
  refine OpsW.q rfl (q_move (v := .int _ _) rfl) ?_
  refine OpsW.nil ?_
  refine SeqP.go ?_
  refine AW.block ?_
  refine AW.loop (fun m_ e_ H_ => ∃ (k : Nat) (e0 : Env), m_ = 5 - k ∧ (k ≤ 5) ∧ e_ = upds e0 [(1, .pointer (some ⟨b1, 0, none⟩)), (2, BV (tm (tabK i).1.1 3)), (3, BV (tm (tabK i).1.2 246)), (4, BV (stK (tm (tabK i).1.2 246) k)), (6, .int .i64 (i : Int)), (12, .int .i64 (k : Int))] ∧ Sep H [.blk b1 ⟨nums .u8 ((ofB (tabK i).2)), 256, 79⟩] H_) _ ⟨0, _, rfl, (by omega), Slots.eq ⟨(by first | rfl | exact i64_int (by omega) (by omega) (by omega) | assumption), (by first | rfl | exact i64_int (by omega) (by omega) (by omega) | assumption), (by first | rfl | exact i64_int (by omega) (by omega) (by omega) | assumption), (by rw [stK_zero]; rfl), (by first | rfl | exact i64_int (by omega) (by omega) (by omega) | assumption), (by first | rfl | exact i64_int (by omega) (by omega) (by omega) | assumption),  trivial⟩, hSl0⟩ ?_
  rintro m_ _ Hl1 ⟨k, e0, rfl, hf, rfl, hSl1⟩
  try clear hSl0
  refine AW.seq ?_
  refine AW.region ?_
  refine OpsW.q rfl (q_lss rfl rfl) ?_
  refine OpsW.nil ?_
  refine SeqP.go ?_
  refine AW.seq ?_
  refine AW.cond2 rfl (fun h1 => ?_) (fun h1 => ?_)
  ·
    try simp only [decide_eq_true_eq, decide_eq_false_iff_not, Bool.or_eq_true, Bool.and_eq_true, Bool.or_eq_false_iff, Bool.and_eq_false_imp, Bool.not_eq_true', Bool.not_eq_false', ne_eq, Decidable.not_not, Int.not_lt, Int.not_le, Bool.not_eq_true, Bool.not_eq_false] at h1
    refine AW.exit ?_
    refine SeqP.exit ?_
    refine LoopP.exit ?_
    obtain rfl : k = 5 := by omega
    refine BlockP.here ?_
    refine SeqP.go ?_
    refine AW.region ?_
    refine OpsW.q rfl (q_move (v := .int _ _) rfl) ?_
    refine OpsW.q rfl (q_move (v := .int _ _) rfl) ?_
    refine OpsW.q rfl (q_indexAddrA0 Try.underlying79 (by kernel_rfl) rfl rfl (by first | omega | decide) (by first | omega | decide)) ?_
    refine OpsW.ms (s_storeB hSl1 at0 (by kernel_rfl) rfl rfl (by first | (with_reducible assumption) | omega | (unfold maxLen; omega) | (simp only [nums_length, List.length_set, List.length_replicate, List.length_take, List.length_drop, List.length_append, List.length_cons, List.length_nil, ofB_length, toB_length]; omega) | (simp only [nums_length, List.length_set, List.length_replicate, List.length_take, List.length_drop, List.length_append, List.length_cons, List.length_nil, ofB_length, toB_length]; unfold maxLen; omega) | (simp; done) | (simp; omega) | rfl | decide)) ?_
    rintro _ H3 ⟨rfl, hS3⟩
    clear hSl1
    refine OpsW.nil ?_
    refine BlockP.go ?_
    refine SeqP.go ?_
    refine AW.region ?_
    refine OpsW.q rfl (q_addI rfl rfl (by omega)) ?_
    refine OpsW.q rfl (q_move (v := .int _ _) rfl) ?_
    refine OpsW.nil ?_
    exact LoopP.go _ (by omega) ⟨i + 1, _, rfl, (by omega), Slots.eq ⟨(by first | rfl | exact i64_int (by omega) (by omega) (by omega) | assumption), (by rw [tabK_succ']; rfl), (by rw [tabK_succ']; rfl), (by first | rfl | exact i64_int (by omega) (by omega) (by omega) | assumption),  trivial⟩, (by rw [tabK_succ']; exact hS3)⟩
  try simp only [decide_eq_true_eq, decide_eq_false_iff_not, Bool.or_eq_true, Bool.and_eq_true, Bool.or_eq_false_iff, Bool.and_eq_false_imp, Bool.not_eq_true', Bool.not_eq_false', ne_eq, Decidable.not_not, Int.not_lt, Int.not_le, Bool.not_eq_true, Bool.not_eq_false] at h1
  refine AW.skip ?_
  refine SeqP.go ?_
  refine AW.seq ?_
  refine AW.block ?_
  refine AW.seq ?_
  refine AW.region ?_
  refine OpsW.q rfl (q_move (v := .int _ _) rfl) ?_
  refine OpsW.q rfl (q_assign (v := .int _ _) rfl) ?_
  refine OpsW.nil ?_
  refine SeqP.go ?_
  refine AW.region ?_
  refine OpsW.q rfl (q_move (v := .int _ _) rfl) ?_
  refine OpsW.q rfl (q_move (v := .int _ _) rfl) ?_
  refine OpsW.q rfl (q_move (v := .int _ _) rfl) ?_
  refine OpsW.q rfl (o_call rfl Try.func51 rfl rfl (rot_con _ (by omega))) ?_
  refine OpsW.q rfl (q_xorB rfl rfl) ?_
  refine OpsW.q rfl (q_assign (v := .int _ _) rfl) ?_
  refine OpsW.nil ?_
  refine BlockP.go ?_
  refine SeqP.go ?_
  refine AW.region ?_
  refine OpsW.q rfl (q_addI rfl rfl (by omega)) ?_
  refine OpsW.q rfl (q_move (v := .int _ _) rfl) ?_
  refine OpsW.nil ?_
  exact LoopP.go _ (by omega) ⟨k + 1, _, rfl, (by omega), Slots.eq ⟨(by first | rfl | exact i64_int (by omega) (by omega) (by omega) | assumption), (by first | rfl | exact i64_int (by omega) (by omega) (by omega) | assumption), (by first | rfl | exact i64_int (by omega) (by omega) (by omega) | assumption), (by rw [stK_succ']; rfl), (by first | rfl | exact i64_int (by omega) (by omega) (by omega) | assumption), (by first | rfl | exact i64_int (by omega) (by omega) (by omega) | assumption),  trivial⟩, hSl1⟩
end
end Go.Proofs.Ytngbaokcbecdfaa

