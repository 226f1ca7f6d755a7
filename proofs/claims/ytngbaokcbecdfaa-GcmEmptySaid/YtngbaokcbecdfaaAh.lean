/-
  The walks of the document's answer.
-/
import Derived.Test.YtngbaokcbecdfaaDQ
import Derived.Test.YtngbaokcbecdfaaProg
import Derived.Test.YtngbaokcbecdfaaDC
import Derived.Test.YtngbaokcbecdfaaAeSp5
namespace Go.Proofs.Ytngbaokcbecdfaa
open Go Go.RowKit D
set_option linter.unusedVariables false
set_option linter.unusedSimpArgs false
set_option maxRecDepth 100000
set_option maxHeartbeats 2000000
section
variable {w0 : World} {H : Hp} {H0 : Hp}

theorem timesR_con {a b : Nat} (ha : a < 256) (hb : b < 256) : Con Try.prog w0 43 #[.int .i64 ((a : Nat) : Int), .int .i64 ((b : Nat) : Int)] H (fun v H' => v = .int .i64 ((tmN a b : Nat) : Int) ∧ H' = H) := by
  have hS0 : Sep H [] H := Sep.refl
  refine Con.intro Try.func43 rfl rfl ?_
  refine AW.seq ?_
  refine AW.region ?_
  refine OpsW.q rfl (q_assign (v := .int _ _) rfl) ?_
  refine OpsW.nil ?_
  refine SeqP.go ?_
  refine AW.seq ?_
  refine AW.region ?_
  refine OpsW.q rfl (q_assign (v := .int _ _) rfl) ?_
  refine OpsW.nil ?_
  refine SeqP.go ?_
  refine AW.seq ?_
  refine AW.seq ?_
  refine AW.region ?_
  refine OpsW.q rfl (q_assign (v := .int _ _) rfl) ?_
  refine OpsW.nil ?_
  refine SeqP.go ?_
  refine AW.block ?_
  refine AW.loop (fun m_ e_ H_ => ∃ (j : Nat) (e0 : Env), m_ = 8 - j ∧ (j ≤ 8) ∧ e_ = upds e0 [(0, .int .i64 ((twI a j : Nat) : Int)), (1, .int .i64 ((b : Nat) : Int)), (5, .int .i64 ((tmK a b j : Nat) : Int)), (6, .int .i64 (j : Int))] ∧ Sep H [] H_) _ ⟨0, _, rfl, (by omega), Slots.eq ⟨(by first | rfl | exact i64_int (by omega) (by omega) (by omega) | assumption), (by first | rfl | exact i64_int (by omega) (by omega) (by omega) | assumption), (by first | rfl | exact i64_int (by omega) (by omega) (by omega) | assumption), (by first | rfl | exact i64_int (by omega) (by omega) (by omega) | assumption),  trivial⟩, hS0⟩ ?_
  rintro m_ _ Hl0 ⟨j, e0, rfl, hf, rfl, hSl0⟩
  try clear hS0
  have hw := twI_lt ha j
  refine AW.seq ?_
  refine AW.seq ?_
  refine AW.region ?_
  refine OpsW.q rfl (q_move (v := .int _ _) rfl) ?_
  refine OpsW.q rfl (q_lss rfl rfl) ?_
  refine OpsW.nil ?_
  refine SeqP.go ?_
  refine AW.cond2 rfl (fun h0 => ?_) (fun h0 => ?_)
  ·
    try simp only [decide_eq_true_eq, decide_eq_false_iff_not, Bool.or_eq_true, Bool.and_eq_true, Bool.or_eq_false_iff, Bool.and_eq_false_imp, Bool.not_eq_true', Bool.not_eq_false', ne_eq, Decidable.not_not, Int.not_lt, Int.not_le, Bool.not_eq_true, Bool.not_eq_false] at h0
    refine AW.exit ?_
    refine SeqP.exit ?_
    refine LoopP.exit ?_
    obtain rfl : j = 8 := by omega
    refine BlockP.here ?_
    refine SeqP.go ?_
    refine AW.seq ?_
    refine AW.region ?_
    refine OpsW.q rfl (q_move (v := .int _ _) rfl) ?_
    refine OpsW.q rfl (q_assign (v := .int _ _) rfl) ?_
    refine OpsW.nil ?_
    refine SeqP.go ?_
    refine AW.ret ?_
    refine RetP.mk1 (H' := H) (v1 := .int _ _) rfl rfl  hSl0.le ?_
    exact ⟨by rw [tmN_eq], rfl⟩
  try simp only [decide_eq_true_eq, decide_eq_false_iff_not, Bool.or_eq_true, Bool.and_eq_true, Bool.or_eq_false_iff, Bool.and_eq_false_imp, Bool.not_eq_true', Bool.not_eq_false', ne_eq, Decidable.not_not, Int.not_lt, Int.not_le, Bool.not_eq_true, Bool.not_eq_false] at h0
  refine AW.skip ?_
  refine SeqP.go ?_
  refine AW.seq ?_
  refine AW.block ?_
  refine AW.seq ?_
  refine AW.seq ?_
  refine AW.region ?_
  refine OpsW.q rfl (q_move (v := .int _ _) rfl) ?_
  refine OpsW.q rfl (q_move (v := .int _ _) rfl) ?_
  refine OpsW.q rfl (q_shr rfl rfl (by first | omega | decide)) ?_
  refine OpsW.q rfl (q_and rfl rfl) ?_
  refine OpsW.q rfl (q_eql rfl rfl) ?_
  refine OpsW.nil ?_
  refine SeqP.go ?_
  refine AW.cond rfl (fun h1 => ?_) (fun h1 => ?_)
  ·
    try simp only [decide_eq_true_eq, decide_eq_false_iff_not, Bool.or_eq_true, Bool.and_eq_true, Bool.or_eq_false_iff, Bool.and_eq_false_imp, Bool.not_eq_true', Bool.not_eq_false', ne_eq, Decidable.not_not, Int.not_lt, Int.not_le, Bool.not_eq_true, Bool.not_eq_false] at h1
    rw [bit_test hb (by omega)] at h1
    have hbit : b / 2 ^ j % 2 = 1 := by revert h1; generalize b / 2 ^ j = q; intro h1; omega
    refine AW.region ?_
    refine OpsW.q rfl (q_move (v := .int _ _) rfl) ?_
    refine OpsW.q rfl (q_move (v := .int _ _) rfl) ?_
    refine OpsW.q rfl (q_xor rfl rfl) ?_
    refine OpsW.q rfl (q_assign (v := .int _ _) rfl) ?_
    refine OpsW.nil ?_
    refine SeqP.go ?_
    refine AW.seq ?_
    refine AW.region ?_
    refine OpsW.q rfl (q_move (v := .int _ _) rfl) ?_
    refine OpsW.q rfl (q_mulI rfl rfl (by omega)) ?_
    refine OpsW.q rfl (q_assign (v := .int _ _) rfl) ?_
    refine OpsW.nil ?_
    refine SeqP.go ?_
    refine AW.seq ?_
    refine AW.region ?_
    refine OpsW.q rfl (q_move (v := .int _ _) rfl) ?_
    refine OpsW.q rfl (q_gtr rfl rfl) ?_
    refine OpsW.nil ?_
    refine SeqP.go ?_
    refine AW.cond rfl (fun h2 => ?_) (fun h2 => ?_)
    ·
      try simp only [decide_eq_true_eq, decide_eq_false_iff_not, Bool.or_eq_true, Bool.and_eq_true, Bool.or_eq_false_iff, Bool.and_eq_false_imp, Bool.not_eq_true', Bool.not_eq_false', ne_eq, Decidable.not_not, Int.not_lt, Int.not_le, Bool.not_eq_true, Bool.not_eq_false] at h2
      refine AW.region ?_
      refine OpsW.q rfl (q_move (v := .int _ _) rfl) ?_
      refine OpsW.q rfl (q_xor rfl rfl) ?_
      refine OpsW.q rfl (q_assign (v := .int _ _) rfl) ?_
      refine OpsW.nil ?_
      refine BlockP.go ?_
      refine SeqP.go ?_
      refine AW.region ?_
      refine OpsW.q rfl (q_move (v := .int _ _) rfl) ?_
      refine OpsW.q rfl (q_addI rfl rfl (by omega)) ?_
      refine OpsW.q rfl (q_assign (v := .int _ _) rfl) ?_
      refine OpsW.nil ?_
      exact LoopP.go _ (by omega) ⟨j + 1, _, rfl, (by omega), Slots.eq ⟨(by first | exact congrArg (Value.int .i64) (double_hi hw h2) | exact congrArg (Value.int .i64) (double_lo hw h2)), (by first | rfl | exact i64_int (by omega) (by omega) (by omega) | assumption), (by first | (rw [← tmK_set ha hbit]; rfl) | (rw [← tmK_skip hbit]; rfl)), (by first | rfl | exact i64_int (by omega) (by omega) (by omega) | assumption),  trivial⟩, hSl0⟩
    try simp only [decide_eq_true_eq, decide_eq_false_iff_not, Bool.or_eq_true, Bool.and_eq_true, Bool.or_eq_false_iff, Bool.and_eq_false_imp, Bool.not_eq_true', Bool.not_eq_false', ne_eq, Decidable.not_not, Int.not_lt, Int.not_le, Bool.not_eq_true, Bool.not_eq_false] at h2
    have h2 : ¬ (255 : Int) < ((twI a j : Nat) : Int) * 2 := by omega
    refine AW.skip ?_
    refine BlockP.go ?_
    refine SeqP.go ?_
    refine AW.region ?_
    refine OpsW.q rfl (q_move (v := .int _ _) rfl) ?_
    refine OpsW.q rfl (q_addI rfl rfl (by omega)) ?_
    refine OpsW.q rfl (q_assign (v := .int _ _) rfl) ?_
    refine OpsW.nil ?_
    exact LoopP.go _ (by omega) ⟨j + 1, _, rfl, (by omega), Slots.eq ⟨(by first | exact congrArg (Value.int .i64) (double_hi hw h2) | exact congrArg (Value.int .i64) (double_lo hw h2)), (by first | rfl | exact i64_int (by omega) (by omega) (by omega) | assumption), (by first | (rw [← tmK_set ha hbit]; rfl) | (rw [← tmK_skip hbit]; rfl)), (by first | rfl | exact i64_int (by omega) (by omega) (by omega) | assumption),  trivial⟩, hSl0⟩
  try simp only [decide_eq_true_eq, decide_eq_false_iff_not, Bool.or_eq_true, Bool.and_eq_true, Bool.or_eq_false_iff, Bool.and_eq_false_imp, Bool.not_eq_true', Bool.not_eq_false', ne_eq, Decidable.not_not, Int.not_lt, Int.not_le, Bool.not_eq_true, Bool.not_eq_false] at h1
  rw [bit_test hb (by omega)] at h1
  have hbit : b / 2 ^ j % 2 = 0 := by revert h1; generalize b / 2 ^ j = q; intro h1; omega
  refine AW.skip ?_
  refine SeqP.go ?_
  refine AW.seq ?_
  refine AW.region ?_
  refine OpsW.q rfl (q_move (v := .int _ _) rfl) ?_
  refine OpsW.q rfl (q_mulI rfl rfl (by omega)) ?_
  refine OpsW.q rfl (q_assign (v := .int _ _) rfl) ?_
  refine OpsW.nil ?_
  refine SeqP.go ?_
  refine AW.seq ?_
  refine AW.region ?_
  refine OpsW.q rfl (q_move (v := .int _ _) rfl) ?_
  refine OpsW.q rfl (q_gtr rfl rfl) ?_
  refine OpsW.nil ?_
  refine SeqP.go ?_
  refine AW.cond rfl (fun h2 => ?_) (fun h2 => ?_)
  ·
    try simp only [decide_eq_true_eq, decide_eq_false_iff_not, Bool.or_eq_true, Bool.and_eq_true, Bool.or_eq_false_iff, Bool.and_eq_false_imp, Bool.not_eq_true', Bool.not_eq_false', ne_eq, Decidable.not_not, Int.not_lt, Int.not_le, Bool.not_eq_true, Bool.not_eq_false] at h2
    refine AW.region ?_
    refine OpsW.q rfl (q_move (v := .int _ _) rfl) ?_
    refine OpsW.q rfl (q_xor rfl rfl) ?_
    refine OpsW.q rfl (q_assign (v := .int _ _) rfl) ?_
    refine OpsW.nil ?_
    refine BlockP.go ?_
    refine SeqP.go ?_
    refine AW.region ?_
    refine OpsW.q rfl (q_move (v := .int _ _) rfl) ?_
    refine OpsW.q rfl (q_addI rfl rfl (by omega)) ?_
    refine OpsW.q rfl (q_assign (v := .int _ _) rfl) ?_
    refine OpsW.nil ?_
    exact LoopP.go _ (by omega) ⟨j + 1, _, rfl, (by omega), Slots.eq ⟨(by first | exact congrArg (Value.int .i64) (double_hi hw h2) | exact congrArg (Value.int .i64) (double_lo hw h2)), (by first | rfl | exact i64_int (by omega) (by omega) (by omega) | assumption), (by first | (rw [← tmK_set ha hbit]; rfl) | (rw [← tmK_skip hbit]; rfl)), (by first | rfl | exact i64_int (by omega) (by omega) (by omega) | assumption),  trivial⟩, hSl0⟩
  try simp only [decide_eq_true_eq, decide_eq_false_iff_not, Bool.or_eq_true, Bool.and_eq_true, Bool.or_eq_false_iff, Bool.and_eq_false_imp, Bool.not_eq_true', Bool.not_eq_false', ne_eq, Decidable.not_not, Int.not_lt, Int.not_le, Bool.not_eq_true, Bool.not_eq_false] at h2
  have h2 : ¬ (255 : Int) < ((twI a j : Nat) : Int) * 2 := by omega
  refine AW.skip ?_
  refine BlockP.go ?_
  refine SeqP.go ?_
  refine AW.region ?_
  refine OpsW.q rfl (q_move (v := .int _ _) rfl) ?_
  refine OpsW.q rfl (q_addI rfl rfl (by omega)) ?_
  refine OpsW.q rfl (q_assign (v := .int _ _) rfl) ?_
  refine OpsW.nil ?_
  exact LoopP.go _ (by omega) ⟨j + 1, _, rfl, (by omega), Slots.eq ⟨(by first | exact congrArg (Value.int .i64) (double_hi hw h2) | exact congrArg (Value.int .i64) (double_lo hw h2)), (by first | rfl | exact i64_int (by omega) (by omega) (by omega) | assumption), (by first | (rw [← tmK_set ha hbit]; rfl) | (rw [← tmK_skip hbit]; rfl)), (by first | rfl | exact i64_int (by omega) (by omega) (by omega) | assumption),  trivial⟩, hSl0⟩
theorem stirred_con (c : UInt8) : Con Try.prog w0 44 #[.int .i64 ((c.toNat : Nat) : Int)] H (fun v H' => v = BV (stK c 5) ∧ H' = H) := by
  have hS0 : Sep H [] H := Sep.refl
  refine Con.intro Try.func44 rfl rfl ?_
  refine AW.seq ?_
  refine AW.region ?_
  refine OpsW.q rfl (q_assign (v := .int _ _) rfl) ?_
  refine OpsW.nil ?_
  refine SeqP.go ?_
  refine AW.seq ?_
  refine AW.region ?_
  refine OpsW.q rfl (q_assign (v := .int _ _) rfl) ?_
  refine OpsW.nil ?_
  refine SeqP.go ?_
  refine AW.seq ?_
  refine AW.seq ?_
  refine AW.region ?_
  refine OpsW.q rfl (q_assign (v := .int _ _) rfl) ?_
  refine OpsW.nil ?_
  refine SeqP.go ?_
  refine AW.block ?_
  refine AW.loop (fun m_ e_ H_ => ∃ (i : Nat) (e0 : Env), m_ = 5 - i ∧ (i ≤ 5) ∧ e_ = upds e0 [(0, .int .i64 ((c.toNat : Nat) : Int)), (3, .int .i64 (((stK c i).toNat : Nat) : Int)), (4, .int .i64 (i : Int))] ∧ Sep H [] H_) _ ⟨0, _, rfl, (by omega), Slots.eq ⟨(by first | rfl | exact i64_int (by omega) (by omega) (by omega) | assumption), (by rw [stK_zero]; rfl), (by first | rfl | exact i64_int (by omega) (by omega) (by omega) | assumption),  trivial⟩, hS0⟩ ?_
  rintro m_ _ Hl0 ⟨i, e0, rfl, hf, rfl, hSl0⟩
  try clear hS0
  refine AW.seq ?_
  refine AW.seq ?_
  refine AW.region ?_
  refine OpsW.q rfl (q_move (v := .int _ _) rfl) ?_
  refine OpsW.q rfl (q_lss rfl rfl) ?_
  refine OpsW.nil ?_
  refine SeqP.go ?_
  refine AW.cond2 rfl (fun h0 => ?_) (fun h0 => ?_)
  ·
    try simp only [decide_eq_true_eq, decide_eq_false_iff_not, Bool.or_eq_true, Bool.and_eq_true, Bool.or_eq_false_iff, Bool.and_eq_false_imp, Bool.not_eq_true', Bool.not_eq_false', ne_eq, Decidable.not_not, Int.not_lt, Int.not_le, Bool.not_eq_true, Bool.not_eq_false] at h0
    refine AW.exit ?_
    refine SeqP.exit ?_
    refine LoopP.exit ?_
    obtain rfl : i = 5 := by omega
    refine BlockP.here ?_
    refine SeqP.go ?_
    refine AW.seq ?_
    refine AW.region ?_
    refine OpsW.q rfl (q_move (v := .int _ _) rfl) ?_
    refine OpsW.q rfl (q_convIB rfl Try.underlying5 rfl) ?_
    refine OpsW.q rfl (q_assign (v := .int _ _) rfl) ?_
    refine OpsW.nil ?_
    refine SeqP.go ?_
    refine AW.ret ?_
    refine RetP.mk1 (H' := H) (v1 := .int _ _) rfl rfl  hSl0.le ?_
    exact ⟨rfl, rfl⟩
  try simp only [decide_eq_true_eq, decide_eq_false_iff_not, Bool.or_eq_true, Bool.and_eq_true, Bool.or_eq_false_iff, Bool.and_eq_false_imp, Bool.not_eq_true', Bool.not_eq_false', ne_eq, Decidable.not_not, Int.not_lt, Int.not_le, Bool.not_eq_true, Bool.not_eq_false] at h0
  refine AW.skip ?_
  refine SeqP.go ?_
  refine AW.seq ?_
  refine AW.block ?_
  refine AW.drawK [] 10 rfl (by kernel_rfl) ?_
  refine SeqK.q rfl (q_move (v := .int _ _) rfl) ?_
  refine SeqK.q rfl (q_move (v := .int _ _) rfl) ?_
  refine SeqK.q rfl (q_move (v := .int _ _) rfl) ?_
  refine SeqK.q rfl (q_shl rfl rfl (by first | omega | decide)) ?_
  refine SeqK.q rfl (q_move (v := .int _ _) rfl) ?_
  refine SeqK.q rfl (q_move (v := .int _ _) rfl) ?_
  refine SeqK.q rfl (q_subI rfl rfl (by omega)) ?_
  refine SeqK.q rfl (q_shr rfl rfl (by first | omega | decide)) ?_
  refine SeqK.q rfl (q_or rfl rfl) ?_
  refine SeqK.q rfl (q_and rfl rfl) ?_
  refine SeqK.done ?_
  refine OpsW.q rfl (q_xor rfl rfl) ?_
  refine OpsW.q rfl (q_assign (v := .int _ _) rfl) ?_
  refine OpsW.nil ?_
  refine BlockP.go ?_
  refine SeqP.go ?_
  refine AW.region ?_
  refine OpsW.q rfl (q_move (v := .int _ _) rfl) ?_
  refine OpsW.q rfl (q_addI rfl rfl (by omega)) ?_
  refine OpsW.q rfl (q_assign (v := .int _ _) rfl) ?_
  refine OpsW.nil ?_
  exact LoopP.go _ (by omega) ⟨i + 1, _, rfl, (by omega), Slots.eq ⟨(by first | rfl | exact i64_int (by omega) (by omega) (by omega) | assumption), (by rw [stK_succ', ← st_step c _ (by omega)]; rfl), (by first | rfl | exact i64_int (by omega) (by omega) (by omega) | assumption),  trivial⟩, hSl0⟩
theorem stirredN_con {n : Nat} (h : n < 256) : Con Try.prog w0 44 #[.int .i64 ((n : Nat) : Int)] H (fun v H' => v = BV (stK (UInt8.ofNat n) 5) ∧ H' = H) := by
  have := stirred_con (w0 := w0) (H := H) (UInt8.ofNat n)
  rwa [UInt8.toNat_ofNat', Nat.mod_eq_of_lt h] at this

theorem tableR_con : Con Try.prog w0 34 #[] H (fun v H' => Sep H [.vec v 5 1 256 (nums .u8 (ofB (sbox)))] H') := by
  have hS0 : Sep H [] H := Sep.refl
  refine Con.intro Try.func34 rfl rfl ?_
  refine AW.seq ?_
  refine AW.region ?_
  refine OpsW.q rfl (q_assign (v := .slice _ _ _) rfl) ?_
  refine OpsW.nil ?_
  refine SeqP.go ?_
  refine AW.seq ?_
  refine AW.region ?_
  refine OpsW.q rfl (q_assign (v := .slice _ _ _) rfl) ?_
  refine OpsW.nil ?_
  refine SeqP.go ?_
  refine AW.seq ?_
  refine AW.region ?_
  refine OpsW.q rfl (q_assign (v := .int _ _) rfl) ?_
  refine OpsW.nil ?_
  refine SeqP.go ?_
  refine AW.seq ?_
  refine AW.seq ?_
  refine AW.region ?_
  refine OpsW.q rfl (q_assign (v := .int _ _) rfl) ?_
  refine OpsW.nil ?_
  refine SeqP.go ?_
  refine AW.block ?_
  replace hS0 := hS0.nil (el := 3) (sz := 1)
  refine AW.loop (fun m_ e_ H_ => ∃ (i : Nat) (vp : Value) (e0 : Env), m_ = 255 - i ∧ (i ≤ 255) ∧ e_ = upds e0 [(1, vp), (2, .int .i64 (((p3 i).toNat : Nat) : Int)), (3, .int .i64 (i : Int))] ∧ Sep H [.vec vp 3 1 i (nums .i64 (p3L i))] H_) _ ⟨0, nilV, _, rfl, (by omega), Slots.eq ⟨(by first | rfl | exact i64_int (by omega) (by omega) (by omega) | assumption), (by rw [p3_zero]; rfl), (by first | rfl | exact i64_int (by omega) (by omega) (by omega) | assumption),  trivial⟩, (by rw [p3L_zero']; exact hS0)⟩ ?_
  rintro m_ _ Hl0 ⟨i, vp, e0, rfl, hf, rfl, hSl0⟩
  try clear hS0
  refine AW.seq ?_
  refine AW.seq ?_
  refine AW.region ?_
  refine OpsW.q rfl (q_move (v := .int _ _) rfl) ?_
  refine OpsW.q rfl (q_lss rfl rfl) ?_
  refine OpsW.nil ?_
  refine SeqP.go ?_
  refine AW.cond2 rfl (fun h0 => ?_) (fun h0 => ?_)
  ·
    try simp only [decide_eq_true_eq, decide_eq_false_iff_not, Bool.or_eq_true, Bool.and_eq_true, Bool.or_eq_false_iff, Bool.and_eq_false_imp, Bool.not_eq_true', Bool.not_eq_false', ne_eq, Decidable.not_not, Int.not_lt, Int.not_le, Bool.not_eq_true, Bool.not_eq_false] at h0
    refine AW.exit ?_
    refine SeqP.exit ?_
    refine LoopP.exit ?_
    obtain rfl : i = 255 := by omega
    have hpl := p3L_length' 255
    refine BlockP.here ?_
    refine SeqP.go ?_
    refine AW.seq ?_
    refine AW.region ?_
    refine OpsW.m rfl (s_makeSliceB (by_ := 1) hSl0 Try.underlying31 (by kernel_rfl) (by kernel_rfl) (by kernel_rfl) rfl rfl (by first | omega | decide) (by first | omega | decide) (by first | (with_reducible assumption) | omega | (unfold maxLen; omega) | (simp only [nums_length, List.length_set, List.length_replicate, List.length_take, List.length_drop, List.length_append, List.length_cons, List.length_nil, ofB_length, toB_length]; omega) | (simp only [nums_length, List.length_set, List.length_replicate, List.length_take, List.length_drop, List.length_append, List.length_cons, List.length_nil, ofB_length, toB_length]; unfold maxLen; omega) | (simp; done) | (simp; omega) | rfl | decide) (by first | (with_reducible assumption) | omega | (unfold maxLen; omega) | (simp only [nums_length, List.length_set, List.length_replicate, List.length_take, List.length_drop, List.length_append, List.length_cons, List.length_nil, ofB_length, toB_length]; omega) | (simp only [nums_length, List.length_set, List.length_replicate, List.length_take, List.length_drop, List.length_append, List.length_cons, List.length_nil, ofB_length, toB_length]; unfold maxLen; omega) | (simp; done) | (simp; omega) | rfl | decide) (by first | (with_reducible assumption) | omega | (unfold maxLen; omega) | (simp only [nums_length, List.length_set, List.length_replicate, List.length_take, List.length_drop, List.length_append, List.length_cons, List.length_nil, ofB_length, toB_length]; omega) | (simp only [nums_length, List.length_set, List.length_replicate, List.length_take, List.length_drop, List.length_append, List.length_cons, List.length_nil, ofB_length, toB_length]; unfold maxLen; omega) | (simp; done) | (simp; omega) | rfl | decide)) ?_
    rintro v16 H1 hS1
    clear hSl0
    refine OpsW.q rfl (q_assign (v := v16) rfl) ?_
    refine OpsW.nil ?_
    refine SeqP.go ?_
    refine AW.seq ?_
    refine AW.region ?_
    refine OpsW.q rfl (q_move (v := v16) rfl) ?_
    refine OpsW.q rfl (q_indexV1 (hS1.vec at0) Try.underlying31 (by kernel_rfl) rfl rfl (by first | omega | decide) (by first | omega | decide)) ?_
    refine OpsW.ms (s_storeVB (c := 99) hS1 at0 (by kernel_rfl) rfl rfl (by first | (with_reducible assumption) | omega | (unfold maxLen; omega) | (simp only [nums_length, List.length_set, List.length_replicate, List.length_take, List.length_drop, List.length_append, List.length_cons, List.length_nil, ofB_length, toB_length]; omega) | (simp only [nums_length, List.length_set, List.length_replicate, List.length_take, List.length_drop, List.length_append, List.length_cons, List.length_nil, ofB_length, toB_length]; unfold maxLen; omega) | (simp; done) | (simp; omega) | rfl | decide)) ?_
    rintro _ H2 ⟨rfl, hS2⟩
    clear hS1
    refine OpsW.nil ?_
    refine SeqP.go ?_
    refine AW.seq ?_
    refine AW.seq ?_
    refine AW.region ?_
    refine OpsW.q rfl (q_assign (v := .int _ _) rfl) ?_
    refine OpsW.nil ?_
    refine SeqP.go ?_
    refine AW.block ?_
    refine AW.loop (fun m_ e_ H_ => ∃ (i : Nat) (vo : Value) (e0 : Env), m_ = 255 - i ∧ (i ≤ 255) ∧ e_ = upds e0 [(1, vp), (4, vo), (5, .int .i64 (i : Int))] ∧ Sep H [.vec vo 5 1 256 (nums .u8 (ofB (tabR i))), .vec vp 3 1 255 (nums .i64 (p3L 255))] H_) _ ⟨0, v16, _, rfl, (by omega), Slots.eq ⟨(by first | rfl | exact i64_int (by omega) (by omega) (by omega) | assumption), (by first | rfl | exact i64_int (by omega) (by omega) (by omega) | assumption), (by first | rfl | exact i64_int (by omega) (by omega) (by omega) | assumption),  trivial⟩, (by rw [tabR_zero']; exact hS2)⟩ ?_
    rintro m_ _ Hl1 ⟨i, vo, e0, rfl, hf, rfl, hSl1⟩
    try clear hS2
    have htl := tabR_length i
    have hg1 : (p3L 255).getD (i : Int).toNat 0 = (((p3 i).toNat : Nat) : Int) ∨ 255 ≤ i := by rw [Int.toNat_natCast]; exact if h : i < 255 then .inl (p3L_get' h) else .inr (by omega)
    have hg2 : (p3L 255).getD ((255 - (i : Int)) % 255).toNat 0 = (((p3 ((255 - i) % 255)).toNat : Nat) : Int) := by rw [show ((255 - (i : Int)) % 255).toNat = (255 - i) % 255 from by omega]; exact p3L_get' (Nat.mod_lt _ (by decide))
    have hb := (p3 i).toNat_lt
    refine AW.seq ?_
    refine AW.seq ?_
    refine AW.region ?_
    refine OpsW.q rfl (q_move (v := .int _ _) rfl) ?_
    refine OpsW.q rfl (q_lss rfl rfl) ?_
    refine OpsW.nil ?_
    refine SeqP.go ?_
    refine AW.cond2 rfl (fun h1 => ?_) (fun h1 => ?_)
    ·
      try simp only [decide_eq_true_eq, decide_eq_false_iff_not, Bool.or_eq_true, Bool.and_eq_true, Bool.or_eq_false_iff, Bool.and_eq_false_imp, Bool.not_eq_true', Bool.not_eq_false', ne_eq, Decidable.not_not, Int.not_lt, Int.not_le, Bool.not_eq_true, Bool.not_eq_false] at h1
      refine AW.exit ?_
      refine SeqP.exit ?_
      refine LoopP.exit ?_
      obtain rfl : i = 255 := by omega
      rw [tabR_fin] at hSl1
      refine BlockP.here ?_
      refine SeqP.go ?_
      refine AW.seq ?_
      refine AW.region ?_
      refine OpsW.q rfl (q_move (v := vo) rfl) ?_
      refine OpsW.q rfl (q_assign (v := vo) rfl) ?_
      refine OpsW.nil ?_
      refine SeqP.go ?_
      refine AW.ret ?_
      refine RetP.mk1 (H' := Hl1) (v1 := vo) rfl rfl  (Hp.le_refl _) ?_
      exact hSl1.del del1
    try simp only [decide_eq_true_eq, decide_eq_false_iff_not, Bool.or_eq_true, Bool.and_eq_true, Bool.or_eq_false_iff, Bool.and_eq_false_imp, Bool.not_eq_true', Bool.not_eq_false', ne_eq, Decidable.not_not, Int.not_lt, Int.not_le, Bool.not_eq_true, Bool.not_eq_false] at h1
    replace hg1 := hg1.resolve_right (by omega)
    refine AW.skip ?_
    refine SeqP.go ?_
    refine AW.seq ?_
    refine AW.block ?_
    refine AW.drawK [] 12 rfl (by kernel_rfl) ?_
    refine SeqK.q rfl (q_move (v := vo) rfl) ?_
    refine SeqK.q rfl (q_move (v := vp) rfl) ?_
    refine SeqK.q rfl (q_move (v := .int _ _) rfl) ?_
    refine SeqK.q rfl (q_indexV1 (hSl1.vec at1) Try.underlying65 (by kernel_rfl) rfl rfl (by first | omega | decide) (by first | omega | decide)) ?_
    refine SeqK.q rfl (q_loadVN (hSl1.vec at1) (by kernel_rfl) rfl (by first | (with_reducible assumption) | omega | (unfold maxLen; omega) | (simp only [nums_length, List.length_set, List.length_replicate, List.length_take, List.length_drop, List.length_append, List.length_cons, List.length_nil, ofB_length, toB_length]; omega) | (simp only [nums_length, List.length_set, List.length_replicate, List.length_take, List.length_drop, List.length_append, List.length_cons, List.length_nil, ofB_length, toB_length]; unfold maxLen; omega) | (simp; done) | (simp; omega) | rfl | decide)) ?_
    rw [hg1]
    refine SeqK.q rfl (q_move (v := vp) rfl) ?_
    refine SeqK.q rfl (q_move (v := .int _ _) rfl) ?_
    refine SeqK.q rfl (q_subI rfl rfl (by omega)) ?_
    refine SeqK.q rfl (q_remI rfl rfl (by omega)) ?_
    refine SeqK.q rfl (q_indexV1 (hSl1.vec at1) Try.underlying65 (by kernel_rfl) rfl rfl (by first | omega | decide) (by first | omega | decide)) ?_
    refine SeqK.q rfl (q_loadVN (hSl1.vec at1) (by kernel_rfl) rfl (by first | (with_reducible assumption) | omega | (unfold maxLen; omega) | (simp only [nums_length, List.length_set, List.length_replicate, List.length_take, List.length_drop, List.length_append, List.length_cons, List.length_nil, ofB_length, toB_length]; omega) | (simp only [nums_length, List.length_set, List.length_replicate, List.length_take, List.length_drop, List.length_append, List.length_cons, List.length_nil, ofB_length, toB_length]; unfold maxLen; omega) | (simp; done) | (simp; omega) | rfl | decide)) ?_
    rw [hg2]
    refine SeqK.q rfl (o_call rfl Try.func44 rfl rfl (stirred_con (p3 ((255 - i) % 255)))) ?_
    refine SeqK.done ?_
    refine OpsW.q rfl (q_indexV1 (hSl1.vec at0) Try.underlying31 (by kernel_rfl) rfl rfl (by first | omega | decide) (by first | omega | decide)) ?_
    refine OpsW.ms (s_storeVB hSl1 at0 (by kernel_rfl) rfl rfl (by first | (with_reducible assumption) | omega | (unfold maxLen; omega) | (simp only [nums_length, List.length_set, List.length_replicate, List.length_take, List.length_drop, List.length_append, List.length_cons, List.length_nil, ofB_length, toB_length]; omega) | (simp only [nums_length, List.length_set, List.length_replicate, List.length_take, List.length_drop, List.length_append, List.length_cons, List.length_nil, ofB_length, toB_length]; unfold maxLen; omega) | (simp; done) | (simp; omega) | rfl | decide)) ?_
    rintro _ H3 ⟨rfl, hS3⟩
    clear hSl1
    refine OpsW.nil ?_
    refine BlockP.go ?_
    refine SeqP.go ?_
    refine AW.region ?_
    refine OpsW.q rfl (q_move (v := .int _ _) rfl) ?_
    refine OpsW.q rfl (q_addI rfl rfl (by omega)) ?_
    refine OpsW.q rfl (q_assign (v := .int _ _) rfl) ?_
    refine OpsW.nil ?_
    exact LoopP.go _ (by omega) ⟨i + 1, vo, _, rfl, (by omega), Slots.eq ⟨(by first | rfl | exact i64_int (by omega) (by omega) (by omega) | assumption), (by first | rfl | exact i64_int (by omega) (by omega) (by omega) | assumption), (by first | rfl | exact i64_int (by omega) (by omega) (by omega) | assumption),  trivial⟩, (by rw [tabR_succ']; exact hS3)⟩
  try simp only [decide_eq_true_eq, decide_eq_false_iff_not, Bool.or_eq_true, Bool.and_eq_true, Bool.or_eq_false_iff, Bool.and_eq_false_imp, Bool.not_eq_true', Bool.not_eq_false', ne_eq, Decidable.not_not, Int.not_lt, Int.not_le, Bool.not_eq_true, Bool.not_eq_false] at h0
  refine AW.skip ?_
  refine SeqP.go ?_
  refine AW.seq ?_
  refine AW.block ?_
  refine AW.seq ?_
  refine AW.region ?_
  refine OpsW.q rfl (q_move (v := vp) rfl) ?_
  refine OpsW.q rfl (q_move (v := .int _ _) rfl) ?_
  refine OpsW.m rfl (s_buildSlice (z := .int .i64 0) (vs := nums .i64 [_]) hSl0 Try.underlying65 (by kernel_rfl) (by kernel_rfl) rfl (by rfl) (by rfl) (by decide) rfl (nums_one _ _) rfl) ?_
  rintro v12 H4 hS4
  clear hSl0
  refine OpsW.m rfl (s_append (sz := 1) (by_ := 8) (z := .int .i64 0) hS4 at1 Try.underlying65 (by kernel_rfl) (by kernel_rfl) (by kernel_rfl) rfl (by kernel_rfl) rfl rfl (src_vec (hS4.vec at0) (nums_one _ _)) (by first | (with_reducible assumption) | omega | (unfold maxLen; omega) | (simp only [nums_length, List.length_set, List.length_replicate, List.length_take, List.length_drop, List.length_append, List.length_cons, List.length_nil, ofB_length, toB_length]; omega) | (simp only [nums_length, List.length_set, List.length_replicate, List.length_take, List.length_drop, List.length_append, List.length_cons, List.length_nil, ofB_length, toB_length]; unfold maxLen; omega) | (simp; done) | (simp; omega) | rfl | decide) (by first | (with_reducible assumption) | omega | (unfold maxLen; omega) | (simp only [nums_length, List.length_set, List.length_replicate, List.length_take, List.length_drop, List.length_append, List.length_cons, List.length_nil, ofB_length, toB_length]; omega) | (simp only [nums_length, List.length_set, List.length_replicate, List.length_take, List.length_drop, List.length_append, List.length_cons, List.length_nil, ofB_length, toB_length]; unfold maxLen; omega) | (simp; done) | (simp; omega) | rfl | decide)) ?_
  rintro v13 H5 hS5
  clear hS4
  replace hS5 := hS5.del del0
  refine OpsW.q rfl (q_assign (v := v13) rfl) ?_
  refine OpsW.nil ?_
  refine SeqP.go ?_
  refine AW.region ?_
  refine OpsW.q rfl (q_move (v := .int _ _) rfl) ?_
  refine OpsW.q rfl (o_call rfl Try.func43 rfl rfl (timesR_con (p3 i).toNat_lt (by decide))) ?_
  refine OpsW.q rfl (q_assign (v := .int _ _) rfl) ?_
  refine OpsW.nil ?_
  refine BlockP.go ?_
  refine SeqP.go ?_
  refine AW.region ?_
  refine OpsW.q rfl (q_move (v := .int _ _) rfl) ?_
  refine OpsW.q rfl (q_addI rfl rfl (by omega)) ?_
  refine OpsW.q rfl (q_assign (v := .int _ _) rfl) ?_
  refine OpsW.nil ?_
  exact LoopP.go _ (by omega) ⟨i + 1, v13, _, rfl, (by omega), Slots.eq ⟨(by first | rfl | exact i64_int (by omega) (by omega) (by omega) | assumption), (by rw [p3_succ', tm_toNat]; rfl), (by first | rfl | exact i64_int (by omega) (by omega) (by omega) | assumption),  trivial⟩, (by rw [p3L_succ', nums_append]; exact hS5)⟩
theorem keysR_con {key : List UInt8} {vs : Value} (hVs : Vec H 5 1 vs 256 (nums .u8 (ofB sbox))) (hk : key.length = 16) : Con Try.prog w0 35 #[S key, vs] H (fun v H' => Sep H [.vec v 9 1 11 (strs (keysS (keysL key) 11))] H') := by
  have hS0 : Sep H [] H := Sep.refl
  refine Con.intro Try.func35 rfl rfl ?_
  refine AW.seq ?_
  refine AW.region ?_
  refine OpsW.q rfl (q_assign (v := .slice _ _ _) rfl) ?_
  refine OpsW.nil ?_
  refine SeqP.go ?_
  refine AW.seq ?_
  refine AW.region ?_
  refine OpsW.q rfl (q_move (v := S _) rfl) ?_
  refine OpsW.m rfl (s_bytes hS0 rfl Try.underlying31 Try.underlying5 rfl (by first | (with_reducible assumption) | omega | (unfold maxLen; omega) | (simp only [nums_length, List.length_set, List.length_replicate, List.length_take, List.length_drop, List.length_append, List.length_cons, List.length_nil, ofB_length, toB_length]; omega) | (simp only [nums_length, List.length_set, List.length_replicate, List.length_take, List.length_drop, List.length_append, List.length_cons, List.length_nil, ofB_length, toB_length]; unfold maxLen; omega) | (simp; done) | (simp; omega) | rfl | decide)) ?_
  rintro v13 H1 hS1
  clear hS0
  refine OpsW.q rfl (q_assign (v := v13) rfl) ?_
  refine OpsW.nil ?_
  refine SeqP.go ?_
  refine AW.seq ?_
  refine AW.region ?_
  refine OpsW.q rfl (q_assign (v := .int _ _) rfl) ?_
  refine OpsW.nil ?_
  refine SeqP.go ?_
  refine AW.seq ?_
  refine AW.seq ?_
  refine AW.region ?_
  refine OpsW.q rfl (q_assign (v := .int _ _) rfl) ?_
  refine OpsW.nil ?_
  refine SeqP.go ?_
  refine AW.block ?_
  refine AW.loop (fun m_ e_ H_ => ∃ (j : Nat) (vw : Value) (e0 : Env), m_ = 40 - j ∧ (j ≤ 40) ∧ e_ = upds e0 [(1, vs), (5, vw), (6, .int .i64 (((expS key j).2.toNat : Nat) : Int)), (7, .int .i64 ((4 + j : Nat) : Int))] ∧ Sep H [.vec vw 5 1 ((16 + 4 * j)) (nums .u8 (ofB (expS key j).1))] H_) _ ⟨0, v13, _, rfl, (by omega), Slots.eq ⟨(by first | rfl | exact i64_int (by omega) (by omega) (by omega) | assumption), (by first | rfl | exact i64_int (by omega) (by omega) (by omega) | assumption), (by rw [expS_zero]; rfl), (by first | rfl | exact i64_int (by omega) (by omega) (by omega) | assumption),  trivial⟩, (by rw [expS_zero]; have hq := hS1; rw [hk] at hq; exact hq)⟩ ?_
  rintro m_ _ Hl0 ⟨j, vw, e0, rfl, hf, rfl, hSl0⟩
  try clear hS1
  have hx := expS_length key j
  have hsb := sbox_length
  have ho4 : (4 * ((4 + j : Nat) : Int) - 4).toNat = (expS key j).1.length - 4 := by omega
  have ho3 : (4 * ((4 + j : Nat) : Int) - 3).toNat = (expS key j).1.length - 3 := by omega
  have ho2 : (4 * ((4 + j : Nat) : Int) - 2).toNat = (expS key j).1.length - 2 := by omega
  have ho1 : (4 * ((4 + j : Nat) : Int) - 1).toNat = (expS key j).1.length - 1 := by omega
  refine AW.seq ?_
  refine AW.seq ?_
  refine AW.region ?_
  refine OpsW.q rfl (q_move (v := .int _ _) rfl) ?_
  refine OpsW.q rfl (q_lss rfl rfl) ?_
  refine OpsW.nil ?_
  refine SeqP.go ?_
  refine AW.cond2 rfl (fun h0 => ?_) (fun h0 => ?_)
  ·
    try simp only [decide_eq_true_eq, decide_eq_false_iff_not, Bool.or_eq_true, Bool.and_eq_true, Bool.or_eq_false_iff, Bool.and_eq_false_imp, Bool.not_eq_true', Bool.not_eq_false', ne_eq, Decidable.not_not, Int.not_lt, Int.not_le, Bool.not_eq_true, Bool.not_eq_false] at h0
    refine AW.exit ?_
    refine SeqP.exit ?_
    refine LoopP.exit ?_
    obtain rfl : j = 40 := by omega
    have hkl := keysL_length hk
    have hke : (expS key 40).1 = keysL key := by rw [keysL]
    rw [hke] at hSl0
    refine BlockP.here ?_
    refine SeqP.go ?_
    refine AW.seq ?_
    refine AW.region ?_
    refine OpsW.q rfl (q_assign (v := .slice _ _ _) rfl) ?_
    refine OpsW.nil ?_
    refine SeqP.go ?_
    refine AW.seq ?_
    refine AW.seq ?_
    refine AW.region ?_
    refine OpsW.q rfl (q_assign (v := .int _ _) rfl) ?_
    refine OpsW.nil ?_
    refine SeqP.go ?_
    refine AW.block ?_
    replace hSl0 := hSl0.nil (el := 9) (sz := 1)
    refine AW.loop (fun m_ e_ H_ => ∃ (i : Nat) (vo vw : Value) (e0 : Env), m_ = 11 - i ∧ (i ≤ 11) ∧ e_ = upds e0 [(5, vw), (10, vo), (11, .int .i64 (i : Int))] ∧ Sep H [.vec vo 9 1 i (strs (keysS (keysL key) i)), .vec vw 5 1 176 (nums .u8 (ofB (keysL key)))] H_) _ ⟨0, nilV, vw, _, rfl, (by omega), Slots.eq ⟨(by first | rfl | exact i64_int (by omega) (by omega) (by omega) | assumption), (by first | rfl | exact i64_int (by omega) (by omega) (by omega) | assumption), (by first | rfl | exact i64_int (by omega) (by omega) (by omega) | assumption),  trivial⟩, (by rw [keysS_zero]; exact hSl0)⟩ ?_
    rintro m_ _ Hl2 ⟨i, vo, vw, e0, rfl, hf, rfl, hSl2⟩
    try clear hSl0
    have ho : (16 * (i : Int)).toNat = 16 * i := by omega
    have ho2 : (16 * (i : Int) + 16).toNat - (16 * (i : Int)).toNat = 16 := by omega
    refine AW.seq ?_
    refine AW.seq ?_
    refine AW.region ?_
    refine OpsW.q rfl (q_move (v := .int _ _) rfl) ?_
    refine OpsW.q rfl (q_lss rfl rfl) ?_
    refine OpsW.nil ?_
    refine SeqP.go ?_
    refine AW.cond2 rfl (fun h3 => ?_) (fun h3 => ?_)
    ·
      try simp only [decide_eq_true_eq, decide_eq_false_iff_not, Bool.or_eq_true, Bool.and_eq_true, Bool.or_eq_false_iff, Bool.and_eq_false_imp, Bool.not_eq_true', Bool.not_eq_false', ne_eq, Decidable.not_not, Int.not_lt, Int.not_le, Bool.not_eq_true, Bool.not_eq_false] at h3
      refine AW.exit ?_
      refine SeqP.exit ?_
      refine LoopP.exit ?_
      obtain rfl : i = 11 := by omega
      refine BlockP.here ?_
      refine SeqP.go ?_
      refine AW.seq ?_
      refine AW.region ?_
      refine OpsW.q rfl (q_move (v := vo) rfl) ?_
      refine OpsW.q rfl (q_assign (v := vo) rfl) ?_
      refine OpsW.nil ?_
      refine SeqP.go ?_
      refine AW.ret ?_
      refine RetP.mk1 (H' := Hl2) (v1 := vo) rfl rfl  (Hp.le_refl _) ?_
      exact hSl2.del del1
    try simp only [decide_eq_true_eq, decide_eq_false_iff_not, Bool.or_eq_true, Bool.and_eq_true, Bool.or_eq_false_iff, Bool.and_eq_false_imp, Bool.not_eq_true', Bool.not_eq_false', ne_eq, Decidable.not_not, Int.not_lt, Int.not_le, Bool.not_eq_true, Bool.not_eq_false] at h3
    refine AW.skip ?_
    refine SeqP.go ?_
    refine AW.seq ?_
    refine AW.block ?_
    refine AW.region ?_
    refine OpsW.q rfl (q_move (v := vo) rfl) ?_
    refine OpsW.q rfl (q_move (v := vw) rfl) ?_
    refine OpsW.q rfl (q_move (v := .int _ _) rfl) ?_
    refine OpsW.q rfl (q_mulI rfl rfl (by omega)) ?_
    refine OpsW.q rfl (q_move (v := .int _ _) rfl) ?_
    refine OpsW.q rfl (q_mulI rfl rfl (by omega)) ?_
    refine OpsW.q rfl (q_addI rfl rfl (by omega)) ?_
    refine OpsW.q rfl (q_sliceVec (hSl2.vec at1) Try.underlying31 (by kernel_rfl) rfl rfl rfl (by first | omega | decide) (by first | omega | decide) (by first | omega | decide) (by omega)) ?_
    refine OpsW.q rfl (q_stringSub (hSl2.vec at1) Try.underlying31 Try.underlying5 Try.underlying9 rfl (by omega) (by first | (with_reducible assumption) | omega | (unfold maxLen; omega) | (simp only [nums_length, List.length_set, List.length_replicate, List.length_take, List.length_drop, List.length_append, List.length_cons, List.length_nil, ofB_length, toB_length]; omega) | (simp only [nums_length, List.length_set, List.length_replicate, List.length_take, List.length_drop, List.length_append, List.length_cons, List.length_nil, ofB_length, toB_length]; unfold maxLen; omega) | (simp; done) | (simp; omega) | rfl | decide) (by omega)) ?_
    refine OpsW.m rfl (s_buildSlice (z := S []) (vs := strs [_]) hSl2 Try.underlying44 (by kernel_rfl) (by kernel_rfl) rfl (by rfl) (by rfl) (by decide) rfl (strs_one _) rfl) ?_
    rintro v109 H2 hS2
    clear hSl2
    refine OpsW.m rfl (s_append (sz := 1) (by_ := 16) (z := S []) hS2 at1 Try.underlying44 (by kernel_rfl) (by kernel_rfl) (by kernel_rfl) rfl (by kernel_rfl) rfl rfl (src_vec (hS2.vec at0) (strs_one _)) (by first | (with_reducible assumption) | omega | (unfold maxLen; omega) | (simp only [nums_length, List.length_set, List.length_replicate, List.length_take, List.length_drop, List.length_append, List.length_cons, List.length_nil, ofB_length, toB_length]; omega) | (simp only [nums_length, List.length_set, List.length_replicate, List.length_take, List.length_drop, List.length_append, List.length_cons, List.length_nil, ofB_length, toB_length]; unfold maxLen; omega) | (simp; done) | (simp; omega) | rfl | decide) (by first | (with_reducible assumption) | omega | (unfold maxLen; omega) | (simp only [nums_length, List.length_set, List.length_replicate, List.length_take, List.length_drop, List.length_append, List.length_cons, List.length_nil, ofB_length, toB_length]; omega) | (simp only [nums_length, List.length_set, List.length_replicate, List.length_take, List.length_drop, List.length_append, List.length_cons, List.length_nil, ofB_length, toB_length]; unfold maxLen; omega) | (simp; done) | (simp; omega) | rfl | decide)) ?_
    rintro v110 H3 hS3
    clear hS2
    replace hS3 := hS3.del del0
    refine OpsW.q rfl (q_assign (v := v110) rfl) ?_
    refine OpsW.nil ?_
    refine BlockP.go ?_
    refine SeqP.go ?_
    refine AW.region ?_
    refine OpsW.q rfl (q_move (v := .int _ _) rfl) ?_
    refine OpsW.q rfl (q_addI rfl rfl (by omega)) ?_
    refine OpsW.q rfl (q_assign (v := .int _ _) rfl) ?_
    refine OpsW.nil ?_
    exact LoopP.go _ (by omega) ⟨i + 1, v110, vw, _, rfl, (by omega), Slots.eq ⟨(by first | rfl | exact i64_int (by omega) (by omega) (by omega) | assumption), (by first | rfl | exact i64_int (by omega) (by omega) (by omega) | assumption), (by first | rfl | exact i64_int (by omega) (by omega) (by omega) | assumption),  trivial⟩, (by rw [keysS_succ, strs_append]; have hq := hS3; rw [ho2, ho] at hq; exact hq)⟩
  try simp only [decide_eq_true_eq, decide_eq_false_iff_not, Bool.or_eq_true, Bool.and_eq_true, Bool.or_eq_false_iff, Bool.and_eq_false_imp, Bool.not_eq_true', Bool.not_eq_false', ne_eq, Decidable.not_not, Int.not_lt, Int.not_le, Bool.not_eq_true, Bool.not_eq_false] at h0
  refine AW.skip ?_
  refine SeqP.go ?_
  refine AW.seq ?_
  refine AW.block ?_
  refine AW.seq ?_
  refine AW.drawK [] 24 rfl (by kernel_rfl) ?_
  refine SeqK.q rfl (q_move (v := vw) rfl) ?_
  refine SeqK.q rfl (q_move (v := .int _ _) rfl) ?_
  refine SeqK.q rfl (q_mulI rfl rfl (by omega)) ?_
  refine SeqK.q rfl (q_subI rfl rfl (by omega)) ?_
  refine SeqK.q rfl (q_indexV1 (hSl0.vec at0) Try.underlying31 (by kernel_rfl) rfl rfl (by first | omega | decide) (by first | omega | decide)) ?_
  refine SeqK.q rfl (q_loadVB (hSl0.vec at0) (by kernel_rfl) rfl (by first | (with_reducible assumption) | omega | (unfold maxLen; omega) | (simp only [nums_length, List.length_set, List.length_replicate, List.length_take, List.length_drop, List.length_append, List.length_cons, List.length_nil, ofB_length, toB_length]; omega) | (simp only [nums_length, List.length_set, List.length_replicate, List.length_take, List.length_drop, List.length_append, List.length_cons, List.length_nil, ofB_length, toB_length]; unfold maxLen; omega) | (simp; done) | (simp; omega) | rfl | decide)) ?_
  refine SeqK.q rfl (q_move (v := vw) rfl) ?_
  refine SeqK.q rfl (q_move (v := .int _ _) rfl) ?_
  refine SeqK.q rfl (q_mulI rfl rfl (by omega)) ?_
  refine SeqK.q rfl (q_subI rfl rfl (by omega)) ?_
  refine SeqK.q rfl (q_indexV1 (hSl0.vec at0) Try.underlying31 (by kernel_rfl) rfl rfl (by first | omega | decide) (by first | omega | decide)) ?_
  refine SeqK.q rfl (q_loadVB (hSl0.vec at0) (by kernel_rfl) rfl (by first | (with_reducible assumption) | omega | (unfold maxLen; omega) | (simp only [nums_length, List.length_set, List.length_replicate, List.length_take, List.length_drop, List.length_append, List.length_cons, List.length_nil, ofB_length, toB_length]; omega) | (simp only [nums_length, List.length_set, List.length_replicate, List.length_take, List.length_drop, List.length_append, List.length_cons, List.length_nil, ofB_length, toB_length]; unfold maxLen; omega) | (simp; done) | (simp; omega) | rfl | decide)) ?_
  refine SeqK.q rfl (q_move (v := vw) rfl) ?_
  refine SeqK.q rfl (q_move (v := .int _ _) rfl) ?_
  refine SeqK.q rfl (q_mulI rfl rfl (by omega)) ?_
  refine SeqK.q rfl (q_subI rfl rfl (by omega)) ?_
  refine SeqK.q rfl (q_indexV1 (hSl0.vec at0) Try.underlying31 (by kernel_rfl) rfl rfl (by first | omega | decide) (by first | omega | decide)) ?_
  refine SeqK.q rfl (q_loadVB (hSl0.vec at0) (by kernel_rfl) rfl (by first | (with_reducible assumption) | omega | (unfold maxLen; omega) | (simp only [nums_length, List.length_set, List.length_replicate, List.length_take, List.length_drop, List.length_append, List.length_cons, List.length_nil, ofB_length, toB_length]; omega) | (simp only [nums_length, List.length_set, List.length_replicate, List.length_take, List.length_drop, List.length_append, List.length_cons, List.length_nil, ofB_length, toB_length]; unfold maxLen; omega) | (simp; done) | (simp; omega) | rfl | decide)) ?_
  refine SeqK.q rfl (q_move (v := vw) rfl) ?_
  refine SeqK.q rfl (q_move (v := .int _ _) rfl) ?_
  refine SeqK.q rfl (q_mulI rfl rfl (by omega)) ?_
  refine SeqK.q rfl (q_subI rfl rfl (by omega)) ?_
  refine SeqK.q rfl (q_indexV1 (hSl0.vec at0) Try.underlying31 (by kernel_rfl) rfl rfl (by first | omega | decide) (by first | omega | decide)) ?_
  refine SeqK.q rfl (q_loadVB (hSl0.vec at0) (by kernel_rfl) rfl (by first | (with_reducible assumption) | omega | (unfold maxLen; omega) | (simp only [nums_length, List.length_set, List.length_replicate, List.length_take, List.length_drop, List.length_append, List.length_cons, List.length_nil, ofB_length, toB_length]; omega) | (simp only [nums_length, List.length_set, List.length_replicate, List.length_take, List.length_drop, List.length_append, List.length_cons, List.length_nil, ofB_length, toB_length]; unfold maxLen; omega) | (simp; done) | (simp; omega) | rfl | decide)) ?_
  refine SeqK.done ?_
  refine OpsW.m rfl (s_buildSlice (z := .int .u8 0) (vs := nums .u8 (ofB [_, _, _, _])) hSl0 Try.underlying31 (by kernel_rfl) (by kernel_rfl) rfl (by rfl) (by rfl) (by decide) rfl (nums_one _ _) rfl) ?_
  rintro v42 H4 hS4
  clear hSl0
  refine OpsW.q rfl (q_assign (v := v42) rfl) ?_
  refine OpsW.nil ?_
  refine SeqP.go ?_
  refine AW.seq ?_
  refine AW.seq ?_
  refine AW.region ?_
  refine OpsW.q rfl (q_move (v := .int _ _) rfl) ?_
  refine OpsW.q rfl (q_remI rfl rfl (by omega)) ?_
  refine OpsW.q rfl (q_eql rfl rfl) ?_
  refine OpsW.nil ?_
  refine SeqP.go ?_
  refine AW.cond rfl (fun h1 => ?_) (fun h1 => ?_)
  ·
    try simp only [decide_eq_true_eq, decide_eq_false_iff_not, Bool.or_eq_true, Bool.and_eq_true, Bool.or_eq_false_iff, Bool.and_eq_false_imp, Bool.not_eq_true', Bool.not_eq_false', ne_eq, Decidable.not_not, Int.not_lt, Int.not_le, Bool.not_eq_true, Bool.not_eq_false] at h1
    have hj : j % 4 = 0 := by omega
    have hb0 := ([(expS key j).1.getD (4 * ((4 + j : Nat) : Int) - 4).toNat 0, (expS key j).1.getD (4 * ((4 + j : Nat) : Int) - 3).toNat 0, (expS key j).1.getD (4 * ((4 + j : Nat) : Int) - 2).toNat 0, (expS key j).1.getD (4 * ((4 + j : Nat) : Int) - 1).toNat 0].getD (Int.toNat 0) 0).toNat_lt
    have hb1 := ([(expS key j).1.getD (4 * ((4 + j : Nat) : Int) - 4).toNat 0, (expS key j).1.getD (4 * ((4 + j : Nat) : Int) - 3).toNat 0, (expS key j).1.getD (4 * ((4 + j : Nat) : Int) - 2).toNat 0, (expS key j).1.getD (4 * ((4 + j : Nat) : Int) - 1).toNat 0].getD (Int.toNat 1) 0).toNat_lt
    have hb2 := ([(expS key j).1.getD (4 * ((4 + j : Nat) : Int) - 4).toNat 0, (expS key j).1.getD (4 * ((4 + j : Nat) : Int) - 3).toNat 0, (expS key j).1.getD (4 * ((4 + j : Nat) : Int) - 2).toNat 0, (expS key j).1.getD (4 * ((4 + j : Nat) : Int) - 1).toNat 0].getD (Int.toNat 2) 0).toNat_lt
    have hb3 := ([(expS key j).1.getD (4 * ((4 + j : Nat) : Int) - 4).toNat 0, (expS key j).1.getD (4 * ((4 + j : Nat) : Int) - 3).toNat 0, (expS key j).1.getD (4 * ((4 + j : Nat) : Int) - 2).toNat 0, (expS key j).1.getD (4 * ((4 + j : Nat) : Int) - 1).toNat 0].getD (Int.toNat 3) 0).toNat_lt
    refine AW.seq ?_
    refine AW.drawK [] 27 rfl (by kernel_rfl) ?_
    refine SeqK.q rfl (q_move (v := vs) rfl) ?_
    refine SeqK.q rfl (q_move (v := v42) rfl) ?_
    refine SeqK.q rfl (q_indexV1 (hS4.vec at0) Try.underlying31 (by kernel_rfl) rfl rfl (by first | omega | decide) (by first | omega | decide)) ?_
    refine SeqK.q rfl (q_loadVB (hS4.vec at0) (by kernel_rfl) rfl (by first | (with_reducible assumption) | omega | (unfold maxLen; omega) | (simp only [nums_length, List.length_set, List.length_replicate, List.length_take, List.length_drop, List.length_append, List.length_cons, List.length_nil, ofB_length, toB_length]; omega) | (simp only [nums_length, List.length_set, List.length_replicate, List.length_take, List.length_drop, List.length_append, List.length_cons, List.length_nil, ofB_length, toB_length]; unfold maxLen; omega) | (simp; done) | (simp; omega) | rfl | decide)) ?_
    refine SeqK.q rfl (q_indexV1 (hVs.le hS4.le) Try.underlying31 (by kernel_rfl) rfl rfl (by first | omega | decide) (by first | omega | decide)) ?_
    refine SeqK.q rfl (q_loadVB (hVs.le hS4.le) (by kernel_rfl) rfl (by first | (with_reducible assumption) | omega | (unfold maxLen; omega) | (simp only [nums_length, List.length_set, List.length_replicate, List.length_take, List.length_drop, List.length_append, List.length_cons, List.length_nil, ofB_length, toB_length]; omega) | (simp only [nums_length, List.length_set, List.length_replicate, List.length_take, List.length_drop, List.length_append, List.length_cons, List.length_nil, ofB_length, toB_length]; unfold maxLen; omega) | (simp; done) | (simp; omega) | rfl | decide)) ?_
    refine SeqK.q rfl (q_move (v := .int _ _) rfl) ?_
    refine SeqK.q rfl (q_convIB rfl Try.underlying5 rfl) ?_
    refine SeqK.q rfl (q_xorB rfl rfl) ?_
    refine SeqK.q rfl (q_move (v := vs) rfl) ?_
    refine SeqK.q rfl (q_move (v := v42) rfl) ?_
    refine SeqK.q rfl (q_indexV1 (hS4.vec at0) Try.underlying31 (by kernel_rfl) rfl rfl (by first | omega | decide) (by first | omega | decide)) ?_
    refine SeqK.q rfl (q_loadVB (hS4.vec at0) (by kernel_rfl) rfl (by first | (with_reducible assumption) | omega | (unfold maxLen; omega) | (simp only [nums_length, List.length_set, List.length_replicate, List.length_take, List.length_drop, List.length_append, List.length_cons, List.length_nil, ofB_length, toB_length]; omega) | (simp only [nums_length, List.length_set, List.length_replicate, List.length_take, List.length_drop, List.length_append, List.length_cons, List.length_nil, ofB_length, toB_length]; unfold maxLen; omega) | (simp; done) | (simp; omega) | rfl | decide)) ?_
    refine SeqK.q rfl (q_indexV1 (hVs.le hS4.le) Try.underlying31 (by kernel_rfl) rfl rfl (by first | omega | decide) (by first | omega | decide)) ?_
    refine SeqK.q rfl (q_loadVB (hVs.le hS4.le) (by kernel_rfl) rfl (by first | (with_reducible assumption) | omega | (unfold maxLen; omega) | (simp only [nums_length, List.length_set, List.length_replicate, List.length_take, List.length_drop, List.length_append, List.length_cons, List.length_nil, ofB_length, toB_length]; omega) | (simp only [nums_length, List.length_set, List.length_replicate, List.length_take, List.length_drop, List.length_append, List.length_cons, List.length_nil, ofB_length, toB_length]; unfold maxLen; omega) | (simp; done) | (simp; omega) | rfl | decide)) ?_
    refine SeqK.q rfl (q_move (v := vs) rfl) ?_
    refine SeqK.q rfl (q_move (v := v42) rfl) ?_
    refine SeqK.q rfl (q_indexV1 (hS4.vec at0) Try.underlying31 (by kernel_rfl) rfl rfl (by first | omega | decide) (by first | omega | decide)) ?_
    refine SeqK.q rfl (q_loadVB (hS4.vec at0) (by kernel_rfl) rfl (by first | (with_reducible assumption) | omega | (unfold maxLen; omega) | (simp only [nums_length, List.length_set, List.length_replicate, List.length_take, List.length_drop, List.length_append, List.length_cons, List.length_nil, ofB_length, toB_length]; omega) | (simp only [nums_length, List.length_set, List.length_replicate, List.length_take, List.length_drop, List.length_append, List.length_cons, List.length_nil, ofB_length, toB_length]; unfold maxLen; omega) | (simp; done) | (simp; omega) | rfl | decide)) ?_
    refine SeqK.q rfl (q_indexV1 (hVs.le hS4.le) Try.underlying31 (by kernel_rfl) rfl rfl (by first | omega | decide) (by first | omega | decide)) ?_
    refine SeqK.q rfl (q_loadVB (hVs.le hS4.le) (by kernel_rfl) rfl (by first | (with_reducible assumption) | omega | (unfold maxLen; omega) | (simp only [nums_length, List.length_set, List.length_replicate, List.length_take, List.length_drop, List.length_append, List.length_cons, List.length_nil, ofB_length, toB_length]; omega) | (simp only [nums_length, List.length_set, List.length_replicate, List.length_take, List.length_drop, List.length_append, List.length_cons, List.length_nil, ofB_length, toB_length]; unfold maxLen; omega) | (simp; done) | (simp; omega) | rfl | decide)) ?_
    refine SeqK.q rfl (q_move (v := vs) rfl) ?_
    refine SeqK.q rfl (q_move (v := v42) rfl) ?_
    refine SeqK.q rfl (q_indexV1 (hS4.vec at0) Try.underlying31 (by kernel_rfl) rfl rfl (by first | omega | decide) (by first | omega | decide)) ?_
    refine SeqK.q rfl (q_loadVB (hS4.vec at0) (by kernel_rfl) rfl (by first | (with_reducible assumption) | omega | (unfold maxLen; omega) | (simp only [nums_length, List.length_set, List.length_replicate, List.length_take, List.length_drop, List.length_append, List.length_cons, List.length_nil, ofB_length, toB_length]; omega) | (simp only [nums_length, List.length_set, List.length_replicate, List.length_take, List.length_drop, List.length_append, List.length_cons, List.length_nil, ofB_length, toB_length]; unfold maxLen; omega) | (simp; done) | (simp; omega) | rfl | decide)) ?_
    refine SeqK.q rfl (q_indexV1 (hVs.le hS4.le) Try.underlying31 (by kernel_rfl) rfl rfl (by first | omega | decide) (by first | omega | decide)) ?_
    refine SeqK.q rfl (q_loadVB (hVs.le hS4.le) (by kernel_rfl) rfl (by first | (with_reducible assumption) | omega | (unfold maxLen; omega) | (simp only [nums_length, List.length_set, List.length_replicate, List.length_take, List.length_drop, List.length_append, List.length_cons, List.length_nil, ofB_length, toB_length]; omega) | (simp only [nums_length, List.length_set, List.length_replicate, List.length_take, List.length_drop, List.length_append, List.length_cons, List.length_nil, ofB_length, toB_length]; unfold maxLen; omega) | (simp; done) | (simp; omega) | rfl | decide)) ?_
    refine SeqK.done ?_
    refine OpsW.m rfl (s_buildSlice (z := .int .u8 0) (vs := nums .u8 (ofB [_, _, _, _])) hS4 Try.underlying31 (by kernel_rfl) (by kernel_rfl) rfl (by rfl) (by rfl) (by decide) rfl (nums_one _ _) rfl) ?_
    rintro v73 H5 hS5
    clear hS4
    refine OpsW.q rfl (q_assign (v := v73) rfl) ?_
    refine OpsW.nil ?_
    refine SeqP.go ?_
    refine AW.region ?_
    refine OpsW.q rfl (q_move (v := .int _ _) rfl) ?_
    refine OpsW.q rfl (o_call rfl Try.func43 rfl rfl (timesR_con (expS key j).2.toNat_lt (by decide))) ?_
    refine OpsW.q rfl (q_assign (v := .int _ _) rfl) ?_
    refine OpsW.nil ?_
    refine SeqP.go ?_
    refine AW.seq ?_
    refine AW.region ?_
    refine OpsW.q rfl (q_assign (v := .int _ _) rfl) ?_
    refine OpsW.nil ?_
    refine SeqP.go ?_
    refine AW.block ?_
    replace hS5 := Sep.bring del0 hS5
    replace hS5 := Sep.bring del2 hS5
    replace hS5 := hS5.del del2
    refine AW.loop (fun m_ e_ H_ => ∃ (k : Nat) (vw vl : Value) (e0 : Env), m_ = 4 - k ∧ (k ≤ 4) ∧ e_ = upds e0 [(1, vs), (5, vw), (6, .int .i64 (((expS key (j + 1)).2.toNat : Nat) : Int)), (7, .int .i64 ((4 + j : Nat) : Int)), (8, vl), (9, .int .i64 (k : Int))] ∧ Sep H [.vec vw 5 1 ((16 + 4 * j + k)) (nums .u8 (ofB (extK (expS key j).1 (lastW (expS key j).1 j (expS key j).2) k))), .vec vl 5 1 4 (nums .u8 (ofB (lastW (expS key j).1 j (expS key j).2)))] H_) _ ⟨0, vw, v73, _, rfl, (by omega), Slots.eq ⟨(by first | rfl | exact i64_int (by omega) (by omega) (by omega) | assumption), (by first | rfl | exact i64_int (by omega) (by omega) (by omega) | assumption), (by first | (rw [expS_x_yes hj, tw_toNat, ← tm2N]; rfl) | (rw [expS_x_no hj]; rfl)), (by first | rfl | exact i64_int (by omega) (by omega) (by omega) | assumption), (by first | rfl | exact i64_int (by omega) (by omega) (by omega) | assumption), (by first | rfl | exact i64_int (by omega) (by omega) (by omega) | assumption),  trivial⟩, (by rw [extK_zero, lastW_yes hj]; have hq := hS5; simp only [Int.toNat_natCast, sb_get] at hq; rw [ho4, ho3, ho2, ho1] at hq; exact hq)⟩ ?_
    rintro m_ _ Hl1 ⟨k, vw, vl, e0, rfl, hf, rfl, hSl1⟩
    try clear hS5
    have hlw := lastW_length (expS key j).1 j (expS key j).2
    have hek := extK_length (expS key j).1 (lastW (expS key j).1 j (expS key j).2) k
    refine AW.seq ?_
    refine AW.seq ?_
    refine AW.region ?_
    refine OpsW.q rfl (q_move (v := .int _ _) rfl) ?_
    refine OpsW.q rfl (q_lss rfl rfl) ?_
    refine OpsW.nil ?_
    refine SeqP.go ?_
    refine AW.cond2 rfl (fun h2 => ?_) (fun h2 => ?_)
    ·
      try simp only [decide_eq_true_eq, decide_eq_false_iff_not, Bool.or_eq_true, Bool.and_eq_true, Bool.or_eq_false_iff, Bool.and_eq_false_imp, Bool.not_eq_true', Bool.not_eq_false', ne_eq, Decidable.not_not, Int.not_lt, Int.not_le, Bool.not_eq_true, Bool.not_eq_false] at h2
      refine AW.exit ?_
      refine SeqP.exit ?_
      refine LoopP.exit ?_
      obtain rfl : k = 4 := by omega
      refine BlockP.here ?_
      refine BlockP.go ?_
      refine SeqP.go ?_
      refine AW.region ?_
      refine OpsW.q rfl (q_move (v := .int _ _) rfl) ?_
      refine OpsW.q rfl (q_addI rfl rfl (by omega)) ?_
      refine OpsW.q rfl (q_assign (v := .int _ _) rfl) ?_
      refine OpsW.nil ?_
      replace hSl1 := hSl1.del del1
      exact LoopP.go _ (by omega) ⟨j + 1, vw, _, rfl, (by omega), Slots.eq ⟨(by first | rfl | exact i64_int (by omega) (by omega) (by omega) | assumption), (by first | rfl | exact i64_int (by omega) (by omega) (by omega) | assumption), (by first | rfl | exact i64_int (by omega) (by omega) (by omega) | assumption), (by first | rfl | exact i64_int (by omega) (by omega) (by omega) | assumption),  trivial⟩, (by rw [expS_next]; exact hSl1)⟩
    try simp only [decide_eq_true_eq, decide_eq_false_iff_not, Bool.or_eq_true, Bool.and_eq_true, Bool.or_eq_false_iff, Bool.and_eq_false_imp, Bool.not_eq_true', Bool.not_eq_false', ne_eq, Decidable.not_not, Int.not_lt, Int.not_le, Bool.not_eq_true, Bool.not_eq_false] at h2
    refine AW.skip ?_
    refine SeqP.go ?_
    refine AW.seq ?_
    refine AW.block ?_
    refine AW.drawD 14 0 rfl (by kernel_rfl) (by kernel_rfl) ?_
    refine SeqD.a rfl (fun _ => q_move (v := vw) rfl) ?_
    refine SeqD.a rfl (fun _ => q_move (v := vw) rfl) ?_
    refine SeqD.a rfl (fun _ => q_move (v := .int _ _) rfl) ?_
    refine SeqD.a rfl (fun _ => q_mulI rfl rfl (by omega)) ?_
    refine SeqD.a rfl (fun _ => q_subI rfl rfl (by omega)) ?_
    refine SeqD.a rfl (fun _ => q_move (v := .int _ _) rfl) ?_
    refine SeqD.a rfl (fun _ => q_addI rfl rfl (by omega)) ?_
    refine SeqD.b (by kernel_rfl) rfl (q_indexV1 (hSl1.vec at0) Try.underlying31 (by kernel_rfl) rfl rfl (by first | omega | decide) (by first | omega | decide)) ?_
    refine SeqD.b (by kernel_rfl) rfl (q_loadVB (hSl1.vec at0) (by kernel_rfl) rfl (by first | (with_reducible assumption) | omega | (unfold maxLen; omega) | (simp only [nums_length, List.length_set, List.length_replicate, List.length_take, List.length_drop, List.length_append, List.length_cons, List.length_nil, ofB_length, toB_length]; omega) | (simp only [nums_length, List.length_set, List.length_replicate, List.length_take, List.length_drop, List.length_append, List.length_cons, List.length_nil, ofB_length, toB_length]; unfold maxLen; omega) | (simp; done) | (simp; omega) | rfl | decide)) ?_
    refine SeqD.a rfl (fun _ => q_move (v := vl) rfl) ?_
    refine SeqD.a rfl (fun _ => q_move (v := .int _ _) rfl) ?_
    refine SeqD.b (by kernel_rfl) rfl (q_indexV1 (hSl1.vec at1) Try.underlying31 (by kernel_rfl) rfl rfl (by first | omega | decide) (by first | omega | decide)) ?_
    refine SeqD.b (by kernel_rfl) rfl (q_loadVB (hSl1.vec at1) (by kernel_rfl) rfl (by first | (with_reducible assumption) | omega | (unfold maxLen; omega) | (simp only [nums_length, List.length_set, List.length_replicate, List.length_take, List.length_drop, List.length_append, List.length_cons, List.length_nil, ofB_length, toB_length]; omega) | (simp only [nums_length, List.length_set, List.length_replicate, List.length_take, List.length_drop, List.length_append, List.length_cons, List.length_nil, ofB_length, toB_length]; unfold maxLen; omega) | (simp; done) | (simp; omega) | rfl | decide)) ?_
    refine SeqD.a rfl (fun _ => q_xorB rfl rfl) ?_
    refine SeqD.x rfl (s_buildSlice (z := .int .u8 0) (vs := nums .u8 (ofB [_])) hSl1 Try.underlying31 (by kernel_rfl) (by kernel_rfl) rfl (by rfl) (by rfl) (by decide) rfl (nums_one _ _) rfl) ?_
    rintro v94 H6 hS6
    clear hSl1
    refine ⟨trivial, ?_⟩
    refine SeqR2.done ?_
    refine OpsW.m rfl (s_append (sz := 1) (by_ := 1) (z := .int .u8 0) hS6 at1 Try.underlying31 (by kernel_rfl) (by kernel_rfl) (by kernel_rfl) rfl (by kernel_rfl) rfl rfl (src_vec (hS6.vec at0) (nums_one _ _)) (by first | (with_reducible assumption) | omega | (unfold maxLen; omega) | (simp only [nums_length, List.length_set, List.length_replicate, List.length_take, List.length_drop, List.length_append, List.length_cons, List.length_nil, ofB_length, toB_length]; omega) | (simp only [nums_length, List.length_set, List.length_replicate, List.length_take, List.length_drop, List.length_append, List.length_cons, List.length_nil, ofB_length, toB_length]; unfold maxLen; omega) | (simp; done) | (simp; omega) | rfl | decide) (by first | (with_reducible assumption) | omega | (unfold maxLen; omega) | (simp only [nums_length, List.length_set, List.length_replicate, List.length_take, List.length_drop, List.length_append, List.length_cons, List.length_nil, ofB_length, toB_length]; omega) | (simp only [nums_length, List.length_set, List.length_replicate, List.length_take, List.length_drop, List.length_append, List.length_cons, List.length_nil, ofB_length, toB_length]; unfold maxLen; omega) | (simp; done) | (simp; omega) | rfl | decide)) ?_
    rintro v95 H7 hS7
    clear hS6
    replace hS7 := hS7.del del0
    refine OpsW.q rfl (q_assign (v := v95) rfl) ?_
    refine OpsW.nil ?_
    refine BlockP.go ?_
    refine SeqP.go ?_
    refine AW.region ?_
    refine OpsW.q rfl (q_move (v := .int _ _) rfl) ?_
    refine OpsW.q rfl (q_addI rfl rfl (by omega)) ?_
    refine OpsW.q rfl (q_assign (v := .int _ _) rfl) ?_
    refine OpsW.nil ?_
    exact LoopP.go _ (by omega) ⟨k + 1, v95, vl, _, rfl, (by omega), Slots.eq ⟨(by first | rfl | exact i64_int (by omega) (by omega) (by omega) | assumption), (by first | rfl | exact i64_int (by omega) (by omega) (by omega) | assumption), (by first | rfl | exact i64_int (by omega) (by omega) (by omega) | assumption), (by first | rfl | exact i64_int (by omega) (by omega) (by omega) | assumption), (by first | rfl | exact i64_int (by omega) (by omega) (by omega) | assumption), (by first | rfl | exact i64_int (by omega) (by omega) (by omega) | assumption),  trivial⟩, (by rw [extK_succ, ofB_app, nums_append]; have hq := hS7; rw [show (4 * ((4 + j : Nat) : Int) - 16 + (k : Int)).toNat = (expS key j).1.length - 16 + k from by omega, Int.toNat_natCast, extK_get _ _ _ _ (by omega)] at hq; exact hq)⟩
  try simp only [decide_eq_true_eq, decide_eq_false_iff_not, Bool.or_eq_true, Bool.and_eq_true, Bool.or_eq_false_iff, Bool.and_eq_false_imp, Bool.not_eq_true', Bool.not_eq_false', ne_eq, Decidable.not_not, Int.not_lt, Int.not_le, Bool.not_eq_true, Bool.not_eq_false] at h1
  have hj : ¬ j % 4 = 0 := by omega
  refine AW.skip ?_
  refine SeqP.go ?_
  refine AW.seq ?_
  refine AW.region ?_
  refine OpsW.q rfl (q_assign (v := .int _ _) rfl) ?_
  refine OpsW.nil ?_
  refine SeqP.go ?_
  refine AW.block ?_
  replace hS4 := Sep.bring del0 hS4
  replace hS4 := Sep.bring del1 hS4
  refine AW.loop (fun m_ e_ H_ => ∃ (k : Nat) (vw vl : Value) (e0 : Env), m_ = 4 - k ∧ (k ≤ 4) ∧ e_ = upds e0 [(1, vs), (5, vw), (6, .int .i64 (((expS key (j + 1)).2.toNat : Nat) : Int)), (7, .int .i64 ((4 + j : Nat) : Int)), (8, vl), (9, .int .i64 (k : Int))] ∧ Sep H [.vec vw 5 1 ((16 + 4 * j + k)) (nums .u8 (ofB (extK (expS key j).1 (lastW (expS key j).1 j (expS key j).2) k))), .vec vl 5 1 4 (nums .u8 (ofB (lastW (expS key j).1 j (expS key j).2)))] H_) _ ⟨0, vw, v42, _, rfl, (by omega), Slots.eq ⟨(by first | rfl | exact i64_int (by omega) (by omega) (by omega) | assumption), (by first | rfl | exact i64_int (by omega) (by omega) (by omega) | assumption), (by first | (rw [expS_x_yes hj, tw_toNat, ← tm2N]; rfl) | (rw [expS_x_no hj]; rfl)), (by first | rfl | exact i64_int (by omega) (by omega) (by omega) | assumption), (by first | rfl | exact i64_int (by omega) (by omega) (by omega) | assumption), (by first | rfl | exact i64_int (by omega) (by omega) (by omega) | assumption),  trivial⟩, (by rw [extK_zero, lastW_no hj]; have hq := hS4; rw [ho4, ho3, ho2, ho1] at hq; exact hq)⟩ ?_
  rintro m_ _ Hl1 ⟨k, vw, vl, e0, rfl, hf, rfl, hSl1⟩
  try clear hS4
  have hlw := lastW_length (expS key j).1 j (expS key j).2
  have hek := extK_length (expS key j).1 (lastW (expS key j).1 j (expS key j).2) k
  refine AW.seq ?_
  refine AW.seq ?_
  refine AW.region ?_
  refine OpsW.q rfl (q_move (v := .int _ _) rfl) ?_
  refine OpsW.q rfl (q_lss rfl rfl) ?_
  refine OpsW.nil ?_
  refine SeqP.go ?_
  refine AW.cond2 rfl (fun h2 => ?_) (fun h2 => ?_)
  ·
    try simp only [decide_eq_true_eq, decide_eq_false_iff_not, Bool.or_eq_true, Bool.and_eq_true, Bool.or_eq_false_iff, Bool.and_eq_false_imp, Bool.not_eq_true', Bool.not_eq_false', ne_eq, Decidable.not_not, Int.not_lt, Int.not_le, Bool.not_eq_true, Bool.not_eq_false] at h2
    refine AW.exit ?_
    refine SeqP.exit ?_
    refine LoopP.exit ?_
    obtain rfl : k = 4 := by omega
    refine BlockP.here ?_
    refine BlockP.go ?_
    refine SeqP.go ?_
    refine AW.region ?_
    refine OpsW.q rfl (q_move (v := .int _ _) rfl) ?_
    refine OpsW.q rfl (q_addI rfl rfl (by omega)) ?_
    refine OpsW.q rfl (q_assign (v := .int _ _) rfl) ?_
    refine OpsW.nil ?_
    replace hSl1 := hSl1.del del1
    exact LoopP.go _ (by omega) ⟨j + 1, vw, _, rfl, (by omega), Slots.eq ⟨(by first | rfl | exact i64_int (by omega) (by omega) (by omega) | assumption), (by first | rfl | exact i64_int (by omega) (by omega) (by omega) | assumption), (by first | rfl | exact i64_int (by omega) (by omega) (by omega) | assumption), (by first | rfl | exact i64_int (by omega) (by omega) (by omega) | assumption),  trivial⟩, (by rw [expS_next]; exact hSl1)⟩
  try simp only [decide_eq_true_eq, decide_eq_false_iff_not, Bool.or_eq_true, Bool.and_eq_true, Bool.or_eq_false_iff, Bool.and_eq_false_imp, Bool.not_eq_true', Bool.not_eq_false', ne_eq, Decidable.not_not, Int.not_lt, Int.not_le, Bool.not_eq_true, Bool.not_eq_false] at h2
  refine AW.skip ?_
  refine SeqP.go ?_
  refine AW.seq ?_
  refine AW.block ?_
  refine AW.drawD 14 0 rfl (by kernel_rfl) (by kernel_rfl) ?_
  refine SeqD.a rfl (fun _ => q_move (v := vw) rfl) ?_
  refine SeqD.a rfl (fun _ => q_move (v := vw) rfl) ?_
  refine SeqD.a rfl (fun _ => q_move (v := .int _ _) rfl) ?_
  refine SeqD.a rfl (fun _ => q_mulI rfl rfl (by omega)) ?_
  refine SeqD.a rfl (fun _ => q_subI rfl rfl (by omega)) ?_
  refine SeqD.a rfl (fun _ => q_move (v := .int _ _) rfl) ?_
  refine SeqD.a rfl (fun _ => q_addI rfl rfl (by omega)) ?_
  refine SeqD.b (by kernel_rfl) rfl (q_indexV1 (hSl1.vec at0) Try.underlying31 (by kernel_rfl) rfl rfl (by first | omega | decide) (by first | omega | decide)) ?_
  refine SeqD.b (by kernel_rfl) rfl (q_loadVB (hSl1.vec at0) (by kernel_rfl) rfl (by first | (with_reducible assumption) | omega | (unfold maxLen; omega) | (simp only [nums_length, List.length_set, List.length_replicate, List.length_take, List.length_drop, List.length_append, List.length_cons, List.length_nil, ofB_length, toB_length]; omega) | (simp only [nums_length, List.length_set, List.length_replicate, List.length_take, List.length_drop, List.length_append, List.length_cons, List.length_nil, ofB_length, toB_length]; unfold maxLen; omega) | (simp; done) | (simp; omega) | rfl | decide)) ?_
  refine SeqD.a rfl (fun _ => q_move (v := vl) rfl) ?_
  refine SeqD.a rfl (fun _ => q_move (v := .int _ _) rfl) ?_
  refine SeqD.b (by kernel_rfl) rfl (q_indexV1 (hSl1.vec at1) Try.underlying31 (by kernel_rfl) rfl rfl (by first | omega | decide) (by first | omega | decide)) ?_
  refine SeqD.b (by kernel_rfl) rfl (q_loadVB (hSl1.vec at1) (by kernel_rfl) rfl (by first | (with_reducible assumption) | omega | (unfold maxLen; omega) | (simp only [nums_length, List.length_set, List.length_replicate, List.length_take, List.length_drop, List.length_append, List.length_cons, List.length_nil, ofB_length, toB_length]; omega) | (simp only [nums_length, List.length_set, List.length_replicate, List.length_take, List.length_drop, List.length_append, List.length_cons, List.length_nil, ofB_length, toB_length]; unfold maxLen; omega) | (simp; done) | (simp; omega) | rfl | decide)) ?_
  refine SeqD.a rfl (fun _ => q_xorB rfl rfl) ?_
  refine SeqD.x rfl (s_buildSlice (z := .int .u8 0) (vs := nums .u8 (ofB [_])) hSl1 Try.underlying31 (by kernel_rfl) (by kernel_rfl) rfl (by rfl) (by rfl) (by decide) rfl (nums_one _ _) rfl) ?_
  rintro v94 H8 hS8
  clear hSl1
  refine ⟨trivial, ?_⟩
  refine SeqR2.done ?_
  refine OpsW.m rfl (s_append (sz := 1) (by_ := 1) (z := .int .u8 0) hS8 at1 Try.underlying31 (by kernel_rfl) (by kernel_rfl) (by kernel_rfl) rfl (by kernel_rfl) rfl rfl (src_vec (hS8.vec at0) (nums_one _ _)) (by first | (with_reducible assumption) | omega | (unfold maxLen; omega) | (simp only [nums_length, List.length_set, List.length_replicate, List.length_take, List.length_drop, List.length_append, List.length_cons, List.length_nil, ofB_length, toB_length]; omega) | (simp only [nums_length, List.length_set, List.length_replicate, List.length_take, List.length_drop, List.length_append, List.length_cons, List.length_nil, ofB_length, toB_length]; unfold maxLen; omega) | (simp; done) | (simp; omega) | rfl | decide) (by first | (with_reducible assumption) | omega | (unfold maxLen; omega) | (simp only [nums_length, List.length_set, List.length_replicate, List.length_take, List.length_drop, List.length_append, List.length_cons, List.length_nil, ofB_length, toB_length]; omega) | (simp only [nums_length, List.length_set, List.length_replicate, List.length_take, List.length_drop, List.length_append, List.length_cons, List.length_nil, ofB_length, toB_length]; unfold maxLen; omega) | (simp; done) | (simp; omega) | rfl | decide)) ?_
  rintro v95 H9 hS9
  clear hS8
  replace hS9 := hS9.del del0
  refine OpsW.q rfl (q_assign (v := v95) rfl) ?_
  refine OpsW.nil ?_
  refine BlockP.go ?_
  refine SeqP.go ?_
  refine AW.region ?_
  refine OpsW.q rfl (q_move (v := .int _ _) rfl) ?_
  refine OpsW.q rfl (q_addI rfl rfl (by omega)) ?_
  refine OpsW.q rfl (q_assign (v := .int _ _) rfl) ?_
  refine OpsW.nil ?_
  exact LoopP.go _ (by omega) ⟨k + 1, v95, vl, _, rfl, (by omega), Slots.eq ⟨(by first | rfl | exact i64_int (by omega) (by omega) (by omega) | assumption), (by first | rfl | exact i64_int (by omega) (by omega) (by omega) | assumption), (by first | rfl | exact i64_int (by omega) (by omega) (by omega) | assumption), (by first | rfl | exact i64_int (by omega) (by omega) (by omega) | assumption), (by first | rfl | exact i64_int (by omega) (by omega) (by omega) | assumption), (by first | rfl | exact i64_int (by omega) (by omega) (by omega) | assumption),  trivial⟩, (by rw [extK_succ, ofB_app, nums_append]; have hq := hS9; rw [show (4 * ((4 + j : Nat) : Int) - 16 + (k : Int)).toNat = (expS key j).1.length - 16 + k from by omega, Int.toNat_natCast, extK_get _ _ _ _ (by omega)] at hq; exact hq)⟩
theorem withR_con {va : Value} {s k : List UInt8} (hVa : Vec H 5 1 va 16 (nums .u8 (ofB s))) (hs : s.length = 16) (hk : k.length = 16) : Con Try.prog w0 45 #[va, S k] H (fun v H' => Sep H [.vec v 5 1 16 (nums .u8 (ofB (xorA s k 16)))] H') := by
  have hS0 : Sep H [] H := Sep.refl
  refine Con.intro Try.func45 rfl rfl ?_
  refine AW.seq ?_
  refine AW.region ?_
  refine OpsW.q rfl (q_assign (v := .slice _ _ _) rfl) ?_
  refine OpsW.nil ?_
  refine SeqP.go ?_
  refine AW.seq ?_
  refine AW.region ?_
  refine OpsW.q rfl (q_assign (v := .slice _ _ _) rfl) ?_
  refine OpsW.nil ?_
  refine SeqP.go ?_
  refine AW.seq ?_
  refine AW.seq ?_
  refine AW.region ?_
  refine OpsW.q rfl (q_assign (v := .int _ _) rfl) ?_
  refine OpsW.nil ?_
  refine SeqP.go ?_
  refine AW.block ?_
  replace hS0 := hS0.nil (el := 5) (sz := 1)
  refine AW.loop (fun m_ e_ H_ => ∃ (i : Nat) (vo : Value) (e0 : Env), m_ = 16 - i ∧ (i ≤ 16) ∧ e_ = upds e0 [(0, va), (1, S k), (5, vo), (6, .int .i64 (i : Int))] ∧ Sep H [.vec vo 5 1 i (nums .u8 (ofB (xorA s k i)))] H_) _ ⟨0, nilV, _, rfl, (by omega), Slots.eq ⟨(by first | rfl | exact i64_int (by omega) (by omega) (by omega) | assumption), (by first | rfl | exact i64_int (by omega) (by omega) (by omega) | assumption), (by first | rfl | exact i64_int (by omega) (by omega) (by omega) | assumption), (by first | rfl | exact i64_int (by omega) (by omega) (by omega) | assumption),  trivial⟩, (by rw [xorA_zero]; exact hS0)⟩ ?_
  rintro m_ _ Hl0 ⟨i, vo, e0, rfl, hf, rfl, hSl0⟩
  try clear hS0
  refine AW.seq ?_
  refine AW.seq ?_
  refine AW.region ?_
  refine OpsW.q rfl (q_move (v := .int _ _) rfl) ?_
  refine OpsW.q rfl (q_lss rfl rfl) ?_
  refine OpsW.nil ?_
  refine SeqP.go ?_
  refine AW.cond2 rfl (fun h0 => ?_) (fun h0 => ?_)
  ·
    try simp only [decide_eq_true_eq, decide_eq_false_iff_not, Bool.or_eq_true, Bool.and_eq_true, Bool.or_eq_false_iff, Bool.and_eq_false_imp, Bool.not_eq_true', Bool.not_eq_false', ne_eq, Decidable.not_not, Int.not_lt, Int.not_le, Bool.not_eq_true, Bool.not_eq_false] at h0
    refine AW.exit ?_
    refine SeqP.exit ?_
    refine LoopP.exit ?_
    obtain rfl : i = 16 := by omega
    refine BlockP.here ?_
    refine SeqP.go ?_
    refine AW.seq ?_
    refine AW.region ?_
    refine OpsW.q rfl (q_move (v := vo) rfl) ?_
    refine OpsW.q rfl (q_assign (v := vo) rfl) ?_
    refine OpsW.nil ?_
    refine SeqP.go ?_
    refine AW.ret ?_
    refine RetP.mk1 (H' := Hl0) (v1 := vo) rfl rfl  (Hp.le_refl _) ?_
    exact hSl0
  try simp only [decide_eq_true_eq, decide_eq_false_iff_not, Bool.or_eq_true, Bool.and_eq_true, Bool.or_eq_false_iff, Bool.and_eq_false_imp, Bool.not_eq_true', Bool.not_eq_false', ne_eq, Decidable.not_not, Int.not_lt, Int.not_le, Bool.not_eq_true, Bool.not_eq_false] at h0
  refine AW.skip ?_
  refine SeqP.go ?_
  refine AW.seq ?_
  refine AW.block ?_
  refine AW.drawD 9 0 rfl (by kernel_rfl) (by kernel_rfl) ?_
  refine SeqD.a rfl (fun _ => q_move (v := vo) rfl) ?_
  refine SeqD.a rfl (fun _ => q_move (v := va) rfl) ?_
  refine SeqD.a rfl (fun _ => q_move (v := .int _ _) rfl) ?_
  refine SeqD.b (by kernel_rfl) rfl (q_indexV1 (hVa.le hSl0.le) Try.underlying31 (by kernel_rfl) rfl rfl (by first | omega | decide) (by first | omega | decide)) ?_
  refine SeqD.b (by kernel_rfl) rfl (q_loadVB (hVa.le hSl0.le) (by kernel_rfl) rfl (by first | (with_reducible assumption) | omega | (unfold maxLen; omega) | (simp only [nums_length, List.length_set, List.length_replicate, List.length_take, List.length_drop, List.length_append, List.length_cons, List.length_nil, ofB_length, toB_length]; omega) | (simp only [nums_length, List.length_set, List.length_replicate, List.length_take, List.length_drop, List.length_append, List.length_cons, List.length_nil, ofB_length, toB_length]; unfold maxLen; omega) | (simp; done) | (simp; omega) | rfl | decide)) ?_
  refine SeqD.a rfl (fun _ => q_move (v := S _) rfl) ?_
  refine SeqD.a rfl (fun _ => q_move (v := .int _ _) rfl) ?_
  refine SeqD.a rfl (fun _ => q_indexS Try.underlying9 rfl rfl (by first | omega | decide) (by first | omega | decide)) ?_
  refine SeqD.a rfl (fun _ => q_xorB rfl rfl) ?_
  refine SeqD.x rfl (s_buildSlice (z := .int .u8 0) (vs := nums .u8 (ofB [_])) hSl0 Try.underlying31 (by kernel_rfl) (by kernel_rfl) rfl (by rfl) (by rfl) (by decide) rfl (nums_one _ _) rfl) ?_
  rintro v20 H1 hS1
  clear hSl0
  refine ⟨trivial, ?_⟩
  refine SeqR2.done ?_
  refine OpsW.m rfl (s_append (sz := 1) (by_ := 1) (z := .int .u8 0) hS1 at1 Try.underlying31 (by kernel_rfl) (by kernel_rfl) (by kernel_rfl) rfl (by kernel_rfl) rfl rfl (src_vec (hS1.vec at0) (nums_one _ _)) (by first | (with_reducible assumption) | omega | (unfold maxLen; omega) | (simp only [nums_length, List.length_set, List.length_replicate, List.length_take, List.length_drop, List.length_append, List.length_cons, List.length_nil, ofB_length, toB_length]; omega) | (simp only [nums_length, List.length_set, List.length_replicate, List.length_take, List.length_drop, List.length_append, List.length_cons, List.length_nil, ofB_length, toB_length]; unfold maxLen; omega) | (simp; done) | (simp; omega) | rfl | decide) (by first | (with_reducible assumption) | omega | (unfold maxLen; omega) | (simp only [nums_length, List.length_set, List.length_replicate, List.length_take, List.length_drop, List.length_append, List.length_cons, List.length_nil, ofB_length, toB_length]; omega) | (simp only [nums_length, List.length_set, List.length_replicate, List.length_take, List.length_drop, List.length_append, List.length_cons, List.length_nil, ofB_length, toB_length]; unfold maxLen; omega) | (simp; done) | (simp; omega) | rfl | decide)) ?_
  rintro v21 H2 hS2
  clear hS1
  replace hS2 := hS2.del del0
  refine OpsW.q rfl (q_assign (v := v21) rfl) ?_
  refine OpsW.nil ?_
  refine BlockP.go ?_
  refine SeqP.go ?_
  refine AW.region ?_
  refine OpsW.q rfl (q_move (v := .int _ _) rfl) ?_
  refine OpsW.q rfl (q_addI rfl rfl (by omega)) ?_
  refine OpsW.q rfl (q_assign (v := .int _ _) rfl) ?_
  refine OpsW.nil ?_
  exact LoopP.go _ (by omega) ⟨i + 1, v21, _, rfl, (by omega), Slots.eq ⟨(by first | rfl | exact i64_int (by omega) (by omega) (by omega) | assumption), (by first | rfl | exact i64_int (by omega) (by omega) (by omega) | assumption), (by first | rfl | exact i64_int (by omega) (by omega) (by omega) | assumption), (by first | rfl | exact i64_int (by omega) (by omega) (by omega) | assumption),  trivial⟩, (by rw [xorA_succ, ofB_app, nums_append]; exact hS2)⟩
theorem ReadyR_con {key : List UInt8} (hk : key.length = 16) : Con Try.prog w0 26 #[S key] H (fun v H' => ∃ vk vs, v = .agg #[vk, vs] ∧ Sep H [.vec vk 9 1 11 (strs (keysS (keysL key) 11)), .vec vs 5 1 256 (nums .u8 (ofB (sbox)))] H') := by
  have hS0 : Sep H [] H := Sep.refl
  refine Con.intro Try.func26 rfl rfl ?_
  refine AW.seq ?_
  refine AW.region ?_
  refine OpsW.m rfl (s_alloc (z := .agg #[.slice none 0 0, .slice none 0 0]) (cs := [.slice none 0 0, .slice none 0 0]) hS0 (by kernel_rfl) rfl) ?_
  rintro _ H1 ⟨b2, rfl, hS1⟩
  clear hS0
  refine OpsW.nil ?_
  refine SeqP.go ?_
  refine AW.seq ?_
  refine AW.region ?_
  refine OpsW.m rfl (o_call rfl Try.func34 rfl rfl (tableR_con)) ?_
  rintro v4 H2 hR2
  have hS2 := hS1.join hR2
  simp only [List.cons_append, List.nil_append] at hS2
  clear hR2 hS1
  refine OpsW.q rfl (q_assign (v := v4) rfl) ?_
  refine OpsW.nil ?_
  refine SeqP.go ?_
  refine AW.seq ?_
  refine AW.region ?_
  refine OpsW.q rfl (q_move (v := S _) rfl) ?_
  refine OpsW.q rfl (q_move (v := v4) rfl) ?_
  refine OpsW.m rfl (o_call rfl Try.func35 rfl rfl (keysR_con (hS2.vec at0) hk)) ?_
  rintro v7 H3 hR3
  have hS3 := hS2.join hR3
  simp only [List.cons_append, List.nil_append] at hS3
  clear hR3 hS2
  refine OpsW.q rfl (q_move (v := v4) rfl) ?_
  obtain ⟨bk, ck, qk, rfl, _⟩ := (hS3.vec at0).opened (by decide)
  obtain ⟨bs, cs, qs, rfl, _⟩ := (hS3.vec at1).opened (by decide)
  refine OpsW.q rfl (q_build (cells := #[.slice (some ⟨bk, 0, none⟩) 11 ck, .slice (some ⟨bs, 0, none⟩) 256 cs]) rfl (by kernel_rfl)) ?_
  refine OpsW.ms (s_storeS (n := 2) hS3 at2 (by kernel_rfl) rfl rfl rfl (ones_all rfl) rfl) ?_
  rintro _ H4 ⟨rfl, hS4⟩
  clear hS3
  refine OpsW.nil ?_
  refine SeqP.go ?_
  refine AW.ret ?_
  refine RetP.mkc (m := 2) (H' := H4) rfl rfl (hS4.blk at2) (by first | (with_reducible assumption) | omega | (unfold maxLen; omega) | (simp only [nums_length, List.length_set, List.length_replicate, List.length_take, List.length_drop, List.length_append, List.length_cons, List.length_nil, ofB_length, toB_length]; omega) | (simp only [nums_length, List.length_set, List.length_replicate, List.length_take, List.length_drop, List.length_append, List.length_cons, List.length_nil, ofB_length, toB_length]; unfold maxLen; omega) | (simp; done) | (simp; omega) | rfl | decide) (by kernel_rfl) (Hp.le_refl _) ?_
  exact ⟨_, _, rfl, hS4.del del2⟩
theorem UnderR_con {vk vs : Value} {ks b : List UInt8} (hVk : Vec H 9 1 vk 11 (strs (keysS ks 11))) (hVs : Vec H 5 1 vs 256 (nums .u8 (ofB sbox))) (hk : ks.length = 176) (hb : b.length = 16) : Con Try.prog w0 36 #[.agg #[vk, vs], S b] H (fun v H' => v = S (stA ks b 10) ∧ H' = H) := by
  have hS0 : Sep H [] H := Sep.refl
  have hkl := keysS_length ks 11
  refine Con.intro Try.func36 rfl rfl ?_
  refine AW.seq ?_
  refine AW.region ?_
  refine OpsW.m rfl (s_box (cs := [vk, vs]) (v := .agg #[vk, vs]) hS0 rfl rfl) ?_
  rintro _ H1 ⟨b2, rfl, hS1⟩
  clear hS0
  refine OpsW.q rfl (q_assign (v := S _) rfl) ?_
  refine OpsW.nil ?_
  refine SeqP.go ?_
  refine AW.seq ?_
  refine AW.region ?_
  refine OpsW.q rfl (q_move (v := S _) rfl) ?_
  refine OpsW.m rfl (s_bytes hS1 rfl Try.underlying31 Try.underlying5 rfl (by first | (with_reducible assumption) | omega | (unfold maxLen; omega) | (simp only [nums_length, List.length_set, List.length_replicate, List.length_take, List.length_drop, List.length_append, List.length_cons, List.length_nil, ofB_length, toB_length]; omega) | (simp only [nums_length, List.length_set, List.length_replicate, List.length_take, List.length_drop, List.length_append, List.length_cons, List.length_nil, ofB_length, toB_length]; unfold maxLen; omega) | (simp; done) | (simp; omega) | rfl | decide)) ?_
  rintro v14 H2 hS2
  clear hS1
  rw [hb] at hS2
  refine OpsW.q rfl (q_fieldAddr (sz := 0) Try.underlying46 rfl (by kernel_rfl) rfl) ?_
  refine OpsW.q rfl (q_load (v := vk) (by kernel_rfl) rfl (hS2.blk at1) rfl) ?_
  refine OpsW.q rfl (q_indexV1 (hVk.le hS2.le) Try.underlying44 (by kernel_rfl) rfl rfl (by first | omega | decide) (by first | omega | decide)) ?_
  refine OpsW.q rfl (q_loadVS (hVk.le hS2.le) (by kernel_rfl) rfl (by first | (with_reducible assumption) | omega | (unfold maxLen; omega) | (simp only [nums_length, List.length_set, List.length_replicate, List.length_take, List.length_drop, List.length_append, List.length_cons, List.length_nil, ofB_length, toB_length]; omega) | (simp only [nums_length, List.length_set, List.length_replicate, List.length_take, List.length_drop, List.length_append, List.length_cons, List.length_nil, ofB_length, toB_length]; unfold maxLen; omega) | (simp; done) | (simp; omega) | rfl | decide)) ?_
  have hr0 := rkey_length hk (i := 0) (by omega)
  rw [show (Int.toNat 0) = 0 from rfl, keysS_get (by decide)]
  refine OpsW.m rfl (o_call rfl Try.func45 rfl rfl (withR_con (hS2.vec at0) hb hr0)) ?_
  rintro v19 H3 hR3
  have hS3 := hS2.join hR3
  simp only [List.cons_append, List.nil_append] at hS3
  clear hR3 hS2
  refine OpsW.q rfl (q_assign (v := v19) rfl) ?_
  refine OpsW.nil ?_
  refine SeqP.go ?_
  refine AW.seq ?_
  refine AW.seq ?_
  refine AW.region ?_
  refine OpsW.q rfl (q_assign (v := .int _ _) rfl) ?_
  refine OpsW.nil ?_
  refine SeqP.go ?_
  refine AW.block ?_
  replace hS3 := hS3.del del1
  refine AW.loop (fun m_ e_ H_ => ∃ (n : Nat) (vS : Value) (e0 : Env), m_ = 10 - n ∧ (n ≤ 10) ∧ e_ = upds e0 [(2, .pointer (some ⟨b2, 0, none⟩)), (5, vS), (6, .int .i64 ((n + 1 : Nat) : Int))] ∧ Sep H [.vec vS 5 1 16 (nums .u8 (ofB (stA ks b n))), .blk b2 ⟨[vk, vs], 2, 46⟩] H_) _ ⟨0, v19, _, rfl, (by omega), Slots.eq ⟨(by first | rfl | exact i64_int (by omega) (by omega) (by omega) | assumption), (by first | rfl | exact i64_int (by omega) (by omega) (by omega) | assumption), (by first | rfl | exact i64_int (by omega) (by omega) (by omega) | assumption),  trivial⟩, (by rw [stA_zero]; have hq := hS3; exact hq)⟩ ?_
  rintro m_ _ Hl0 ⟨n, vS, e0, rfl, hf, rfl, hSl0⟩
  try clear hS3
  have hsl := stA_length ks b n
  refine AW.seq ?_
  refine AW.seq ?_
  refine AW.region ?_
  refine OpsW.q rfl (q_move (v := .int _ _) rfl) ?_
  refine OpsW.q rfl (q_leq rfl rfl) ?_
  refine OpsW.nil ?_
  refine SeqP.go ?_
  refine AW.cond2 rfl (fun h0 => ?_) (fun h0 => ?_)
  ·
    try simp only [decide_eq_true_eq, decide_eq_false_iff_not, Bool.or_eq_true, Bool.and_eq_true, Bool.or_eq_false_iff, Bool.and_eq_false_imp, Bool.not_eq_true', Bool.not_eq_false', ne_eq, Decidable.not_not, Int.not_lt, Int.not_le, Bool.not_eq_true, Bool.not_eq_false] at h0
    refine AW.exit ?_
    refine SeqP.exit ?_
    refine LoopP.exit ?_
    obtain rfl : n = 10 := by omega
    refine BlockP.here ?_
    refine SeqP.go ?_
    refine AW.seq ?_
    refine AW.region ?_
    refine OpsW.q rfl (q_move (v := vS) rfl) ?_
    refine OpsW.q rfl (q_stringB (hSl0.vec at0) Try.underlying31 Try.underlying5 Try.underlying9 rfl) ?_
    refine OpsW.q rfl (q_assign (v := S _) rfl) ?_
    refine OpsW.nil ?_
    refine SeqP.go ?_
    refine AW.ret ?_
    refine RetP.mk1 (H' := H) (v1 := S _) rfl rfl  hSl0.le ?_
    refine ⟨?_, rfl⟩
    rfl
  try simp only [decide_eq_true_eq, decide_eq_false_iff_not, Bool.or_eq_true, Bool.and_eq_true, Bool.or_eq_false_iff, Bool.and_eq_false_imp, Bool.not_eq_true', Bool.not_eq_false', ne_eq, Decidable.not_not, Int.not_lt, Int.not_le, Bool.not_eq_true, Bool.not_eq_false] at h0
  refine AW.skip ?_
  refine SeqP.go ?_
  refine AW.seq ?_
  refine AW.block ?_
  refine AW.seq ?_
  refine AW.region ?_
  refine OpsW.q rfl (q_assign (v := .slice _ _ _) rfl) ?_
  refine OpsW.nil ?_
  refine SeqP.go ?_
  refine AW.seq ?_
  refine AW.seq ?_
  refine AW.region ?_
  refine OpsW.q rfl (q_assign (v := .int _ _) rfl) ?_
  refine OpsW.nil ?_
  refine SeqP.go ?_
  refine AW.block ?_
  replace hSl0 := hSl0.nil (el := 5) (sz := 1)
  refine AW.loop (fun m_ e_ H_ => ∃ (i : Nat) (vt vS : Value) (e0 : Env), m_ = 16 - i ∧ (i ≤ 16) ∧ e_ = upds e0 [(2, .pointer (some ⟨b2, 0, none⟩)), (5, vS), (6, .int .i64 ((n + 1 : Nat) : Int)), (7, vt), (8, .int .i64 (i : Int))] ∧ Sep H [.vec vt 5 1 i (nums .u8 (ofB (subA (stA ks b n) i))), .vec vS 5 1 16 (nums .u8 (ofB (stA ks b n))), .blk b2 ⟨[vk, vs], 2, 46⟩] H_) _ ⟨0, nilV, vS, _, rfl, (by omega), Slots.eq ⟨(by first | rfl | exact i64_int (by omega) (by omega) (by omega) | assumption), (by first | rfl | exact i64_int (by omega) (by omega) (by omega) | assumption), (by first | rfl | exact i64_int (by omega) (by omega) (by omega) | assumption), (by first | rfl | exact i64_int (by omega) (by omega) (by omega) | assumption), (by first | rfl | exact i64_int (by omega) (by omega) (by omega) | assumption),  trivial⟩, (by rw [subA_zero]; exact hSl0)⟩ ?_
  rintro m_ _ Hl1 ⟨i, vt, vS, e0, rfl, hf, rfl, hSl1⟩
  try clear hSl0
  have hsb := sbox_length
  have hi5 : ((((i : Int) + 4 * ((i : Int) % 4)) % 16)).toNat = 5 * i % 16 := by omega
  have hbb := ((stA ks b n).getD (((i : Int) + 4 * ((i : Int) % 4)) % 16).toNat 0).toNat_lt
  refine AW.seq ?_
  refine AW.seq ?_
  refine AW.region ?_
  refine OpsW.q rfl (q_move (v := .int _ _) rfl) ?_
  refine OpsW.q rfl (q_lss rfl rfl) ?_
  refine OpsW.nil ?_
  refine SeqP.go ?_
  refine AW.cond2 rfl (fun h1 => ?_) (fun h1 => ?_)
  ·
    try simp only [decide_eq_true_eq, decide_eq_false_iff_not, Bool.or_eq_true, Bool.and_eq_true, Bool.or_eq_false_iff, Bool.and_eq_false_imp, Bool.not_eq_true', Bool.not_eq_false', ne_eq, Decidable.not_not, Int.not_lt, Int.not_le, Bool.not_eq_true, Bool.not_eq_false] at h1
    refine AW.exit ?_
    refine SeqP.exit ?_
    refine LoopP.exit ?_
    obtain rfl : i = 16 := by omega
    have hrl := subA_length (stA ks b n) 16
    refine BlockP.here ?_
    refine SeqP.go ?_
    refine AW.seq ?_
    refine AW.seq ?_
    refine AW.region ?_
    refine OpsW.q rfl (q_move (v := .int _ _) rfl) ?_
    refine OpsW.q rfl (q_lss rfl rfl) ?_
    refine OpsW.nil ?_
    refine SeqP.go ?_
    refine AW.cond rfl (fun h2 => ?_) (fun h2 => ?_)
    ·
      try simp only [decide_eq_true_eq, decide_eq_false_iff_not, Bool.or_eq_true, Bool.and_eq_true, Bool.or_eq_false_iff, Bool.and_eq_false_imp, Bool.not_eq_true', Bool.not_eq_false', ne_eq, Decidable.not_not, Int.not_lt, Int.not_le, Bool.not_eq_true, Bool.not_eq_false] at h2
      refine AW.seq ?_
      refine AW.region ?_
      refine OpsW.q rfl (q_assign (v := .slice _ _ _) rfl) ?_
      refine OpsW.nil ?_
      refine SeqP.go ?_
      refine AW.seq ?_
      refine AW.seq ?_
      refine AW.region ?_
      refine OpsW.q rfl (q_assign (v := .int _ _) rfl) ?_
      refine OpsW.nil ?_
      refine SeqP.go ?_
      refine AW.block ?_
      replace hSl1 := hSl1.nil (el := 5) (sz := 1)
      replace hSl1 := Sep.bring del3 hSl1
      replace hSl1 := Sep.bring del2 hSl1
      replace hSl1 := Sep.bring del3 hSl1
      replace hSl1 := Sep.bring del3 hSl1
      refine AW.loop (fun m_ e_ H_ => ∃ (c : Nat) (vu vS vt : Value) (e0 : Env), m_ = 4 - c ∧ (c ≤ 4) ∧ e_ = upds e0 [(2, .pointer (some ⟨b2, 0, none⟩)), (5, vS), (6, .int .i64 ((n + 1 : Nat) : Int)), (7, vt), (9, vu), (10, .int .i64 ((4 * c : Nat) : Int))] ∧ Sep H [.vec vu 5 1 ((4 * c)) (nums .u8 (ofB (mixK (subA (stA ks b n) 16) c))), .vec vS 5 1 16 (nums .u8 (ofB (stA ks b n))), .vec vt 5 1 16 (nums .u8 (ofB (subA (stA ks b n) 16))), .blk b2 ⟨[vk, vs], 2, 46⟩] H_) _ ⟨0, nilV, vS, vt, _, rfl, (by omega), Slots.eq ⟨(by first | rfl | exact i64_int (by omega) (by omega) (by omega) | assumption), (by first | rfl | exact i64_int (by omega) (by omega) (by omega) | assumption), (by first | rfl | exact i64_int (by omega) (by omega) (by omega) | assumption), (by first | rfl | exact i64_int (by omega) (by omega) (by omega) | assumption), (by first | rfl | exact i64_int (by omega) (by omega) (by omega) | assumption), (by first | rfl | exact i64_int (by omega) (by omega) (by omega) | assumption),  trivial⟩, (by rw [mixK_zero]; exact hSl1)⟩ ?_
      rintro m_ _ Hl2 ⟨c, vu, vS, vt, e0, rfl, hf, rfl, hSl2⟩
      try clear hSl1
      refine AW.seq ?_
      refine AW.seq ?_
      refine AW.region ?_
      refine OpsW.q rfl (q_move (v := .int _ _) rfl) ?_
      refine OpsW.q rfl (q_lss rfl rfl) ?_
      refine OpsW.nil ?_
      refine SeqP.go ?_
      refine AW.cond2 rfl (fun h3 => ?_) (fun h3 => ?_)
      ·
        try simp only [decide_eq_true_eq, decide_eq_false_iff_not, Bool.or_eq_true, Bool.and_eq_true, Bool.or_eq_false_iff, Bool.and_eq_false_imp, Bool.not_eq_true', Bool.not_eq_false', ne_eq, Decidable.not_not, Int.not_lt, Int.not_le, Bool.not_eq_true, Bool.not_eq_false] at h3
        refine AW.exit ?_
        refine SeqP.exit ?_
        refine LoopP.exit ?_
        obtain rfl : c = 4 := by omega
        replace hrl := mixK_length (subA (stA ks b n) 16) 4
        refine BlockP.here ?_
        refine SeqP.go ?_
        refine AW.region ?_
        refine OpsW.q rfl (q_move (v := vu) rfl) ?_
        refine OpsW.q rfl (q_assign (v := vu) rfl) ?_
        refine OpsW.nil ?_
        refine SeqP.go ?_
        refine AW.region ?_
        refine OpsW.q rfl (q_move (v := vu) rfl) ?_
        refine OpsW.q rfl (q_fieldAddr (sz := 0) Try.underlying46 rfl (by kernel_rfl) rfl) ?_
        refine OpsW.q rfl (q_load (v := vk) (by kernel_rfl) rfl (hSl2.blk at3) rfl) ?_
        refine OpsW.q rfl (q_move (v := .int _ _) rfl) ?_
        refine OpsW.q rfl (q_indexV1 (hVk.le hSl2.le) Try.underlying44 (by kernel_rfl) rfl rfl (by first | omega | decide) (by first | omega | decide)) ?_
        refine OpsW.q rfl (q_loadVS (hVk.le hSl2.le) (by kernel_rfl) rfl (by first | (with_reducible assumption) | omega | (unfold maxLen; omega) | (simp only [nums_length, List.length_set, List.length_replicate, List.length_take, List.length_drop, List.length_append, List.length_cons, List.length_nil, ofB_length, toB_length]; omega) | (simp only [nums_length, List.length_set, List.length_replicate, List.length_take, List.length_drop, List.length_append, List.length_cons, List.length_nil, ofB_length, toB_length]; unfold maxLen; omega) | (simp; done) | (simp; omega) | rfl | decide)) ?_
        have hrn := rkey_length hk (i := n + 1) (by omega)
        rw [show ((n + 1 : Nat) : Int).toNat = n + 1 from Int.toNat_natCast _, keysS_get (by omega)]
        refine OpsW.m rfl (o_call rfl Try.func45 rfl rfl (withR_con (hSl2.vec at0) hrl hrn)) ?_
        rintro v105 H4 hR4
        have hS4 := hSl2.join hR4
        simp only [List.cons_append, List.nil_append] at hS4
        clear hR4 hSl2
        refine OpsW.q rfl (q_assign (v := v105) rfl) ?_
        refine OpsW.nil ?_
        refine BlockP.go ?_
        refine SeqP.go ?_
        refine AW.region ?_
        refine OpsW.q rfl (q_move (v := .int _ _) rfl) ?_
        refine OpsW.q rfl (q_addI rfl rfl (by omega)) ?_
        refine OpsW.q rfl (q_assign (v := .int _ _) rfl) ?_
        refine OpsW.nil ?_
        replace hS4 := hS4.del del1
        replace hS4 := hS4.del del1
        replace hS4 := hS4.del del1
        exact LoopP.go _ (by omega) ⟨n + 1, v105, _, rfl, (by omega), Slots.eq ⟨(by first | rfl | exact i64_int (by omega) (by omega) (by omega) | assumption), (by first | rfl | exact i64_int (by omega) (by omega) (by omega) | assumption), (by first | rfl | exact i64_int (by omega) (by omega) (by omega) | assumption),  trivial⟩, (by rw [stA_succ, roundA, if_pos (by omega)]; exact hS4)⟩
      try simp only [decide_eq_true_eq, decide_eq_false_iff_not, Bool.or_eq_true, Bool.and_eq_true, Bool.or_eq_false_iff, Bool.and_eq_false_imp, Bool.not_eq_true', Bool.not_eq_false', ne_eq, Decidable.not_not, Int.not_lt, Int.not_le, Bool.not_eq_true, Bool.not_eq_false] at h3
      refine AW.skip ?_
      refine SeqP.go ?_
      refine AW.seq ?_
      refine AW.block ?_
      refine AW.seq ?_
      refine AW.region ?_
      refine OpsW.q rfl (q_assign (v := .int _ _) rfl) ?_
      refine OpsW.nil ?_
      refine SeqP.go ?_
      refine AW.block ?_
      refine AW.loop (fun m_ e_ H_ => ∃ (r : Nat) (vu vS vt : Value) (e0 : Env), m_ = 4 - r ∧ (r ≤ 4) ∧ e_ = upds e0 [(2, .pointer (some ⟨b2, 0, none⟩)), (5, vS), (6, .int .i64 ((n + 1 : Nat) : Int)), (7, vt), (9, vu), (10, .int .i64 ((4 * c : Nat) : Int)), (11, .int .i64 (r : Int))] ∧ Sep H [.vec vu 5 1 ((4 * c + r)) (nums .u8 (ofB (mixU (subA (stA ks b n) 16) c r))), .vec vS 5 1 16 (nums .u8 (ofB (stA ks b n))), .vec vt 5 1 16 (nums .u8 (ofB (subA (stA ks b n) 16))), .blk b2 ⟨[vk, vs], 2, 46⟩] H_) _ ⟨0, vu, vS, vt, _, rfl, (by omega), Slots.eq ⟨(by first | rfl | exact i64_int (by omega) (by omega) (by omega) | assumption), (by first | rfl | exact i64_int (by omega) (by omega) (by omega) | assumption), (by first | rfl | exact i64_int (by omega) (by omega) (by omega) | assumption), (by first | rfl | exact i64_int (by omega) (by omega) (by omega) | assumption), (by first | rfl | exact i64_int (by omega) (by omega) (by omega) | assumption), (by first | rfl | exact i64_int (by omega) (by omega) (by omega) | assumption), (by first | rfl | exact i64_int (by omega) (by omega) (by omega) | assumption),  trivial⟩, (by rw [mixU_zero]; exact hSl2)⟩ ?_
      rintro m_ _ Hl3 ⟨r, vu, vS, vt, e0, rfl, hf, rfl, hSl3⟩
      try clear hSl2
      have hq0 : (((4 * c : Nat) : Int) + (r : Int)).toNat = 4 * c + r := by omega
      have hq1 : (((4 * c : Nat) : Int) + (((r : Int) + 1) % 4)).toNat = 4 * c + (r + 1) % 4 := by omega
      have hq2 : (((4 * c : Nat) : Int) + (((r : Int) + 2) % 4)).toNat = 4 * c + (r + 2) % 4 := by omega
      have hq3 : (((4 * c : Nat) : Int) + (((r : Int) + 3) % 4)).toNat = 4 * c + (r + 3) % 4 := by omega
      refine AW.seq ?_
      refine AW.seq ?_
      refine AW.region ?_
      refine OpsW.q rfl (q_move (v := .int _ _) rfl) ?_
      refine OpsW.q rfl (q_lss rfl rfl) ?_
      refine OpsW.nil ?_
      refine SeqP.go ?_
      refine AW.cond2 rfl (fun h4 => ?_) (fun h4 => ?_)
      ·
        try simp only [decide_eq_true_eq, decide_eq_false_iff_not, Bool.or_eq_true, Bool.and_eq_true, Bool.or_eq_false_iff, Bool.and_eq_false_imp, Bool.not_eq_true', Bool.not_eq_false', ne_eq, Decidable.not_not, Int.not_lt, Int.not_le, Bool.not_eq_true, Bool.not_eq_false] at h4
        refine AW.exit ?_
        refine SeqP.exit ?_
        refine LoopP.exit ?_
        obtain rfl : r = 4 := by omega
        refine BlockP.here ?_
        refine BlockP.go ?_
        refine SeqP.go ?_
        refine AW.region ?_
        refine OpsW.q rfl (q_move (v := .int _ _) rfl) ?_
        refine OpsW.q rfl (q_addI rfl rfl (by omega)) ?_
        refine OpsW.q rfl (q_assign (v := .int _ _) rfl) ?_
        refine OpsW.nil ?_
        exact LoopP.go _ (by omega) ⟨c + 1, vu, vS, vt, _, rfl, (by omega), Slots.eq ⟨(by first | rfl | exact i64_int (by omega) (by omega) (by omega) | assumption), (by first | rfl | exact i64_int (by omega) (by omega) (by omega) | assumption), (by first | rfl | exact i64_int (by omega) (by omega) (by omega) | assumption), (by first | rfl | exact i64_int (by omega) (by omega) (by omega) | assumption), (by first | rfl | exact i64_int (by omega) (by omega) (by omega) | assumption), (by first | rfl | exact i64_int (by omega) (by omega) (by omega) | assumption),  trivial⟩, (by rw [← mixU_four]; exact hSl3)⟩
      try simp only [decide_eq_true_eq, decide_eq_false_iff_not, Bool.or_eq_true, Bool.and_eq_true, Bool.or_eq_false_iff, Bool.and_eq_false_imp, Bool.not_eq_true', Bool.not_eq_false', ne_eq, Decidable.not_not, Int.not_lt, Int.not_le, Bool.not_eq_true, Bool.not_eq_false] at h4
      refine AW.skip ?_
      refine SeqP.go ?_
      refine AW.seq ?_
      refine AW.block ?_
      refine AW.seq ?_
      refine AW.drawK [] 38 rfl (by kernel_rfl) ?_
      refine SeqK.q rfl (q_move (v := vt) rfl) ?_
      refine SeqK.q rfl (q_move (v := .int _ _) rfl) ?_
      refine SeqK.q rfl (q_move (v := .int _ _) rfl) ?_
      refine SeqK.q rfl (q_addI rfl rfl (by omega)) ?_
      refine SeqK.q rfl (q_indexV1 (hSl3.vec at2) Try.underlying31 (by kernel_rfl) rfl rfl (by first | omega | decide) (by first | omega | decide)) ?_
      refine SeqK.q rfl (q_loadVB (hSl3.vec at2) (by kernel_rfl) rfl (by first | (with_reducible assumption) | omega | (unfold maxLen; omega) | (simp only [nums_length, List.length_set, List.length_replicate, List.length_take, List.length_drop, List.length_append, List.length_cons, List.length_nil, ofB_length, toB_length]; omega) | (simp only [nums_length, List.length_set, List.length_replicate, List.length_take, List.length_drop, List.length_append, List.length_cons, List.length_nil, ofB_length, toB_length]; unfold maxLen; omega) | (simp; done) | (simp; omega) | rfl | decide)) ?_
      refine SeqK.q rfl (q_convBI rfl Try.underlying3 rfl) ?_
      refine SeqK.q rfl (o_call rfl Try.func43 rfl rfl (timesR_con (UInt8.toNat_lt _) (by decide))) ?_
      refine SeqK.q rfl (q_move (v := vt) rfl) ?_
      refine SeqK.q rfl (q_move (v := .int _ _) rfl) ?_
      refine SeqK.q rfl (q_move (v := .int _ _) rfl) ?_
      refine SeqK.q rfl (q_addI rfl rfl (by omega)) ?_
      refine SeqK.q rfl (q_remI rfl rfl (by omega)) ?_
      refine SeqK.q rfl (q_addI rfl rfl (by omega)) ?_
      refine SeqK.q rfl (q_indexV1 (hSl3.vec at2) Try.underlying31 (by kernel_rfl) rfl rfl (by first | omega | decide) (by first | omega | decide)) ?_
      refine SeqK.q rfl (q_loadVB (hSl3.vec at2) (by kernel_rfl) rfl (by first | (with_reducible assumption) | omega | (unfold maxLen; omega) | (simp only [nums_length, List.length_set, List.length_replicate, List.length_take, List.length_drop, List.length_append, List.length_cons, List.length_nil, ofB_length, toB_length]; omega) | (simp only [nums_length, List.length_set, List.length_replicate, List.length_take, List.length_drop, List.length_append, List.length_cons, List.length_nil, ofB_length, toB_length]; unfold maxLen; omega) | (simp; done) | (simp; omega) | rfl | decide)) ?_
      refine SeqK.q rfl (q_convBI rfl Try.underlying3 rfl) ?_
      refine SeqK.q rfl (o_call rfl Try.func43 rfl rfl (timesR_con (UInt8.toNat_lt _) (by decide))) ?_
      refine SeqK.q rfl (q_xor rfl rfl) ?_
      refine SeqK.q rfl (q_move (v := vt) rfl) ?_
      refine SeqK.q rfl (q_move (v := .int _ _) rfl) ?_
      refine SeqK.q rfl (q_move (v := .int _ _) rfl) ?_
      refine SeqK.q rfl (q_addI rfl rfl (by omega)) ?_
      refine SeqK.q rfl (q_remI rfl rfl (by omega)) ?_
      refine SeqK.q rfl (q_addI rfl rfl (by omega)) ?_
      refine SeqK.q rfl (q_indexV1 (hSl3.vec at2) Try.underlying31 (by kernel_rfl) rfl rfl (by first | omega | decide) (by first | omega | decide)) ?_
      refine SeqK.q rfl (q_loadVB (hSl3.vec at2) (by kernel_rfl) rfl (by first | (with_reducible assumption) | omega | (unfold maxLen; omega) | (simp only [nums_length, List.length_set, List.length_replicate, List.length_take, List.length_drop, List.length_append, List.length_cons, List.length_nil, ofB_length, toB_length]; omega) | (simp only [nums_length, List.length_set, List.length_replicate, List.length_take, List.length_drop, List.length_append, List.length_cons, List.length_nil, ofB_length, toB_length]; unfold maxLen; omega) | (simp; done) | (simp; omega) | rfl | decide)) ?_
      refine SeqK.q rfl (q_convBI rfl Try.underlying3 rfl) ?_
      refine SeqK.q rfl (q_xor rfl rfl) ?_
      refine SeqK.q rfl (q_move (v := vt) rfl) ?_
      refine SeqK.q rfl (q_move (v := .int _ _) rfl) ?_
      refine SeqK.q rfl (q_move (v := .int _ _) rfl) ?_
      refine SeqK.q rfl (q_addI rfl rfl (by omega)) ?_
      refine SeqK.q rfl (q_remI rfl rfl (by omega)) ?_
      refine SeqK.q rfl (q_addI rfl rfl (by omega)) ?_
      refine SeqK.q rfl (q_indexV1 (hSl3.vec at2) Try.underlying31 (by kernel_rfl) rfl rfl (by first | omega | decide) (by first | omega | decide)) ?_
      refine SeqK.q rfl (q_loadVB (hSl3.vec at2) (by kernel_rfl) rfl (by first | (with_reducible assumption) | omega | (unfold maxLen; omega) | (simp only [nums_length, List.length_set, List.length_replicate, List.length_take, List.length_drop, List.length_append, List.length_cons, List.length_nil, ofB_length, toB_length]; omega) | (simp only [nums_length, List.length_set, List.length_replicate, List.length_take, List.length_drop, List.length_append, List.length_cons, List.length_nil, ofB_length, toB_length]; unfold maxLen; omega) | (simp; done) | (simp; omega) | rfl | decide)) ?_
      refine SeqK.q rfl (q_convBI rfl Try.underlying3 rfl) ?_
      refine SeqK.done ?_
      refine OpsW.q rfl (q_xor rfl rfl) ?_
      rw [hq0, hq1, hq2, hq3, mix_int]
      refine OpsW.q rfl (q_assign (v := .int _ _) rfl) ?_
      refine OpsW.nil ?_
      refine SeqP.go ?_
      refine AW.region ?_
      refine OpsW.q rfl (q_move (v := vu) rfl) ?_
      refine OpsW.q rfl (q_move (v := .int _ _) rfl) ?_
      refine OpsW.q rfl (q_convIB rfl Try.underlying5 rfl) ?_
      refine OpsW.m rfl (s_buildSlice (z := .int .u8 0) (vs := nums .u8 (ofB [_])) hSl3 Try.underlying31 (by kernel_rfl) (by kernel_rfl) rfl (by rfl) (by rfl) (by decide) rfl (nums_one _ _) rfl) ?_
      rintro v96 H5 hS5
      clear hSl3
      refine OpsW.m rfl (s_append (sz := 1) (by_ := 1) (z := .int .u8 0) hS5 at1 Try.underlying31 (by kernel_rfl) (by kernel_rfl) (by kernel_rfl) rfl (by kernel_rfl) rfl rfl (src_vec (hS5.vec at0) (nums_one _ _)) (by first | (with_reducible assumption) | omega | (unfold maxLen; omega) | (simp only [nums_length, List.length_set, List.length_replicate, List.length_take, List.length_drop, List.length_append, List.length_cons, List.length_nil, ofB_length, toB_length]; omega) | (simp only [nums_length, List.length_set, List.length_replicate, List.length_take, List.length_drop, List.length_append, List.length_cons, List.length_nil, ofB_length, toB_length]; unfold maxLen; omega) | (simp; done) | (simp; omega) | rfl | decide) (by first | (with_reducible assumption) | omega | (unfold maxLen; omega) | (simp only [nums_length, List.length_set, List.length_replicate, List.length_take, List.length_drop, List.length_append, List.length_cons, List.length_nil, ofB_length, toB_length]; omega) | (simp only [nums_length, List.length_set, List.length_replicate, List.length_take, List.length_drop, List.length_append, List.length_cons, List.length_nil, ofB_length, toB_length]; unfold maxLen; omega) | (simp; done) | (simp; omega) | rfl | decide)) ?_
      rintro v97 H6 hS6
      clear hS5
      replace hS6 := hS6.del del0
      refine OpsW.q rfl (q_assign (v := v97) rfl) ?_
      refine OpsW.nil ?_
      refine BlockP.go ?_
      refine SeqP.go ?_
      refine AW.region ?_
      refine OpsW.q rfl (q_move (v := .int _ _) rfl) ?_
      refine OpsW.q rfl (q_addI rfl rfl (by omega)) ?_
      refine OpsW.q rfl (q_assign (v := .int _ _) rfl) ?_
      refine OpsW.nil ?_
      exact LoopP.go _ (by omega) ⟨r + 1, v97, vS, vt, _, rfl, (by omega), Slots.eq ⟨(by first | rfl | exact i64_int (by omega) (by omega) (by omega) | assumption), (by first | rfl | exact i64_int (by omega) (by omega) (by omega) | assumption), (by first | rfl | exact i64_int (by omega) (by omega) (by omega) | assumption), (by first | rfl | exact i64_int (by omega) (by omega) (by omega) | assumption), (by first | rfl | exact i64_int (by omega) (by omega) (by omega) | assumption), (by first | rfl | exact i64_int (by omega) (by omega) (by omega) | assumption), (by first | rfl | exact i64_int (by omega) (by omega) (by omega) | assumption),  trivial⟩, (by rw [mixU_succ _ _ (by omega), colA_get _ _ (by omega), ofB_app, nums_append]; exact hS6)⟩
    try simp only [decide_eq_true_eq, decide_eq_false_iff_not, Bool.or_eq_true, Bool.and_eq_true, Bool.or_eq_false_iff, Bool.and_eq_false_imp, Bool.not_eq_true', Bool.not_eq_false', ne_eq, Decidable.not_not, Int.not_lt, Int.not_le, Bool.not_eq_true, Bool.not_eq_false] at h2
    refine AW.skip ?_
    refine SeqP.go ?_
    refine AW.region ?_
    refine OpsW.q rfl (q_move (v := vt) rfl) ?_
    refine OpsW.q rfl (q_fieldAddr (sz := 0) Try.underlying46 rfl (by kernel_rfl) rfl) ?_
    refine OpsW.q rfl (q_load (v := vk) (by kernel_rfl) rfl (hSl1.blk at2) rfl) ?_
    refine OpsW.q rfl (q_move (v := .int _ _) rfl) ?_
    refine OpsW.q rfl (q_indexV1 (hVk.le hSl1.le) Try.underlying44 (by kernel_rfl) rfl rfl (by first | omega | decide) (by first | omega | decide)) ?_
    refine OpsW.q rfl (q_loadVS (hVk.le hSl1.le) (by kernel_rfl) rfl (by first | (with_reducible assumption) | omega | (unfold maxLen; omega) | (simp only [nums_length, List.length_set, List.length_replicate, List.length_take, List.length_drop, List.length_append, List.length_cons, List.length_nil, ofB_length, toB_length]; omega) | (simp only [nums_length, List.length_set, List.length_replicate, List.length_take, List.length_drop, List.length_append, List.length_cons, List.length_nil, ofB_length, toB_length]; unfold maxLen; omega) | (simp; done) | (simp; omega) | rfl | decide)) ?_
    have hrn := rkey_length hk (i := n + 1) (by omega)
    rw [show ((n + 1 : Nat) : Int).toNat = n + 1 from Int.toNat_natCast _, keysS_get (by omega)]
    refine OpsW.m rfl (o_call rfl Try.func45 rfl rfl (withR_con (hSl1.vec at0) hrl hrn)) ?_
    rintro v105 H7 hR7
    have hS7 := hSl1.join hR7
    simp only [List.cons_append, List.nil_append] at hS7
    clear hR7 hSl1
    refine OpsW.q rfl (q_assign (v := v105) rfl) ?_
    refine OpsW.nil ?_
    refine BlockP.go ?_
    refine SeqP.go ?_
    refine AW.region ?_
    refine OpsW.q rfl (q_move (v := .int _ _) rfl) ?_
    refine OpsW.q rfl (q_addI rfl rfl (by omega)) ?_
    refine OpsW.q rfl (q_assign (v := .int _ _) rfl) ?_
    refine OpsW.nil ?_
    replace hS7 := hS7.del del1
    replace hS7 := hS7.del del1
    exact LoopP.go _ (by omega) ⟨n + 1, v105, _, rfl, (by omega), Slots.eq ⟨(by first | rfl | exact i64_int (by omega) (by omega) (by omega) | assumption), (by first | rfl | exact i64_int (by omega) (by omega) (by omega) | assumption), (by first | rfl | exact i64_int (by omega) (by omega) (by omega) | assumption),  trivial⟩, (by rw [stA_succ, roundA, if_neg (by omega)]; exact hS7)⟩
  try simp only [decide_eq_true_eq, decide_eq_false_iff_not, Bool.or_eq_true, Bool.and_eq_true, Bool.or_eq_false_iff, Bool.and_eq_false_imp, Bool.not_eq_true', Bool.not_eq_false', ne_eq, Decidable.not_not, Int.not_lt, Int.not_le, Bool.not_eq_true, Bool.not_eq_false] at h1
  refine AW.skip ?_
  refine SeqP.go ?_
  refine AW.seq ?_
  refine AW.block ?_
  refine AW.drawD 14 0 rfl (by kernel_rfl) (by kernel_rfl) ?_
  refine SeqD.a rfl (fun _ => q_move (v := vt) rfl) ?_
  refine SeqD.a rfl (fun _ => q_fieldAddr (sz := 0) Try.underlying46 rfl (by kernel_rfl) rfl) ?_
  refine SeqD.b (by kernel_rfl) rfl (q_load (v := vs) (by kernel_rfl) rfl (hSl1.blk at2) rfl) ?_
  refine SeqD.a rfl (fun _ => q_move (v := vS) rfl) ?_
  refine SeqD.a rfl (fun _ => q_move (v := .int _ _) rfl) ?_
  refine SeqD.a rfl (fun _ => q_move (v := .int _ _) rfl) ?_
  refine SeqD.a rfl (fun _ => q_remI rfl rfl (by omega)) ?_
  refine SeqD.a rfl (fun _ => q_mulI rfl rfl (by omega)) ?_
  refine SeqD.a rfl (fun _ => q_addI rfl rfl (by omega)) ?_
  refine SeqD.a rfl (fun _ => q_remI rfl rfl (by omega)) ?_
  refine SeqD.b (by kernel_rfl) rfl (q_indexV1 (hSl1.vec at1) Try.underlying31 (by kernel_rfl) rfl rfl (by first | omega | decide) (by first | omega | decide)) ?_
  refine SeqD.b (by kernel_rfl) rfl (q_loadVB (hSl1.vec at1) (by kernel_rfl) rfl (by first | (with_reducible assumption) | omega | (unfold maxLen; omega) | (simp only [nums_length, List.length_set, List.length_replicate, List.length_take, List.length_drop, List.length_append, List.length_cons, List.length_nil, ofB_length, toB_length]; omega) | (simp only [nums_length, List.length_set, List.length_replicate, List.length_take, List.length_drop, List.length_append, List.length_cons, List.length_nil, ofB_length, toB_length]; unfold maxLen; omega) | (simp; done) | (simp; omega) | rfl | decide)) ?_
  refine SeqD.b (by kernel_rfl) rfl (q_indexV1 (hVs.le hSl1.le) Try.underlying31 (by kernel_rfl) rfl rfl (by first | omega | decide) (by first | omega | decide)) ?_
  refine SeqD.b (by kernel_rfl) rfl (q_loadVB (hVs.le hSl1.le) (by kernel_rfl) rfl (by first | (with_reducible assumption) | omega | (unfold maxLen; omega) | (simp only [nums_length, List.length_set, List.length_replicate, List.length_take, List.length_drop, List.length_append, List.length_cons, List.length_nil, ofB_length, toB_length]; omega) | (simp only [nums_length, List.length_set, List.length_replicate, List.length_take, List.length_drop, List.length_append, List.length_cons, List.length_nil, ofB_length, toB_length]; unfold maxLen; omega) | (simp; done) | (simp; omega) | rfl | decide)) ?_
  refine SeqD.x rfl (s_buildSlice (z := .int .u8 0) (vs := nums .u8 (ofB [_])) hSl1 Try.underlying31 (by kernel_rfl) (by kernel_rfl) rfl (by rfl) (by rfl) (by decide) rfl (nums_one _ _) rfl) ?_
  rintro v42 H8 hS8
  clear hSl1
  refine ⟨trivial, ?_⟩
  refine SeqR2.done ?_
  refine OpsW.m rfl (s_append (sz := 1) (by_ := 1) (z := .int .u8 0) hS8 at1 Try.underlying31 (by kernel_rfl) (by kernel_rfl) (by kernel_rfl) rfl (by kernel_rfl) rfl rfl (src_vec (hS8.vec at0) (nums_one _ _)) (by first | (with_reducible assumption) | omega | (unfold maxLen; omega) | (simp only [nums_length, List.length_set, List.length_replicate, List.length_take, List.length_drop, List.length_append, List.length_cons, List.length_nil, ofB_length, toB_length]; omega) | (simp only [nums_length, List.length_set, List.length_replicate, List.length_take, List.length_drop, List.length_append, List.length_cons, List.length_nil, ofB_length, toB_length]; unfold maxLen; omega) | (simp; done) | (simp; omega) | rfl | decide) (by first | (with_reducible assumption) | omega | (unfold maxLen; omega) | (simp only [nums_length, List.length_set, List.length_replicate, List.length_take, List.length_drop, List.length_append, List.length_cons, List.length_nil, ofB_length, toB_length]; omega) | (simp only [nums_length, List.length_set, List.length_replicate, List.length_take, List.length_drop, List.length_append, List.length_cons, List.length_nil, ofB_length, toB_length]; unfold maxLen; omega) | (simp; done) | (simp; omega) | rfl | decide)) ?_
  rintro v43 H9 hS9
  clear hS8
  replace hS9 := hS9.del del0
  refine OpsW.q rfl (q_assign (v := v43) rfl) ?_
  refine OpsW.nil ?_
  refine BlockP.go ?_
  refine SeqP.go ?_
  refine AW.region ?_
  refine OpsW.q rfl (q_move (v := .int _ _) rfl) ?_
  refine OpsW.q rfl (q_addI rfl rfl (by omega)) ?_
  refine OpsW.q rfl (q_assign (v := .int _ _) rfl) ?_
  refine OpsW.nil ?_
  exact LoopP.go _ (by omega) ⟨i + 1, v43, vS, _, rfl, (by omega), Slots.eq ⟨(by first | rfl | exact i64_int (by omega) (by omega) (by omega) | assumption), (by first | rfl | exact i64_int (by omega) (by omega) (by omega) | assumption), (by first | rfl | exact i64_int (by omega) (by omega) (by omega) | assumption), (by first | rfl | exact i64_int (by omega) (by omega) (by omega) | assumption), (by first | rfl | exact i64_int (by omega) (by omega) (by omega) | assumption),  trivial⟩, (by rw [subA_succ, ofB_app, nums_append, ← sb_get]; have hq := hS9; rw [Int.toNat_natCast, hi5] at hq; exact hq)⟩
end
end Go.Proofs.Ytngbaokcbecdfaa

