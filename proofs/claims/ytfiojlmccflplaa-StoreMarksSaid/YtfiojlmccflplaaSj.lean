/-
  The document about the digest of bytes.
-/
import Derived.Test.YtfiojlmccflplaaDC
import Derived.Test.YtfiojlmccflplaaDZ
import Derived.Test.YtfiojlmccflplaaProg
import Derived.Test.YtfiojlmccflplaaShSpec
import Derived.Test.YtfiojlmccflplaaSi
namespace Go.Proofs.Ytfiojlmccflplaa
open Go Go.RowKit D
set_option linter.unusedVariables false
set_option linter.unusedSimpArgs false
set_option maxRecDepth 100000
set_option maxHeartbeats 2000000
section
variable {w0 : World} {H : Hp} {H0 : Hp}

def stR (i : Nat) : List Int := (stL0.take i).map (fun x => w32 (x / 2 ^ 32))
theorem stR_zero : stR 0 = [] := rfl
theorem stR_succ {i : Nat} (h : i < 8) : stR (i + 1) = stR i ++ [w32 (stL0.getD i 0 / 2 ^ 32)] := by
  have hl := stL0_len
  unfold stR
  rw [List.take_succ_eq_append_getElem (by omega), List.map_append, List.getD_eq_getElem?_getD, List.getElem?_eq_getElem (by omega)]
  rfl
theorem stR_fin : stR 8 = startW := by
  unfold stR
  rw [List.take_of_length_le (by rw [stL0_len]; exact Nat.le_refl _), startW_eq]
theorem stR_length {i : Nat} (h : i ≤ 8) : (stR i).length = i := by
  have hl := stL0_len
  unfold stR; rw [List.length_map, List.length_take]; omega
theorem blk_bt (l : List UInt8) (a : Nat) {j : Nat} (h : j < 64) : bt ((l.drop a).take 64) j = ((((l.getD (a + j) 0).toNat : Nat)) : Int) := by
  unfold bt
  simp [List.getD_eq_getElem?_getD, List.getElem?_take, List.getElem?_drop, h]

theorem rightR_con {x n : Int} (h0 : 0 ≤ n ∧ n ≤ 32) : Con Try.prog w0 61 #[.int .u32 x, .int .i64 n] H (fun v H' => v = .int .u32 (rt x n) ∧ H' = H) := by
  have hS0 : Sep H [] H := Sep.refl
  refine Con.intro Try.func61 rfl rfl ?_
  refine AW.seq ?_
  refine AW.region ?_
  refine OpsW.q rfl (q_assign (v := .int _ _) rfl) ?_
  refine OpsW.nil ?_
  refine SeqP.go ?_
  refine AW.seq ?_
  refine AW.drawK [] 7 rfl (by kernel_rfl) ?_
  refine SeqK.q rfl (q_move (v := .int _ _) rfl) ?_
  refine SeqK.q rfl (q_move (v := .int _ _) rfl) ?_
  refine SeqK.q rfl (q_shr rfl rfl (by first | omega | decide)) ?_
  refine SeqK.q rfl (q_move (v := .int _ _) rfl) ?_
  refine SeqK.q rfl (q_move (v := .int _ _) rfl) ?_
  refine SeqK.q rfl (q_subI rfl rfl (by omega)) ?_
  refine SeqK.q rfl (q_shl rfl rfl (by first | omega | decide)) ?_
  refine SeqK.done ?_
  refine OpsW.q rfl (q_or rfl rfl) ?_
  refine OpsW.q rfl (q_assign (v := .int _ _) rfl) ?_
  refine OpsW.nil ?_
  refine SeqP.go ?_
  refine AW.ret ?_
  refine RetP.mk1 (H' := H) (v1 := .int _ _) rfl rfl  hS0.le ?_
  exact ⟨by rw [rt_def], rfl⟩
theorem constantsR_con : Con Try.prog w0 58 #[] H (fun v H' => Sep H [.vec v 97 1 80 (nums .u64 kL)] H') := by
  have hS0 : Sep H [] H := Sep.refl
  refine Con.intro Try.func58 rfl rfl ?_
  refine AW.seq ?_
  refine AW.region ?_
  refine OpsW.q rfl (q_assign (v := .slice _ _ _) rfl) ?_
  refine OpsW.nil ?_
  refine SeqP.go ?_
  refine AW.seq ?_
  refine AW.region ?_
  refine OpsW.m rfl (s_buildSlice (z := .int .u64 0) (vs := nums .u64 [_, _, _, _, _, _, _, _, _, _, _, _, _, _, _, _, _, _, _, _, _, _, _, _, _, _, _, _, _, _, _, _, _, _, _, _, _, _, _, _, _, _, _, _, _, _, _, _, _, _, _, _, _, _, _, _, _, _, _, _, _, _, _, _, _, _, _, _, _, _, _, _, _, _, _, _, _, _, _, _]) hS0 Try.underlying93 (by kernel_rfl) (by kernel_rfl) rfl (by rfl) (by rfl) (by decide) rfl (nums_one _ _) rfl) ?_
  rintro v1 H1 hS1
  clear hS0
  refine OpsW.q rfl (q_assign (v := v1) rfl) ?_
  refine OpsW.nil ?_
  refine SeqP.go ?_
  refine AW.ret ?_
  refine RetP.mk1 (H' := H1) (v1 := v1) rfl rfl  (Hp.le_refl _) ?_
  have hs := hS1
  unfold kL
  exact hs
theorem beginningsR_con : Con Try.prog w0 59 #[] H (fun v H' => Sep H [.vec v 97 1 8 (nums .u64 stL0)] H') := by
  have hS0 : Sep H [] H := Sep.refl
  refine Con.intro Try.func59 rfl rfl ?_
  refine AW.seq ?_
  refine AW.region ?_
  refine OpsW.q rfl (q_assign (v := .slice _ _ _) rfl) ?_
  refine OpsW.nil ?_
  refine SeqP.go ?_
  refine AW.seq ?_
  refine AW.region ?_
  refine OpsW.m rfl (s_buildSlice (z := .int .u64 0) (vs := nums .u64 [_, _, _, _, _, _, _, _]) hS0 Try.underlying93 (by kernel_rfl) (by kernel_rfl) rfl (by rfl) (by rfl) (by decide) rfl (nums_one _ _) rfl) ?_
  rintro v1 H1 hS1
  clear hS0
  refine OpsW.q rfl (q_assign (v := v1) rfl) ?_
  refine OpsW.nil ?_
  refine SeqP.go ?_
  refine AW.ret ?_
  refine RetP.mk1 (H' := H1) (v1 := v1) rfl rfl  (Hp.le_refl _) ?_
  have hs := hS1
  unfold stL0
  exact hs
theorem fullR_con {d : List UInt8} (hm : d.length ≤ 1099511627776) : Con Try.prog w0 60 #[S d, .int .i64 64, .int .i64 8] H (fun v H' => Sep H [.vec v 5 1 (fullB d).length (nums .u8 (ofB (fullB d)))] H') := by
  have hS0 : Sep H [] H := Sep.refl
  have hpl : pads d.length < 64 := pads_lt _
  refine Con.intro Try.func60 rfl rfl ?_
  refine AW.seq ?_
  refine AW.region ?_
  refine OpsW.q rfl (q_assign (v := .slice _ _ _) rfl) ?_
  refine OpsW.nil ?_
  refine SeqP.go ?_
  refine AW.seq ?_
  refine AW.region ?_
  refine OpsW.q rfl (q_move (v := S _) rfl) ?_
  refine OpsW.m rfl (s_bytes hS0 rfl Try.underlying72 Try.underlying5 rfl (by first | (with_reducible assumption) | omega | (unfold maxLen; omega) | (simp only [nums_length, List.length_set, List.length_replicate, List.length_take, List.length_drop, List.length_append, List.length_cons, List.length_nil, ofB_length, toB_length]; omega) | (simp only [nums_length, List.length_set, List.length_replicate, List.length_take, List.length_drop, List.length_append, List.length_cons, List.length_nil, ofB_length, toB_length]; unfold maxLen; omega) | (simp; done) | (simp; omega) | rfl | decide)) ?_
  rintro v11 H1 hS1
  clear hS0
  refine OpsW.q rfl (q_assign (v := v11) rfl) ?_
  refine OpsW.nil ?_
  refine SeqP.go ?_
  refine AW.seq ?_
  refine AW.region ?_
  refine OpsW.q rfl (q_move (v := v11) rfl) ?_
  refine OpsW.m rfl (s_buildSlice (z := .int .u8 0) (vs := nums .u8 (ofB [128])) hS1 Try.underlying72 (by kernel_rfl) (by kernel_rfl) rfl (by rfl) (by rfl) (by decide) rfl (nums_one _ _) rfl) ?_
  rintro v13 H2 hS2
  clear hS1
  refine OpsW.m rfl (s_append (sz := 1) (by_ := 1) (z := .int .u8 0) hS2 at1 Try.underlying72 (by kernel_rfl) (by kernel_rfl) (by kernel_rfl) rfl (by kernel_rfl) rfl rfl (src_vec (hS2.vec at0) (nums_one _ _)) (by first | (with_reducible assumption) | omega | (unfold maxLen; omega) | (simp only [nums_length, List.length_set, List.length_replicate, List.length_take, List.length_drop, List.length_append, List.length_cons, List.length_nil, ofB_length, toB_length]; omega) | (simp only [nums_length, List.length_set, List.length_replicate, List.length_take, List.length_drop, List.length_append, List.length_cons, List.length_nil, ofB_length, toB_length]; unfold maxLen; omega) | (simp; done) | (simp; omega) | rfl | decide) (by first | (with_reducible assumption) | omega | (unfold maxLen; omega) | (simp only [nums_length, List.length_set, List.length_replicate, List.length_take, List.length_drop, List.length_append, List.length_cons, List.length_nil, ofB_length, toB_length]; omega) | (simp only [nums_length, List.length_set, List.length_replicate, List.length_take, List.length_drop, List.length_append, List.length_cons, List.length_nil, ofB_length, toB_length]; unfold maxLen; omega) | (simp; done) | (simp; omega) | rfl | decide)) ?_
  rintro v14 H3 hS3
  clear hS2
  rw [← nums_append, ← ofB_app] at hS3
  replace hS3 := hS3.del del0
  refine OpsW.q rfl (q_assign (v := v14) rfl) ?_
  refine OpsW.nil ?_
  refine SeqP.go ?_
  refine AW.seq ?_
  refine AW.block ?_
  refine AW.loop (fun m_ e_ H_ => ∃ (j : Nat) (vs : Value) (e0 : Env), m_ = pads d.length - j ∧ (j ≤ pads d.length) ∧ e_ = upds e0 [(0, S d), (1, .int .i64 64), (2, .int .i64 8), (7, vs)] ∧ Sep H [.vec vs 5 1 (d.length + 1 + j) (nums .u8 (ofB (begB d j)))] H_) _ ⟨0, v14, _, rfl, (by omega), Slots.eq ⟨(by first | rfl | exact i64_int (by omega) (by omega) (by omega) | assumption), (by first | rfl | exact i64_int (by omega) (by omega) (by omega) | assumption), (by first | rfl | exact i64_int (by omega) (by omega) (by omega) | assumption), (by first | rfl | exact i64_int (by omega) (by omega) (by omega) | assumption),  trivial⟩, (by rw [begB_zero]; exact hS3)⟩ ?_
  rintro m_ _ Hl0 ⟨j, vs, e0, rfl, hf, rfl, hSl0⟩
  try clear hS3
  have hbl := begB_length d j
  refine AW.seq ?_
  refine AW.seq ?_
  refine AW.region ?_
  refine OpsW.q rfl (q_move (v := vs) rfl) ?_
  refine OpsW.q rfl (q_lenVec Try.underlying72 rfl (hSl0.vec at0)) ?_
  refine OpsW.q rfl (q_move (v := .int _ _) rfl) ?_
  refine OpsW.q rfl (q_addI rfl rfl (by omega)) ?_
  refine OpsW.q rfl (q_move (v := .int _ _) rfl) ?_
  refine OpsW.q rfl (q_remI rfl rfl (by omega)) ?_
  refine OpsW.q rfl (q_neq rfl rfl) ?_
  refine OpsW.nil ?_
  refine SeqP.go ?_
  refine AW.cond2 rfl (fun h0 => ?_) (fun h0 => ?_)
  ·
    try simp only [decide_eq_true_eq, decide_eq_false_iff_not, Bool.or_eq_true, Bool.and_eq_true, Bool.or_eq_false_iff, Bool.and_eq_false_imp, Bool.not_eq_true', Bool.not_eq_false', ne_eq, Decidable.not_not, Int.not_lt, Int.not_le, Bool.not_eq_true, Bool.not_eq_false] at h0
    refine AW.exit ?_
    refine SeqP.exit ?_
    refine LoopP.exit ?_
    have hj : j = pads d.length := (pads_stop hf).1 (by omega)
    subst hj
    refine BlockP.here ?_
    refine SeqP.go ?_
    refine AW.seq ?_
    refine AW.region ?_
    refine OpsW.q rfl (q_move (v := S _) rfl) ?_
    refine OpsW.q rfl (q_lenS Try.underlying9 rfl) ?_
    refine OpsW.q rfl (q_mulI rfl rfl (by omega)) ?_
    refine OpsW.q rfl (q_assign (v := .int _ _) rfl) ?_
    refine OpsW.nil ?_
    refine SeqP.go ?_
    refine AW.seq ?_
    refine AW.seq ?_
    refine AW.region ?_
    refine OpsW.q rfl (q_move (v := .int _ _) rfl) ?_
    refine OpsW.q rfl (q_subI rfl rfl (by omega)) ?_
    refine OpsW.q rfl (q_assign (v := .int _ _) rfl) ?_
    refine OpsW.nil ?_
    refine SeqP.go ?_
    refine AW.block ?_
    refine AW.loop (fun m_ e_ H_ => ∃ (i : Nat) (vs : Value) (e0 : Env), m_ = 8 - i ∧ (i ≤ 8) ∧ e_ = upds e0 [(7, vs), (8, .int .i64 ((d.length : Int) * 8)), (9, .int .i64 ((7 : Int) - (i : Int)))] ∧ Sep H [.vec vs 5 1 ((d.length + 1 + pads d.length) + i) (nums .u8 (ofB (begB d (pads d.length) ++ lenB d.length i)))] H_) _ ⟨0, vs, _, rfl, (by omega), Slots.eq ⟨(by first | rfl | exact i64_int (by omega) (by omega) (by omega) | assumption), (by first | rfl | exact i64_int (by omega) (by omega) (by omega) | assumption), (by show Value.int .i64 _ = Value.int .i64 _; exact congrArg _ (by decide)),  trivial⟩, (by rw [lenB_zero', List.append_nil]; exact hSl0)⟩ ?_
    rintro m_ _ Hl1 ⟨i, vs, e0, rfl, hf, rfl, hSl1⟩
    try clear hSl0
    have hbl := begB_length d (pads d.length)
    have hll := lenB_length d.length i
    have hlb : (d.length : Int) * 8 / 2 ^ min (8 * ((7 : Int) - (i : Int))).toNat IntKind.i64.bits = (8 * (d.length : Int)) / 2 ^ (8 * (7 - i)) := by rw [Int.mul_comm, show min (8 * ((7 : Int) - (i : Int))).toNat IntKind.i64.bits = 8 * (7 - i) from by rw [show IntKind.i64.bits = 64 from rfl]; omega]
    refine AW.seq ?_
    refine AW.seq ?_
    refine AW.region ?_
    refine OpsW.q rfl (q_move (v := .int _ _) rfl) ?_
    refine OpsW.q rfl (q_geq rfl rfl) ?_
    refine OpsW.nil ?_
    refine SeqP.go ?_
    refine AW.cond2 rfl (fun h1 => ?_) (fun h1 => ?_)
    ·
      try simp only [decide_eq_true_eq, decide_eq_false_iff_not, Bool.or_eq_true, Bool.and_eq_true, Bool.or_eq_false_iff, Bool.and_eq_false_imp, Bool.not_eq_true', Bool.not_eq_false', ne_eq, Decidable.not_not, Int.not_lt, Int.not_le, Bool.not_eq_true, Bool.not_eq_false] at h1
      refine AW.exit ?_
      refine SeqP.exit ?_
      refine LoopP.exit ?_
      obtain rfl : i = 8 := by omega
      rw [← fullB_def] at hSl1
      have hfl : (d.length + 1 + pads d.length) + 8 = (fullB d).length := by rw [fullB_def, List.length_append, hbl, hll]
      rw [hfl] at hSl1
      refine BlockP.here ?_
      refine SeqP.go ?_
      refine AW.seq ?_
      refine AW.region ?_
      refine OpsW.q rfl (q_move (v := vs) rfl) ?_
      refine OpsW.q rfl (q_assign (v := vs) rfl) ?_
      refine OpsW.nil ?_
      refine SeqP.go ?_
      refine AW.ret ?_
      refine RetP.mk1 (H' := Hl1) (v1 := vs) rfl rfl  (Hp.le_refl _) ?_
      exact hSl1
    try simp only [decide_eq_true_eq, decide_eq_false_iff_not, Bool.or_eq_true, Bool.and_eq_true, Bool.or_eq_false_iff, Bool.and_eq_false_imp, Bool.not_eq_true', Bool.not_eq_false', ne_eq, Decidable.not_not, Int.not_lt, Int.not_le, Bool.not_eq_true, Bool.not_eq_false] at h1
    refine AW.skip ?_
    refine SeqP.go ?_
    refine AW.seq ?_
    refine AW.block ?_
    refine AW.seq ?_
    refine AW.region ?_
    refine OpsW.q rfl (q_move (v := .int _ _) rfl) ?_
    refine OpsW.q rfl (q_gtr rfl rfl) ?_
    refine OpsW.nil ?_
    refine SeqP.go ?_
    refine AW.cond rfl (fun h2 => ?_) (fun h2 => ?_)
    ·
      exfalso
      try simp only [decide_eq_true_eq, decide_eq_false_iff_not, Bool.or_eq_true, Bool.and_eq_true, Bool.or_eq_false_iff, Bool.and_eq_false_imp, Bool.not_eq_true', Bool.not_eq_false', ne_eq, Decidable.not_not, Int.not_lt, Int.not_le, Bool.not_eq_true, Bool.not_eq_false] at h2
      omega
    try simp only [decide_eq_true_eq, decide_eq_false_iff_not, Bool.or_eq_true, Bool.and_eq_true, Bool.or_eq_false_iff, Bool.and_eq_false_imp, Bool.not_eq_true', Bool.not_eq_false', ne_eq, Decidable.not_not, Int.not_lt, Int.not_le, Bool.not_eq_true, Bool.not_eq_false] at h2
    refine AW.region ?_
    refine OpsW.q rfl (q_move (v := vs) rfl) ?_
    refine OpsW.q rfl (q_move (v := .int _ _) rfl) ?_
    refine OpsW.q rfl (q_move (v := .int _ _) rfl) ?_
    refine OpsW.q rfl (q_mulI rfl rfl (by omega)) ?_
    refine OpsW.q rfl (q_shr rfl rfl (by first | omega | decide)) ?_
    refine OpsW.q rfl (q_convB8 rfl Try.underlying5 rfl) ?_
    rw [hlb]
    refine OpsW.m rfl (s_buildSlice (z := .int .u8 0) (vs := nums .u8 (ofB [_])) hSl1 Try.underlying72 (by kernel_rfl) (by kernel_rfl) rfl (by rfl) (by rfl) (by decide) rfl (nums_one _ _) rfl) ?_
    rintro v45 H4 hS4
    clear hSl1
    refine OpsW.m rfl (s_append (sz := 1) (by_ := 1) (z := .int .u8 0) hS4 at1 Try.underlying72 (by kernel_rfl) (by kernel_rfl) (by kernel_rfl) rfl (by kernel_rfl) rfl rfl (src_vec (hS4.vec at0) (nums_one _ _)) (by first | (with_reducible assumption) | omega | (unfold maxLen; omega) | (simp only [nums_length, List.length_set, List.length_replicate, List.length_take, List.length_drop, List.length_append, List.length_cons, List.length_nil, ofB_length, toB_length]; omega) | (simp only [nums_length, List.length_set, List.length_replicate, List.length_take, List.length_drop, List.length_append, List.length_cons, List.length_nil, ofB_length, toB_length]; unfold maxLen; omega) | (simp; done) | (simp; omega) | rfl | decide) (by first | (with_reducible assumption) | omega | (unfold maxLen; omega) | (simp only [nums_length, List.length_set, List.length_replicate, List.length_take, List.length_drop, List.length_append, List.length_cons, List.length_nil, ofB_length, toB_length]; omega) | (simp only [nums_length, List.length_set, List.length_replicate, List.length_take, List.length_drop, List.length_append, List.length_cons, List.length_nil, ofB_length, toB_length]; unfold maxLen; omega) | (simp; done) | (simp; omega) | rfl | decide)) ?_
    rintro v46 H5 hS5
    clear hS4
    rw [← nums_append, ← ofB_app] at hS5
    replace hS5 := hS5.del del0
    refine OpsW.q rfl (q_assign (v := v46) rfl) ?_
    refine OpsW.nil ?_
    refine BlockP.go ?_
    refine SeqP.go ?_
    refine AW.region ?_
    refine OpsW.q rfl (q_move (v := .int _ _) rfl) ?_
    refine OpsW.q rfl (q_subI rfl rfl (by omega)) ?_
    refine OpsW.q rfl (q_assign (v := .int _ _) rfl) ?_
    refine OpsW.nil ?_
    exact LoopP.go _ (by omega) ⟨i + 1, v46, _, rfl, (by omega), Slots.eq ⟨(by first | rfl | exact i64_int (by omega) (by omega) (by omega) | assumption), (by first | rfl | exact i64_int (by omega) (by omega) (by omega) | assumption), (by show Value.int .i64 _ = Value.int .i64 _; exact congrArg _ (by omega)),  trivial⟩, (by rw [lenB_succ, ← List.append_assoc]; exact hS5)⟩
  try simp only [decide_eq_true_eq, decide_eq_false_iff_not, Bool.or_eq_true, Bool.and_eq_true, Bool.or_eq_false_iff, Bool.and_eq_false_imp, Bool.not_eq_true', Bool.not_eq_false', ne_eq, Decidable.not_not, Int.not_lt, Int.not_le, Bool.not_eq_true, Bool.not_eq_false] at h0
  have hjl : j < pads d.length := by { rcases Nat.lt_or_ge j (pads d.length) with g | g; exact g; exfalso; have hz := (pads_stop hf).2 (by omega); omega }
  refine AW.skip ?_
  refine SeqP.go ?_
  refine AW.block ?_
  refine AW.region ?_
  refine OpsW.q rfl (q_move (v := vs) rfl) ?_
  refine OpsW.m rfl (s_buildSlice (z := .int .u8 0) (vs := nums .u8 (ofB [0])) hSl0 Try.underlying72 (by kernel_rfl) (by kernel_rfl) rfl (by rfl) (by rfl) (by decide) rfl (nums_one _ _) rfl) ?_
  rintro v23 H6 hS6
  clear hSl0
  refine OpsW.m rfl (s_append (sz := 1) (by_ := 1) (z := .int .u8 0) hS6 at1 Try.underlying72 (by kernel_rfl) (by kernel_rfl) (by kernel_rfl) rfl (by kernel_rfl) rfl rfl (src_vec (hS6.vec at0) (nums_one _ _)) (by first | (with_reducible assumption) | omega | (unfold maxLen; omega) | (simp only [nums_length, List.length_set, List.length_replicate, List.length_take, List.length_drop, List.length_append, List.length_cons, List.length_nil, ofB_length, toB_length]; omega) | (simp only [nums_length, List.length_set, List.length_replicate, List.length_take, List.length_drop, List.length_append, List.length_cons, List.length_nil, ofB_length, toB_length]; unfold maxLen; omega) | (simp; done) | (simp; omega) | rfl | decide) (by first | (with_reducible assumption) | omega | (unfold maxLen; omega) | (simp only [nums_length, List.length_set, List.length_replicate, List.length_take, List.length_drop, List.length_append, List.length_cons, List.length_nil, ofB_length, toB_length]; omega) | (simp only [nums_length, List.length_set, List.length_replicate, List.length_take, List.length_drop, List.length_append, List.length_cons, List.length_nil, ofB_length, toB_length]; unfold maxLen; omega) | (simp; done) | (simp; omega) | rfl | decide)) ?_
  rintro v24 H7 hS7
  clear hS6
  rw [← nums_append, ← ofB_app] at hS7
  replace hS7 := hS7.del del0
  refine OpsW.q rfl (q_assign (v := v24) rfl) ?_
  refine OpsW.nil ?_
  refine BlockP.go ?_
  exact LoopP.go _ (by omega) ⟨j + 1, v24, _, rfl, (by omega), Slots.eq ⟨(by first | rfl | exact i64_int (by omega) (by omega) (by omega) | assumption), (by first | rfl | exact i64_int (by omega) (by omega) (by omega) | assumption), (by first | rfl | exact i64_int (by omega) (by omega) (by omega) | assumption), (by first | rfl | exact i64_int (by omega) (by omega) (by omega) | assumption),  trivial⟩, (by rw [begB_succ]; exact hS7)⟩
theorem Sum256R_con {d : List UInt8} (hm : d.length ≤ 1099511627776) : Con Try.prog w0 52 #[S d] H (fun v H' => v = S (sha256 d) ∧ H' = H) := by
  have hS0 : Sep H [] H := Sep.refl
  have hkl := kL_len
  have hsl := stL0_len
  have hflm := fullB_length d
  refine Con.intro Try.func52 rfl rfl ?_
  refine AW.seq ?_
  refine AW.region ?_
  refine OpsW.q rfl (q_assign (v := S _) rfl) ?_
  refine OpsW.nil ?_
  refine SeqP.go ?_
  refine AW.seq ?_
  refine AW.region ?_
  refine OpsW.m rfl (o_call rfl Try.func58 rfl rfl (constantsR_con)) ?_
  rintro v21 H1 hR1
  have hS1 := hS0.join hR1
  simp only [List.cons_append, List.nil_append] at hS1
  clear hR1 hS0
  refine OpsW.q rfl (q_assign (v := v21) rfl) ?_
  refine OpsW.nil ?_
  refine SeqP.go ?_
  refine AW.seq ?_
  refine AW.region ?_
  refine OpsW.m rfl (o_call rfl Try.func59 rfl rfl (beginningsR_con)) ?_
  rintro v22 H2 hR2
  have hS2 := hS1.join hR2
  simp only [List.cons_append, List.nil_append] at hS2
  clear hR2 hS1
  refine OpsW.q rfl (q_assign (v := v22) rfl) ?_
  refine OpsW.nil ?_
  refine SeqP.go ?_
  refine AW.seq ?_
  refine AW.region ?_
  refine OpsW.q rfl (q_assign (v := .slice _ _ _) rfl) ?_
  refine OpsW.nil ?_
  refine SeqP.go ?_
  refine AW.seq ?_
  refine AW.seq ?_
  refine AW.region ?_
  refine OpsW.q rfl (q_assign (v := .int _ _) rfl) ?_
  refine OpsW.nil ?_
  refine SeqP.go ?_
  refine AW.block ?_
  replace hS2 := hS2.nil (el := 96) (sz := 1)
  refine AW.loop (fun m_ e_ H_ => ∃ (i : Nat) (vh : Value) (e0 : Env), m_ = 8 - i ∧ (i ≤ 8) ∧ e_ = upds e0 [(0, S d), (3, v21), (4, v22), (5, vh), (6, .int .i64 (i : Int))] ∧ Sep H [.vec vh 96 1 i (nums .u32 (stR i)), .vec v22 97 1 8 (nums .u64 stL0), .vec v21 97 1 80 (nums .u64 kL)] H_) _ ⟨0, nilV, _, rfl, (by omega), Slots.eq ⟨(by first | rfl | exact i64_int (by omega) (by omega) (by omega) | assumption), (by first | rfl | exact i64_int (by omega) (by omega) (by omega) | assumption), (by first | rfl | exact i64_int (by omega) (by omega) (by omega) | assumption), (by first | rfl | exact i64_int (by omega) (by omega) (by omega) | assumption), (by first | rfl | exact i64_int (by omega) (by omega) (by omega) | assumption),  trivial⟩, (by rw [stR_zero]; exact hS2)⟩ ?_
  rintro m_ _ Hl0 ⟨i, vh, e0, rfl, hf, rfl, hSl0⟩
  try clear hS2
  have hrl := stR_length hf
  refine AW.seq ?_
  refine AW.seq ?_
  refine AW.region ?_
  refine OpsW.q rfl (q_move (v := .int _ _) rfl) ?_
  refine OpsW.q rfl (q_lss rfl rfl) ?_
  refine OpsW.nil ?_
  refine SeqP.go ?_
  refine AW.cond2 rfl (fun h0 => ?_) (fun h0 => ?_)
  ·
    try simp only [decide_eq_true_eq, decide_eq_false_iff_not, Bool.or_eq_true, Bool.and_eq_true, Bool.or_eq_false_iff, Bool.and_eq_false_imp, Bool.not_eq_true', Bool.not_eq_false', ne_eq, Decidable.not_not, Int.not_lt, Int.not_le, Bool.not_eq_true, Bool.not_eq_false] at h0
    refine AW.exit ?_
    refine SeqP.exit ?_
    refine LoopP.exit ?_
    obtain rfl : i = 8 := by omega
    rw [stR_fin] at hSl0
    refine BlockP.here ?_
    refine SeqP.go ?_
    refine AW.seq ?_
    refine AW.region ?_
    refine OpsW.q rfl (q_move (v := S _) rfl) ?_
    refine OpsW.m rfl (o_call rfl Try.func60 rfl rfl (fullR_con hm)) ?_
    rintro v37 H3 hR3
    have hS3 := hSl0.join hR3
    simp only [List.cons_append, List.nil_append] at hS3
    clear hR3 hSl0
    refine OpsW.q rfl (q_assign (v := v37) rfl) ?_
    refine OpsW.nil ?_
    refine SeqP.go ?_
    refine AW.seq ?_
    refine AW.seq ?_
    refine AW.region ?_
    refine OpsW.q rfl (q_assign (v := .int _ _) rfl) ?_
    refine OpsW.nil ?_
    refine SeqP.go ?_
    refine AW.block ?_
    replace hS3 := Sep.bring del0 hS3
    replace hS3 := Sep.bring del3 hS3
    replace hS3 := Sep.bring del2 hS3
    replace hS3 := hS3.del del3
    refine AW.loop (fun m_ e_ H_ => ∃ (i : Nat) (vh : Value) (e0 : Env), m_ = (fullB d).length - 64 * i ∧ (64 * i ≤ (fullB d).length) ∧ e_ = upds e0 [(3, v21), (5, vh), (7, v37), (8, .int .i64 ((64 * i : Nat) : Int))] ∧ Sep H [.vec vh 96 1 8 (nums .u32 (hashW d i)), .vec v21 97 1 80 (nums .u64 kL), .vec v37 5 1 ((fullB d).length) (nums .u8 (ofB (fullB d)))] H_) _ ⟨0, vh, _, rfl, (by omega), Slots.eq ⟨(by first | rfl | exact i64_int (by omega) (by omega) (by omega) | assumption), (by first | rfl | exact i64_int (by omega) (by omega) (by omega) | assumption), (by first | rfl | exact i64_int (by omega) (by omega) (by omega) | assumption), (by first | rfl | exact i64_int (by omega) (by omega) (by omega) | assumption),  trivial⟩, (by rw [hashW_zero']; exact hS3)⟩ ?_
    rintro m_ _ Hl1 ⟨i, vh, e0, rfl, hf, rfl, hSl1⟩
    try clear hS3
    have hhl := hashW_length d i
    refine AW.seq ?_
    refine AW.seq ?_
    refine AW.region ?_
    refine OpsW.q rfl (q_move (v := .int _ _) rfl) ?_
    refine OpsW.q rfl (q_move (v := v37) rfl) ?_
    refine OpsW.q rfl (q_lenVec Try.underlying72 rfl (hSl1.vec at2)) ?_
    refine OpsW.q rfl (q_lss rfl rfl) ?_
    refine OpsW.nil ?_
    refine SeqP.go ?_
    refine AW.cond2 rfl (fun h1 => ?_) (fun h1 => ?_)
    ·
      try simp only [decide_eq_true_eq, decide_eq_false_iff_not, Bool.or_eq_true, Bool.and_eq_true, Bool.or_eq_false_iff, Bool.and_eq_false_imp, Bool.not_eq_true', Bool.not_eq_false', ne_eq, Decidable.not_not, Int.not_lt, Int.not_le, Bool.not_eq_true, Bool.not_eq_false] at h1
      refine AW.exit ?_
      refine SeqP.exit ?_
      refine LoopP.exit ?_
      have hi : i = (fullB d).length / 64 := by omega
      subst hi
      refine BlockP.here ?_
      refine SeqP.go ?_
      refine AW.seq ?_
      refine AW.region ?_
      refine OpsW.q rfl (q_assign (v := .slice _ _ _) rfl) ?_
      refine OpsW.nil ?_
      refine SeqP.go ?_
      refine AW.seq ?_
      refine AW.seq ?_
      refine AW.region ?_
      refine OpsW.q rfl (q_assign (v := .int _ _) rfl) ?_
      refine OpsW.nil ?_
      refine SeqP.go ?_
      refine AW.block ?_
      replace hSl1 := hSl1.nil (el := 5) (sz := 1)
      replace hSl1 := hSl1.del del2
      replace hSl1 := hSl1.del del2
      refine AW.loop (fun m_ e_ H_ => ∃ (i : Nat) (vo : Value) (e0 : Env), m_ = 8 - i ∧ (i ≤ 8) ∧ e_ = upds e0 [(5, vh), (19, vo), (20, .int .i64 (i : Int))] ∧ Sep H [.vec vo 5 1 (4 * i) (nums .u8 (ofB (outW (hashW d ((fullB d).length / 64)) i))), .vec vh 96 1 8 (nums .u32 (hashW d ((fullB d).length / 64)))] H_) _ ⟨0, nilV, _, rfl, (by omega), Slots.eq ⟨(by first | rfl | exact i64_int (by omega) (by omega) (by omega) | assumption), (by first | rfl | exact i64_int (by omega) (by omega) (by omega) | assumption), (by first | rfl | exact i64_int (by omega) (by omega) (by omega) | assumption),  trivial⟩, (by rw [outW_zero']; exact hSl1)⟩ ?_
      rintro m_ _ Hl5 ⟨i, vo, e0, rfl, hf, rfl, hSl5⟩
      try clear hSl1
      have hhl := hashW_length d ((fullB d).length / 64)
      have hol := outW_length (hashW d ((fullB d).length / 64)) i
      refine AW.seq ?_
      refine AW.seq ?_
      refine AW.region ?_
      refine OpsW.q rfl (q_move (v := .int _ _) rfl) ?_
      refine OpsW.q rfl (q_lss rfl rfl) ?_
      refine OpsW.nil ?_
      refine SeqP.go ?_
      refine AW.cond2 rfl (fun h6 => ?_) (fun h6 => ?_)
      ·
        try simp only [decide_eq_true_eq, decide_eq_false_iff_not, Bool.or_eq_true, Bool.and_eq_true, Bool.or_eq_false_iff, Bool.and_eq_false_imp, Bool.not_eq_true', Bool.not_eq_false', ne_eq, Decidable.not_not, Int.not_lt, Int.not_le, Bool.not_eq_true, Bool.not_eq_false] at h6
        refine AW.exit ?_
        refine SeqP.exit ?_
        refine LoopP.exit ?_
        obtain rfl : i = 8 := by omega
        refine BlockP.here ?_
        refine SeqP.go ?_
        refine AW.seq ?_
        refine AW.region ?_
        refine OpsW.q rfl (q_move (v := vo) rfl) ?_
        refine OpsW.q rfl (q_stringB (hSl5.vec at0) Try.underlying72 Try.underlying5 Try.underlying9 rfl) ?_
        refine OpsW.q rfl (q_assign (v := S _) rfl) ?_
        refine OpsW.nil ?_
        refine SeqP.go ?_
        refine AW.ret ?_
        refine RetP.mk1 (H' := H) (v1 := S _) rfl rfl  hSl5.le ?_
        exact ⟨by rw [sha256_def], rfl⟩
      try simp only [decide_eq_true_eq, decide_eq_false_iff_not, Bool.or_eq_true, Bool.and_eq_true, Bool.or_eq_false_iff, Bool.and_eq_false_imp, Bool.not_eq_true', Bool.not_eq_false', ne_eq, Decidable.not_not, Int.not_lt, Int.not_le, Bool.not_eq_true, Bool.not_eq_false] at h6
      refine AW.skip ?_
      refine SeqP.go ?_
      refine AW.seq ?_
      refine AW.block ?_
      refine AW.drawD 24 0 rfl (by kernel_rfl) (by kernel_rfl) ?_
      refine SeqD.a rfl (fun _ => q_move (v := vo) rfl) ?_
      refine SeqD.a rfl (fun _ => q_move (v := vh) rfl) ?_
      refine SeqD.a rfl (fun _ => q_move (v := .int _ _) rfl) ?_
      refine SeqD.b (by kernel_rfl) rfl (q_indexV1 (hSl5.vec at1) Try.underlying95 (by kernel_rfl) rfl rfl (by first | omega | decide) (by first | omega | decide)) ?_
      refine SeqD.b (by kernel_rfl) rfl (q_loadVN (hSl5.vec at1) (by kernel_rfl) rfl (by first | (with_reducible assumption) | omega | (unfold maxLen; omega) | (simp only [nums_length, List.length_set, List.length_replicate, List.length_take, List.length_drop, List.length_append, List.length_cons, List.length_nil, ofB_length, toB_length]; omega) | (simp only [nums_length, List.length_set, List.length_replicate, List.length_take, List.length_drop, List.length_append, List.length_cons, List.length_nil, ofB_length, toB_length]; unfold maxLen; omega) | (simp; done) | (simp; omega) | rfl | decide)) ?_
      refine SeqD.a rfl (fun _ => q_shrL 24 rfl rfl (by decide) rfl) ?_
      refine SeqD.a rfl (fun _ => q_convB8 rfl Try.underlying5 rfl) ?_
      refine SeqD.a rfl (fun _ => q_move (v := vh) rfl) ?_
      refine SeqD.a rfl (fun _ => q_move (v := .int _ _) rfl) ?_
      refine SeqD.b (by kernel_rfl) rfl (q_indexV1 (hSl5.vec at1) Try.underlying95 (by kernel_rfl) rfl rfl (by first | omega | decide) (by first | omega | decide)) ?_
      refine SeqD.b (by kernel_rfl) rfl (q_loadVN (hSl5.vec at1) (by kernel_rfl) rfl (by first | (with_reducible assumption) | omega | (unfold maxLen; omega) | (simp only [nums_length, List.length_set, List.length_replicate, List.length_take, List.length_drop, List.length_append, List.length_cons, List.length_nil, ofB_length, toB_length]; omega) | (simp only [nums_length, List.length_set, List.length_replicate, List.length_take, List.length_drop, List.length_append, List.length_cons, List.length_nil, ofB_length, toB_length]; unfold maxLen; omega) | (simp; done) | (simp; omega) | rfl | decide)) ?_
      refine SeqD.a rfl (fun _ => q_shrL 16 rfl rfl (by decide) rfl) ?_
      refine SeqD.a rfl (fun _ => q_convB8 rfl Try.underlying5 rfl) ?_
      refine SeqD.a rfl (fun _ => q_move (v := vh) rfl) ?_
      refine SeqD.a rfl (fun _ => q_move (v := .int _ _) rfl) ?_
      refine SeqD.b (by kernel_rfl) rfl (q_indexV1 (hSl5.vec at1) Try.underlying95 (by kernel_rfl) rfl rfl (by first | omega | decide) (by first | omega | decide)) ?_
      refine SeqD.b (by kernel_rfl) rfl (q_loadVN (hSl5.vec at1) (by kernel_rfl) rfl (by first | (with_reducible assumption) | omega | (unfold maxLen; omega) | (simp only [nums_length, List.length_set, List.length_replicate, List.length_take, List.length_drop, List.length_append, List.length_cons, List.length_nil, ofB_length, toB_length]; omega) | (simp only [nums_length, List.length_set, List.length_replicate, List.length_take, List.length_drop, List.length_append, List.length_cons, List.length_nil, ofB_length, toB_length]; unfold maxLen; omega) | (simp; done) | (simp; omega) | rfl | decide)) ?_
      refine SeqD.a rfl (fun _ => q_shrL 8 rfl rfl (by decide) rfl) ?_
      refine SeqD.a rfl (fun _ => q_convB8 rfl Try.underlying5 rfl) ?_
      refine SeqD.a rfl (fun _ => q_move (v := vh) rfl) ?_
      refine SeqD.a rfl (fun _ => q_move (v := .int _ _) rfl) ?_
      refine SeqD.b (by kernel_rfl) rfl (q_indexV1 (hSl5.vec at1) Try.underlying95 (by kernel_rfl) rfl rfl (by first | omega | decide) (by first | omega | decide)) ?_
      refine SeqD.b (by kernel_rfl) rfl (q_loadVN (hSl5.vec at1) (by kernel_rfl) rfl (by first | (with_reducible assumption) | omega | (unfold maxLen; omega) | (simp only [nums_length, List.length_set, List.length_replicate, List.length_take, List.length_drop, List.length_append, List.length_cons, List.length_nil, ofB_length, toB_length]; omega) | (simp only [nums_length, List.length_set, List.length_replicate, List.length_take, List.length_drop, List.length_append, List.length_cons, List.length_nil, ofB_length, toB_length]; unfold maxLen; omega) | (simp; done) | (simp; omega) | rfl | decide)) ?_
      refine SeqD.a rfl (fun _ => q_convB8 rfl Try.underlying5 rfl) ?_
      refine SeqD.x rfl (s_buildSlice (z := .int .u8 0) (vs := nums .u8 (ofB [_, _, _, _])) hSl5 Try.underlying72 (by kernel_rfl) (by kernel_rfl) rfl (by rfl) (by rfl) (by decide) rfl (nums_one _ _) rfl) ?_
      rintro v307 H4 hS4
      clear hSl5
      refine ⟨trivial, ?_⟩
      refine SeqR2.done ?_
      refine OpsW.m rfl (s_append (sz := 1) (by_ := 1) (z := .int .u8 0) hS4 at1 Try.underlying72 (by kernel_rfl) (by kernel_rfl) (by kernel_rfl) rfl (by kernel_rfl) rfl rfl (src_vec (hS4.vec at0) (nums_one _ _)) (by first | (with_reducible assumption) | omega | (unfold maxLen; omega) | (simp only [nums_length, List.length_set, List.length_replicate, List.length_take, List.length_drop, List.length_append, List.length_cons, List.length_nil, ofB_length, toB_length]; omega) | (simp only [nums_length, List.length_set, List.length_replicate, List.length_take, List.length_drop, List.length_append, List.length_cons, List.length_nil, ofB_length, toB_length]; unfold maxLen; omega) | (simp; done) | (simp; omega) | rfl | decide) (by first | (with_reducible assumption) | omega | (unfold maxLen; omega) | (simp only [nums_length, List.length_set, List.length_replicate, List.length_take, List.length_drop, List.length_append, List.length_cons, List.length_nil, ofB_length, toB_length]; omega) | (simp only [nums_length, List.length_set, List.length_replicate, List.length_take, List.length_drop, List.length_append, List.length_cons, List.length_nil, ofB_length, toB_length]; unfold maxLen; omega) | (simp; done) | (simp; omega) | rfl | decide)) ?_
      rintro v308 H5 hS5
      clear hS4
      rw [← nums_append, ← ofB_app] at hS5
      replace hS5 := hS5.del del0
      refine OpsW.q rfl (q_assign (v := v308) rfl) ?_
      refine OpsW.nil ?_
      refine BlockP.go ?_
      refine SeqP.go ?_
      refine AW.region ?_
      refine OpsW.q rfl (q_move (v := .int _ _) rfl) ?_
      refine OpsW.q rfl (q_addI rfl rfl (by omega)) ?_
      refine OpsW.q rfl (q_assign (v := .int _ _) rfl) ?_
      refine OpsW.nil ?_
      exact LoopP.go _ (by omega) ⟨i + 1, v308, _, rfl, (by omega), Slots.eq ⟨(by first | rfl | exact i64_int (by omega) (by omega) (by omega) | assumption), (by first | rfl | exact i64_int (by omega) (by omega) (by omega) | assumption), (by first | rfl | exact i64_int (by omega) (by omega) (by omega) | assumption),  trivial⟩, (by rw [outW_succ, outB4_four]; exact hS5)⟩
    try simp only [decide_eq_true_eq, decide_eq_false_iff_not, Bool.or_eq_true, Bool.and_eq_true, Bool.or_eq_false_iff, Bool.and_eq_false_imp, Bool.not_eq_true', Bool.not_eq_false', ne_eq, Decidable.not_not, Int.not_lt, Int.not_le, Bool.not_eq_true, Bool.not_eq_false] at h1
    have hup : 64 * i + 64 ≤ (fullB d).length := by omega
    refine AW.skip ?_
    refine SeqP.go ?_
    refine AW.seq ?_
    refine AW.block ?_
    refine AW.seq ?_
    refine AW.region ?_
    refine OpsW.q rfl (q_assign (v := .slice _ _ _) rfl) ?_
    refine OpsW.nil ?_
    refine SeqP.go ?_
    refine AW.seq ?_
    refine AW.seq ?_
    refine AW.region ?_
    refine OpsW.q rfl (q_assign (v := .int _ _) rfl) ?_
    refine OpsW.nil ?_
    refine SeqP.go ?_
    refine AW.block ?_
    replace hSl1 := hSl1.nil (el := 96) (sz := 1)
    refine AW.loop (fun m_ e_ H_ => ∃ (t : Nat) (vw : Value) (e0 : Env), m_ = 64 - t ∧ (t ≤ 64) ∧ e_ = upds e0 [(3, v21), (5, vh), (7, v37), (8, .int .i64 ((64 * i : Nat) : Int)), (9, vw), (10, .int .i64 (t : Int))] ∧ Sep H [.vec vw 96 1 t (nums .u32 (wsK (((fullB d).drop (64 * i)).take 64) t)), .vec vh 96 1 8 (nums .u32 (hashW d i)), .vec v21 97 1 80 (nums .u64 kL), .vec v37 5 1 ((fullB d).length) (nums .u8 (ofB (fullB d)))] H_) _ ⟨0, nilV, _, rfl, (by omega), Slots.eq ⟨(by first | rfl | exact i64_int (by omega) (by omega) (by omega) | assumption), (by first | rfl | exact i64_int (by omega) (by omega) (by omega) | assumption), (by first | rfl | exact i64_int (by omega) (by omega) (by omega) | assumption), (by first | rfl | exact i64_int (by omega) (by omega) (by omega) | assumption), (by first | rfl | exact i64_int (by omega) (by omega) (by omega) | assumption), (by first | rfl | exact i64_int (by omega) (by omega) (by omega) | assumption),  trivial⟩, (by rw [wsK_zero']; exact hSl1)⟩ ?_
    rintro m_ _ Hl2 ⟨t, vw, e0, rfl, hf, rfl, hSl2⟩
    try clear hSl1
    have hwl := wsK_length (((fullB d).drop (64 * i)).take 64) t
    refine AW.seq ?_
    refine AW.seq ?_
    refine AW.region ?_
    refine OpsW.q rfl (q_move (v := .int _ _) rfl) ?_
    refine OpsW.q rfl (q_lss rfl rfl) ?_
    refine OpsW.nil ?_
    refine SeqP.go ?_
    refine AW.cond2 rfl (fun h2 => ?_) (fun h2 => ?_)
    ·
      try simp only [decide_eq_true_eq, decide_eq_false_iff_not, Bool.or_eq_true, Bool.and_eq_true, Bool.or_eq_false_iff, Bool.and_eq_false_imp, Bool.not_eq_true', Bool.not_eq_false', ne_eq, Decidable.not_not, Int.not_lt, Int.not_le, Bool.not_eq_true, Bool.not_eq_false] at h2
      refine AW.exit ?_
      refine SeqP.exit ?_
      refine LoopP.exit ?_
      obtain rfl : t = 64 := by omega
      refine BlockP.here ?_
      refine SeqP.go ?_
      refine AW.seq ?_
      refine AW.region ?_
      refine OpsW.q rfl (q_assign (v := .slice _ _ _) rfl) ?_
      refine OpsW.nil ?_
      refine SeqP.go ?_
      refine AW.seq ?_
      refine AW.region ?_
      refine OpsW.q rfl (q_move (v := .slice _ _ _) rfl) ?_
      refine OpsW.q rfl (q_move (v := vh) rfl) ?_
      refine OpsW.m rfl (s_append0 (sz := 1) (by_ := 4) (z := .int .u32 0) hSl2 Try.underlying95 (by kernel_rfl) (by kernel_rfl) (by kernel_rfl) rfl (by kernel_rfl) rfl rfl (src_vec (hSl2.vec at1) (nums_one _ _)) (by first | (with_reducible assumption) | omega | (unfold maxLen; omega) | (simp only [nums_length, List.length_set, List.length_replicate, List.length_take, List.length_drop, List.length_append, List.length_cons, List.length_nil, ofB_length, toB_length]; omega) | (simp only [nums_length, List.length_set, List.length_replicate, List.length_take, List.length_drop, List.length_append, List.length_cons, List.length_nil, ofB_length, toB_length]; unfold maxLen; omega) | (simp; done) | (simp; omega) | rfl | decide) (by first | (with_reducible assumption) | omega | (unfold maxLen; omega) | (simp only [nums_length, List.length_set, List.length_replicate, List.length_take, List.length_drop, List.length_append, List.length_cons, List.length_nil, ofB_length, toB_length]; omega) | (simp only [nums_length, List.length_set, List.length_replicate, List.length_take, List.length_drop, List.length_append, List.length_cons, List.length_nil, ofB_length, toB_length]; unfold maxLen; omega) | (simp; done) | (simp; omega) | rfl | decide)) ?_
      rintro v146 H6 hS6
      clear hSl2
      refine OpsW.q rfl (q_assign (v := v146) rfl) ?_
      refine OpsW.nil ?_
      refine SeqP.go ?_
      refine AW.seq ?_
      refine AW.seq ?_
      refine AW.region ?_
      refine OpsW.q rfl (q_assign (v := .int _ _) rfl) ?_
      refine OpsW.nil ?_
      refine SeqP.go ?_
      refine AW.block ?_
      refine AW.loop (fun m_ e_ H_ => ∃ (t : Nat) (vv : Value) (e0 : Env), m_ = 64 - t ∧ (t ≤ 64) ∧ e_ = upds e0 [(3, v21), (5, vh), (7, v37), (8, .int .i64 ((64 * i : Nat) : Int)), (9, vw), (14, vv), (15, .int .i64 (t : Int))] ∧ Sep H [.vec vv 96 1 8 (nums .u32 (prK (hashW d i) (((fullB d).drop (64 * i)).take 64) t)), .vec vw 96 1 64 (nums .u32 (wsK (((fullB d).drop (64 * i)).take 64) 64)), .vec vh 96 1 8 (nums .u32 (hashW d i)), .vec v21 97 1 80 (nums .u64 kL), .vec v37 5 1 ((fullB d).length) (nums .u8 (ofB (fullB d)))] H_) _ ⟨0, v146, _, rfl, (by omega), Slots.eq ⟨(by first | rfl | exact i64_int (by omega) (by omega) (by omega) | assumption), (by first | rfl | exact i64_int (by omega) (by omega) (by omega) | assumption), (by first | rfl | exact i64_int (by omega) (by omega) (by omega) | assumption), (by first | rfl | exact i64_int (by omega) (by omega) (by omega) | assumption), (by first | rfl | exact i64_int (by omega) (by omega) (by omega) | assumption), (by first | rfl | exact i64_int (by omega) (by omega) (by omega) | assumption), (by first | rfl | exact i64_int (by omega) (by omega) (by omega) | assumption),  trivial⟩, (by rw [prK_zero']; exact hS6)⟩ ?_
      rintro m_ _ Hl3 ⟨t, vv, e0, rfl, hf, rfl, hSl3⟩
      try clear hS6
      have hpl := prK_length hhl (((fullB d).drop (64 * i)).take 64) t
      have hux : IntKind.u32.wrap (IntKind.u32.wrap (IntKind.u32.wrap (IntKind.u32.wrap (((prK (hashW d i) (((fullB d).drop (64 * i)).take 64) t).getD (Int.toNat 7) 0) + ixor .u32 (ixor .u32 (rt ((prK (hashW d i) (((fullB d).drop (64 * i)).take 64) t).getD (Int.toNat 4) 0) 6) (rt ((prK (hashW d i) (((fullB d).drop (64 * i)).take 64) t).getD (Int.toNat 4) 0) 11)) (rt ((prK (hashW d i) (((fullB d).drop (64 * i)).take 64) t).getD (Int.toNat 4) 0) 25)) + ixor .u32 (iand .u32 ((prK (hashW d i) (((fullB d).drop (64 * i)).take 64) t).getD (Int.toNat 4) 0) ((prK (hashW d i) (((fullB d).drop (64 * i)).take 64) t).getD (Int.toNat 5) 0)) (iand .u32 (ixor .u32 IntKind.u32.max ((prK (hashW d i) (((fullB d).drop (64 * i)).take 64) t).getD (Int.toNat 4) 0)) ((prK (hashW d i) (((fullB d).drop (64 * i)).take 64) t).getD (Int.toNat 6) 0))) + IntKind.u32.wrap (kL.getD (t : Int).toNat 0 / 2 ^ 32)) + (wsK (((fullB d).drop (64 * i)).take 64) 64).getD (t : Int).toNat 0) = uW (prK (hashW d i) (((fullB d).drop (64 * i)).take 64) t) (kW t) ((wsK (((fullB d).drop (64 * i)).take 64) 64).getD t 0) := by rw [uW_def, whl_def, chW_def, notW_def, kW_def]; simp only [w32_def]; first | done | rfl
      have hox : IntKind.u32.wrap (ixor .u32 (ixor .u32 (rt ((prK (hashW d i) (((fullB d).drop (64 * i)).take 64) t).getD (Int.toNat 0) 0) 2) (rt ((prK (hashW d i) (((fullB d).drop (64 * i)).take 64) t).getD (Int.toNat 0) 0) 13)) (rt ((prK (hashW d i) (((fullB d).drop (64 * i)).take 64) t).getD (Int.toNat 0) 0) 22) + ixor .u32 (ixor .u32 (iand .u32 ((prK (hashW d i) (((fullB d).drop (64 * i)).take 64) t).getD (Int.toNat 0) 0) ((prK (hashW d i) (((fullB d).drop (64 * i)).take 64) t).getD (Int.toNat 1) 0)) (iand .u32 ((prK (hashW d i) (((fullB d).drop (64 * i)).take 64) t).getD (Int.toNat 0) 0) ((prK (hashW d i) (((fullB d).drop (64 * i)).take 64) t).getD (Int.toNat 2) 0))) (iand .u32 ((prK (hashW d i) (((fullB d).drop (64 * i)).take 64) t).getD (Int.toNat 1) 0) ((prK (hashW d i) (((fullB d).drop (64 * i)).take 64) t).getD (Int.toNat 2) 0))) = oW (prK (hashW d i) (((fullB d).drop (64 * i)).take 64) t) := by rw [oW_def, whl_def, majW_def]; simp only [w32_def]; first | done | rfl
      refine AW.seq ?_
      refine AW.seq ?_
      refine AW.region ?_
      refine OpsW.q rfl (q_move (v := .int _ _) rfl) ?_
      refine OpsW.q rfl (q_lss rfl rfl) ?_
      refine OpsW.nil ?_
      refine SeqP.go ?_
      refine AW.cond2 rfl (fun h4 => ?_) (fun h4 => ?_)
      ·
        try simp only [decide_eq_true_eq, decide_eq_false_iff_not, Bool.or_eq_true, Bool.and_eq_true, Bool.or_eq_false_iff, Bool.and_eq_false_imp, Bool.not_eq_true', Bool.not_eq_false', ne_eq, Decidable.not_not, Int.not_lt, Int.not_le, Bool.not_eq_true, Bool.not_eq_false] at h4
        refine AW.exit ?_
        refine SeqP.exit ?_
        refine LoopP.exit ?_
        obtain rfl : t = 64 := by omega
        refine BlockP.here ?_
        refine SeqP.go ?_
        refine AW.seq ?_
        refine AW.region ?_
        refine OpsW.q rfl (q_assign (v := .int _ _) rfl) ?_
        refine OpsW.nil ?_
        refine SeqP.go ?_
        refine AW.block ?_
        replace hSl3 := hSl3.del del1
        refine AW.loop (fun m_ e_ H_ => ∃ (j : Nat) (e0 : Env), m_ = 8 - j ∧ (j ≤ 8) ∧ e_ = upds e0 [(3, v21), (5, vh), (7, v37), (8, .int .i64 ((64 * i : Nat) : Int)), (14, vv), (18, .int .i64 (j : Int))] ∧ Sep H [.vec vv 96 1 8 (nums .u32 (prK (hashW d i) (((fullB d).drop (64 * i)).take 64) 64)), .vec vh 96 1 8 (nums .u32 (addW (hashW d i) (prK (hashW d i) (((fullB d).drop (64 * i)).take 64) 64) j)), .vec v21 97 1 80 (nums .u64 kL), .vec v37 5 1 ((fullB d).length) (nums .u8 (ofB (fullB d)))] H_) _ ⟨0, _, rfl, (by omega), Slots.eq ⟨(by first | rfl | exact i64_int (by omega) (by omega) (by omega) | assumption), (by first | rfl | exact i64_int (by omega) (by omega) (by omega) | assumption), (by first | rfl | exact i64_int (by omega) (by omega) (by omega) | assumption), (by first | rfl | exact i64_int (by omega) (by omega) (by omega) | assumption), (by first | rfl | exact i64_int (by omega) (by omega) (by omega) | assumption), (by first | rfl | exact i64_int (by omega) (by omega) (by omega) | assumption),  trivial⟩, (by rw [addW_zero']; exact hSl3)⟩ ?_
        rintro m_ _ Hl4 ⟨j, e0, rfl, hf, rfl, hSl4⟩
        try clear hSl3
        have hal := addW_length (hashW d i) (prK (hashW d i) (((fullB d).drop (64 * i)).take 64) 64) j
        have hpl := prK_length hhl (((fullB d).drop (64 * i)).take 64) 64
        refine AW.seq ?_
        refine AW.seq ?_
        refine AW.region ?_
        refine OpsW.q rfl (q_move (v := .int _ _) rfl) ?_
        refine OpsW.q rfl (q_lss rfl rfl) ?_
        refine OpsW.nil ?_
        refine SeqP.go ?_
        refine AW.cond2 rfl (fun h5 => ?_) (fun h5 => ?_)
        ·
          try simp only [decide_eq_true_eq, decide_eq_false_iff_not, Bool.or_eq_true, Bool.and_eq_true, Bool.or_eq_false_iff, Bool.and_eq_false_imp, Bool.not_eq_true', Bool.not_eq_false', ne_eq, Decidable.not_not, Int.not_lt, Int.not_le, Bool.not_eq_true, Bool.not_eq_false] at h5
          refine AW.exit ?_
          refine SeqP.exit ?_
          refine LoopP.exit ?_
          obtain rfl : j = 8 := by omega
          refine BlockP.here ?_
          refine BlockP.go ?_
          refine SeqP.go ?_
          refine AW.region ?_
          refine OpsW.q rfl (q_move (v := .int _ _) rfl) ?_
          refine OpsW.q rfl (q_addI rfl rfl (by omega)) ?_
          refine OpsW.q rfl (q_assign (v := .int _ _) rfl) ?_
          refine OpsW.nil ?_
          replace hSl4 := hSl4.del del0
          exact LoopP.go _ (by omega) ⟨i + 1, vh, _, rfl, (by omega), Slots.eq ⟨(by first | rfl | exact i64_int (by omega) (by omega) (by omega) | assumption), (by first | rfl | exact i64_int (by omega) (by omega) (by omega) | assumption), (by first | rfl | exact i64_int (by omega) (by omega) (by omega) | assumption), (by first | rfl | exact i64_int (by omega) (by omega) (by omega) | assumption),  trivial⟩, (by rw [hashW_succ, pressW_def]; exact hSl4)⟩
        try simp only [decide_eq_true_eq, decide_eq_false_iff_not, Bool.or_eq_true, Bool.and_eq_true, Bool.or_eq_false_iff, Bool.and_eq_false_imp, Bool.not_eq_true', Bool.not_eq_false', ne_eq, Decidable.not_not, Int.not_lt, Int.not_le, Bool.not_eq_true, Bool.not_eq_false] at h5
        refine AW.skip ?_
        refine SeqP.go ?_
        refine AW.seq ?_
        refine AW.block ?_
        refine AW.drawK [] 11 rfl (by kernel_rfl) ?_
        refine SeqK.q rfl (q_move (v := vh) rfl) ?_
        refine SeqK.q rfl (q_move (v := .int _ _) rfl) ?_
        refine SeqK.q rfl (q_move (v := vh) rfl) ?_
        refine SeqK.q rfl (q_move (v := .int _ _) rfl) ?_
        refine SeqK.q rfl (q_indexV1 (hSl4.vec at1) Try.underlying95 (by kernel_rfl) rfl rfl (by first | omega | decide) (by first | omega | decide)) ?_
        refine SeqK.q rfl (q_loadVN (hSl4.vec at1) (by kernel_rfl) rfl (by first | (with_reducible assumption) | omega | (unfold maxLen; omega) | (simp only [nums_length, List.length_set, List.length_replicate, List.length_take, List.length_drop, List.length_append, List.length_cons, List.length_nil, ofB_length, toB_length]; omega) | (simp only [nums_length, List.length_set, List.length_replicate, List.length_take, List.length_drop, List.length_append, List.length_cons, List.length_nil, ofB_length, toB_length]; unfold maxLen; omega) | (simp; done) | (simp; omega) | rfl | decide)) ?_
        refine SeqK.q rfl (q_move (v := vv) rfl) ?_
        refine SeqK.q rfl (q_move (v := .int _ _) rfl) ?_
        refine SeqK.q rfl (q_indexV1 (hSl4.vec at0) Try.underlying95 (by kernel_rfl) rfl rfl (by first | omega | decide) (by first | omega | decide)) ?_
        refine SeqK.q rfl (q_loadVN (hSl4.vec at0) (by kernel_rfl) rfl (by first | (with_reducible assumption) | omega | (unfold maxLen; omega) | (simp only [nums_length, List.length_set, List.length_replicate, List.length_take, List.length_drop, List.length_append, List.length_cons, List.length_nil, ofB_length, toB_length]; omega) | (simp only [nums_length, List.length_set, List.length_replicate, List.length_take, List.length_drop, List.length_append, List.length_cons, List.length_nil, ofB_length, toB_length]; unfold maxLen; omega) | (simp; done) | (simp; omega) | rfl | decide)) ?_
        refine SeqK.q rfl (q_add rfl rfl) ?_
        refine SeqK.done ?_
        refine OpsW.q rfl (q_indexV1 (hSl4.vec at1) Try.underlying95 (by kernel_rfl) rfl rfl (by first | omega | decide) (by first | omega | decide)) ?_
        refine OpsW.ms (s_storeVN hSl4 at1 (by kernel_rfl) rfl rfl (by first | (with_reducible assumption) | omega | (unfold maxLen; omega) | (simp only [nums_length, List.length_set, List.length_replicate, List.length_take, List.length_drop, List.length_append, List.length_cons, List.length_nil, ofB_length, toB_length]; omega) | (simp only [nums_length, List.length_set, List.length_replicate, List.length_take, List.length_drop, List.length_append, List.length_cons, List.length_nil, ofB_length, toB_length]; unfold maxLen; omega) | (simp; done) | (simp; omega) | rfl | decide)) ?_
        rintro _ H7 ⟨rfl, hS7⟩
        clear hSl4
        refine OpsW.nil ?_
        refine BlockP.go ?_
        refine SeqP.go ?_
        refine AW.region ?_
        refine OpsW.q rfl (q_move (v := .int _ _) rfl) ?_
        refine OpsW.q rfl (q_addI rfl rfl (by omega)) ?_
        refine OpsW.q rfl (q_assign (v := .int _ _) rfl) ?_
        refine OpsW.nil ?_
        exact LoopP.go _ (by omega) ⟨j + 1, _, rfl, (by omega), Slots.eq ⟨(by first | rfl | exact i64_int (by omega) (by omega) (by omega) | assumption), (by first | rfl | exact i64_int (by omega) (by omega) (by omega) | assumption), (by first | rfl | exact i64_int (by omega) (by omega) (by omega) | assumption), (by first | rfl | exact i64_int (by omega) (by omega) (by omega) | assumption), (by first | rfl | exact i64_int (by omega) (by omega) (by omega) | assumption), (by first | rfl | exact i64_int (by omega) (by omega) (by omega) | assumption),  trivial⟩, (by have hs9 := hS7; rw [Int.toNat_natCast, w32_def, ← addW_succ] at hs9; exact hs9)⟩
      try simp only [decide_eq_true_eq, decide_eq_false_iff_not, Bool.or_eq_true, Bool.and_eq_true, Bool.or_eq_false_iff, Bool.and_eq_false_imp, Bool.not_eq_true', Bool.not_eq_false', ne_eq, Decidable.not_not, Int.not_lt, Int.not_le, Bool.not_eq_true, Bool.not_eq_false] at h4
      refine AW.skip ?_
      refine SeqP.go ?_
      refine AW.seq ?_
      refine AW.block ?_
      refine AW.seq ?_
      refine AW.drawK [] 46 rfl (by kernel_rfl) ?_
      refine SeqK.q rfl (q_move (v := vv) rfl) ?_
      refine SeqK.q rfl (q_indexV1 (hSl3.vec at0) Try.underlying95 (by kernel_rfl) rfl rfl (by first | omega | decide) (by first | omega | decide)) ?_
      refine SeqK.q rfl (q_loadVN (hSl3.vec at0) (by kernel_rfl) rfl (by first | (with_reducible assumption) | omega | (unfold maxLen; omega) | (simp only [nums_length, List.length_set, List.length_replicate, List.length_take, List.length_drop, List.length_append, List.length_cons, List.length_nil, ofB_length, toB_length]; omega) | (simp only [nums_length, List.length_set, List.length_replicate, List.length_take, List.length_drop, List.length_append, List.length_cons, List.length_nil, ofB_length, toB_length]; unfold maxLen; omega) | (simp; done) | (simp; omega) | rfl | decide)) ?_
      refine SeqK.q rfl (q_move (v := vv) rfl) ?_
      refine SeqK.q rfl (q_indexV1 (hSl3.vec at0) Try.underlying95 (by kernel_rfl) rfl rfl (by first | omega | decide) (by first | omega | decide)) ?_
      refine SeqK.q rfl (q_loadVN (hSl3.vec at0) (by kernel_rfl) rfl (by first | (with_reducible assumption) | omega | (unfold maxLen; omega) | (simp only [nums_length, List.length_set, List.length_replicate, List.length_take, List.length_drop, List.length_append, List.length_cons, List.length_nil, ofB_length, toB_length]; omega) | (simp only [nums_length, List.length_set, List.length_replicate, List.length_take, List.length_drop, List.length_append, List.length_cons, List.length_nil, ofB_length, toB_length]; unfold maxLen; omega) | (simp; done) | (simp; omega) | rfl | decide)) ?_
      refine SeqK.q rfl (o_call rfl Try.func61 rfl rfl (rightR_con (by decide))) ?_
      refine SeqK.q rfl (q_move (v := vv) rfl) ?_
      refine SeqK.q rfl (q_indexV1 (hSl3.vec at0) Try.underlying95 (by kernel_rfl) rfl rfl (by first | omega | decide) (by first | omega | decide)) ?_
      refine SeqK.q rfl (q_loadVN (hSl3.vec at0) (by kernel_rfl) rfl (by first | (with_reducible assumption) | omega | (unfold maxLen; omega) | (simp only [nums_length, List.length_set, List.length_replicate, List.length_take, List.length_drop, List.length_append, List.length_cons, List.length_nil, ofB_length, toB_length]; omega) | (simp only [nums_length, List.length_set, List.length_replicate, List.length_take, List.length_drop, List.length_append, List.length_cons, List.length_nil, ofB_length, toB_length]; unfold maxLen; omega) | (simp; done) | (simp; omega) | rfl | decide)) ?_
      refine SeqK.q rfl (o_call rfl Try.func61 rfl rfl (rightR_con (by decide))) ?_
      refine SeqK.q rfl (q_xor rfl rfl) ?_
      refine SeqK.q rfl (q_move (v := vv) rfl) ?_
      refine SeqK.q rfl (q_indexV1 (hSl3.vec at0) Try.underlying95 (by kernel_rfl) rfl rfl (by first | omega | decide) (by first | omega | decide)) ?_
      refine SeqK.q rfl (q_loadVN (hSl3.vec at0) (by kernel_rfl) rfl (by first | (with_reducible assumption) | omega | (unfold maxLen; omega) | (simp only [nums_length, List.length_set, List.length_replicate, List.length_take, List.length_drop, List.length_append, List.length_cons, List.length_nil, ofB_length, toB_length]; omega) | (simp only [nums_length, List.length_set, List.length_replicate, List.length_take, List.length_drop, List.length_append, List.length_cons, List.length_nil, ofB_length, toB_length]; unfold maxLen; omega) | (simp; done) | (simp; omega) | rfl | decide)) ?_
      refine SeqK.q rfl (o_call rfl Try.func61 rfl rfl (rightR_con (by decide))) ?_
      refine SeqK.q rfl (q_xor rfl rfl) ?_
      refine SeqK.q rfl (q_add rfl rfl) ?_
      refine SeqK.q rfl (q_move (v := vv) rfl) ?_
      refine SeqK.q rfl (q_indexV1 (hSl3.vec at0) Try.underlying95 (by kernel_rfl) rfl rfl (by first | omega | decide) (by first | omega | decide)) ?_
      refine SeqK.q rfl (q_loadVN (hSl3.vec at0) (by kernel_rfl) rfl (by first | (with_reducible assumption) | omega | (unfold maxLen; omega) | (simp only [nums_length, List.length_set, List.length_replicate, List.length_take, List.length_drop, List.length_append, List.length_cons, List.length_nil, ofB_length, toB_length]; omega) | (simp only [nums_length, List.length_set, List.length_replicate, List.length_take, List.length_drop, List.length_append, List.length_cons, List.length_nil, ofB_length, toB_length]; unfold maxLen; omega) | (simp; done) | (simp; omega) | rfl | decide)) ?_
      refine SeqK.q rfl (q_move (v := vv) rfl) ?_
      refine SeqK.q rfl (q_indexV1 (hSl3.vec at0) Try.underlying95 (by kernel_rfl) rfl rfl (by first | omega | decide) (by first | omega | decide)) ?_
      refine SeqK.q rfl (q_loadVN (hSl3.vec at0) (by kernel_rfl) rfl (by first | (with_reducible assumption) | omega | (unfold maxLen; omega) | (simp only [nums_length, List.length_set, List.length_replicate, List.length_take, List.length_drop, List.length_append, List.length_cons, List.length_nil, ofB_length, toB_length]; omega) | (simp only [nums_length, List.length_set, List.length_replicate, List.length_take, List.length_drop, List.length_append, List.length_cons, List.length_nil, ofB_length, toB_length]; unfold maxLen; omega) | (simp; done) | (simp; omega) | rfl | decide)) ?_
      refine SeqK.q rfl (q_and rfl rfl) ?_
      refine SeqK.q rfl (q_move (v := vv) rfl) ?_
      refine SeqK.q rfl (q_indexV1 (hSl3.vec at0) Try.underlying95 (by kernel_rfl) rfl rfl (by first | omega | decide) (by first | omega | decide)) ?_
      refine SeqK.q rfl (q_loadVN (hSl3.vec at0) (by kernel_rfl) rfl (by first | (with_reducible assumption) | omega | (unfold maxLen; omega) | (simp only [nums_length, List.length_set, List.length_replicate, List.length_take, List.length_drop, List.length_append, List.length_cons, List.length_nil, ofB_length, toB_length]; omega) | (simp only [nums_length, List.length_set, List.length_replicate, List.length_take, List.length_drop, List.length_append, List.length_cons, List.length_nil, ofB_length, toB_length]; unfold maxLen; omega) | (simp; done) | (simp; omega) | rfl | decide)) ?_
      refine SeqK.q rfl (q_compl rfl rfl) ?_
      refine SeqK.q rfl (q_move (v := vv) rfl) ?_
      refine SeqK.q rfl (q_indexV1 (hSl3.vec at0) Try.underlying95 (by kernel_rfl) rfl rfl (by first | omega | decide) (by first | omega | decide)) ?_
      refine SeqK.q rfl (q_loadVN (hSl3.vec at0) (by kernel_rfl) rfl (by first | (with_reducible assumption) | omega | (unfold maxLen; omega) | (simp only [nums_length, List.length_set, List.length_replicate, List.length_take, List.length_drop, List.length_append, List.length_cons, List.length_nil, ofB_length, toB_length]; omega) | (simp only [nums_length, List.length_set, List.length_replicate, List.length_take, List.length_drop, List.length_append, List.length_cons, List.length_nil, ofB_length, toB_length]; unfold maxLen; omega) | (simp; done) | (simp; omega) | rfl | decide)) ?_
      refine SeqK.q rfl (q_and rfl rfl) ?_
      refine SeqK.q rfl (q_xor rfl rfl) ?_
      refine SeqK.q rfl (q_add rfl rfl) ?_
      refine SeqK.q rfl (q_move (v := v21) rfl) ?_
      refine SeqK.q rfl (q_move (v := .int _ _) rfl) ?_
      refine SeqK.q rfl (q_indexV1 (hSl3.vec at3) Try.underlying93 (by kernel_rfl) rfl rfl (by first | omega | decide) (by first | omega | decide)) ?_
      refine SeqK.q rfl (q_loadVN (hSl3.vec at3) (by kernel_rfl) rfl (by first | (with_reducible assumption) | omega | (unfold maxLen; omega) | (simp only [nums_length, List.length_set, List.length_replicate, List.length_take, List.length_drop, List.length_append, List.length_cons, List.length_nil, ofB_length, toB_length]; omega) | (simp only [nums_length, List.length_set, List.length_replicate, List.length_take, List.length_drop, List.length_append, List.length_cons, List.length_nil, ofB_length, toB_length]; unfold maxLen; omega) | (simp; done) | (simp; omega) | rfl | decide)) ?_
      refine SeqK.q rfl (q_shrL 32 rfl rfl (by decide) rfl) ?_
      refine SeqK.q rfl (q_convInt rfl Try.underlying96 rfl) ?_
      refine SeqK.q rfl (q_add rfl rfl) ?_
      refine SeqK.q rfl (q_move (v := vw) rfl) ?_
      refine SeqK.q rfl (q_move (v := .int _ _) rfl) ?_
      refine SeqK.q rfl (q_indexV1 (hSl3.vec at1) Try.underlying95 (by kernel_rfl) rfl rfl (by first | omega | decide) (by first | omega | decide)) ?_
      refine SeqK.q rfl (q_loadVN (hSl3.vec at1) (by kernel_rfl) rfl (by first | (with_reducible assumption) | omega | (unfold maxLen; omega) | (simp only [nums_length, List.length_set, List.length_replicate, List.length_take, List.length_drop, List.length_append, List.length_cons, List.length_nil, ofB_length, toB_length]; omega) | (simp only [nums_length, List.length_set, List.length_replicate, List.length_take, List.length_drop, List.length_append, List.length_cons, List.length_nil, ofB_length, toB_length]; unfold maxLen; omega) | (simp; done) | (simp; omega) | rfl | decide)) ?_
      refine SeqK.done ?_
      refine OpsW.q rfl (q_add rfl rfl) ?_
      rw [hux]
      refine OpsW.q rfl (q_assign (v := .int _ _) rfl) ?_
      refine OpsW.nil ?_
      refine SeqP.go ?_
      refine AW.seq ?_
      refine AW.drawK [] 37 rfl (by kernel_rfl) ?_
      refine SeqK.q rfl (q_move (v := vv) rfl) ?_
      refine SeqK.q rfl (q_indexV1 (hSl3.vec at0) Try.underlying95 (by kernel_rfl) rfl rfl (by first | omega | decide) (by first | omega | decide)) ?_
      refine SeqK.q rfl (q_loadVN (hSl3.vec at0) (by kernel_rfl) rfl (by first | (with_reducible assumption) | omega | (unfold maxLen; omega) | (simp only [nums_length, List.length_set, List.length_replicate, List.length_take, List.length_drop, List.length_append, List.length_cons, List.length_nil, ofB_length, toB_length]; omega) | (simp only [nums_length, List.length_set, List.length_replicate, List.length_take, List.length_drop, List.length_append, List.length_cons, List.length_nil, ofB_length, toB_length]; unfold maxLen; omega) | (simp; done) | (simp; omega) | rfl | decide)) ?_
      refine SeqK.q rfl (o_call rfl Try.func61 rfl rfl (rightR_con (by decide))) ?_
      refine SeqK.q rfl (q_move (v := vv) rfl) ?_
      refine SeqK.q rfl (q_indexV1 (hSl3.vec at0) Try.underlying95 (by kernel_rfl) rfl rfl (by first | omega | decide) (by first | omega | decide)) ?_
      refine SeqK.q rfl (q_loadVN (hSl3.vec at0) (by kernel_rfl) rfl (by first | (with_reducible assumption) | omega | (unfold maxLen; omega) | (simp only [nums_length, List.length_set, List.length_replicate, List.length_take, List.length_drop, List.length_append, List.length_cons, List.length_nil, ofB_length, toB_length]; omega) | (simp only [nums_length, List.length_set, List.length_replicate, List.length_take, List.length_drop, List.length_append, List.length_cons, List.length_nil, ofB_length, toB_length]; unfold maxLen; omega) | (simp; done) | (simp; omega) | rfl | decide)) ?_
      refine SeqK.q rfl (o_call rfl Try.func61 rfl rfl (rightR_con (by decide))) ?_
      refine SeqK.q rfl (q_xor rfl rfl) ?_
      refine SeqK.q rfl (q_move (v := vv) rfl) ?_
      refine SeqK.q rfl (q_indexV1 (hSl3.vec at0) Try.underlying95 (by kernel_rfl) rfl rfl (by first | omega | decide) (by first | omega | decide)) ?_
      refine SeqK.q rfl (q_loadVN (hSl3.vec at0) (by kernel_rfl) rfl (by first | (with_reducible assumption) | omega | (unfold maxLen; omega) | (simp only [nums_length, List.length_set, List.length_replicate, List.length_take, List.length_drop, List.length_append, List.length_cons, List.length_nil, ofB_length, toB_length]; omega) | (simp only [nums_length, List.length_set, List.length_replicate, List.length_take, List.length_drop, List.length_append, List.length_cons, List.length_nil, ofB_length, toB_length]; unfold maxLen; omega) | (simp; done) | (simp; omega) | rfl | decide)) ?_
      refine SeqK.q rfl (o_call rfl Try.func61 rfl rfl (rightR_con (by decide))) ?_
      refine SeqK.q rfl (q_xor rfl rfl) ?_
      refine SeqK.q rfl (q_move (v := vv) rfl) ?_
      refine SeqK.q rfl (q_indexV1 (hSl3.vec at0) Try.underlying95 (by kernel_rfl) rfl rfl (by first | omega | decide) (by first | omega | decide)) ?_
      refine SeqK.q rfl (q_loadVN (hSl3.vec at0) (by kernel_rfl) rfl (by first | (with_reducible assumption) | omega | (unfold maxLen; omega) | (simp only [nums_length, List.length_set, List.length_replicate, List.length_take, List.length_drop, List.length_append, List.length_cons, List.length_nil, ofB_length, toB_length]; omega) | (simp only [nums_length, List.length_set, List.length_replicate, List.length_take, List.length_drop, List.length_append, List.length_cons, List.length_nil, ofB_length, toB_length]; unfold maxLen; omega) | (simp; done) | (simp; omega) | rfl | decide)) ?_
      refine SeqK.q rfl (q_move (v := vv) rfl) ?_
      refine SeqK.q rfl (q_indexV1 (hSl3.vec at0) Try.underlying95 (by kernel_rfl) rfl rfl (by first | omega | decide) (by first | omega | decide)) ?_
      refine SeqK.q rfl (q_loadVN (hSl3.vec at0) (by kernel_rfl) rfl (by first | (with_reducible assumption) | omega | (unfold maxLen; omega) | (simp only [nums_length, List.length_set, List.length_replicate, List.length_take, List.length_drop, List.length_append, List.length_cons, List.length_nil, ofB_length, toB_length]; omega) | (simp only [nums_length, List.length_set, List.length_replicate, List.length_take, List.length_drop, List.length_append, List.length_cons, List.length_nil, ofB_length, toB_length]; unfold maxLen; omega) | (simp; done) | (simp; omega) | rfl | decide)) ?_
      refine SeqK.q rfl (q_and rfl rfl) ?_
      refine SeqK.q rfl (q_move (v := vv) rfl) ?_
      refine SeqK.q rfl (q_indexV1 (hSl3.vec at0) Try.underlying95 (by kernel_rfl) rfl rfl (by first | omega | decide) (by first | omega | decide)) ?_
      refine SeqK.q rfl (q_loadVN (hSl3.vec at0) (by kernel_rfl) rfl (by first | (with_reducible assumption) | omega | (unfold maxLen; omega) | (simp only [nums_length, List.length_set, List.length_replicate, List.length_take, List.length_drop, List.length_append, List.length_cons, List.length_nil, ofB_length, toB_length]; omega) | (simp only [nums_length, List.length_set, List.length_replicate, List.length_take, List.length_drop, List.length_append, List.length_cons, List.length_nil, ofB_length, toB_length]; unfold maxLen; omega) | (simp; done) | (simp; omega) | rfl | decide)) ?_
      refine SeqK.q rfl (q_move (v := vv) rfl) ?_
      refine SeqK.q rfl (q_indexV1 (hSl3.vec at0) Try.underlying95 (by kernel_rfl) rfl rfl (by first | omega | decide) (by first | omega | decide)) ?_
      refine SeqK.q rfl (q_loadVN (hSl3.vec at0) (by kernel_rfl) rfl (by first | (with_reducible assumption) | omega | (unfold maxLen; omega) | (simp only [nums_length, List.length_set, List.length_replicate, List.length_take, List.length_drop, List.length_append, List.length_cons, List.length_nil, ofB_length, toB_length]; omega) | (simp only [nums_length, List.length_set, List.length_replicate, List.length_take, List.length_drop, List.length_append, List.length_cons, List.length_nil, ofB_length, toB_length]; unfold maxLen; omega) | (simp; done) | (simp; omega) | rfl | decide)) ?_
      refine SeqK.q rfl (q_and rfl rfl) ?_
      refine SeqK.q rfl (q_xor rfl rfl) ?_
      refine SeqK.q rfl (q_move (v := vv) rfl) ?_
      refine SeqK.q rfl (q_indexV1 (hSl3.vec at0) Try.underlying95 (by kernel_rfl) rfl rfl (by first | omega | decide) (by first | omega | decide)) ?_
      refine SeqK.q rfl (q_loadVN (hSl3.vec at0) (by kernel_rfl) rfl (by first | (with_reducible assumption) | omega | (unfold maxLen; omega) | (simp only [nums_length, List.length_set, List.length_replicate, List.length_take, List.length_drop, List.length_append, List.length_cons, List.length_nil, ofB_length, toB_length]; omega) | (simp only [nums_length, List.length_set, List.length_replicate, List.length_take, List.length_drop, List.length_append, List.length_cons, List.length_nil, ofB_length, toB_length]; unfold maxLen; omega) | (simp; done) | (simp; omega) | rfl | decide)) ?_
      refine SeqK.q rfl (q_move (v := vv) rfl) ?_
      refine SeqK.q rfl (q_indexV1 (hSl3.vec at0) Try.underlying95 (by kernel_rfl) rfl rfl (by first | omega | decide) (by first | omega | decide)) ?_
      refine SeqK.q rfl (q_loadVN (hSl3.vec at0) (by kernel_rfl) rfl (by first | (with_reducible assumption) | omega | (unfold maxLen; omega) | (simp only [nums_length, List.length_set, List.length_replicate, List.length_take, List.length_drop, List.length_append, List.length_cons, List.length_nil, ofB_length, toB_length]; omega) | (simp only [nums_length, List.length_set, List.length_replicate, List.length_take, List.length_drop, List.length_append, List.length_cons, List.length_nil, ofB_length, toB_length]; unfold maxLen; omega) | (simp; done) | (simp; omega) | rfl | decide)) ?_
      refine SeqK.q rfl (q_and rfl rfl) ?_
      refine SeqK.q rfl (q_xor rfl rfl) ?_
      refine SeqK.done ?_
      refine OpsW.q rfl (q_add rfl rfl) ?_
      rw [hox]
      refine OpsW.q rfl (q_assign (v := .int _ _) rfl) ?_
      refine OpsW.nil ?_
      refine SeqP.go ?_
      refine AW.drawK [] 26 rfl (by kernel_rfl) ?_
      refine SeqK.q rfl (q_move (v := .int _ _) rfl) ?_
      refine SeqK.q rfl (q_move (v := .int _ _) rfl) ?_
      refine SeqK.q rfl (q_add rfl rfl) ?_
      refine SeqK.q rfl (q_move (v := vv) rfl) ?_
      refine SeqK.q rfl (q_indexV1 (hSl3.vec at0) Try.underlying95 (by kernel_rfl) rfl rfl (by first | omega | decide) (by first | omega | decide)) ?_
      refine SeqK.q rfl (q_loadVN (hSl3.vec at0) (by kernel_rfl) rfl (by first | (with_reducible assumption) | omega | (unfold maxLen; omega) | (simp only [nums_length, List.length_set, List.length_replicate, List.length_take, List.length_drop, List.length_append, List.length_cons, List.length_nil, ofB_length, toB_length]; omega) | (simp only [nums_length, List.length_set, List.length_replicate, List.length_take, List.length_drop, List.length_append, List.length_cons, List.length_nil, ofB_length, toB_length]; unfold maxLen; omega) | (simp; done) | (simp; omega) | rfl | decide)) ?_
      refine SeqK.q rfl (q_move (v := vv) rfl) ?_
      refine SeqK.q rfl (q_indexV1 (hSl3.vec at0) Try.underlying95 (by kernel_rfl) rfl rfl (by first | omega | decide) (by first | omega | decide)) ?_
      refine SeqK.q rfl (q_loadVN (hSl3.vec at0) (by kernel_rfl) rfl (by first | (with_reducible assumption) | omega | (unfold maxLen; omega) | (simp only [nums_length, List.length_set, List.length_replicate, List.length_take, List.length_drop, List.length_append, List.length_cons, List.length_nil, ofB_length, toB_length]; omega) | (simp only [nums_length, List.length_set, List.length_replicate, List.length_take, List.length_drop, List.length_append, List.length_cons, List.length_nil, ofB_length, toB_length]; unfold maxLen; omega) | (simp; done) | (simp; omega) | rfl | decide)) ?_
      refine SeqK.q rfl (q_move (v := vv) rfl) ?_
      refine SeqK.q rfl (q_indexV1 (hSl3.vec at0) Try.underlying95 (by kernel_rfl) rfl rfl (by first | omega | decide) (by first | omega | decide)) ?_
      refine SeqK.q rfl (q_loadVN (hSl3.vec at0) (by kernel_rfl) rfl (by first | (with_reducible assumption) | omega | (unfold maxLen; omega) | (simp only [nums_length, List.length_set, List.length_replicate, List.length_take, List.length_drop, List.length_append, List.length_cons, List.length_nil, ofB_length, toB_length]; omega) | (simp only [nums_length, List.length_set, List.length_replicate, List.length_take, List.length_drop, List.length_append, List.length_cons, List.length_nil, ofB_length, toB_length]; unfold maxLen; omega) | (simp; done) | (simp; omega) | rfl | decide)) ?_
      refine SeqK.q rfl (q_move (v := vv) rfl) ?_
      refine SeqK.q rfl (q_indexV1 (hSl3.vec at0) Try.underlying95 (by kernel_rfl) rfl rfl (by first | omega | decide) (by first | omega | decide)) ?_
      refine SeqK.q rfl (q_loadVN (hSl3.vec at0) (by kernel_rfl) rfl (by first | (with_reducible assumption) | omega | (unfold maxLen; omega) | (simp only [nums_length, List.length_set, List.length_replicate, List.length_take, List.length_drop, List.length_append, List.length_cons, List.length_nil, ofB_length, toB_length]; omega) | (simp only [nums_length, List.length_set, List.length_replicate, List.length_take, List.length_drop, List.length_append, List.length_cons, List.length_nil, ofB_length, toB_length]; unfold maxLen; omega) | (simp; done) | (simp; omega) | rfl | decide)) ?_
      refine SeqK.q rfl (q_move (v := .int _ _) rfl) ?_
      refine SeqK.q rfl (q_add rfl rfl) ?_
      refine SeqK.q rfl (q_move (v := vv) rfl) ?_
      refine SeqK.q rfl (q_indexV1 (hSl3.vec at0) Try.underlying95 (by kernel_rfl) rfl rfl (by first | omega | decide) (by first | omega | decide)) ?_
      refine SeqK.q rfl (q_loadVN (hSl3.vec at0) (by kernel_rfl) rfl (by first | (with_reducible assumption) | omega | (unfold maxLen; omega) | (simp only [nums_length, List.length_set, List.length_replicate, List.length_take, List.length_drop, List.length_append, List.length_cons, List.length_nil, ofB_length, toB_length]; omega) | (simp only [nums_length, List.length_set, List.length_replicate, List.length_take, List.length_drop, List.length_append, List.length_cons, List.length_nil, ofB_length, toB_length]; unfold maxLen; omega) | (simp; done) | (simp; omega) | rfl | decide)) ?_
      refine SeqK.q rfl (q_move (v := vv) rfl) ?_
      refine SeqK.q rfl (q_indexV1 (hSl3.vec at0) Try.underlying95 (by kernel_rfl) rfl rfl (by first | omega | decide) (by first | omega | decide)) ?_
      refine SeqK.q rfl (q_loadVN (hSl3.vec at0) (by kernel_rfl) rfl (by first | (with_reducible assumption) | omega | (unfold maxLen; omega) | (simp only [nums_length, List.length_set, List.length_replicate, List.length_take, List.length_drop, List.length_append, List.length_cons, List.length_nil, ofB_length, toB_length]; omega) | (simp only [nums_length, List.length_set, List.length_replicate, List.length_take, List.length_drop, List.length_append, List.length_cons, List.length_nil, ofB_length, toB_length]; unfold maxLen; omega) | (simp; done) | (simp; omega) | rfl | decide)) ?_
      refine SeqK.q rfl (q_move (v := vv) rfl) ?_
      refine SeqK.q rfl (q_indexV1 (hSl3.vec at0) Try.underlying95 (by kernel_rfl) rfl rfl (by first | omega | decide) (by first | omega | decide)) ?_
      refine SeqK.q rfl (q_loadVN (hSl3.vec at0) (by kernel_rfl) rfl (by first | (with_reducible assumption) | omega | (unfold maxLen; omega) | (simp only [nums_length, List.length_set, List.length_replicate, List.length_take, List.length_drop, List.length_append, List.length_cons, List.length_nil, ofB_length, toB_length]; omega) | (simp only [nums_length, List.length_set, List.length_replicate, List.length_take, List.length_drop, List.length_append, List.length_cons, List.length_nil, ofB_length, toB_length]; unfold maxLen; omega) | (simp; done) | (simp; omega) | rfl | decide)) ?_
      refine SeqK.done ?_
      refine OpsW.m rfl (s_buildSlice (z := .int .u32 0) (vs := nums .u32 [_, _, _, _, _, _, _, _]) hSl3 Try.underlying95 (by kernel_rfl) (by kernel_rfl) rfl (by rfl) (by rfl) (by decide) rfl (nums_one _ _) rfl) ?_
      rintro v262 H8 hS8
      clear hSl3
      refine OpsW.q rfl (q_assign (v := v262) rfl) ?_
      refine OpsW.nil ?_
      refine BlockP.go ?_
      refine SeqP.go ?_
      refine AW.region ?_
      refine OpsW.q rfl (q_move (v := .int _ _) rfl) ?_
      refine OpsW.q rfl (q_addI rfl rfl (by omega)) ?_
      refine OpsW.q rfl (q_assign (v := .int _ _) rfl) ?_
      refine OpsW.nil ?_
      replace hS8 := hS8.del del1
      exact LoopP.go _ (by omega) ⟨t + 1, v262, _, rfl, (by omega), Slots.eq ⟨(by first | rfl | exact i64_int (by omega) (by omega) (by omega) | assumption), (by first | rfl | exact i64_int (by omega) (by omega) (by omega) | assumption), (by first | rfl | exact i64_int (by omega) (by omega) (by omega) | assumption), (by first | rfl | exact i64_int (by omega) (by omega) (by omega) | assumption), (by first | rfl | exact i64_int (by omega) (by omega) (by omega) | assumption), (by first | rfl | exact i64_int (by omega) (by omega) (by omega) | assumption), (by first | rfl | exact i64_int (by omega) (by omega) (by omega) | assumption),  trivial⟩, (by rw [prK_succ, rndW_def]; simp only [← w32_def]; exact hS8)⟩
    try simp only [decide_eq_true_eq, decide_eq_false_iff_not, Bool.or_eq_true, Bool.and_eq_true, Bool.or_eq_false_iff, Bool.and_eq_false_imp, Bool.not_eq_true', Bool.not_eq_false', ne_eq, Decidable.not_not, Int.not_lt, Int.not_le, Bool.not_eq_true, Bool.not_eq_false] at h2
    refine AW.skip ?_
    refine SeqP.go ?_
    refine AW.seq ?_
    refine AW.block ?_
    refine AW.seq ?_
    refine AW.region ?_
    refine OpsW.q rfl (q_move (v := .int _ _) rfl) ?_
    refine OpsW.q rfl (q_lss rfl rfl) ?_
    refine OpsW.nil ?_
    refine SeqP.go ?_
    refine AW.cond rfl (fun h3 => ?_) (fun h3 => ?_)
    ·
      try simp only [decide_eq_true_eq, decide_eq_false_iff_not, Bool.or_eq_true, Bool.and_eq_true, Bool.or_eq_false_iff, Bool.and_eq_false_imp, Bool.not_eq_true', Bool.not_eq_false', ne_eq, Decidable.not_not, Int.not_lt, Int.not_le, Bool.not_eq_true, Bool.not_eq_false] at h3
      have hwr : ior .u32 (ior .u32 (ior .u32 (IntKind.u32.wrap (IntKind.u32.wrap ((((fullB d).getD ((((64 * i : Nat) : Int) + 4 * (t : Int))).toNat 0).toNat : Nat) : Int) * 2 ^ 24)) (IntKind.u32.wrap (IntKind.u32.wrap ((((fullB d).getD ((((64 * i : Nat) : Int) + 4 * (t : Int)) + 1).toNat 0).toNat : Nat) : Int) * 2 ^ 16))) (IntKind.u32.wrap (IntKind.u32.wrap ((((fullB d).getD ((((64 * i : Nat) : Int) + 4 * (t : Int)) + 2).toNat 0).toNat : Nat) : Int) * 2 ^ 8))) (IntKind.u32.wrap ((((fullB d).getD ((((64 * i : Nat) : Int) + 4 * (t : Int)) + 3).toNat 0).toNat : Nat) : Int)) = wordB (((fullB d).drop (64 * i)).take 64) (4 * t) := by rw [← wp_ref (((fullB d).drop (64 * i)).take 64) (4 * t), blk_bt _ _ (by omega), blk_bt _ _ (by omega), blk_bt _ _ (by omega), blk_bt _ _ (by omega), show ((((64 * i : Nat) : Int) + 4 * (t : Int))).toNat = 64 * i + 4 * t from by omega, show ((((64 * i : Nat) : Int) + 4 * (t : Int)) + 1).toNat = 64 * i + (4 * t + 1) from by omega, show ((((64 * i : Nat) : Int) + 4 * (t : Int)) + 2).toNat = 64 * i + (4 * t + 2) from by omega, show ((((64 * i : Nat) : Int) + 4 * (t : Int)) + 3).toNat = 64 * i + (4 * t + 3) from by omega]; first | done | rfl
      refine AW.seq ?_
      refine AW.region ?_
      refine OpsW.q rfl (q_move (v := .int _ _) rfl) ?_
      refine OpsW.q rfl (q_move (v := .int _ _) rfl) ?_
      refine OpsW.q rfl (q_mulI rfl rfl (by omega)) ?_
      refine OpsW.q rfl (q_addI rfl rfl (by omega)) ?_
      refine OpsW.q rfl (q_assign (v := .int _ _) rfl) ?_
      refine OpsW.nil ?_
      refine SeqP.go ?_
      refine AW.drawD 30 0 rfl (by kernel_rfl) (by kernel_rfl) ?_
      refine SeqD.a rfl (fun _ => q_move (v := vw) rfl) ?_
      refine SeqD.a rfl (fun _ => q_move (v := v37) rfl) ?_
      refine SeqD.a rfl (fun _ => q_move (v := .int _ _) rfl) ?_
      refine SeqD.b (by kernel_rfl) rfl (q_indexV1 (hSl2.vec at3) Try.underlying72 (by kernel_rfl) rfl rfl (by first | omega | decide) (by first | omega | decide)) ?_
      refine SeqD.b (by kernel_rfl) rfl (q_loadVB (hSl2.vec at3) (by kernel_rfl) rfl (by first | (with_reducible assumption) | omega | (unfold maxLen; omega) | (simp only [nums_length, List.length_set, List.length_replicate, List.length_take, List.length_drop, List.length_append, List.length_cons, List.length_nil, ofB_length, toB_length]; omega) | (simp only [nums_length, List.length_set, List.length_replicate, List.length_take, List.length_drop, List.length_append, List.length_cons, List.length_nil, ofB_length, toB_length]; unfold maxLen; omega) | (simp; done) | (simp; omega) | rfl | decide)) ?_
      refine SeqD.a rfl (fun _ => q_convInt rfl Try.underlying96 rfl) ?_
      refine SeqD.a rfl (fun _ => q_shlL 24 rfl rfl (by decide) rfl) ?_
      refine SeqD.a rfl (fun _ => q_move (v := v37) rfl) ?_
      refine SeqD.a rfl (fun _ => q_move (v := .int _ _) rfl) ?_
      refine SeqD.a rfl (fun _ => q_addI rfl rfl (by omega)) ?_
      refine SeqD.b (by kernel_rfl) rfl (q_indexV1 (hSl2.vec at3) Try.underlying72 (by kernel_rfl) rfl rfl (by first | omega | decide) (by first | omega | decide)) ?_
      refine SeqD.b (by kernel_rfl) rfl (q_loadVB (hSl2.vec at3) (by kernel_rfl) rfl (by first | (with_reducible assumption) | omega | (unfold maxLen; omega) | (simp only [nums_length, List.length_set, List.length_replicate, List.length_take, List.length_drop, List.length_append, List.length_cons, List.length_nil, ofB_length, toB_length]; omega) | (simp only [nums_length, List.length_set, List.length_replicate, List.length_take, List.length_drop, List.length_append, List.length_cons, List.length_nil, ofB_length, toB_length]; unfold maxLen; omega) | (simp; done) | (simp; omega) | rfl | decide)) ?_
      refine SeqD.a rfl (fun _ => q_convInt rfl Try.underlying96 rfl) ?_
      refine SeqD.a rfl (fun _ => q_shlL 16 rfl rfl (by decide) rfl) ?_
      refine SeqD.a rfl (fun _ => q_or rfl rfl) ?_
      refine SeqD.a rfl (fun _ => q_move (v := v37) rfl) ?_
      refine SeqD.a rfl (fun _ => q_move (v := .int _ _) rfl) ?_
      refine SeqD.a rfl (fun _ => q_addI rfl rfl (by omega)) ?_
      refine SeqD.b (by kernel_rfl) rfl (q_indexV1 (hSl2.vec at3) Try.underlying72 (by kernel_rfl) rfl rfl (by first | omega | decide) (by first | omega | decide)) ?_
      refine SeqD.b (by kernel_rfl) rfl (q_loadVB (hSl2.vec at3) (by kernel_rfl) rfl (by first | (with_reducible assumption) | omega | (unfold maxLen; omega) | (simp only [nums_length, List.length_set, List.length_replicate, List.length_take, List.length_drop, List.length_append, List.length_cons, List.length_nil, ofB_length, toB_length]; omega) | (simp only [nums_length, List.length_set, List.length_replicate, List.length_take, List.length_drop, List.length_append, List.length_cons, List.length_nil, ofB_length, toB_length]; unfold maxLen; omega) | (simp; done) | (simp; omega) | rfl | decide)) ?_
      refine SeqD.a rfl (fun _ => q_convInt rfl Try.underlying96 rfl) ?_
      refine SeqD.a rfl (fun _ => q_shlL 8 rfl rfl (by decide) rfl) ?_
      refine SeqD.a rfl (fun _ => q_or rfl rfl) ?_
      refine SeqD.a rfl (fun _ => q_move (v := v37) rfl) ?_
      refine SeqD.a rfl (fun _ => q_move (v := .int _ _) rfl) ?_
      refine SeqD.a rfl (fun _ => q_addI rfl rfl (by omega)) ?_
      refine SeqD.b (by kernel_rfl) rfl (q_indexV1 (hSl2.vec at3) Try.underlying72 (by kernel_rfl) rfl rfl (by first | omega | decide) (by first | omega | decide)) ?_
      refine SeqD.b (by kernel_rfl) rfl (q_loadVB (hSl2.vec at3) (by kernel_rfl) rfl (by first | (with_reducible assumption) | omega | (unfold maxLen; omega) | (simp only [nums_length, List.length_set, List.length_replicate, List.length_take, List.length_drop, List.length_append, List.length_cons, List.length_nil, ofB_length, toB_length]; omega) | (simp only [nums_length, List.length_set, List.length_replicate, List.length_take, List.length_drop, List.length_append, List.length_cons, List.length_nil, ofB_length, toB_length]; unfold maxLen; omega) | (simp; done) | (simp; omega) | rfl | decide)) ?_
      refine SeqD.a rfl (fun _ => q_convInt rfl Try.underlying96 rfl) ?_
      refine SeqD.a rfl (fun _ => q_or rfl rfl) ?_
      rw [hwr]
      refine SeqD.x rfl (s_buildSlice (z := .int .u32 0) (vs := nums .u32 [_]) hSl2 Try.underlying95 (by kernel_rfl) (by kernel_rfl) rfl (by rfl) (by rfl) (by decide) rfl (nums_one _ _) rfl) ?_
      rintro v84 H9 hS9
      clear hSl2
      refine ⟨trivial, ?_⟩
      refine SeqR2.done ?_
      refine OpsW.m rfl (s_append (sz := 1) (by_ := 4) (z := .int .u32 0) hS9 at1 Try.underlying95 (by kernel_rfl) (by kernel_rfl) (by kernel_rfl) rfl (by kernel_rfl) rfl rfl (src_vec (hS9.vec at0) (nums_one _ _)) (by first | (with_reducible assumption) | omega | (unfold maxLen; omega) | (simp only [nums_length, List.length_set, List.length_replicate, List.length_take, List.length_drop, List.length_append, List.length_cons, List.length_nil, ofB_length, toB_length]; omega) | (simp only [nums_length, List.length_set, List.length_replicate, List.length_take, List.length_drop, List.length_append, List.length_cons, List.length_nil, ofB_length, toB_length]; unfold maxLen; omega) | (simp; done) | (simp; omega) | rfl | decide) (by first | (with_reducible assumption) | omega | (unfold maxLen; omega) | (simp only [nums_length, List.length_set, List.length_replicate, List.length_take, List.length_drop, List.length_append, List.length_cons, List.length_nil, ofB_length, toB_length]; omega) | (simp only [nums_length, List.length_set, List.length_replicate, List.length_take, List.length_drop, List.length_append, List.length_cons, List.length_nil, ofB_length, toB_length]; unfold maxLen; omega) | (simp; done) | (simp; omega) | rfl | decide)) ?_
      rintro v85 H10 hS10
      clear hS9
      replace hS10 := hS10.del del0
      refine OpsW.q rfl (q_assign (v := v85) rfl) ?_
      refine OpsW.nil ?_
      refine BlockP.go ?_
      refine SeqP.go ?_
      refine AW.region ?_
      refine OpsW.q rfl (q_move (v := .int _ _) rfl) ?_
      refine OpsW.q rfl (q_addI rfl rfl (by omega)) ?_
      refine OpsW.q rfl (q_assign (v := .int _ _) rfl) ?_
      refine OpsW.nil ?_
      exact LoopP.go _ (by omega) ⟨t + 1, v85, _, rfl, (by omega), Slots.eq ⟨(by first | rfl | exact i64_int (by omega) (by omega) (by omega) | assumption), (by first | rfl | exact i64_int (by omega) (by omega) (by omega) | assumption), (by first | rfl | exact i64_int (by omega) (by omega) (by omega) | assumption), (by first | rfl | exact i64_int (by omega) (by omega) (by omega) | assumption), (by first | rfl | exact i64_int (by omega) (by omega) (by omega) | assumption), (by first | rfl | exact i64_int (by omega) (by omega) (by omega) | assumption),  trivial⟩, (by rw [wsK_lo _ (by omega), nums_append]; exact hS10)⟩
    try simp only [decide_eq_true_eq, decide_eq_false_iff_not, Bool.or_eq_true, Bool.and_eq_true, Bool.or_eq_false_iff, Bool.and_eq_false_imp, Bool.not_eq_true', Bool.not_eq_false', ne_eq, Decidable.not_not, Int.not_lt, Int.not_le, Bool.not_eq_true, Bool.not_eq_false] at h3
    have hm0 : ixor .u32 (ixor .u32 (rt ((wsK (((fullB d).drop (64 * i)).take 64) t).getD ((t : Int) - 15).toNat 0) 7) (rt ((wsK (((fullB d).drop (64 * i)).take 64) t).getD ((t : Int) - 15).toNat 0) 18)) (((wsK (((fullB d).drop (64 * i)).take 64) t).getD ((t : Int) - 15).toNat 0) / 2 ^ 3) = mix3 ((wsK (((fullB d).drop (64 * i)).take 64) t).getD (t - 15) 0) 7 18 3 := by rw [mix3_def, show ((t : Int) - 15).toNat = t - 15 from by omega]; first | done | rfl
    have hm1 : ixor .u32 (ixor .u32 (rt ((wsK (((fullB d).drop (64 * i)).take 64) t).getD ((t : Int) - 2).toNat 0) 17) (rt ((wsK (((fullB d).drop (64 * i)).take 64) t).getD ((t : Int) - 2).toNat 0) 19)) (((wsK (((fullB d).drop (64 * i)).take 64) t).getD ((t : Int) - 2).toNat 0) / 2 ^ 10) = mix3 ((wsK (((fullB d).drop (64 * i)).take 64) t).getD (t - 2) 0) 17 19 10 := by rw [mix3_def, show ((t : Int) - 2).toNat = t - 2 from by omega]; first | done | rfl
    have hnx : IntKind.u32.wrap (IntKind.u32.wrap (IntKind.u32.wrap (((wsK (((fullB d).drop (64 * i)).take 64) t).getD ((t : Int) - 16).toNat 0) + ((wsK (((fullB d).drop (64 * i)).take 64) t).getD ((t : Int) - 7).toNat 0)) + mix3 ((wsK (((fullB d).drop (64 * i)).take 64) t).getD (t - 15) 0) 7 18 3) + mix3 ((wsK (((fullB d).drop (64 * i)).take 64) t).getD (t - 2) 0) 17 19 10) = nextW (wsK (((fullB d).drop (64 * i)).take 64) t) t := by rw [nextW_def, show ((t : Int) - 16).toNat = t - 16 from by omega, show ((t : Int) - 7).toNat = t - 7 from by omega]; simp only [w32_def]
    refine AW.seq ?_
    refine AW.drawK [] 19 rfl (by kernel_rfl) ?_
    refine SeqK.q rfl (q_move (v := vw) rfl) ?_
    refine SeqK.q rfl (q_move (v := .int _ _) rfl) ?_
    refine SeqK.q rfl (q_subI rfl rfl (by omega)) ?_
    refine SeqK.q rfl (q_indexV1 (hSl2.vec at0) Try.underlying95 (by kernel_rfl) rfl rfl (by first | omega | decide) (by first | omega | decide)) ?_
    refine SeqK.q rfl (q_loadVN (hSl2.vec at0) (by kernel_rfl) rfl (by first | (with_reducible assumption) | omega | (unfold maxLen; omega) | (simp only [nums_length, List.length_set, List.length_replicate, List.length_take, List.length_drop, List.length_append, List.length_cons, List.length_nil, ofB_length, toB_length]; omega) | (simp only [nums_length, List.length_set, List.length_replicate, List.length_take, List.length_drop, List.length_append, List.length_cons, List.length_nil, ofB_length, toB_length]; unfold maxLen; omega) | (simp; done) | (simp; omega) | rfl | decide)) ?_
    refine SeqK.q rfl (o_call rfl Try.func61 rfl rfl (rightR_con (by decide))) ?_
    refine SeqK.q rfl (q_move (v := vw) rfl) ?_
    refine SeqK.q rfl (q_move (v := .int _ _) rfl) ?_
    refine SeqK.q rfl (q_subI rfl rfl (by omega)) ?_
    refine SeqK.q rfl (q_indexV1 (hSl2.vec at0) Try.underlying95 (by kernel_rfl) rfl rfl (by first | omega | decide) (by first | omega | decide)) ?_
    refine SeqK.q rfl (q_loadVN (hSl2.vec at0) (by kernel_rfl) rfl (by first | (with_reducible assumption) | omega | (unfold maxLen; omega) | (simp only [nums_length, List.length_set, List.length_replicate, List.length_take, List.length_drop, List.length_append, List.length_cons, List.length_nil, ofB_length, toB_length]; omega) | (simp only [nums_length, List.length_set, List.length_replicate, List.length_take, List.length_drop, List.length_append, List.length_cons, List.length_nil, ofB_length, toB_length]; unfold maxLen; omega) | (simp; done) | (simp; omega) | rfl | decide)) ?_
    refine SeqK.q rfl (o_call rfl Try.func61 rfl rfl (rightR_con (by decide))) ?_
    refine SeqK.q rfl (q_xor rfl rfl) ?_
    refine SeqK.q rfl (q_move (v := vw) rfl) ?_
    refine SeqK.q rfl (q_move (v := .int _ _) rfl) ?_
    refine SeqK.q rfl (q_subI rfl rfl (by omega)) ?_
    refine SeqK.q rfl (q_indexV1 (hSl2.vec at0) Try.underlying95 (by kernel_rfl) rfl rfl (by first | omega | decide) (by first | omega | decide)) ?_
    refine SeqK.q rfl (q_loadVN (hSl2.vec at0) (by kernel_rfl) rfl (by first | (with_reducible assumption) | omega | (unfold maxLen; omega) | (simp only [nums_length, List.length_set, List.length_replicate, List.length_take, List.length_drop, List.length_append, List.length_cons, List.length_nil, ofB_length, toB_length]; omega) | (simp only [nums_length, List.length_set, List.length_replicate, List.length_take, List.length_drop, List.length_append, List.length_cons, List.length_nil, ofB_length, toB_length]; unfold maxLen; omega) | (simp; done) | (simp; omega) | rfl | decide)) ?_
    refine SeqK.q rfl (q_shrL 3 rfl rfl (by decide) rfl) ?_
    refine SeqK.done ?_
    refine OpsW.q rfl (q_xor rfl rfl) ?_
    rw [hm0]
    refine OpsW.q rfl (q_assign (v := .int _ _) rfl) ?_
    refine OpsW.nil ?_
    refine SeqP.go ?_
    refine AW.seq ?_
    refine AW.drawK [] 19 rfl (by kernel_rfl) ?_
    refine SeqK.q rfl (q_move (v := vw) rfl) ?_
    refine SeqK.q rfl (q_move (v := .int _ _) rfl) ?_
    refine SeqK.q rfl (q_subI rfl rfl (by omega)) ?_
    refine SeqK.q rfl (q_indexV1 (hSl2.vec at0) Try.underlying95 (by kernel_rfl) rfl rfl (by first | omega | decide) (by first | omega | decide)) ?_
    refine SeqK.q rfl (q_loadVN (hSl2.vec at0) (by kernel_rfl) rfl (by first | (with_reducible assumption) | omega | (unfold maxLen; omega) | (simp only [nums_length, List.length_set, List.length_replicate, List.length_take, List.length_drop, List.length_append, List.length_cons, List.length_nil, ofB_length, toB_length]; omega) | (simp only [nums_length, List.length_set, List.length_replicate, List.length_take, List.length_drop, List.length_append, List.length_cons, List.length_nil, ofB_length, toB_length]; unfold maxLen; omega) | (simp; done) | (simp; omega) | rfl | decide)) ?_
    refine SeqK.q rfl (o_call rfl Try.func61 rfl rfl (rightR_con (by decide))) ?_
    refine SeqK.q rfl (q_move (v := vw) rfl) ?_
    refine SeqK.q rfl (q_move (v := .int _ _) rfl) ?_
    refine SeqK.q rfl (q_subI rfl rfl (by omega)) ?_
    refine SeqK.q rfl (q_indexV1 (hSl2.vec at0) Try.underlying95 (by kernel_rfl) rfl rfl (by first | omega | decide) (by first | omega | decide)) ?_
    refine SeqK.q rfl (q_loadVN (hSl2.vec at0) (by kernel_rfl) rfl (by first | (with_reducible assumption) | omega | (unfold maxLen; omega) | (simp only [nums_length, List.length_set, List.length_replicate, List.length_take, List.length_drop, List.length_append, List.length_cons, List.length_nil, ofB_length, toB_length]; omega) | (simp only [nums_length, List.length_set, List.length_replicate, List.length_take, List.length_drop, List.length_append, List.length_cons, List.length_nil, ofB_length, toB_length]; unfold maxLen; omega) | (simp; done) | (simp; omega) | rfl | decide)) ?_
    refine SeqK.q rfl (o_call rfl Try.func61 rfl rfl (rightR_con (by decide))) ?_
    refine SeqK.q rfl (q_xor rfl rfl) ?_
    refine SeqK.q rfl (q_move (v := vw) rfl) ?_
    refine SeqK.q rfl (q_move (v := .int _ _) rfl) ?_
    refine SeqK.q rfl (q_subI rfl rfl (by omega)) ?_
    refine SeqK.q rfl (q_indexV1 (hSl2.vec at0) Try.underlying95 (by kernel_rfl) rfl rfl (by first | omega | decide) (by first | omega | decide)) ?_
    refine SeqK.q rfl (q_loadVN (hSl2.vec at0) (by kernel_rfl) rfl (by first | (with_reducible assumption) | omega | (unfold maxLen; omega) | (simp only [nums_length, List.length_set, List.length_replicate, List.length_take, List.length_drop, List.length_append, List.length_cons, List.length_nil, ofB_length, toB_length]; omega) | (simp only [nums_length, List.length_set, List.length_replicate, List.length_take, List.length_drop, List.length_append, List.length_cons, List.length_nil, ofB_length, toB_length]; unfold maxLen; omega) | (simp; done) | (simp; omega) | rfl | decide)) ?_
    refine SeqK.q rfl (q_shrL 10 rfl rfl (by decide) rfl) ?_
    refine SeqK.done ?_
    refine OpsW.q rfl (q_xor rfl rfl) ?_
    rw [hm1]
    refine OpsW.q rfl (q_assign (v := .int _ _) rfl) ?_
    refine OpsW.nil ?_
    refine SeqP.go ?_
    refine AW.drawD 16 0 rfl (by kernel_rfl) (by kernel_rfl) ?_
    refine SeqD.a rfl (fun _ => q_move (v := vw) rfl) ?_
    refine SeqD.a rfl (fun _ => q_move (v := vw) rfl) ?_
    refine SeqD.a rfl (fun _ => q_move (v := .int _ _) rfl) ?_
    refine SeqD.a rfl (fun _ => q_subI rfl rfl (by omega)) ?_
    refine SeqD.b (by kernel_rfl) rfl (q_indexV1 (hSl2.vec at0) Try.underlying95 (by kernel_rfl) rfl rfl (by first | omega | decide) (by first | omega | decide)) ?_
    refine SeqD.b (by kernel_rfl) rfl (q_loadVN (hSl2.vec at0) (by kernel_rfl) rfl (by first | (with_reducible assumption) | omega | (unfold maxLen; omega) | (simp only [nums_length, List.length_set, List.length_replicate, List.length_take, List.length_drop, List.length_append, List.length_cons, List.length_nil, ofB_length, toB_length]; omega) | (simp only [nums_length, List.length_set, List.length_replicate, List.length_take, List.length_drop, List.length_append, List.length_cons, List.length_nil, ofB_length, toB_length]; unfold maxLen; omega) | (simp; done) | (simp; omega) | rfl | decide)) ?_
    refine SeqD.a rfl (fun _ => q_move (v := vw) rfl) ?_
    refine SeqD.a rfl (fun _ => q_move (v := .int _ _) rfl) ?_
    refine SeqD.a rfl (fun _ => q_subI rfl rfl (by omega)) ?_
    refine SeqD.b (by kernel_rfl) rfl (q_indexV1 (hSl2.vec at0) Try.underlying95 (by kernel_rfl) rfl rfl (by first | omega | decide) (by first | omega | decide)) ?_
    refine SeqD.b (by kernel_rfl) rfl (q_loadVN (hSl2.vec at0) (by kernel_rfl) rfl (by first | (with_reducible assumption) | omega | (unfold maxLen; omega) | (simp only [nums_length, List.length_set, List.length_replicate, List.length_take, List.length_drop, List.length_append, List.length_cons, List.length_nil, ofB_length, toB_length]; omega) | (simp only [nums_length, List.length_set, List.length_replicate, List.length_take, List.length_drop, List.length_append, List.length_cons, List.length_nil, ofB_length, toB_length]; unfold maxLen; omega) | (simp; done) | (simp; omega) | rfl | decide)) ?_
    refine SeqD.a rfl (fun _ => q_add rfl rfl) ?_
    refine SeqD.a rfl (fun _ => q_move (v := .int _ _) rfl) ?_
    refine SeqD.a rfl (fun _ => q_add rfl rfl) ?_
    refine SeqD.a rfl (fun _ => q_move (v := .int _ _) rfl) ?_
    refine SeqD.a rfl (fun _ => q_add rfl rfl) ?_
    rw [hnx]
    refine SeqD.x rfl (s_buildSlice (z := .int .u32 0) (vs := nums .u32 [_]) hSl2 Try.underlying95 (by kernel_rfl) (by kernel_rfl) rfl (by rfl) (by rfl) (by decide) rfl (nums_one _ _) rfl) ?_
    rintro v142 H11 hS11
    clear hSl2
    refine ⟨trivial, ?_⟩
    refine SeqR2.done ?_
    refine OpsW.m rfl (s_append (sz := 1) (by_ := 4) (z := .int .u32 0) hS11 at1 Try.underlying95 (by kernel_rfl) (by kernel_rfl) (by kernel_rfl) rfl (by kernel_rfl) rfl rfl (src_vec (hS11.vec at0) (nums_one _ _)) (by first | (with_reducible assumption) | omega | (unfold maxLen; omega) | (simp only [nums_length, List.length_set, List.length_replicate, List.length_take, List.length_drop, List.length_append, List.length_cons, List.length_nil, ofB_length, toB_length]; omega) | (simp only [nums_length, List.length_set, List.length_replicate, List.length_take, List.length_drop, List.length_append, List.length_cons, List.length_nil, ofB_length, toB_length]; unfold maxLen; omega) | (simp; done) | (simp; omega) | rfl | decide) (by first | (with_reducible assumption) | omega | (unfold maxLen; omega) | (simp only [nums_length, List.length_set, List.length_replicate, List.length_take, List.length_drop, List.length_append, List.length_cons, List.length_nil, ofB_length, toB_length]; omega) | (simp only [nums_length, List.length_set, List.length_replicate, List.length_take, List.length_drop, List.length_append, List.length_cons, List.length_nil, ofB_length, toB_length]; unfold maxLen; omega) | (simp; done) | (simp; omega) | rfl | decide)) ?_
    rintro v143 H12 hS12
    clear hS11
    replace hS12 := hS12.del del0
    refine OpsW.q rfl (q_assign (v := v143) rfl) ?_
    refine OpsW.nil ?_
    refine BlockP.go ?_
    refine SeqP.go ?_
    refine AW.region ?_
    refine OpsW.q rfl (q_move (v := .int _ _) rfl) ?_
    refine OpsW.q rfl (q_addI rfl rfl (by omega)) ?_
    refine OpsW.q rfl (q_assign (v := .int _ _) rfl) ?_
    refine OpsW.nil ?_
    exact LoopP.go _ (by omega) ⟨t + 1, v143, _, rfl, (by omega), Slots.eq ⟨(by first | rfl | exact i64_int (by omega) (by omega) (by omega) | assumption), (by first | rfl | exact i64_int (by omega) (by omega) (by omega) | assumption), (by first | rfl | exact i64_int (by omega) (by omega) (by omega) | assumption), (by first | rfl | exact i64_int (by omega) (by omega) (by omega) | assumption), (by first | rfl | exact i64_int (by omega) (by omega) (by omega) | assumption), (by first | rfl | exact i64_int (by omega) (by omega) (by omega) | assumption),  trivial⟩, (by rw [wsK_hi _ (by omega), nums_append]; exact hS12)⟩
  try simp only [decide_eq_true_eq, decide_eq_false_iff_not, Bool.or_eq_true, Bool.and_eq_true, Bool.or_eq_false_iff, Bool.and_eq_false_imp, Bool.not_eq_true', Bool.not_eq_false', ne_eq, Decidable.not_not, Int.not_lt, Int.not_le, Bool.not_eq_true, Bool.not_eq_false] at h0
  refine AW.skip ?_
  refine SeqP.go ?_
  refine AW.seq ?_
  refine AW.block ?_
  refine AW.region ?_
  refine OpsW.q rfl (q_move (v := vh) rfl) ?_
  refine OpsW.q rfl (q_move (v := v22) rfl) ?_
  refine OpsW.q rfl (q_move (v := .int _ _) rfl) ?_
  refine OpsW.q rfl (q_indexV1 (hSl0.vec at1) Try.underlying93 (by kernel_rfl) rfl rfl (by first | omega | decide) (by first | omega | decide)) ?_
  refine OpsW.q rfl (q_loadVN (hSl0.vec at1) (by kernel_rfl) rfl (by first | (with_reducible assumption) | omega | (unfold maxLen; omega) | (simp only [nums_length, List.length_set, List.length_replicate, List.length_take, List.length_drop, List.length_append, List.length_cons, List.length_nil, ofB_length, toB_length]; omega) | (simp only [nums_length, List.length_set, List.length_replicate, List.length_take, List.length_drop, List.length_append, List.length_cons, List.length_nil, ofB_length, toB_length]; unfold maxLen; omega) | (simp; done) | (simp; omega) | rfl | decide)) ?_
  refine OpsW.q rfl (q_shrL 32 rfl rfl (by decide) rfl) ?_
  refine OpsW.q rfl (q_convInt rfl Try.underlying96 rfl) ?_
  rw [w32_def]
  refine OpsW.m rfl (s_buildSlice (z := .int .u32 0) (vs := nums .u32 [_]) hSl0 Try.underlying95 (by kernel_rfl) (by kernel_rfl) rfl (by rfl) (by rfl) (by decide) rfl (nums_one _ _) rfl) ?_
  rintro v34 H13 hS13
  clear hSl0
  refine OpsW.m rfl (s_append (sz := 1) (by_ := 4) (z := .int .u32 0) hS13 at1 Try.underlying95 (by kernel_rfl) (by kernel_rfl) (by kernel_rfl) rfl (by kernel_rfl) rfl rfl (src_vec (hS13.vec at0) (nums_one _ _)) (by first | (with_reducible assumption) | omega | (unfold maxLen; omega) | (simp only [nums_length, List.length_set, List.length_replicate, List.length_take, List.length_drop, List.length_append, List.length_cons, List.length_nil, ofB_length, toB_length]; omega) | (simp only [nums_length, List.length_set, List.length_replicate, List.length_take, List.length_drop, List.length_append, List.length_cons, List.length_nil, ofB_length, toB_length]; unfold maxLen; omega) | (simp; done) | (simp; omega) | rfl | decide) (by first | (with_reducible assumption) | omega | (unfold maxLen; omega) | (simp only [nums_length, List.length_set, List.length_replicate, List.length_take, List.length_drop, List.length_append, List.length_cons, List.length_nil, ofB_length, toB_length]; omega) | (simp only [nums_length, List.length_set, List.length_replicate, List.length_take, List.length_drop, List.length_append, List.length_cons, List.length_nil, ofB_length, toB_length]; unfold maxLen; omega) | (simp; done) | (simp; omega) | rfl | decide)) ?_
  rintro v35 H14 hS14
  clear hS13
  replace hS14 := hS14.del del0
  refine OpsW.q rfl (q_assign (v := v35) rfl) ?_
  refine OpsW.nil ?_
  refine BlockP.go ?_
  refine SeqP.go ?_
  refine AW.region ?_
  refine OpsW.q rfl (q_move (v := .int _ _) rfl) ?_
  refine OpsW.q rfl (q_addI rfl rfl (by omega)) ?_
  refine OpsW.q rfl (q_assign (v := .int _ _) rfl) ?_
  refine OpsW.nil ?_
  exact LoopP.go _ (by omega) ⟨i + 1, v35, _, rfl, (by omega), Slots.eq ⟨(by first | rfl | exact i64_int (by omega) (by omega) (by omega) | assumption), (by first | rfl | exact i64_int (by omega) (by omega) (by omega) | assumption), (by first | rfl | exact i64_int (by omega) (by omega) (by omega) | assumption), (by first | rfl | exact i64_int (by omega) (by omega) (by omega) | assumption), (by first | rfl | exact i64_int (by omega) (by omega) (by omega) | assumption),  trivial⟩, (by have hs9 := hS14; rw [Int.toNat_natCast, ← nums_append] at hs9; rw [stR_succ (by omega)]; exact hs9)⟩
end
end Go.Proofs.Ytfiojlmccflplaa

