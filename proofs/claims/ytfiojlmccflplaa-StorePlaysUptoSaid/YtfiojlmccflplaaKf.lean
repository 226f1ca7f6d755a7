/-
  The proof's texts, joined, without what the statements do not reach: part 6 of 7. No condition.
-/
import Derived.JoinedCond
import Derived.WalkKit
import Derived.KernelRfl
import Derived.Lib.ConvBytes
import Derived.WalkSpells
import Derived.WalkLawsBesides
import Derived.ProofKit
import Derived.ChangeMaps5
import Derived.ChangeSlices
import Derived.Deep.Strs
import Derived.DataElems
import Derived.OpenShut
import Derived.Test.YtfiojlmccflplaaProg
import Derived.MapKept
import Derived.Laws.StructEq
import Derived.Test.YtfiojlmccflplaaKe
section
namespace Go.Proofs.Ytfiojlmccflplaa
open Go Go.RowKit D
set_option linter.unusedVariables false
set_option linter.unusedSimpArgs false
set_option maxRecDepth 100000
set_option maxHeartbeats 2000000
section
variable {w0 : World} {H : Hp} {H0 : Hp}
def stR (i : Nat) : List Int := (stL0.take i).map (fun x => w32 (x / 2 ^ 32))
theorem stR_zero : stR 0 = [] := rfl
theorem stR_succ {i : Nat} (h : i < 8) : stR (i + 1) = stR i ++ [w32 (stL0.getD i 0 / 2 ^ 32)] := by
  have hl := stL0_len
  unfold stR
  rw [List.take_succ_eq_append_getElem (by omega), List.map_append, List.getD_eq_getElem?_getD, List.getElem?_eq_getElem (by omega)]
  rfl
theorem stR_fin : stR 8 = startW := by
  unfold stR
  rw [List.take_of_length_le (by rw [stL0_len]; exact Nat.le_refl _), startW_eq]
theorem stR_length {i : Nat} (h : i ≤ 8) : (stR i).length = i := by
  have hl := stL0_len
  unfold stR; rw [List.length_map, List.length_take]; omega
theorem blk_bt (l : List UInt8) (a : Nat) {j : Nat} (h : j < 64) : bt ((l.drop a).take 64) j = ((((l.getD (a + j) 0).toNat : Nat)) : Int) := by
  unfold bt
  simp [List.getD_eq_getElem?_getD, List.getElem?_take, List.getElem?_drop, h]
theorem rightR_con {x n : Int} (h0 : 0 ≤ n ∧ n ≤ 32) : Con Try.prog w0 61 #[.int .u32 x, .int .i64 n] H (fun v H' => v = .int .u32 (rt x n) ∧ H' = H) := by
  have hS0 : Sep H [] H := Sep.refl
  refine Con.intro Try.func61 rfl rfl ?_
  refine AW.seq ?_
  refine AW.region ?_
  refine OpsW.q rfl (q_assign (v := .int _ _) rfl) ?_
  refine OpsW.nil ?_
  refine SeqP.go ?_
  refine AW.seq ?_
  refine AW.drawK [] 7 rfl (by kernel_rfl) ?_
  refine SeqK.q rfl (q_move (v := .int _ _) rfl) ?_
  refine SeqK.q rfl (q_move (v := .int _ _) rfl) ?_
  refine SeqK.q rfl (q_shr rfl rfl (by omega)) ?_
  refine SeqK.q rfl (q_move (v := .int _ _) rfl) ?_
  refine SeqK.q rfl (q_move (v := .int _ _) rfl) ?_
  refine SeqK.q rfl (q_subI rfl rfl (by omega)) ?_
  refine SeqK.q rfl (q_shl rfl rfl (by omega)) ?_
  refine SeqK.done ?_
  refine OpsW.q rfl (q_or rfl rfl) ?_
  refine OpsW.q rfl (q_assign (v := .int _ _) rfl) ?_
  refine OpsW.nil ?_
  refine SeqP.go ?_
  refine AW.ret ?_
  refine RetP.mk1 (H' := H) (v1 := .int _ _) rfl rfl  hS0.le ?_
  exact ⟨by rw [rt_def], rfl⟩
theorem constantsR_con : Con Try.prog w0 58 #[] H (fun v H' => Sep H [.vec v 97 1 80 (nums .u64 kL)] H') := by
  have hS0 : Sep H [] H := Sep.refl
  refine Con.intro Try.func58 rfl rfl ?_
  refine AW.seq ?_
  refine AW.region ?_
  refine OpsW.q rfl (q_assign (v := .slice _ _ _) rfl) ?_
  refine OpsW.nil ?_
  refine SeqP.go ?_
  refine AW.seq ?_
  refine AW.region ?_
  refine OpsW.m rfl (s_buildSlice (z := .int .u64 0) (vs := nums .u64 [_, _, _, _, _, _, _, _, _, _, _, _, _, _, _, _, _, _, _, _, _, _, _, _, _, _, _, _, _, _, _, _, _, _, _, _, _, _, _, _, _, _, _, _, _, _, _, _, _, _, _, _, _, _, _, _, _, _, _, _, _, _, _, _, _, _, _, _, _, _, _, _, _, _, _, _, _, _, _, _]) hS0 Try.underlying93 (by kernel_rfl) (by kernel_rfl) rfl (by rfl) (by rfl) (by decide) rfl (nums_one _ _) rfl) ?_
  rintro v1 H1 hS1
  clear hS0
  refine OpsW.q rfl (q_assign (v := v1) rfl) ?_
  refine OpsW.nil ?_
  refine SeqP.go ?_
  refine AW.ret ?_
  refine RetP.mk1 (H' := H1) (v1 := v1) rfl rfl  (Hp.le_refl _) ?_
  have hs := hS1
  unfold kL
  exact hs
theorem beginningsR_con : Con Try.prog w0 59 #[] H (fun v H' => Sep H [.vec v 97 1 8 (nums .u64 stL0)] H') := by
  have hS0 : Sep H [] H := Sep.refl
  refine Con.intro Try.func59 rfl rfl ?_
  refine AW.seq ?_
  refine AW.region ?_
  refine OpsW.q rfl (q_assign (v := .slice _ _ _) rfl) ?_
  refine OpsW.nil ?_
  refine SeqP.go ?_
  refine AW.seq ?_
  refine AW.region ?_
  refine OpsW.m rfl (s_buildSlice (z := .int .u64 0) (vs := nums .u64 [_, _, _, _, _, _, _, _]) hS0 Try.underlying93 (by kernel_rfl) (by kernel_rfl) rfl (by rfl) (by rfl) (by decide) rfl (nums_one _ _) rfl) ?_
  rintro v1 H1 hS1
  clear hS0
  refine OpsW.q rfl (q_assign (v := v1) rfl) ?_
  refine OpsW.nil ?_
  refine SeqP.go ?_
  refine AW.ret ?_
  refine RetP.mk1 (H' := H1) (v1 := v1) rfl rfl  (Hp.le_refl _) ?_
  have hs := hS1
  unfold stL0
  exact hs
theorem fullR_con {d : List UInt8} (hm : d.length ≤ 1099511627776) : Con Try.prog w0 60 #[S d, .int .i64 64, .int .i64 8] H (fun v H' => Sep H [.vec v 5 1 (fullB d).length (nums .u8 (ofB (fullB d)))] H') := by
  have hS0 : Sep H [] H := Sep.refl
  have hpl : pads d.length < 64 := pads_lt _
  refine Con.intro Try.func60 rfl rfl ?_
  refine AW.seq ?_
  refine AW.region ?_
  refine OpsW.q rfl (q_assign (v := .slice _ _ _) rfl) ?_
  refine OpsW.nil ?_
  refine SeqP.go ?_
  refine AW.seq ?_
  refine AW.region ?_
  refine OpsW.q rfl (q_move (v := S _) rfl) ?_
  refine OpsW.m rfl (s_bytes hS0 rfl Try.underlying72 Try.underlying5 rfl (by unfold maxLen; omega)) ?_
  rintro v11 H1 hS1
  clear hS0
  refine OpsW.q rfl (q_assign (v := v11) rfl) ?_
  refine OpsW.nil ?_
  refine SeqP.go ?_
  refine AW.seq ?_
  refine AW.region ?_
  refine OpsW.q rfl (q_move (v := v11) rfl) ?_
  refine OpsW.m rfl (s_buildSlice (z := .int .u8 0) (vs := nums .u8 (ofB [128])) hS1 Try.underlying72 (by kernel_rfl) (by kernel_rfl) rfl (by rfl) (by rfl) (by decide) rfl (nums_one _ _) rfl) ?_
  rintro v13 H2 hS2
  clear hS1
  refine OpsW.m rfl (s_append (sz := 1) (by_ := 1) (z := .int .u8 0) hS2 at1 Try.underlying72 (by kernel_rfl) (by kernel_rfl) (by kernel_rfl) rfl (by kernel_rfl) rfl rfl (src_vec (hS2.vec at0) (nums_one _ _)) (by unfold maxLen; omega) (by omega)) ?_
  rintro v14 H3 hS3
  clear hS2
  rw [← nums_append, ← ofB_app] at hS3
  replace hS3 := hS3.del del0
  refine OpsW.q rfl (q_assign (v := v14) rfl) ?_
  refine OpsW.nil ?_
  refine SeqP.go ?_
  refine AW.seq ?_
  refine AW.block ?_
  refine AW.loop (fun m_ e_ H_ => ∃ (j : Nat) (vs : Value) (e0 : Env), m_ = pads d.length - j ∧ (j ≤ pads d.length) ∧ e_ = upds e0 [(0, S d), (1, .int .i64 64), (2, .int .i64 8), (7, vs)] ∧ Sep H [.vec vs 5 1 (d.length + 1 + j) (nums .u8 (ofB (begB d j)))] H_) _ ⟨0, v14, _, rfl, (by omega), Slots.eq ⟨(by rfl), (by rfl), (by rfl), (by rfl),  trivial⟩, (by rw [begB_zero]; exact hS3)⟩ ?_
  rintro m_ _ Hl0 ⟨j, vs, e0, rfl, hf, rfl, hSl0⟩
  try clear hS3
  have hbl := begB_length d j
  refine AW.seq ?_
  refine AW.seq ?_
  refine AW.region ?_
  refine OpsW.q rfl (q_move (v := vs) rfl) ?_
  refine OpsW.q rfl (q_lenVec Try.underlying72 rfl (hSl0.vec at0)) ?_
  refine OpsW.q rfl (q_move (v := .int _ _) rfl) ?_
  refine OpsW.q rfl (q_addI rfl rfl (by omega)) ?_
  refine OpsW.q rfl (q_move (v := .int _ _) rfl) ?_
  refine OpsW.q rfl (q_remI rfl rfl (by omega)) ?_
  refine OpsW.q rfl (q_neq rfl rfl) ?_
  refine OpsW.nil ?_
  refine SeqP.go ?_
  refine AW.cond2 rfl (fun h0 => ?_) (fun h0 => ?_)
  ·
    try simp only [decide_eq_true_eq, decide_eq_false_iff_not, Bool.or_eq_true, Bool.and_eq_true, Bool.or_eq_false_iff, Bool.and_eq_false_imp, Bool.not_eq_true', Bool.not_eq_false', ne_eq, Decidable.not_not, Int.not_lt, Int.not_le, Bool.not_eq_true, Bool.not_eq_false] at h0
    refine AW.exit ?_
    refine SeqP.exit ?_
    refine LoopP.exit ?_
    have hj : j = pads d.length := (pads_stop hf).1 (by omega)
    subst hj
    refine BlockP.here ?_
    refine SeqP.go ?_
    refine AW.seq ?_
    refine AW.region ?_
    refine OpsW.q rfl (q_move (v := S _) rfl) ?_
    refine OpsW.q rfl (q_lenS Try.underlying9 rfl) ?_
    refine OpsW.q rfl (q_mulI rfl rfl (by omega)) ?_
    refine OpsW.q rfl (q_assign (v := .int _ _) rfl) ?_
    refine OpsW.nil ?_
    refine SeqP.go ?_
    refine AW.seq ?_
    refine AW.seq ?_
    refine AW.region ?_
    refine OpsW.q rfl (q_move (v := .int _ _) rfl) ?_
    refine OpsW.q rfl (q_subI rfl rfl (by omega)) ?_
    refine OpsW.q rfl (q_assign (v := .int _ _) rfl) ?_
    refine OpsW.nil ?_
    refine SeqP.go ?_
    refine AW.block ?_
    refine AW.loop (fun m_ e_ H_ => ∃ (i : Nat) (vs : Value) (e0 : Env), m_ = 8 - i ∧ (i ≤ 8) ∧ e_ = upds e0 [(7, vs), (8, .int .i64 ((d.length : Int) * 8)), (9, .int .i64 ((7 : Int) - (i : Int)))] ∧ Sep H [.vec vs 5 1 ((d.length + 1 + pads d.length) + i) (nums .u8 (ofB (begB d (pads d.length) ++ lenB d.length i)))] H_) _ ⟨0, vs, _, rfl, (by omega), Slots.eq ⟨(by rfl), (by rfl), (by show Value.int .i64 _ = Value.int .i64 _; exact congrArg _ (by decide)),  trivial⟩, (by rw [lenB_zero', List.append_nil]; exact hSl0)⟩ ?_
    rintro m_ _ Hl1 ⟨i, vs, e0, rfl, hf, rfl, hSl1⟩
    try clear hSl0
    have hbl := begB_length d (pads d.length)
    have hll := lenB_length d.length i
    have hlb : (d.length : Int) * 8 / 2 ^ min (8 * ((7 : Int) - (i : Int))).toNat IntKind.i64.bits = (8 * (d.length : Int)) / 2 ^ (8 * (7 - i)) := by rw [Int.mul_comm, show min (8 * ((7 : Int) - (i : Int))).toNat IntKind.i64.bits = 8 * (7 - i) from by rw [show IntKind.i64.bits = 64 from rfl]; omega]
    refine AW.seq ?_
    refine AW.seq ?_
    refine AW.region ?_
    refine OpsW.q rfl (q_move (v := .int _ _) rfl) ?_
    refine OpsW.q rfl (q_geq rfl rfl) ?_
    refine OpsW.nil ?_
    refine SeqP.go ?_
    refine AW.cond2 rfl (fun h1 => ?_) (fun h1 => ?_)
    ·
      try simp only [decide_eq_true_eq, decide_eq_false_iff_not, Bool.or_eq_true, Bool.and_eq_true, Bool.or_eq_false_iff, Bool.and_eq_false_imp, Bool.not_eq_true', Bool.not_eq_false', ne_eq, Decidable.not_not, Int.not_lt, Int.not_le, Bool.not_eq_true, Bool.not_eq_false] at h1
      refine AW.exit ?_
      refine SeqP.exit ?_
      refine LoopP.exit ?_
      obtain rfl : i = 8 := by omega
      rw [← fullB_def] at hSl1
      have hfl : (d.length + 1 + pads d.length) + 8 = (fullB d).length := by rw [fullB_def, List.length_append, hbl, hll]
      rw [hfl] at hSl1
      refine BlockP.here ?_
      refine SeqP.go ?_
      refine AW.seq ?_
      refine AW.region ?_
      refine OpsW.q rfl (q_move (v := vs) rfl) ?_
      refine OpsW.q rfl (q_assign (v := vs) rfl) ?_
      refine OpsW.nil ?_
      refine SeqP.go ?_
      refine AW.ret ?_
      refine RetP.mk1 (H' := Hl1) (v1 := vs) rfl rfl  (Hp.le_refl _) ?_
      exact hSl1
    try simp only [decide_eq_true_eq, decide_eq_false_iff_not, Bool.or_eq_true, Bool.and_eq_true, Bool.or_eq_false_iff, Bool.and_eq_false_imp, Bool.not_eq_true', Bool.not_eq_false', ne_eq, Decidable.not_not, Int.not_lt, Int.not_le, Bool.not_eq_true, Bool.not_eq_false] at h1
    refine AW.skip ?_
    refine SeqP.go ?_
    refine AW.seq ?_
    refine AW.block ?_
    refine AW.seq ?_
    refine AW.region ?_
    refine OpsW.q rfl (q_move (v := .int _ _) rfl) ?_
    refine OpsW.q rfl (q_gtr rfl rfl) ?_
    refine OpsW.nil ?_
    refine SeqP.go ?_
    refine AW.cond rfl (fun h2 => ?_) (fun h2 => ?_)
    ·
      exfalso
      try simp only [decide_eq_true_eq, decide_eq_false_iff_not, Bool.or_eq_true, Bool.and_eq_true, Bool.or_eq_false_iff, Bool.and_eq_false_imp, Bool.not_eq_true', Bool.not_eq_false', ne_eq, Decidable.not_not, Int.not_lt, Int.not_le, Bool.not_eq_true, Bool.not_eq_false] at h2
      omega
    try simp only [decide_eq_true_eq, decide_eq_false_iff_not, Bool.or_eq_true, Bool.and_eq_true, Bool.or_eq_false_iff, Bool.and_eq_false_imp, Bool.not_eq_true', Bool.not_eq_false', ne_eq, Decidable.not_not, Int.not_lt, Int.not_le, Bool.not_eq_true, Bool.not_eq_false] at h2
    refine AW.region ?_
    refine OpsW.q rfl (q_move (v := vs) rfl) ?_
    refine OpsW.q rfl (q_move (v := .int _ _) rfl) ?_
    refine OpsW.q rfl (q_move (v := .int _ _) rfl) ?_
    refine OpsW.q rfl (q_mulI rfl rfl (by omega)) ?_
    refine OpsW.q rfl (q_shr rfl rfl (by omega)) ?_
    refine OpsW.q rfl (q_convB8 rfl Try.underlying5 rfl) ?_
    rw [hlb]
    refine OpsW.m rfl (s_buildSlice (z := .int .u8 0) (vs := nums .u8 (ofB [_])) hSl1 Try.underlying72 (by kernel_rfl) (by kernel_rfl) rfl (by rfl) (by rfl) (by decide) rfl (nums_one _ _) rfl) ?_
    rintro v45 H4 hS4
    clear hSl1
    refine OpsW.m rfl (s_append (sz := 1) (by_ := 1) (z := .int .u8 0) hS4 at1 Try.underlying72 (by kernel_rfl) (by kernel_rfl) (by kernel_rfl) rfl (by kernel_rfl) rfl rfl (src_vec (hS4.vec at0) (nums_one _ _)) (by unfold maxLen; omega) (by omega)) ?_
    rintro v46 H5 hS5
    clear hS4
    rw [← nums_append, ← ofB_app] at hS5
    replace hS5 := hS5.del del0
    refine OpsW.q rfl (q_assign (v := v46) rfl) ?_
    refine OpsW.nil ?_
    refine BlockP.go ?_
    refine SeqP.go ?_
    refine AW.region ?_
    refine OpsW.q rfl (q_move (v := .int _ _) rfl) ?_
    refine OpsW.q rfl (q_subI rfl rfl (by omega)) ?_
    refine OpsW.q rfl (q_assign (v := .int _ _) rfl) ?_
    refine OpsW.nil ?_
    exact LoopP.go _ (by omega) ⟨i + 1, v46, _, rfl, (by omega), Slots.eq ⟨(by rfl), (by rfl), (by show Value.int .i64 _ = Value.int .i64 _; exact congrArg _ (by omega)),  trivial⟩, (by rw [lenB_succ, ← List.append_assoc]; exact hS5)⟩
  try simp only [decide_eq_true_eq, decide_eq_false_iff_not, Bool.or_eq_true, Bool.and_eq_true, Bool.or_eq_false_iff, Bool.and_eq_false_imp, Bool.not_eq_true', Bool.not_eq_false', ne_eq, Decidable.not_not, Int.not_lt, Int.not_le, Bool.not_eq_true, Bool.not_eq_false] at h0
  have hjl : j < pads d.length := by { rcases Nat.lt_or_ge j (pads d.length) with g | g; exact g; exfalso; have hz := (pads_stop hf).2 (by omega); omega }
  refine AW.skip ?_
  refine SeqP.go ?_
  refine AW.block ?_
  refine AW.region ?_
  refine OpsW.q rfl (q_move (v := vs) rfl) ?_
  refine OpsW.m rfl (s_buildSlice (z := .int .u8 0) (vs := nums .u8 (ofB [0])) hSl0 Try.underlying72 (by kernel_rfl) (by kernel_rfl) rfl (by rfl) (by rfl) (by decide) rfl (nums_one _ _) rfl) ?_
  rintro v23 H6 hS6
  clear hSl0
  refine OpsW.m rfl (s_append (sz := 1) (by_ := 1) (z := .int .u8 0) hS6 at1 Try.underlying72 (by kernel_rfl) (by kernel_rfl) (by kernel_rfl) rfl (by kernel_rfl) rfl rfl (src_vec (hS6.vec at0) (nums_one _ _)) (by unfold maxLen; omega) (by omega)) ?_
  rintro v24 H7 hS7
  clear hS6
  rw [← nums_append, ← ofB_app] at hS7
  replace hS7 := hS7.del del0
  refine OpsW.q rfl (q_assign (v := v24) rfl) ?_
  refine OpsW.nil ?_
  refine BlockP.go ?_
  exact LoopP.go _ (by omega) ⟨j + 1, v24, _, rfl, (by omega), Slots.eq ⟨(by rfl), (by rfl), (by rfl), (by rfl),  trivial⟩, (by rw [begB_succ]; exact hS7)⟩
theorem Sum256R_con {d : List UInt8} (hm : d.length ≤ 1099511627776) : Con Try.prog w0 52 #[S d] H (fun v H' => v = S (sha256 d) ∧ H' = H) := by
  have hS0 : Sep H [] H := Sep.refl
  have hkl := kL_len
  have hsl := stL0_len
  have hflm := fullB_length d
  refine Con.intro Try.func52 rfl rfl ?_
  refine AW.seq ?_
  refine AW.region ?_
  refine OpsW.q rfl (q_assign (v := S _) rfl) ?_
  refine OpsW.nil ?_
  refine SeqP.go ?_
  refine AW.seq ?_
  refine AW.region ?_
  refine OpsW.m rfl (o_call rfl Try.func58 rfl rfl (constantsR_con)) ?_
  rintro v21 H1 hR1
  have hS1 := hS0.join hR1
  simp only [List.cons_append, List.nil_append] at hS1
  clear hR1 hS0
  refine OpsW.q rfl (q_assign (v := v21) rfl) ?_
  refine OpsW.nil ?_
  refine SeqP.go ?_
  refine AW.seq ?_
  refine AW.region ?_
  refine OpsW.m rfl (o_call rfl Try.func59 rfl rfl (beginningsR_con)) ?_
  rintro v22 H2 hR2
  have hS2 := hS1.join hR2
  simp only [List.cons_append, List.nil_append] at hS2
  clear hR2 hS1
  refine OpsW.q rfl (q_assign (v := v22) rfl) ?_
  refine OpsW.nil ?_
  refine SeqP.go ?_
  refine AW.seq ?_
  refine AW.region ?_
  refine OpsW.q rfl (q_assign (v := .slice _ _ _) rfl) ?_
  refine OpsW.nil ?_
  refine SeqP.go ?_
  refine AW.seq ?_
  refine AW.seq ?_
  refine AW.region ?_
  refine OpsW.q rfl (q_assign (v := .int _ _) rfl) ?_
  refine OpsW.nil ?_
  refine SeqP.go ?_
  refine AW.block ?_
  replace hS2 := hS2.nil (el := 96) (sz := 1)
  refine AW.loop (fun m_ e_ H_ => ∃ (i : Nat) (vh : Value) (e0 : Env), m_ = 8 - i ∧ (i ≤ 8) ∧ e_ = upds e0 [(0, S d), (3, v21), (4, v22), (5, vh), (6, .int .i64 (i : Int))] ∧ Sep H [.vec vh 96 1 i (nums .u32 (stR i)), .vec v22 97 1 8 (nums .u64 stL0), .vec v21 97 1 80 (nums .u64 kL)] H_) _ ⟨0, nilV, _, rfl, (by omega), Slots.eq ⟨(by rfl), (by rfl), (by rfl), (by rfl), (by rfl),  trivial⟩, (by rw [stR_zero]; exact hS2)⟩ ?_
  rintro m_ _ Hl0 ⟨i, vh, e0, rfl, hf, rfl, hSl0⟩
  try clear hS2
  have hrl := stR_length hf
  refine AW.seq ?_
  refine AW.seq ?_
  refine AW.region ?_
  refine OpsW.q rfl (q_move (v := .int _ _) rfl) ?_
  refine OpsW.q rfl (q_lss rfl rfl) ?_
  refine OpsW.nil ?_
  refine SeqP.go ?_
  refine AW.cond2 rfl (fun h0 => ?_) (fun h0 => ?_)
  ·
    try simp only [decide_eq_true_eq, decide_eq_false_iff_not, Bool.or_eq_true, Bool.and_eq_true, Bool.or_eq_false_iff, Bool.and_eq_false_imp, Bool.not_eq_true', Bool.not_eq_false', ne_eq, Decidable.not_not, Int.not_lt, Int.not_le, Bool.not_eq_true, Bool.not_eq_false] at h0
    refine AW.exit ?_
    refine SeqP.exit ?_
    refine LoopP.exit ?_
    obtain rfl : i = 8 := by omega
    rw [stR_fin] at hSl0
    refine BlockP.here ?_
    refine SeqP.go ?_
    refine AW.seq ?_
    refine AW.region ?_
    refine OpsW.q rfl (q_move (v := S _) rfl) ?_
    refine OpsW.m rfl (o_call rfl Try.func60 rfl rfl (fullR_con hm)) ?_
    rintro v37 H3 hR3
    have hS3 := hSl0.join hR3
    simp only [List.cons_append, List.nil_append] at hS3
    clear hR3 hSl0
    refine OpsW.q rfl (q_assign (v := v37) rfl) ?_
    refine OpsW.nil ?_
    refine SeqP.go ?_
    refine AW.seq ?_
    refine AW.seq ?_
    refine AW.region ?_
    refine OpsW.q rfl (q_assign (v := .int _ _) rfl) ?_
    refine OpsW.nil ?_
    refine SeqP.go ?_
    refine AW.block ?_
    replace hS3 := Sep.bring del0 hS3
    replace hS3 := Sep.bring del3 hS3
    replace hS3 := Sep.bring del2 hS3
    replace hS3 := hS3.del del3
    refine AW.loop (fun m_ e_ H_ => ∃ (i : Nat) (vh : Value) (e0 : Env), m_ = (fullB d).length - 64 * i ∧ (64 * i ≤ (fullB d).length) ∧ e_ = upds e0 [(3, v21), (5, vh), (7, v37), (8, .int .i64 ((64 * i : Nat) : Int))] ∧ Sep H [.vec vh 96 1 8 (nums .u32 (hashW d i)), .vec v21 97 1 80 (nums .u64 kL), .vec v37 5 1 ((fullB d).length) (nums .u8 (ofB (fullB d)))] H_) _ ⟨0, vh, _, rfl, (by omega), Slots.eq ⟨(by rfl), (by rfl), (by rfl), (by rfl),  trivial⟩, (by rw [hashW_zero']; exact hS3)⟩ ?_
    rintro m_ _ Hl1 ⟨i, vh, e0, rfl, hf, rfl, hSl1⟩
    try clear hS3
    have hhl := hashW_length d i
    refine AW.seq ?_
    refine AW.seq ?_
    refine AW.region ?_
    refine OpsW.q rfl (q_move (v := .int _ _) rfl) ?_
    refine OpsW.q rfl (q_move (v := v37) rfl) ?_
    refine OpsW.q rfl (q_lenVec Try.underlying72 rfl (hSl1.vec at2)) ?_
    refine OpsW.q rfl (q_lss rfl rfl) ?_
    refine OpsW.nil ?_
    refine SeqP.go ?_
    refine AW.cond2 rfl (fun h1 => ?_) (fun h1 => ?_)
    ·
      try simp only [decide_eq_true_eq, decide_eq_false_iff_not, Bool.or_eq_true, Bool.and_eq_true, Bool.or_eq_false_iff, Bool.and_eq_false_imp, Bool.not_eq_true', Bool.not_eq_false', ne_eq, Decidable.not_not, Int.not_lt, Int.not_le, Bool.not_eq_true, Bool.not_eq_false] at h1
      refine AW.exit ?_
      refine SeqP.exit ?_
      refine LoopP.exit ?_
      have hi : i = (fullB d).length / 64 := by omega
      subst hi
      refine BlockP.here ?_
      refine SeqP.go ?_
      refine AW.seq ?_
      refine AW.region ?_
      refine OpsW.q rfl (q_assign (v := .slice _ _ _) rfl) ?_
      refine OpsW.nil ?_
      refine SeqP.go ?_
      refine AW.seq ?_
      refine AW.seq ?_
      refine AW.region ?_
      refine OpsW.q rfl (q_assign (v := .int _ _) rfl) ?_
      refine OpsW.nil ?_
      refine SeqP.go ?_
      refine AW.block ?_
      replace hSl1 := hSl1.nil (el := 5) (sz := 1)
      replace hSl1 := hSl1.del del2
      replace hSl1 := hSl1.del del2
      refine AW.loop (fun m_ e_ H_ => ∃ (i : Nat) (vo : Value) (e0 : Env), m_ = 8 - i ∧ (i ≤ 8) ∧ e_ = upds e0 [(5, vh), (19, vo), (20, .int .i64 (i : Int))] ∧ Sep H [.vec vo 5 1 (4 * i) (nums .u8 (ofB (outW (hashW d ((fullB d).length / 64)) i))), .vec vh 96 1 8 (nums .u32 (hashW d ((fullB d).length / 64)))] H_) _ ⟨0, nilV, _, rfl, (by omega), Slots.eq ⟨(by rfl), (by rfl), (by rfl),  trivial⟩, (by rw [outW_zero']; exact hSl1)⟩ ?_
      rintro m_ _ Hl5 ⟨i, vo, e0, rfl, hf, rfl, hSl5⟩
      try clear hSl1
      have hhl := hashW_length d ((fullB d).length / 64)
      have hol := outW_length (hashW d ((fullB d).length / 64)) i
      refine AW.seq ?_
      refine AW.seq ?_
      refine AW.region ?_
      refine OpsW.q rfl (q_move (v := .int _ _) rfl) ?_
      refine OpsW.q rfl (q_lss rfl rfl) ?_
      refine OpsW.nil ?_
      refine SeqP.go ?_
      refine AW.cond2 rfl (fun h6 => ?_) (fun h6 => ?_)
      ·
        try simp only [decide_eq_true_eq, decide_eq_false_iff_not, Bool.or_eq_true, Bool.and_eq_true, Bool.or_eq_false_iff, Bool.and_eq_false_imp, Bool.not_eq_true', Bool.not_eq_false', ne_eq, Decidable.not_not, Int.not_lt, Int.not_le, Bool.not_eq_true, Bool.not_eq_false] at h6
        refine AW.exit ?_
        refine SeqP.exit ?_
        refine LoopP.exit ?_
        obtain rfl : i = 8 := by omega
        refine BlockP.here ?_
        refine SeqP.go ?_
        refine AW.seq ?_
        refine AW.region ?_
        refine OpsW.q rfl (q_move (v := vo) rfl) ?_
        refine OpsW.q rfl (q_stringB (hSl5.vec at0) Try.underlying72 Try.underlying5 Try.underlying9 rfl) ?_
        refine OpsW.q rfl (q_assign (v := S _) rfl) ?_
        refine OpsW.nil ?_
        refine SeqP.go ?_
        refine AW.ret ?_
        refine RetP.mk1 (H' := H) (v1 := S _) rfl rfl  hSl5.le ?_
        exact ⟨by rw [sha256_def], rfl⟩
      try simp only [decide_eq_true_eq, decide_eq_false_iff_not, Bool.or_eq_true, Bool.and_eq_true, Bool.or_eq_false_iff, Bool.and_eq_false_imp, Bool.not_eq_true', Bool.not_eq_false', ne_eq, Decidable.not_not, Int.not_lt, Int.not_le, Bool.not_eq_true, Bool.not_eq_false] at h6
      refine AW.skip ?_
      refine SeqP.go ?_
      refine AW.seq ?_
      refine AW.block ?_
      refine AW.drawD 24 0 rfl (by kernel_rfl) (by kernel_rfl) ?_
      refine SeqD.a rfl (fun _ => q_move (v := vo) rfl) ?_
      refine SeqD.a rfl (fun _ => q_move (v := vh) rfl) ?_
      refine SeqD.a rfl (fun _ => q_move (v := .int _ _) rfl) ?_
      refine SeqD.b (by kernel_rfl) rfl (q_indexV1 (hSl5.vec at1) Try.underlying95 (by kernel_rfl) rfl rfl (by omega) (by omega)) ?_
      refine SeqD.b (by kernel_rfl) rfl (q_loadVN (hSl5.vec at1) (by kernel_rfl) rfl (by omega)) ?_
      refine SeqD.a rfl (fun _ => q_shrL 24 rfl rfl (by decide) rfl) ?_
      refine SeqD.a rfl (fun _ => q_convB8 rfl Try.underlying5 rfl) ?_
      refine SeqD.a rfl (fun _ => q_move (v := vh) rfl) ?_
      refine SeqD.a rfl (fun _ => q_move (v := .int _ _) rfl) ?_
      refine SeqD.b (by kernel_rfl) rfl (q_indexV1 (hSl5.vec at1) Try.underlying95 (by kernel_rfl) rfl rfl (by omega) (by omega)) ?_
      refine SeqD.b (by kernel_rfl) rfl (q_loadVN (hSl5.vec at1) (by kernel_rfl) rfl (by omega)) ?_
      refine SeqD.a rfl (fun _ => q_shrL 16 rfl rfl (by decide) rfl) ?_
      refine SeqD.a rfl (fun _ => q_convB8 rfl Try.underlying5 rfl) ?_
      refine SeqD.a rfl (fun _ => q_move (v := vh) rfl) ?_
      refine SeqD.a rfl (fun _ => q_move (v := .int _ _) rfl) ?_
      refine SeqD.b (by kernel_rfl) rfl (q_indexV1 (hSl5.vec at1) Try.underlying95 (by kernel_rfl) rfl rfl (by omega) (by omega)) ?_
      refine SeqD.b (by kernel_rfl) rfl (q_loadVN (hSl5.vec at1) (by kernel_rfl) rfl (by omega)) ?_
      refine SeqD.a rfl (fun _ => q_shrL 8 rfl rfl (by decide) rfl) ?_
      refine SeqD.a rfl (fun _ => q_convB8 rfl Try.underlying5 rfl) ?_
      refine SeqD.a rfl (fun _ => q_move (v := vh) rfl) ?_
      refine SeqD.a rfl (fun _ => q_move (v := .int _ _) rfl) ?_
      refine SeqD.b (by kernel_rfl) rfl (q_indexV1 (hSl5.vec at1) Try.underlying95 (by kernel_rfl) rfl rfl (by omega) (by omega)) ?_
      refine SeqD.b (by kernel_rfl) rfl (q_loadVN (hSl5.vec at1) (by kernel_rfl) rfl (by omega)) ?_
      refine SeqD.a rfl (fun _ => q_convB8 rfl Try.underlying5 rfl) ?_
      refine SeqD.x rfl (s_buildSlice (z := .int .u8 0) (vs := nums .u8 (ofB [_, _, _, _])) hSl5 Try.underlying72 (by kernel_rfl) (by kernel_rfl) rfl (by rfl) (by rfl) (by decide) rfl (nums_one _ _) rfl) ?_
      rintro v307 H4 hS4
      clear hSl5
      refine ⟨trivial, ?_⟩
      refine SeqR2.done ?_
      refine OpsW.m rfl (s_append (sz := 1) (by_ := 1) (z := .int .u8 0) hS4 at1 Try.underlying72 (by kernel_rfl) (by kernel_rfl) (by kernel_rfl) rfl (by kernel_rfl) rfl rfl (src_vec (hS4.vec at0) (nums_one _ _)) (by unfold maxLen; omega) (by omega)) ?_
      rintro v308 H5 hS5
      clear hS4
      rw [← nums_append, ← ofB_app] at hS5
      replace hS5 := hS5.del del0
      refine OpsW.q rfl (q_assign (v := v308) rfl) ?_
      refine OpsW.nil ?_
      refine BlockP.go ?_
      refine SeqP.go ?_
      refine AW.region ?_
      refine OpsW.q rfl (q_move (v := .int _ _) rfl) ?_
      refine OpsW.q rfl (q_addI rfl rfl (by omega)) ?_
      refine OpsW.q rfl (q_assign (v := .int _ _) rfl) ?_
      refine OpsW.nil ?_
      exact LoopP.go _ (by omega) ⟨i + 1, v308, _, rfl, (by omega), Slots.eq ⟨(by rfl), (by rfl), (by rfl),  trivial⟩, (by rw [outW_succ, outB4_four]; exact hS5)⟩
    try simp only [decide_eq_true_eq, decide_eq_false_iff_not, Bool.or_eq_true, Bool.and_eq_true, Bool.or_eq_false_iff, Bool.and_eq_false_imp, Bool.not_eq_true', Bool.not_eq_false', ne_eq, Decidable.not_not, Int.not_lt, Int.not_le, Bool.not_eq_true, Bool.not_eq_false] at h1
    have hup : 64 * i + 64 ≤ (fullB d).length := by omega
    refine AW.skip ?_
    refine SeqP.go ?_
    refine AW.seq ?_
    refine AW.block ?_
    refine AW.seq ?_
    refine AW.region ?_
    refine OpsW.q rfl (q_assign (v := .slice _ _ _) rfl) ?_
    refine OpsW.nil ?_
    refine SeqP.go ?_
    refine AW.seq ?_
    refine AW.seq ?_
    refine AW.region ?_
    refine OpsW.q rfl (q_assign (v := .int _ _) rfl) ?_
    refine OpsW.nil ?_
    refine SeqP.go ?_
    refine AW.block ?_
    replace hSl1 := hSl1.nil (el := 96) (sz := 1)
    refine AW.loop (fun m_ e_ H_ => ∃ (t : Nat) (vw : Value) (e0 : Env), m_ = 64 - t ∧ (t ≤ 64) ∧ e_ = upds e0 [(3, v21), (5, vh), (7, v37), (8, .int .i64 ((64 * i : Nat) : Int)), (9, vw), (10, .int .i64 (t : Int))] ∧ Sep H [.vec vw 96 1 t (nums .u32 (wsK (((fullB d).drop (64 * i)).take 64) t)), .vec vh 96 1 8 (nums .u32 (hashW d i)), .vec v21 97 1 80 (nums .u64 kL), .vec v37 5 1 ((fullB d).length) (nums .u8 (ofB (fullB d)))] H_) _ ⟨0, nilV, _, rfl, (by omega), Slots.eq ⟨(by rfl), (by rfl), (by rfl), (by rfl), (by rfl), (by rfl),  trivial⟩, (by rw [wsK_zero']; exact hSl1)⟩ ?_
    rintro m_ _ Hl2 ⟨t, vw, e0, rfl, hf, rfl, hSl2⟩
    try clear hSl1
    have hwl := wsK_length (((fullB d).drop (64 * i)).take 64) t
    refine AW.seq ?_
    refine AW.seq ?_
    refine AW.region ?_
    refine OpsW.q rfl (q_move (v := .int _ _) rfl) ?_
    refine OpsW.q rfl (q_lss rfl rfl) ?_
    refine OpsW.nil ?_
    refine SeqP.go ?_
    refine AW.cond2 rfl (fun h2 => ?_) (fun h2 => ?_)
    ·
      try simp only [decide_eq_true_eq, decide_eq_false_iff_not, Bool.or_eq_true, Bool.and_eq_true, Bool.or_eq_false_iff, Bool.and_eq_false_imp, Bool.not_eq_true', Bool.not_eq_false', ne_eq, Decidable.not_not, Int.not_lt, Int.not_le, Bool.not_eq_true, Bool.not_eq_false] at h2
      refine AW.exit ?_
      refine SeqP.exit ?_
      refine LoopP.exit ?_
      obtain rfl : t = 64 := by omega
      refine BlockP.here ?_
      refine SeqP.go ?_
      refine AW.seq ?_
      refine AW.region ?_
      refine OpsW.q rfl (q_assign (v := .slice _ _ _) rfl) ?_
      refine OpsW.nil ?_
      refine SeqP.go ?_
      refine AW.seq ?_
      refine AW.region ?_
      refine OpsW.q rfl (q_move (v := .slice _ _ _) rfl) ?_
      refine OpsW.q rfl (q_move (v := vh) rfl) ?_
      refine OpsW.m rfl (s_append0 (sz := 1) (by_ := 4) (z := .int .u32 0) hSl2 Try.underlying95 (by kernel_rfl) (by kernel_rfl) (by kernel_rfl) rfl (by kernel_rfl) rfl rfl (src_vec (hSl2.vec at1) (nums_one _ _)) (by unfold maxLen; omega) (by omega)) ?_
      rintro v146 H6 hS6
      clear hSl2
      refine OpsW.q rfl (q_assign (v := v146) rfl) ?_
      refine OpsW.nil ?_
      refine SeqP.go ?_
      refine AW.seq ?_
      refine AW.seq ?_
      refine AW.region ?_
      refine OpsW.q rfl (q_assign (v := .int _ _) rfl) ?_
      refine OpsW.nil ?_
      refine SeqP.go ?_
      refine AW.block ?_
      refine AW.loop (fun m_ e_ H_ => ∃ (t : Nat) (vv : Value) (e0 : Env), m_ = 64 - t ∧ (t ≤ 64) ∧ e_ = upds e0 [(3, v21), (5, vh), (7, v37), (8, .int .i64 ((64 * i : Nat) : Int)), (9, vw), (14, vv), (15, .int .i64 (t : Int))] ∧ Sep H [.vec vv 96 1 8 (nums .u32 (prK (hashW d i) (((fullB d).drop (64 * i)).take 64) t)), .vec vw 96 1 64 (nums .u32 (wsK (((fullB d).drop (64 * i)).take 64) 64)), .vec vh 96 1 8 (nums .u32 (hashW d i)), .vec v21 97 1 80 (nums .u64 kL), .vec v37 5 1 ((fullB d).length) (nums .u8 (ofB (fullB d)))] H_) _ ⟨0, v146, _, rfl, (by omega), Slots.eq ⟨(by rfl), (by rfl), (by rfl), (by rfl), (by rfl), (by rfl), (by rfl),  trivial⟩, (by rw [prK_zero']; exact hS6)⟩ ?_
      rintro m_ _ Hl3 ⟨t, vv, e0, rfl, hf, rfl, hSl3⟩
      try clear hS6
      have hpl := prK_length hhl (((fullB d).drop (64 * i)).take 64) t
      have hux : IntKind.u32.wrap (IntKind.u32.wrap (IntKind.u32.wrap (IntKind.u32.wrap (((prK (hashW d i) (((fullB d).drop (64 * i)).take 64) t).getD (Int.toNat 7) 0) + ixor .u32 (ixor .u32 (rt ((prK (hashW d i) (((fullB d).drop (64 * i)).take 64) t).getD (Int.toNat 4) 0) 6) (rt ((prK (hashW d i) (((fullB d).drop (64 * i)).take 64) t).getD (Int.toNat 4) 0) 11)) (rt ((prK (hashW d i) (((fullB d).drop (64 * i)).take 64) t).getD (Int.toNat 4) 0) 25)) + ixor .u32 (iand .u32 ((prK (hashW d i) (((fullB d).drop (64 * i)).take 64) t).getD (Int.toNat 4) 0) ((prK (hashW d i) (((fullB d).drop (64 * i)).take 64) t).getD (Int.toNat 5) 0)) (iand .u32 (ixor .u32 IntKind.u32.max ((prK (hashW d i) (((fullB d).drop (64 * i)).take 64) t).getD (Int.toNat 4) 0)) ((prK (hashW d i) (((fullB d).drop (64 * i)).take 64) t).getD (Int.toNat 6) 0))) + IntKind.u32.wrap (kL.getD (t : Int).toNat 0 / 2 ^ 32)) + (wsK (((fullB d).drop (64 * i)).take 64) 64).getD (t : Int).toNat 0) = uW (prK (hashW d i) (((fullB d).drop (64 * i)).take 64) t) (kW t) ((wsK (((fullB d).drop (64 * i)).take 64) 64).getD t 0) := by rw [uW_def, whl_def, chW_def, notW_def, kW_def]; simp only [w32_def]; first | done | rfl
      have hox : IntKind.u32.wrap (ixor .u32 (ixor .u32 (rt ((prK (hashW d i) (((fullB d).drop (64 * i)).take 64) t).getD (Int.toNat 0) 0) 2) (rt ((prK (hashW d i) (((fullB d).drop (64 * i)).take 64) t).getD (Int.toNat 0) 0) 13)) (rt ((prK (hashW d i) (((fullB d).drop (64 * i)).take 64) t).getD (Int.toNat 0) 0) 22) + ixor .u32 (ixor .u32 (iand .u32 ((prK (hashW d i) (((fullB d).drop (64 * i)).take 64) t).getD (Int.toNat 0) 0) ((prK (hashW d i) (((fullB d).drop (64 * i)).take 64) t).getD (Int.toNat 1) 0)) (iand .u32 ((prK (hashW d i) (((fullB d).drop (64 * i)).take 64) t).getD (Int.toNat 0) 0) ((prK (hashW d i) (((fullB d).drop (64 * i)).take 64) t).getD (Int.toNat 2) 0))) (iand .u32 ((prK (hashW d i) (((fullB d).drop (64 * i)).take 64) t).getD (Int.toNat 1) 0) ((prK (hashW d i) (((fullB d).drop (64 * i)).take 64) t).getD (Int.toNat 2) 0))) = oW (prK (hashW d i) (((fullB d).drop (64 * i)).take 64) t) := by rw [oW_def, whl_def, majW_def]; simp only [w32_def]; first | done | rfl
      refine AW.seq ?_
      refine AW.seq ?_
      refine AW.region ?_
      refine OpsW.q rfl (q_move (v := .int _ _) rfl) ?_
      refine OpsW.q rfl (q_lss rfl rfl) ?_
      refine OpsW.nil ?_
      refine SeqP.go ?_
      refine AW.cond2 rfl (fun h4 => ?_) (fun h4 => ?_)
      ·
        try simp only [decide_eq_true_eq, decide_eq_false_iff_not, Bool.or_eq_true, Bool.and_eq_true, Bool.or_eq_false_iff, Bool.and_eq_false_imp, Bool.not_eq_true', Bool.not_eq_false', ne_eq, Decidable.not_not, Int.not_lt, Int.not_le, Bool.not_eq_true, Bool.not_eq_false] at h4
        refine AW.exit ?_
        refine SeqP.exit ?_
        refine LoopP.exit ?_
        obtain rfl : t = 64 := by omega
        refine BlockP.here ?_
        refine SeqP.go ?_
        refine AW.seq ?_
        refine AW.region ?_
        refine OpsW.q rfl (q_assign (v := .int _ _) rfl) ?_
        refine OpsW.nil ?_
        refine SeqP.go ?_
        refine AW.block ?_
        replace hSl3 := hSl3.del del1
        refine AW.loop (fun m_ e_ H_ => ∃ (j : Nat) (e0 : Env), m_ = 8 - j ∧ (j ≤ 8) ∧ e_ = upds e0 [(3, v21), (5, vh), (7, v37), (8, .int .i64 ((64 * i : Nat) : Int)), (14, vv), (18, .int .i64 (j : Int))] ∧ Sep H [.vec vv 96 1 8 (nums .u32 (prK (hashW d i) (((fullB d).drop (64 * i)).take 64) 64)), .vec vh 96 1 8 (nums .u32 (addW (hashW d i) (prK (hashW d i) (((fullB d).drop (64 * i)).take 64) 64) j)), .vec v21 97 1 80 (nums .u64 kL), .vec v37 5 1 ((fullB d).length) (nums .u8 (ofB (fullB d)))] H_) _ ⟨0, _, rfl, (by omega), Slots.eq ⟨(by rfl), (by rfl), (by rfl), (by rfl), (by rfl), (by rfl),  trivial⟩, (by rw [addW_zero']; exact hSl3)⟩ ?_
        rintro m_ _ Hl4 ⟨j, e0, rfl, hf, rfl, hSl4⟩
        try clear hSl3
        have hal := addW_length (hashW d i) (prK (hashW d i) (((fullB d).drop (64 * i)).take 64) 64) j
        have hpl := prK_length hhl (((fullB d).drop (64 * i)).take 64) 64
        refine AW.seq ?_
        refine AW.seq ?_
        refine AW.region ?_
        refine OpsW.q rfl (q_move (v := .int _ _) rfl) ?_
        refine OpsW.q rfl (q_lss rfl rfl) ?_
        refine OpsW.nil ?_
        refine SeqP.go ?_
        refine AW.cond2 rfl (fun h5 => ?_) (fun h5 => ?_)
        ·
          try simp only [decide_eq_true_eq, decide_eq_false_iff_not, Bool.or_eq_true, Bool.and_eq_true, Bool.or_eq_false_iff, Bool.and_eq_false_imp, Bool.not_eq_true', Bool.not_eq_false', ne_eq, Decidable.not_not, Int.not_lt, Int.not_le, Bool.not_eq_true, Bool.not_eq_false] at h5
          refine AW.exit ?_
          refine SeqP.exit ?_
          refine LoopP.exit ?_
          obtain rfl : j = 8 := by omega
          refine BlockP.here ?_
          refine BlockP.go ?_
          refine SeqP.go ?_
          refine AW.region ?_
          refine OpsW.q rfl (q_move (v := .int _ _) rfl) ?_
          refine OpsW.q rfl (q_addI rfl rfl (by omega)) ?_
          refine OpsW.q rfl (q_assign (v := .int _ _) rfl) ?_
          refine OpsW.nil ?_
          replace hSl4 := hSl4.del del0
          exact LoopP.go _ (by omega) ⟨i + 1, vh, _, rfl, (by omega), Slots.eq ⟨(by rfl), (by rfl), (by rfl), (by rfl),  trivial⟩, (by rw [hashW_succ, pressW_def]; exact hSl4)⟩
        try simp only [decide_eq_true_eq, decide_eq_false_iff_not, Bool.or_eq_true, Bool.and_eq_true, Bool.or_eq_false_iff, Bool.and_eq_false_imp, Bool.not_eq_true', Bool.not_eq_false', ne_eq, Decidable.not_not, Int.not_lt, Int.not_le, Bool.not_eq_true, Bool.not_eq_false] at h5
        refine AW.skip ?_
        refine SeqP.go ?_
        refine AW.seq ?_
        refine AW.block ?_
        refine AW.drawK [] 11 rfl (by kernel_rfl) ?_
        refine SeqK.q rfl (q_move (v := vh) rfl) ?_
        refine SeqK.q rfl (q_move (v := .int _ _) rfl) ?_
        refine SeqK.q rfl (q_move (v := vh) rfl) ?_
        refine SeqK.q rfl (q_move (v := .int _ _) rfl) ?_
        refine SeqK.q rfl (q_indexV1 (hSl4.vec at1) Try.underlying95 (by kernel_rfl) rfl rfl (by omega) (by omega)) ?_
        refine SeqK.q rfl (q_loadVN (hSl4.vec at1) (by kernel_rfl) rfl (by omega)) ?_
        refine SeqK.q rfl (q_move (v := vv) rfl) ?_
        refine SeqK.q rfl (q_move (v := .int _ _) rfl) ?_
        refine SeqK.q rfl (q_indexV1 (hSl4.vec at0) Try.underlying95 (by kernel_rfl) rfl rfl (by omega) (by omega)) ?_
        refine SeqK.q rfl (q_loadVN (hSl4.vec at0) (by kernel_rfl) rfl (by omega)) ?_
        refine SeqK.q rfl (q_add rfl rfl) ?_
        refine SeqK.done ?_
        refine OpsW.q rfl (q_indexV1 (hSl4.vec at1) Try.underlying95 (by kernel_rfl) rfl rfl (by omega) (by omega)) ?_
        refine OpsW.ms (s_storeVN hSl4 at1 (by kernel_rfl) rfl rfl (by omega)) ?_
        rintro _ H7 ⟨rfl, hS7⟩
        clear hSl4
        refine OpsW.nil ?_
        refine BlockP.go ?_
        refine SeqP.go ?_
        refine AW.region ?_
        refine OpsW.q rfl (q_move (v := .int _ _) rfl) ?_
        refine OpsW.q rfl (q_addI rfl rfl (by omega)) ?_
        refine OpsW.q rfl (q_assign (v := .int _ _) rfl) ?_
        refine OpsW.nil ?_
        exact LoopP.go _ (by omega) ⟨j + 1, _, rfl, (by omega), Slots.eq ⟨(by rfl), (by rfl), (by rfl), (by rfl), (by rfl), (by rfl),  trivial⟩, (by have hs9 := hS7; rw [Int.toNat_natCast, w32_def, ← addW_succ] at hs9; exact hs9)⟩
      try simp only [decide_eq_true_eq, decide_eq_false_iff_not, Bool.or_eq_true, Bool.and_eq_true, Bool.or_eq_false_iff, Bool.and_eq_false_imp, Bool.not_eq_true', Bool.not_eq_false', ne_eq, Decidable.not_not, Int.not_lt, Int.not_le, Bool.not_eq_true, Bool.not_eq_false] at h4
      refine AW.skip ?_
      refine SeqP.go ?_
      refine AW.seq ?_
      refine AW.block ?_
      refine AW.seq ?_
      refine AW.drawK [] 46 rfl (by kernel_rfl) ?_
      refine SeqK.q rfl (q_move (v := vv) rfl) ?_
      refine SeqK.q rfl (q_indexV1 (hSl3.vec at0) Try.underlying95 (by kernel_rfl) rfl rfl (by omega) (by omega)) ?_
      refine SeqK.q rfl (q_loadVN (hSl3.vec at0) (by kernel_rfl) rfl (by omega)) ?_
      refine SeqK.q rfl (q_move (v := vv) rfl) ?_
      refine SeqK.q rfl (q_indexV1 (hSl3.vec at0) Try.underlying95 (by kernel_rfl) rfl rfl (by omega) (by omega)) ?_
      refine SeqK.q rfl (q_loadVN (hSl3.vec at0) (by kernel_rfl) rfl (by omega)) ?_
      refine SeqK.q rfl (o_call rfl Try.func61 rfl rfl (rightR_con (by decide))) ?_
      refine SeqK.q rfl (q_move (v := vv) rfl) ?_
      refine SeqK.q rfl (q_indexV1 (hSl3.vec at0) Try.underlying95 (by kernel_rfl) rfl rfl (by omega) (by omega)) ?_
      refine SeqK.q rfl (q_loadVN (hSl3.vec at0) (by kernel_rfl) rfl (by omega)) ?_
      refine SeqK.q rfl (o_call rfl Try.func61 rfl rfl (rightR_con (by decide))) ?_
      refine SeqK.q rfl (q_xor rfl rfl) ?_
      refine SeqK.q rfl (q_move (v := vv) rfl) ?_
      refine SeqK.q rfl (q_indexV1 (hSl3.vec at0) Try.underlying95 (by kernel_rfl) rfl rfl (by omega) (by omega)) ?_
      refine SeqK.q rfl (q_loadVN (hSl3.vec at0) (by kernel_rfl) rfl (by omega)) ?_
      refine SeqK.q rfl (o_call rfl Try.func61 rfl rfl (rightR_con (by decide))) ?_
      refine SeqK.q rfl (q_xor rfl rfl) ?_
      refine SeqK.q rfl (q_add rfl rfl) ?_
      refine SeqK.q rfl (q_move (v := vv) rfl) ?_
      refine SeqK.q rfl (q_indexV1 (hSl3.vec at0) Try.underlying95 (by kernel_rfl) rfl rfl (by omega) (by omega)) ?_
      refine SeqK.q rfl (q_loadVN (hSl3.vec at0) (by kernel_rfl) rfl (by omega)) ?_
      refine SeqK.q rfl (q_move (v := vv) rfl) ?_
      refine SeqK.q rfl (q_indexV1 (hSl3.vec at0) Try.underlying95 (by kernel_rfl) rfl rfl (by omega) (by omega)) ?_
      refine SeqK.q rfl (q_loadVN (hSl3.vec at0) (by kernel_rfl) rfl (by omega)) ?_
      refine SeqK.q rfl (q_and rfl rfl) ?_
      refine SeqK.q rfl (q_move (v := vv) rfl) ?_
      refine SeqK.q rfl (q_indexV1 (hSl3.vec at0) Try.underlying95 (by kernel_rfl) rfl rfl (by omega) (by omega)) ?_
      refine SeqK.q rfl (q_loadVN (hSl3.vec at0) (by kernel_rfl) rfl (by omega)) ?_
      refine SeqK.q rfl (q_compl rfl rfl) ?_
      refine SeqK.q rfl (q_move (v := vv) rfl) ?_
      refine SeqK.q rfl (q_indexV1 (hSl3.vec at0) Try.underlying95 (by kernel_rfl) rfl rfl (by omega) (by omega)) ?_
      refine SeqK.q rfl (q_loadVN (hSl3.vec at0) (by kernel_rfl) rfl (by omega)) ?_
      refine SeqK.q rfl (q_and rfl rfl) ?_
      refine SeqK.q rfl (q_xor rfl rfl) ?_
      refine SeqK.q rfl (q_add rfl rfl) ?_
      refine SeqK.q rfl (q_move (v := v21) rfl) ?_
      refine SeqK.q rfl (q_move (v := .int _ _) rfl) ?_
      refine SeqK.q rfl (q_indexV1 (hSl3.vec at3) Try.underlying93 (by kernel_rfl) rfl rfl (by omega) (by omega)) ?_
      refine SeqK.q rfl (q_loadVN (hSl3.vec at3) (by kernel_rfl) rfl (by omega)) ?_
      refine SeqK.q rfl (q_shrL 32 rfl rfl (by decide) rfl) ?_
      refine SeqK.q rfl (q_convInt rfl Try.underlying96 rfl) ?_
      refine SeqK.q rfl (q_add rfl rfl) ?_
      refine SeqK.q rfl (q_move (v := vw) rfl) ?_
      refine SeqK.q rfl (q_move (v := .int _ _) rfl) ?_
      refine SeqK.q rfl (q_indexV1 (hSl3.vec at1) Try.underlying95 (by kernel_rfl) rfl rfl (by omega) (by omega)) ?_
      refine SeqK.q rfl (q_loadVN (hSl3.vec at1) (by kernel_rfl) rfl (by omega)) ?_
      refine SeqK.done ?_
      refine OpsW.q rfl (q_add rfl rfl) ?_
      rw [hux]
      refine OpsW.q rfl (q_assign (v := .int _ _) rfl) ?_
      refine OpsW.nil ?_
      refine SeqP.go ?_
      refine AW.seq ?_
      refine AW.drawK [] 37 rfl (by kernel_rfl) ?_
      refine SeqK.q rfl (q_move (v := vv) rfl) ?_
      refine SeqK.q rfl (q_indexV1 (hSl3.vec at0) Try.underlying95 (by kernel_rfl) rfl rfl (by omega) (by omega)) ?_
      refine SeqK.q rfl (q_loadVN (hSl3.vec at0) (by kernel_rfl) rfl (by omega)) ?_
      refine SeqK.q rfl (o_call rfl Try.func61 rfl rfl (rightR_con (by decide))) ?_
      refine SeqK.q rfl (q_move (v := vv) rfl) ?_
      refine SeqK.q rfl (q_indexV1 (hSl3.vec at0) Try.underlying95 (by kernel_rfl) rfl rfl (by omega) (by omega)) ?_
      refine SeqK.q rfl (q_loadVN (hSl3.vec at0) (by kernel_rfl) rfl (by omega)) ?_
      refine SeqK.q rfl (o_call rfl Try.func61 rfl rfl (rightR_con (by decide))) ?_
      refine SeqK.q rfl (q_xor rfl rfl) ?_
      refine SeqK.q rfl (q_move (v := vv) rfl) ?_
      refine SeqK.q rfl (q_indexV1 (hSl3.vec at0) Try.underlying95 (by kernel_rfl) rfl rfl (by omega) (by omega)) ?_
      refine SeqK.q rfl (q_loadVN (hSl3.vec at0) (by kernel_rfl) rfl (by omega)) ?_
      refine SeqK.q rfl (o_call rfl Try.func61 rfl rfl (rightR_con (by decide))) ?_
      refine SeqK.q rfl (q_xor rfl rfl) ?_
      refine SeqK.q rfl (q_move (v := vv) rfl) ?_
      refine SeqK.q rfl (q_indexV1 (hSl3.vec at0) Try.underlying95 (by kernel_rfl) rfl rfl (by omega) (by omega)) ?_
      refine SeqK.q rfl (q_loadVN (hSl3.vec at0) (by kernel_rfl) rfl (by omega)) ?_
      refine SeqK.q rfl (q_move (v := vv) rfl) ?_
      refine SeqK.q rfl (q_indexV1 (hSl3.vec at0) Try.underlying95 (by kernel_rfl) rfl rfl (by omega) (by omega)) ?_
      refine SeqK.q rfl (q_loadVN (hSl3.vec at0) (by kernel_rfl) rfl (by omega)) ?_
      refine SeqK.q rfl (q_and rfl rfl) ?_
      refine SeqK.q rfl (q_move (v := vv) rfl) ?_
      refine SeqK.q rfl (q_indexV1 (hSl3.vec at0) Try.underlying95 (by kernel_rfl) rfl rfl (by omega) (by omega)) ?_
      refine SeqK.q rfl (q_loadVN (hSl3.vec at0) (by kernel_rfl) rfl (by omega)) ?_
      refine SeqK.q rfl (q_move (v := vv) rfl) ?_
      refine SeqK.q rfl (q_indexV1 (hSl3.vec at0) Try.underlying95 (by kernel_rfl) rfl rfl (by omega) (by omega)) ?_
      refine SeqK.q rfl (q_loadVN (hSl3.vec at0) (by kernel_rfl) rfl (by omega)) ?_
      refine SeqK.q rfl (q_and rfl rfl) ?_
      refine SeqK.q rfl (q_xor rfl rfl) ?_
      refine SeqK.q rfl (q_move (v := vv) rfl) ?_
      refine SeqK.q rfl (q_indexV1 (hSl3.vec at0) Try.underlying95 (by kernel_rfl) rfl rfl (by omega) (by omega)) ?_
      refine SeqK.q rfl (q_loadVN (hSl3.vec at0) (by kernel_rfl) rfl (by omega)) ?_
      refine SeqK.q rfl (q_move (v := vv) rfl) ?_
      refine SeqK.q rfl (q_indexV1 (hSl3.vec at0) Try.underlying95 (by kernel_rfl) rfl rfl (by omega) (by omega)) ?_
      refine SeqK.q rfl (q_loadVN (hSl3.vec at0) (by kernel_rfl) rfl (by omega)) ?_
      refine SeqK.q rfl (q_and rfl rfl) ?_
      refine SeqK.q rfl (q_xor rfl rfl) ?_
      refine SeqK.done ?_
      refine OpsW.q rfl (q_add rfl rfl) ?_
      rw [hox]
      refine OpsW.q rfl (q_assign (v := .int _ _) rfl) ?_
      refine OpsW.nil ?_
      refine SeqP.go ?_
      refine AW.drawK [] 26 rfl (by kernel_rfl) ?_
      refine SeqK.q rfl (q_move (v := .int _ _) rfl) ?_
      refine SeqK.q rfl (q_move (v := .int _ _) rfl) ?_
      refine SeqK.q rfl (q_add rfl rfl) ?_
      refine SeqK.q rfl (q_move (v := vv) rfl) ?_
      refine SeqK.q rfl (q_indexV1 (hSl3.vec at0) Try.underlying95 (by kernel_rfl) rfl rfl (by omega) (by omega)) ?_
      refine SeqK.q rfl (q_loadVN (hSl3.vec at0) (by kernel_rfl) rfl (by omega)) ?_
      refine SeqK.q rfl (q_move (v := vv) rfl) ?_
      refine SeqK.q rfl (q_indexV1 (hSl3.vec at0) Try.underlying95 (by kernel_rfl) rfl rfl (by omega) (by omega)) ?_
      refine SeqK.q rfl (q_loadVN (hSl3.vec at0) (by kernel_rfl) rfl (by omega)) ?_
      refine SeqK.q rfl (q_move (v := vv) rfl) ?_
      refine SeqK.q rfl (q_indexV1 (hSl3.vec at0) Try.underlying95 (by kernel_rfl) rfl rfl (by omega) (by omega)) ?_
      refine SeqK.q rfl (q_loadVN (hSl3.vec at0) (by kernel_rfl) rfl (by omega)) ?_
      refine SeqK.q rfl (q_move (v := vv) rfl) ?_
      refine SeqK.q rfl (q_indexV1 (hSl3.vec at0) Try.underlying95 (by kernel_rfl) rfl rfl (by omega) (by omega)) ?_
      refine SeqK.q rfl (q_loadVN (hSl3.vec at0) (by kernel_rfl) rfl (by omega)) ?_
      refine SeqK.q rfl (q_move (v := .int _ _) rfl) ?_
      refine SeqK.q rfl (q_add rfl rfl) ?_
      refine SeqK.q rfl (q_move (v := vv) rfl) ?_
      refine SeqK.q rfl (q_indexV1 (hSl3.vec at0) Try.underlying95 (by kernel_rfl) rfl rfl (by omega) (by omega)) ?_
      refine SeqK.q rfl (q_loadVN (hSl3.vec at0) (by kernel_rfl) rfl (by omega)) ?_
      refine SeqK.q rfl (q_move (v := vv) rfl) ?_
      refine SeqK.q rfl (q_indexV1 (hSl3.vec at0) Try.underlying95 (by kernel_rfl) rfl rfl (by omega) (by omega)) ?_
      refine SeqK.q rfl (q_loadVN (hSl3.vec at0) (by kernel_rfl) rfl (by omega)) ?_
      refine SeqK.q rfl (q_move (v := vv) rfl) ?_
      refine SeqK.q rfl (q_indexV1 (hSl3.vec at0) Try.underlying95 (by kernel_rfl) rfl rfl (by omega) (by omega)) ?_
      refine SeqK.q rfl (q_loadVN (hSl3.vec at0) (by kernel_rfl) rfl (by omega)) ?_
      refine SeqK.done ?_
      refine OpsW.m rfl (s_buildSlice (z := .int .u32 0) (vs := nums .u32 [_, _, _, _, _, _, _, _]) hSl3 Try.underlying95 (by kernel_rfl) (by kernel_rfl) rfl (by rfl) (by rfl) (by decide) rfl (nums_one _ _) rfl) ?_
      rintro v262 H8 hS8
      clear hSl3
      refine OpsW.q rfl (q_assign (v := v262) rfl) ?_
      refine OpsW.nil ?_
      refine BlockP.go ?_
      refine SeqP.go ?_
      refine AW.region ?_
      refine OpsW.q rfl (q_move (v := .int _ _) rfl) ?_
      refine OpsW.q rfl (q_addI rfl rfl (by omega)) ?_
      refine OpsW.q rfl (q_assign (v := .int _ _) rfl) ?_
      refine OpsW.nil ?_
      replace hS8 := hS8.del del1
      exact LoopP.go _ (by omega) ⟨t + 1, v262, _, rfl, (by omega), Slots.eq ⟨(by rfl), (by rfl), (by rfl), (by rfl), (by rfl), (by rfl), (by rfl),  trivial⟩, (by rw [prK_succ, rndW_def]; simp only [← w32_def]; exact hS8)⟩
    try simp only [decide_eq_true_eq, decide_eq_false_iff_not, Bool.or_eq_true, Bool.and_eq_true, Bool.or_eq_false_iff, Bool.and_eq_false_imp, Bool.not_eq_true', Bool.not_eq_false', ne_eq, Decidable.not_not, Int.not_lt, Int.not_le, Bool.not_eq_true, Bool.not_eq_false] at h2
    refine AW.skip ?_
    refine SeqP.go ?_
    refine AW.seq ?_
    refine AW.block ?_
    refine AW.seq ?_
    refine AW.region ?_
    refine OpsW.q rfl (q_move (v := .int _ _) rfl) ?_
    refine OpsW.q rfl (q_lss rfl rfl) ?_
    refine OpsW.nil ?_
    refine SeqP.go ?_
    refine AW.cond rfl (fun h3 => ?_) (fun h3 => ?_)
    ·
      try simp only [decide_eq_true_eq, decide_eq_false_iff_not, Bool.or_eq_true, Bool.and_eq_true, Bool.or_eq_false_iff, Bool.and_eq_false_imp, Bool.not_eq_true', Bool.not_eq_false', ne_eq, Decidable.not_not, Int.not_lt, Int.not_le, Bool.not_eq_true, Bool.not_eq_false] at h3
      have hwr : ior .u32 (ior .u32 (ior .u32 (IntKind.u32.wrap (IntKind.u32.wrap ((((fullB d).getD ((((64 * i : Nat) : Int) + 4 * (t : Int))).toNat 0).toNat : Nat) : Int) * 2 ^ 24)) (IntKind.u32.wrap (IntKind.u32.wrap ((((fullB d).getD ((((64 * i : Nat) : Int) + 4 * (t : Int)) + 1).toNat 0).toNat : Nat) : Int) * 2 ^ 16))) (IntKind.u32.wrap (IntKind.u32.wrap ((((fullB d).getD ((((64 * i : Nat) : Int) + 4 * (t : Int)) + 2).toNat 0).toNat : Nat) : Int) * 2 ^ 8))) (IntKind.u32.wrap ((((fullB d).getD ((((64 * i : Nat) : Int) + 4 * (t : Int)) + 3).toNat 0).toNat : Nat) : Int)) = wordB (((fullB d).drop (64 * i)).take 64) (4 * t) := by rw [← wp_ref (((fullB d).drop (64 * i)).take 64) (4 * t), blk_bt _ _ (by omega), blk_bt _ _ (by omega), blk_bt _ _ (by omega), blk_bt _ _ (by omega), show ((((64 * i : Nat) : Int) + 4 * (t : Int))).toNat = 64 * i + 4 * t from by omega, show ((((64 * i : Nat) : Int) + 4 * (t : Int)) + 1).toNat = 64 * i + (4 * t + 1) from by omega, show ((((64 * i : Nat) : Int) + 4 * (t : Int)) + 2).toNat = 64 * i + (4 * t + 2) from by omega, show ((((64 * i : Nat) : Int) + 4 * (t : Int)) + 3).toNat = 64 * i + (4 * t + 3) from by omega]; first | done | rfl
      refine AW.seq ?_
      refine AW.region ?_
      refine OpsW.q rfl (q_move (v := .int _ _) rfl) ?_
      refine OpsW.q rfl (q_move (v := .int _ _) rfl) ?_
      refine OpsW.q rfl (q_mulI rfl rfl (by omega)) ?_
      refine OpsW.q rfl (q_addI rfl rfl (by omega)) ?_
      refine OpsW.q rfl (q_assign (v := .int _ _) rfl) ?_
      refine OpsW.nil ?_
      refine SeqP.go ?_
      refine AW.drawD 30 0 rfl (by kernel_rfl) (by kernel_rfl) ?_
      refine SeqD.a rfl (fun _ => q_move (v := vw) rfl) ?_
      refine SeqD.a rfl (fun _ => q_move (v := v37) rfl) ?_
      refine SeqD.a rfl (fun _ => q_move (v := .int _ _) rfl) ?_
      refine SeqD.b (by kernel_rfl) rfl (q_indexV1 (hSl2.vec at3) Try.underlying72 (by kernel_rfl) rfl rfl (by omega) (by omega)) ?_
      refine SeqD.b (by kernel_rfl) rfl (q_loadVB (hSl2.vec at3) (by kernel_rfl) rfl (by omega)) ?_
      refine SeqD.a rfl (fun _ => q_convInt rfl Try.underlying96 rfl) ?_
      refine SeqD.a rfl (fun _ => q_shlL 24 rfl rfl (by decide) rfl) ?_
      refine SeqD.a rfl (fun _ => q_move (v := v37) rfl) ?_
      refine SeqD.a rfl (fun _ => q_move (v := .int _ _) rfl) ?_
      refine SeqD.a rfl (fun _ => q_addI rfl rfl (by omega)) ?_
      refine SeqD.b (by kernel_rfl) rfl (q_indexV1 (hSl2.vec at3) Try.underlying72 (by kernel_rfl) rfl rfl (by omega) (by omega)) ?_
      refine SeqD.b (by kernel_rfl) rfl (q_loadVB (hSl2.vec at3) (by kernel_rfl) rfl (by omega)) ?_
      refine SeqD.a rfl (fun _ => q_convInt rfl Try.underlying96 rfl) ?_
      refine SeqD.a rfl (fun _ => q_shlL 16 rfl rfl (by decide) rfl) ?_
      refine SeqD.a rfl (fun _ => q_or rfl rfl) ?_
      refine SeqD.a rfl (fun _ => q_move (v := v37) rfl) ?_
      refine SeqD.a rfl (fun _ => q_move (v := .int _ _) rfl) ?_
      refine SeqD.a rfl (fun _ => q_addI rfl rfl (by omega)) ?_
      refine SeqD.b (by kernel_rfl) rfl (q_indexV1 (hSl2.vec at3) Try.underlying72 (by kernel_rfl) rfl rfl (by omega) (by omega)) ?_
      refine SeqD.b (by kernel_rfl) rfl (q_loadVB (hSl2.vec at3) (by kernel_rfl) rfl (by omega)) ?_
      refine SeqD.a rfl (fun _ => q_convInt rfl Try.underlying96 rfl) ?_
      refine SeqD.a rfl (fun _ => q_shlL 8 rfl rfl (by decide) rfl) ?_
      refine SeqD.a rfl (fun _ => q_or rfl rfl) ?_
      refine SeqD.a rfl (fun _ => q_move (v := v37) rfl) ?_
      refine SeqD.a rfl (fun _ => q_move (v := .int _ _) rfl) ?_
      refine SeqD.a rfl (fun _ => q_addI rfl rfl (by omega)) ?_
      refine SeqD.b (by kernel_rfl) rfl (q_indexV1 (hSl2.vec at3) Try.underlying72 (by kernel_rfl) rfl rfl (by omega) (by omega)) ?_
      refine SeqD.b (by kernel_rfl) rfl (q_loadVB (hSl2.vec at3) (by kernel_rfl) rfl (by omega)) ?_
      refine SeqD.a rfl (fun _ => q_convInt rfl Try.underlying96 rfl) ?_
      refine SeqD.a rfl (fun _ => q_or rfl rfl) ?_
      rw [hwr]
      refine SeqD.x rfl (s_buildSlice (z := .int .u32 0) (vs := nums .u32 [_]) hSl2 Try.underlying95 (by kernel_rfl) (by kernel_rfl) rfl (by rfl) (by rfl) (by decide) rfl (nums_one _ _) rfl) ?_
      rintro v84 H9 hS9
      clear hSl2
      refine ⟨trivial, ?_⟩
      refine SeqR2.done ?_
      refine OpsW.m rfl (s_append (sz := 1) (by_ := 4) (z := .int .u32 0) hS9 at1 Try.underlying95 (by kernel_rfl) (by kernel_rfl) (by kernel_rfl) rfl (by kernel_rfl) rfl rfl (src_vec (hS9.vec at0) (nums_one _ _)) (by unfold maxLen; omega) (by omega)) ?_
      rintro v85 H10 hS10
      clear hS9
      replace hS10 := hS10.del del0
      refine OpsW.q rfl (q_assign (v := v85) rfl) ?_
      refine OpsW.nil ?_
      refine BlockP.go ?_
      refine SeqP.go ?_
      refine AW.region ?_
      refine OpsW.q rfl (q_move (v := .int _ _) rfl) ?_
      refine OpsW.q rfl (q_addI rfl rfl (by omega)) ?_
      refine OpsW.q rfl (q_assign (v := .int _ _) rfl) ?_
      refine OpsW.nil ?_
      exact LoopP.go _ (by omega) ⟨t + 1, v85, _, rfl, (by omega), Slots.eq ⟨(by rfl), (by rfl), (by rfl), (by rfl), (by rfl), (by rfl),  trivial⟩, (by rw [wsK_lo _ (by omega), nums_append]; exact hS10)⟩
    try simp only [decide_eq_true_eq, decide_eq_false_iff_not, Bool.or_eq_true, Bool.and_eq_true, Bool.or_eq_false_iff, Bool.and_eq_false_imp, Bool.not_eq_true', Bool.not_eq_false', ne_eq, Decidable.not_not, Int.not_lt, Int.not_le, Bool.not_eq_true, Bool.not_eq_false] at h3
    have hm0 : ixor .u32 (ixor .u32 (rt ((wsK (((fullB d).drop (64 * i)).take 64) t).getD ((t : Int) - 15).toNat 0) 7) (rt ((wsK (((fullB d).drop (64 * i)).take 64) t).getD ((t : Int) - 15).toNat 0) 18)) (((wsK (((fullB d).drop (64 * i)).take 64) t).getD ((t : Int) - 15).toNat 0) / 2 ^ 3) = mix3 ((wsK (((fullB d).drop (64 * i)).take 64) t).getD (t - 15) 0) 7 18 3 := by rw [mix3_def, show ((t : Int) - 15).toNat = t - 15 from by omega]; first | done | rfl
    have hm1 : ixor .u32 (ixor .u32 (rt ((wsK (((fullB d).drop (64 * i)).take 64) t).getD ((t : Int) - 2).toNat 0) 17) (rt ((wsK (((fullB d).drop (64 * i)).take 64) t).getD ((t : Int) - 2).toNat 0) 19)) (((wsK (((fullB d).drop (64 * i)).take 64) t).getD ((t : Int) - 2).toNat 0) / 2 ^ 10) = mix3 ((wsK (((fullB d).drop (64 * i)).take 64) t).getD (t - 2) 0) 17 19 10 := by rw [mix3_def, show ((t : Int) - 2).toNat = t - 2 from by omega]; first | done | rfl
    have hnx : IntKind.u32.wrap (IntKind.u32.wrap (IntKind.u32.wrap (((wsK (((fullB d).drop (64 * i)).take 64) t).getD ((t : Int) - 16).toNat 0) + ((wsK (((fullB d).drop (64 * i)).take 64) t).getD ((t : Int) - 7).toNat 0)) + mix3 ((wsK (((fullB d).drop (64 * i)).take 64) t).getD (t - 15) 0) 7 18 3) + mix3 ((wsK (((fullB d).drop (64 * i)).take 64) t).getD (t - 2) 0) 17 19 10) = nextW (wsK (((fullB d).drop (64 * i)).take 64) t) t := by rw [nextW_def, show ((t : Int) - 16).toNat = t - 16 from by omega, show ((t : Int) - 7).toNat = t - 7 from by omega]; simp only [w32_def]
    refine AW.seq ?_
    refine AW.drawK [] 19 rfl (by kernel_rfl) ?_
    refine SeqK.q rfl (q_move (v := vw) rfl) ?_
    refine SeqK.q rfl (q_move (v := .int _ _) rfl) ?_
    refine SeqK.q rfl (q_subI rfl rfl (by omega)) ?_
    refine SeqK.q rfl (q_indexV1 (hSl2.vec at0) Try.underlying95 (by kernel_rfl) rfl rfl (by omega) (by omega)) ?_
    refine SeqK.q rfl (q_loadVN (hSl2.vec at0) (by kernel_rfl) rfl (by omega)) ?_
    refine SeqK.q rfl (o_call rfl Try.func61 rfl rfl (rightR_con (by decide))) ?_
    refine SeqK.q rfl (q_move (v := vw) rfl) ?_
    refine SeqK.q rfl (q_move (v := .int _ _) rfl) ?_
    refine SeqK.q rfl (q_subI rfl rfl (by omega)) ?_
    refine SeqK.q rfl (q_indexV1 (hSl2.vec at0) Try.underlying95 (by kernel_rfl) rfl rfl (by omega) (by omega)) ?_
    refine SeqK.q rfl (q_loadVN (hSl2.vec at0) (by kernel_rfl) rfl (by omega)) ?_
    refine SeqK.q rfl (o_call rfl Try.func61 rfl rfl (rightR_con (by decide))) ?_
    refine SeqK.q rfl (q_xor rfl rfl) ?_
    refine SeqK.q rfl (q_move (v := vw) rfl) ?_
    refine SeqK.q rfl (q_move (v := .int _ _) rfl) ?_
    refine SeqK.q rfl (q_subI rfl rfl (by omega)) ?_
    refine SeqK.q rfl (q_indexV1 (hSl2.vec at0) Try.underlying95 (by kernel_rfl) rfl rfl (by omega) (by omega)) ?_
    refine SeqK.q rfl (q_loadVN (hSl2.vec at0) (by kernel_rfl) rfl (by omega)) ?_
    refine SeqK.q rfl (q_shrL 3 rfl rfl (by decide) rfl) ?_
    refine SeqK.done ?_
    refine OpsW.q rfl (q_xor rfl rfl) ?_
    rw [hm0]
    refine OpsW.q rfl (q_assign (v := .int _ _) rfl) ?_
    refine OpsW.nil ?_
    refine SeqP.go ?_
    refine AW.seq ?_
    refine AW.drawK [] 19 rfl (by kernel_rfl) ?_
    refine SeqK.q rfl (q_move (v := vw) rfl) ?_
    refine SeqK.q rfl (q_move (v := .int _ _) rfl) ?_
    refine SeqK.q rfl (q_subI rfl rfl (by omega)) ?_
    refine SeqK.q rfl (q_indexV1 (hSl2.vec at0) Try.underlying95 (by kernel_rfl) rfl rfl (by omega) (by omega)) ?_
    refine SeqK.q rfl (q_loadVN (hSl2.vec at0) (by kernel_rfl) rfl (by omega)) ?_
    refine SeqK.q rfl (o_call rfl Try.func61 rfl rfl (rightR_con (by decide))) ?_
    refine SeqK.q rfl (q_move (v := vw) rfl) ?_
    refine SeqK.q rfl (q_move (v := .int _ _) rfl) ?_
    refine SeqK.q rfl (q_subI rfl rfl (by omega)) ?_
    refine SeqK.q rfl (q_indexV1 (hSl2.vec at0) Try.underlying95 (by kernel_rfl) rfl rfl (by omega) (by omega)) ?_
    refine SeqK.q rfl (q_loadVN (hSl2.vec at0) (by kernel_rfl) rfl (by omega)) ?_
    refine SeqK.q rfl (o_call rfl Try.func61 rfl rfl (rightR_con (by decide))) ?_
    refine SeqK.q rfl (q_xor rfl rfl) ?_
    refine SeqK.q rfl (q_move (v := vw) rfl) ?_
    refine SeqK.q rfl (q_move (v := .int _ _) rfl) ?_
    refine SeqK.q rfl (q_subI rfl rfl (by omega)) ?_
    refine SeqK.q rfl (q_indexV1 (hSl2.vec at0) Try.underlying95 (by kernel_rfl) rfl rfl (by omega) (by omega)) ?_
    refine SeqK.q rfl (q_loadVN (hSl2.vec at0) (by kernel_rfl) rfl (by omega)) ?_
    refine SeqK.q rfl (q_shrL 10 rfl rfl (by decide) rfl) ?_
    refine SeqK.done ?_
    refine OpsW.q rfl (q_xor rfl rfl) ?_
    rw [hm1]
    refine OpsW.q rfl (q_assign (v := .int _ _) rfl) ?_
    refine OpsW.nil ?_
    refine SeqP.go ?_
    refine AW.drawD 16 0 rfl (by kernel_rfl) (by kernel_rfl) ?_
    refine SeqD.a rfl (fun _ => q_move (v := vw) rfl) ?_
    refine SeqD.a rfl (fun _ => q_move (v := vw) rfl) ?_
    refine SeqD.a rfl (fun _ => q_move (v := .int _ _) rfl) ?_
    refine SeqD.a rfl (fun _ => q_subI rfl rfl (by omega)) ?_
    refine SeqD.b (by kernel_rfl) rfl (q_indexV1 (hSl2.vec at0) Try.underlying95 (by kernel_rfl) rfl rfl (by omega) (by omega)) ?_
    refine SeqD.b (by kernel_rfl) rfl (q_loadVN (hSl2.vec at0) (by kernel_rfl) rfl (by omega)) ?_
    refine SeqD.a rfl (fun _ => q_move (v := vw) rfl) ?_
    refine SeqD.a rfl (fun _ => q_move (v := .int _ _) rfl) ?_
    refine SeqD.a rfl (fun _ => q_subI rfl rfl (by omega)) ?_
    refine SeqD.b (by kernel_rfl) rfl (q_indexV1 (hSl2.vec at0) Try.underlying95 (by kernel_rfl) rfl rfl (by omega) (by omega)) ?_
    refine SeqD.b (by kernel_rfl) rfl (q_loadVN (hSl2.vec at0) (by kernel_rfl) rfl (by omega)) ?_
    refine SeqD.a rfl (fun _ => q_add rfl rfl) ?_
    refine SeqD.a rfl (fun _ => q_move (v := .int _ _) rfl) ?_
    refine SeqD.a rfl (fun _ => q_add rfl rfl) ?_
    refine SeqD.a rfl (fun _ => q_move (v := .int _ _) rfl) ?_
    refine SeqD.a rfl (fun _ => q_add rfl rfl) ?_
    rw [hnx]
    refine SeqD.x rfl (s_buildSlice (z := .int .u32 0) (vs := nums .u32 [_]) hSl2 Try.underlying95 (by kernel_rfl) (by kernel_rfl) rfl (by rfl) (by rfl) (by decide) rfl (nums_one _ _) rfl) ?_
    rintro v142 H11 hS11
    clear hSl2
    refine ⟨trivial, ?_⟩
    refine SeqR2.done ?_
    refine OpsW.m rfl (s_append (sz := 1) (by_ := 4) (z := .int .u32 0) hS11 at1 Try.underlying95 (by kernel_rfl) (by kernel_rfl) (by kernel_rfl) rfl (by kernel_rfl) rfl rfl (src_vec (hS11.vec at0) (nums_one _ _)) (by unfold maxLen; omega) (by omega)) ?_
    rintro v143 H12 hS12
    clear hS11
    replace hS12 := hS12.del del0
    refine OpsW.q rfl (q_assign (v := v143) rfl) ?_
    refine OpsW.nil ?_
    refine BlockP.go ?_
    refine SeqP.go ?_
    refine AW.region ?_
    refine OpsW.q rfl (q_move (v := .int _ _) rfl) ?_
    refine OpsW.q rfl (q_addI rfl rfl (by omega)) ?_
    refine OpsW.q rfl (q_assign (v := .int _ _) rfl) ?_
    refine OpsW.nil ?_
    exact LoopP.go _ (by omega) ⟨t + 1, v143, _, rfl, (by omega), Slots.eq ⟨(by rfl), (by rfl), (by rfl), (by rfl), (by rfl), (by rfl),  trivial⟩, (by rw [wsK_hi _ (by omega), nums_append]; exact hS12)⟩
  try simp only [decide_eq_true_eq, decide_eq_false_iff_not, Bool.or_eq_true, Bool.and_eq_true, Bool.or_eq_false_iff, Bool.and_eq_false_imp, Bool.not_eq_true', Bool.not_eq_false', ne_eq, Decidable.not_not, Int.not_lt, Int.not_le, Bool.not_eq_true, Bool.not_eq_false] at h0
  refine AW.skip ?_
  refine SeqP.go ?_
  refine AW.seq ?_
  refine AW.block ?_
  refine AW.region ?_
  refine OpsW.q rfl (q_move (v := vh) rfl) ?_
  refine OpsW.q rfl (q_move (v := v22) rfl) ?_
  refine OpsW.q rfl (q_move (v := .int _ _) rfl) ?_
  refine OpsW.q rfl (q_indexV1 (hSl0.vec at1) Try.underlying93 (by kernel_rfl) rfl rfl (by omega) (by omega)) ?_
  refine OpsW.q rfl (q_loadVN (hSl0.vec at1) (by kernel_rfl) rfl (by omega)) ?_
  refine OpsW.q rfl (q_shrL 32 rfl rfl (by decide) rfl) ?_
  refine OpsW.q rfl (q_convInt rfl Try.underlying96 rfl) ?_
  rw [w32_def]
  refine OpsW.m rfl (s_buildSlice (z := .int .u32 0) (vs := nums .u32 [_]) hSl0 Try.underlying95 (by kernel_rfl) (by kernel_rfl) rfl (by rfl) (by rfl) (by decide) rfl (nums_one _ _) rfl) ?_
  rintro v34 H13 hS13
  clear hSl0
  refine OpsW.m rfl (s_append (sz := 1) (by_ := 4) (z := .int .u32 0) hS13 at1 Try.underlying95 (by kernel_rfl) (by kernel_rfl) (by kernel_rfl) rfl (by kernel_rfl) rfl rfl (src_vec (hS13.vec at0) (nums_one _ _)) (by unfold maxLen; omega) (by omega)) ?_
  rintro v35 H14 hS14
  clear hS13
  replace hS14 := hS14.del del0
  refine OpsW.q rfl (q_assign (v := v35) rfl) ?_
  refine OpsW.nil ?_
  refine BlockP.go ?_
  refine SeqP.go ?_
  refine AW.region ?_
  refine OpsW.q rfl (q_move (v := .int _ _) rfl) ?_
  refine OpsW.q rfl (q_addI rfl rfl (by omega)) ?_
  refine OpsW.q rfl (q_assign (v := .int _ _) rfl) ?_
  refine OpsW.nil ?_
  exact LoopP.go _ (by omega) ⟨i + 1, v35, _, rfl, (by omega), Slots.eq ⟨(by rfl), (by rfl), (by rfl), (by rfl), (by rfl),  trivial⟩, (by have hs9 := hS14; rw [Int.toNat_natCast, ← nums_append] at hs9; rw [stR_succ (by omega)]; exact hs9)⟩
end
end Go.Proofs.Ytfiojlmccflplaa
end
section
namespace Go.Proofs.Ytfiojlmccflplaa
open Go Go.RowKit D
set_option linter.unusedVariables false
set_option linter.unusedSimpArgs false
set_option maxRecDepth 100000
set_option maxHeartbeats 2000000
section
variable {w0 : World} {H : Hp} {H0 : Hp}
theorem Verify_con {data head : List UInt8} (hm : data.length ≤ 1000000000) : Con Try.prog w0 10 #[S data, S head] H (fun v H' => v = .tuple #[.int .i64 (verS data z32 head).1, .int .i64 (verS data z32 head).2] ∧ H' = H) := by
  have hS0 : Sep H [] H := Sep.refl
  refine Con.intro Try.func10 rfl rfl ?_
  refine AW.seq ?_
  refine AW.region ?_
  refine OpsW.q rfl (q_assign (v := .int _ _) rfl) ?_
  refine OpsW.q rfl (q_assign (v := .int _ _) rfl) ?_
  refine OpsW.nil ?_
  refine SeqP.go ?_
  refine AW.seq ?_
  refine AW.region ?_
  refine OpsW.q rfl (q_assign (v := .int _ _) rfl) ?_
  refine OpsW.nil ?_
  refine SeqP.go ?_
  refine AW.seq ?_
  refine AW.seq ?_
  refine AW.region ?_
  refine OpsW.q rfl (o_call rfl Try.func38 rfl rfl (zero_con)) ?_
  refine OpsW.q rfl (q_assign (v := S _) rfl) ?_
  refine OpsW.nil ?_
  refine SeqP.go ?_
  refine AW.block ?_
  refine AW.loop (fun m_ e_ H_ => ∃ (a : Nat) (h : List UInt8) (e0 : Env), m_ = data.length - a ∧ (a ≤ data.length ∧ h.length = 32 ∧ (verS data z32 head).1 = (a : Int) + (verS (data.drop a) h head).1 ∧ (verS data z32 head).2 = (verS (data.drop a) h head).2) ∧ e_ = upds e0 [(0, S data), (1, S head), (6, .int .i64 (a : Int)), (7, S h)] ∧ Sep H [] H_) _ ⟨0, z32, _, rfl, ⟨Nat.zero_le _, rfl, by rw [List.drop_zero]; simp, by rw [List.drop_zero]⟩, Slots.eq ⟨(by rfl), (by rfl), (by rfl), (by rfl),  trivial⟩, hS0⟩ ?_
  rintro m_ _ Hl0 ⟨a, h, e0, rfl, ⟨ha, hh, hv1, hv2⟩, rfl, hSl0⟩
  try clear hS0
  refine AW.seq ?_
  refine AW.seq ?_
  refine AW.region ?_
  refine OpsW.q rfl (q_move (v := S _) rfl) ?_
  refine OpsW.q rfl (q_move (v := S _) rfl) ?_
  refine OpsW.q rfl (q_neS rfl rfl) ?_
  refine OpsW.nil ?_
  refine SeqP.go ?_
  refine AW.cond2 rfl (fun h0 => ?_) (fun h0 => ?_)
  ·
    try simp only [decide_eq_true_eq, decide_eq_false_iff_not, Bool.or_eq_true, Bool.and_eq_true, Bool.or_eq_false_iff, Bool.and_eq_false_imp, Bool.not_eq_true', Bool.not_eq_false', ne_eq, Decidable.not_not, Int.not_lt, Int.not_le, Bool.not_eq_true, Bool.not_eq_false] at h0
    refine AW.exit ?_
    refine SeqP.exit ?_
    refine LoopP.exit ?_
    have hvh : verS (data.drop a) h head = (0, 0) := verS_here (by first | exact h0 | simpa using h0)
    rw [hvh] at hv1 hv2
    rw [hv1, hv2]
    refine BlockP.here ?_
    refine SeqP.go ?_
    refine AW.seq ?_
    refine AW.region ?_
    refine OpsW.q rfl (q_move (v := .int _ _) rfl) ?_
    refine OpsW.q rfl (q_assign (v := .int _ _) rfl) ?_
    refine OpsW.q rfl (q_assign (v := .int _ _) rfl) ?_
    refine OpsW.nil ?_
    refine SeqP.go ?_
    refine AW.ret ?_
    refine RetP.mk2 (H' := H) (v1 := .int _ _) (v2 := .int _ _) rfl rfl rfl  hSl0.le ?_
    exact ⟨by simp, rfl⟩
  try simp only [decide_eq_true_eq, decide_eq_false_iff_not, Bool.or_eq_true, Bool.and_eq_true, Bool.or_eq_false_iff, Bool.and_eq_false_imp, Bool.not_eq_true', Bool.not_eq_false', ne_eq, Decidable.not_not, Int.not_lt, Int.not_le, Bool.not_eq_true, Bool.not_eq_false] at h0
  refine AW.skip ?_
  refine SeqP.go ?_
  refine AW.block ?_
  refine AW.seq ?_
  refine AW.seq ?_
  refine AW.region ?_
  refine OpsW.q rfl (q_move (v := .int _ _) rfl) ?_
  refine OpsW.q rfl (q_move (v := S _) rfl) ?_
  refine OpsW.q rfl (q_lenS Try.underlying9 rfl) ?_
  refine OpsW.q rfl (q_eql rfl rfl) ?_
  refine OpsW.nil ?_
  refine SeqP.go ?_
  refine AW.cond rfl (fun h1 => ?_) (fun h1 => ?_)
  ·
    try simp only [decide_eq_true_eq, decide_eq_false_iff_not, Bool.or_eq_true, Bool.and_eq_true, Bool.or_eq_false_iff, Bool.and_eq_false_imp, Bool.not_eq_true', Bool.not_eq_false', ne_eq, Decidable.not_not, Int.not_lt, Int.not_le, Bool.not_eq_true, Bool.not_eq_false] at h1
    have hdn : data.drop a = [] := List.drop_eq_nil_of_le (by omega)
    rw [verS_none h0 hdn] at hv1 hv2
    rw [hv1, hv2]
    refine AW.seq ?_
    refine AW.region ?_
    refine OpsW.q rfl (q_move (v := .int _ _) rfl) ?_
    refine OpsW.q rfl (q_assign (v := .int _ _) rfl) ?_
    refine OpsW.q rfl (q_assign (v := .int _ _) rfl) ?_
    refine OpsW.nil ?_
    refine SeqP.go ?_
    refine AW.ret ?_
    refine SeqP.ret ?_
    refine BlockP.ret ?_
    refine LoopP.ret ?_
    refine BlockP.ret ?_
    refine SeqP.ret ?_
    refine RetP.mk2 (H' := H) (v1 := .int _ _) (v2 := .int _ _) rfl rfl rfl  hSl0.le ?_
    exact ⟨by simp, rfl⟩
  try simp only [decide_eq_true_eq, decide_eq_false_iff_not, Bool.or_eq_true, Bool.and_eq_true, Bool.or_eq_false_iff, Bool.and_eq_false_imp, Bool.not_eq_true', Bool.not_eq_false', ne_eq, Decidable.not_not, Int.not_lt, Int.not_le, Bool.not_eq_true, Bool.not_eq_false] at h1
  have hdn : ¬ data.drop a = [] := fun e => by have := congrArg List.length e; rw [List.length_drop] at this; simp at this; omega
  refine AW.skip ?_
  refine SeqP.go ?_
  refine AW.seq ?_
  refine AW.region ?_
  refine OpsW.q rfl (q_move (v := S _) rfl) ?_
  refine OpsW.q rfl (q_move (v := .int _ _) rfl) ?_
  refine OpsW.q rfl (q_sliceS_lo Try.underlying9 rfl rfl (by omega) (by omega)) ?_
  rw [Int.toNat_natCast]
  refine OpsW.q rfl (q_move (v := S _) rfl) ?_
  refine OpsW.q rfl (o_call rfl Try.func39 rfl rfl (firstS_con (by rw [List.length_drop]; omega) (by omega))) ?_
  refine OpsW.q rfl (q_move (v := .tuple _) rfl) ?_
  refine OpsW.q rfl (q_extract (v := .agg _) rfl rfl) ?_
  refine OpsW.q rfl (q_extract (v := .bool _) rfl rfl) ?_
  refine OpsW.m rfl (s_alloc (z := .agg #[S [], .int .i64 0, S []]) (cs := [S [], .int .i64 0, S []]) hSl0 (by kernel_rfl) rfl) ?_
  rintro _ H1 ⟨b8, rfl, hS1⟩
  clear hSl0
  refine OpsW.ms (s_storeS (n := 3) hS1 at0 (by kernel_rfl) rfl rfl rfl (ones_all rfl) rfl) ?_
  rintro _ H2 ⟨rfl, hS2⟩
  clear hS1
  refine OpsW.q rfl (q_assign (v := .bool _) rfl) ?_
  refine OpsW.nil ?_
  refine SeqP.go ?_
  refine AW.seq ?_
  refine AW.seq ?_
  refine AW.region ?_
  refine OpsW.q rfl (q_move (v := .bool _) rfl) ?_
  refine OpsW.q rfl (q_not rfl) ?_
  refine OpsW.nil ?_
  refine SeqP.go ?_
  refine AW.cond rfl (fun h2 => ?_) (fun h2 => ?_)
  ·
    try simp only [decide_eq_true_eq, decide_eq_false_iff_not, Bool.or_eq_true, Bool.and_eq_true, Bool.or_eq_false_iff, Bool.and_eq_false_imp, Bool.not_eq_true', Bool.not_eq_false', ne_eq, Decidable.not_not, Int.not_lt, Int.not_le, Bool.not_eq_true, Bool.not_eq_false] at h2
    have hf : (firstS (data.drop a) h).2 = false := by simp_all
    rw [verS_chain h0 hdn hf] at hv1 hv2
    rw [hv1, hv2]
    refine AW.seq ?_
    refine AW.region ?_
    refine OpsW.q rfl (q_move (v := .int _ _) rfl) ?_
    refine OpsW.q rfl (q_assign (v := .int _ _) rfl) ?_
    refine OpsW.q rfl (q_assign (v := .int _ _) rfl) ?_
    refine OpsW.nil ?_
    refine SeqP.go ?_
    refine AW.ret ?_
    refine SeqP.ret ?_
    refine BlockP.ret ?_
    refine LoopP.ret ?_
    refine BlockP.ret ?_
    refine SeqP.ret ?_
    refine RetP.mk2 (H' := H) (v1 := .int _ _) (v2 := .int _ _) rfl rfl rfl  hS2.le ?_
    exact ⟨by simp, rfl⟩
  try simp only [decide_eq_true_eq, decide_eq_false_iff_not, Bool.or_eq_true, Bool.and_eq_true, Bool.or_eq_false_iff, Bool.and_eq_false_imp, Bool.not_eq_true', Bool.not_eq_false', ne_eq, Decidable.not_not, Int.not_lt, Int.not_le, Bool.not_eq_true, Bool.not_eq_false] at h2
  have hf : (firstS (data.drop a) h).2 = true := by simp_all
  have hgo := verS_go h0 hdn hf
  have hsz := ver_size hf
  rw [List.length_drop] at hsz
  refine AW.skip ?_
  refine SeqP.go ?_
  refine AW.seq ?_
  refine AW.region ?_
  refine OpsW.q rfl (q_fieldAddr (sz := 0) Try.underlying74 rfl (by kernel_rfl) rfl) ?_
  refine OpsW.q rfl (q_load (v := S _) (by kernel_rfl) rfl (hS2.blk at0) rfl) ?_
  refine OpsW.q rfl (q_assign (v := S _) rfl) ?_
  refine OpsW.nil ?_
  refine SeqP.go ?_
  refine AW.region ?_
  refine OpsW.q rfl (q_move (v := .int _ _) rfl) ?_
  refine OpsW.q rfl (q_fieldAddr (sz := 0) Try.underlying74 rfl (by kernel_rfl) rfl) ?_
  refine OpsW.q rfl (q_load (v := .int _ _) (by kernel_rfl) rfl (hS2.blk at0) rfl) ?_
  refine OpsW.q rfl (q_addI rfl rfl (by omega)) ?_
  refine OpsW.q rfl (q_assign (v := .int _ _) rfl) ?_
  refine OpsW.nil ?_
  refine BlockP.go ?_
  replace hS2 := hS2.del del0
  exact LoopP.go _ (by omega) ⟨a + (firstS (data.drop a) h).1.size.toNat, (firstS (data.drop a) h).1.next, _, rfl, ⟨by omega, hsz.2.2.2, by rw [hv1, hgo]; dsimp only; rw [List.drop_drop]; omega, by rw [hv2, hgo]; dsimp only; rw [List.drop_drop]⟩, Slots.eq ⟨(by rfl), (by rfl), (by show Value.int .i64 ((a : Int) + (firstS (data.drop a) h).1.size) = Value.int .i64 _; rw [hsz.2.2.1]; rfl), (by rfl),  trivial⟩, hS2⟩
theorem numberR_con {s : List UInt8} (h4 : 4 ≤ s.length) : Con Try.prog w0 43 #[S s] H (fun v H' => v = .int .i64 (numB s) ∧ H' = H) := by
  have hS0 : Sep H [] H := Sep.refl
  have b0 := bt_range s 0
  have b1 := bt_range s 1
  have b2 := bt_range s 2
  have b3 := bt_range s 3
  refine Con.intro Try.func43 rfl rfl ?_
  refine AW.seq ?_
  refine AW.region ?_
  refine OpsW.q rfl (q_assign (v := .int _ _) rfl) ?_
  refine OpsW.nil ?_
  refine SeqP.go ?_
  refine AW.seq ?_
  refine AW.drawK [] 17 rfl (by kernel_rfl) ?_
  refine SeqK.q rfl (q_move (v := S _) rfl) ?_
  refine SeqK.q rfl (q_indexSL 0 Try.underlying9 rfl rfl (by omega)) ?_
  refine SeqK.q rfl (q_convBI rfl Try.underlying3 rfl) ?_
  refine SeqK.q rfl (q_shlL 24 rfl rfl (by decide) rfl) ?_
  refine SeqK.q rfl (q_move (v := S _) rfl) ?_
  refine SeqK.q rfl (q_indexSL 1 Try.underlying9 rfl rfl (by omega)) ?_
  refine SeqK.q rfl (q_convBI rfl Try.underlying3 rfl) ?_
  refine SeqK.q rfl (q_shlL 16 rfl rfl (by decide) rfl) ?_
  refine SeqK.q rfl (q_or rfl rfl) ?_
  refine SeqK.q rfl (q_move (v := S _) rfl) ?_
  refine SeqK.q rfl (q_indexSL 2 Try.underlying9 rfl rfl (by omega)) ?_
  refine SeqK.q rfl (q_convBI rfl Try.underlying3 rfl) ?_
  refine SeqK.q rfl (q_shlL 8 rfl rfl (by decide) rfl) ?_
  refine SeqK.q rfl (q_or rfl rfl) ?_
  refine SeqK.q rfl (q_move (v := S _) rfl) ?_
  refine SeqK.q rfl (q_indexSL 3 Try.underlying9 rfl rfl (by omega)) ?_
  refine SeqK.q rfl (q_convBI rfl Try.underlying3 rfl) ?_
  refine SeqK.done ?_
  refine OpsW.q rfl (q_or rfl rfl) ?_
  refine OpsW.q rfl (q_assign (v := .int _ _) rfl) ?_
  refine OpsW.nil ?_
  refine SeqP.go ?_
  refine AW.ret ?_
  refine RetP.mk1 (H' := H) (v1 := .int _ _) rfl rfl  hS0.le ?_
  refine ⟨?_, rfl⟩
  exact congrArg (Value.int .i64) (num_eq s)
theorem fourR_con (n : Int) : Con Try.prog w0 51 #[.int .i64 n] H (fun v H' => v = S (fourB n) ∧ H' = H) := by
  have hS0 : Sep H [] H := Sep.refl
  refine Con.intro Try.func51 rfl rfl ?_
  refine AW.seq ?_
  refine AW.region ?_
  refine OpsW.q rfl (q_assign (v := S _) rfl) ?_
  refine OpsW.nil ?_
  refine SeqP.go ?_
  refine AW.seq ?_
  refine AW.region ?_
  refine OpsW.q rfl (q_move (v := .int _ _) rfl) ?_
  refine OpsW.q rfl (q_shrL 24 rfl rfl (by decide) rfl) ?_
  refine OpsW.q rfl (q_convInt rfl Try.underlying5 rfl) ?_
  refine OpsW.q rfl (q_move (v := .int _ _) rfl) ?_
  refine OpsW.q rfl (q_shrL 16 rfl rfl (by decide) rfl) ?_
  refine OpsW.q rfl (q_convInt rfl Try.underlying5 rfl) ?_
  refine OpsW.q rfl (q_move (v := .int _ _) rfl) ?_
  refine OpsW.q rfl (q_shrL 8 rfl rfl (by decide) rfl) ?_
  refine OpsW.q rfl (q_convInt rfl Try.underlying5 rfl) ?_
  refine OpsW.q rfl (q_move (v := .int _ _) rfl) ?_
  refine OpsW.q rfl (q_convInt rfl Try.underlying5 rfl) ?_
  refine OpsW.m rfl (s_buildSlice (z := .int .u8 0) (vs := nums .u8 [_, _, _, _]) hS0 Try.underlying72 (by kernel_rfl) (by kernel_rfl) rfl (by rfl) (by rfl) (by decide) rfl (nums_one _ _) rfl) ?_
  rintro v14 H1 hS1
  clear hS0
  refine OpsW.q rfl (q_stringVec (hS1.vec at0) Try.underlying72 Try.underlying5 Try.underlying9 rfl) ?_
  refine OpsW.q rfl (q_assign (v := S _) rfl) ?_
  refine OpsW.nil ?_
  refine SeqP.go ?_
  refine AW.ret ?_
  refine RetP.mk1 (H' := H) (v1 := S _) rfl rfl  hS1.le ?_
  exact ⟨by rw [fourB_def], rfl⟩
theorem zeroR_con  : Con Try.prog w0 40 #[] H (fun v H' => v = S z32 ∧ H' = H) := by
  have hS0 : Sep H [] H := Sep.refl
  refine Con.intro Try.func40 rfl rfl ?_
  refine AW.seq ?_
  refine AW.region ?_
  refine OpsW.q rfl (q_assign (v := S _) rfl) ?_
  refine OpsW.nil ?_
  refine SeqP.go ?_
  refine AW.seq ?_
  refine AW.region ?_
  refine OpsW.m rfl (s_makeSliceB (by_ := 1) hS0 Try.underlying72 (by kernel_rfl) (by kernel_rfl) (by kernel_rfl) rfl rfl (by omega) (by omega) (by omega) (by omega) (by unfold maxLen; omega)) ?_
  rintro v1 H1 hS1
  clear hS0
  refine OpsW.q rfl (q_stringB (hS1.vec at0) Try.underlying72 Try.underlying5 Try.underlying9 rfl) ?_
  refine OpsW.q rfl (q_assign (v := S _) rfl) ?_
  refine OpsW.nil ?_
  refine SeqP.go ?_
  refine AW.ret ?_
  refine RetP.mk1 (H' := H) (v1 := S _) rfl rfl  hS1.le ?_
  exact ⟨rfl, rfl⟩
theorem firstR_con {s hd : List UInt8} (hm : s.length ≤ 1000000000) (hh : hd.length ≤ 1000000) : Con Try.prog w0 41 #[S s, S hd] H (fun v H' => v = .tuple #[.agg #[S (tWho (firstS s hd).1.body), .int .i64 (tSeq (firstS s hd).1.body), S (tDat (firstS s hd).1.body)], .int .i64 (firstS s hd).1.size, S (firstS s hd).1.next, .bool (firstS s hd).2] ∧ H' = H) := by
  have hS0 : Sep H [] H := Sep.refl
  have hnr := numB_range s
  refine Con.intro Try.func41 rfl rfl ?_
  refine AW.seq ?_
  refine AW.region ?_
  refine OpsW.m rfl (s_alloc (z := .agg #[S [], .int .i64 0, S []]) (cs := [S [], .int .i64 0, S []]) hS0 (by kernel_rfl) rfl) ?_
  rintro _ H1 ⟨b4, rfl, hS1⟩
  clear hS0
  refine OpsW.q rfl (q_assign (v := .int _ _) rfl) ?_
  refine OpsW.q rfl (q_assign (v := S _) rfl) ?_
  refine OpsW.q rfl (q_assign (v := .bool _) rfl) ?_
  refine OpsW.nil ?_
  refine SeqP.go ?_
  refine AW.seq ?_
  refine AW.seq ?_
  refine AW.region ?_
  refine OpsW.q rfl (q_move (v := S _) rfl) ?_
  refine OpsW.q rfl (q_lenS Try.underlying9 rfl) ?_
  refine OpsW.q rfl (q_lss rfl rfl) ?_
  refine OpsW.nil ?_
  refine SeqP.go ?_
  refine AW.cond rfl (fun h0 => ?_) (fun h0 => ?_)
  ·
    try simp only [decide_eq_true_eq, decide_eq_false_iff_not, Bool.or_eq_true, Bool.and_eq_true, Bool.or_eq_false_iff, Bool.and_eq_false_imp, Bool.not_eq_true', Bool.not_eq_false', ne_eq, Decidable.not_not, Int.not_lt, Int.not_le, Bool.not_eq_true, Bool.not_eq_false] at h0
    rw [firstS_no (by unfold frOk; omega)]
    refine AW.seq ?_
    refine AW.region ?_
    refine OpsW.q rfl (q_build (cells := #[S [], .int .i64 0, S []]) rfl (by kernel_rfl)) ?_
    refine OpsW.ms (s_storeS (n := 3) hS1 at0 (by kernel_rfl) rfl rfl rfl (ones_all rfl) rfl) ?_
    rintro _ H2 ⟨rfl, hS2⟩
    clear hS1
    refine OpsW.q rfl (q_assign (v := .int _ _) rfl) ?_
    refine OpsW.q rfl (q_assign (v := S _) rfl) ?_
    refine OpsW.q rfl (q_assign (v := .bool _) rfl) ?_
    refine OpsW.nil ?_
    refine SeqP.go ?_
    refine AW.ret ?_
    refine SeqP.ret ?_
    refine RetP.mkc3 (m := 3) (v2 := .int _ _) (v3 := S _) (v4 := .bool _) (H' := H) rfl rfl rfl rfl rfl (hS2.blk at0) (by simp; done) (by kernel_rfl) hS2.le ?_
    exact ⟨by rw [tSeq_nil]; rfl, rfl⟩
  try simp only [decide_eq_true_eq, decide_eq_false_iff_not, Bool.or_eq_true, Bool.and_eq_true, Bool.or_eq_false_iff, Bool.and_eq_false_imp, Bool.not_eq_true', Bool.not_eq_false', ne_eq, Decidable.not_not, Int.not_lt, Int.not_le, Bool.not_eq_true, Bool.not_eq_false] at h0
  refine AW.skip ?_
  refine SeqP.go ?_
  refine AW.seq ?_
  refine AW.region ?_
  refine OpsW.q rfl (q_move (v := S _) rfl) ?_
  refine OpsW.q rfl (o_call rfl Try.func43 rfl rfl (numberR_con (by first | omega | (rw [List.length_drop]; show 4 ≤ _ - 32; omega)))) ?_
  refine OpsW.q rfl (q_assign (v := .int _ _) rfl) ?_
  refine OpsW.nil ?_
  refine SeqP.go ?_
  refine AW.seq ?_
  refine AW.seq ?_
  refine AW.region ?_
  refine OpsW.q rfl (q_move (v := .int _ _) rfl) ?_
  refine OpsW.q rfl (q_lss rfl rfl) ?_
  refine OpsW.qb rfl (q_move (v := .bool _) rfl) ?_
  intro b20 eb20
  refine OpsW.g rfl rfl rfl (fun hB => by simp only [Bool.and_eq_true, beq_iff_eq] at hB; obtain rfl := hB; exact (q_move (v := .int _ _) rfl)) ?_
  refine OpsW.g rfl rfl rfl (fun hB => by simp only [Bool.and_eq_true, beq_iff_eq] at hB; obtain rfl := hB; exact (q_gtr rfl rfl)) ?_
  refine OpsW.q rfl (q_or2 rfl rfl rfl) ?_
  refine OpsW.qb rfl (q_move (v := .bool _) rfl) ?_
  intro b24 eb24
  refine OpsW.g rfl rfl rfl (fun hB => by simp only [Bool.and_eq_true, beq_iff_eq] at hB; obtain rfl := hB; exact (q_move (v := S _) rfl)) ?_
  refine OpsW.g rfl rfl rfl (fun hB => by simp only [Bool.and_eq_true, beq_iff_eq] at hB; obtain rfl := hB; exact (q_lenS Try.underlying9 rfl)) ?_
  refine OpsW.g rfl rfl rfl (fun hB => by simp only [Bool.and_eq_true, beq_iff_eq] at hB; obtain rfl := hB; exact (q_move (v := .int _ _) rfl)) ?_
  refine OpsW.g rfl rfl rfl (fun hB => by simp only [Bool.and_eq_true, beq_iff_eq] at hB; obtain rfl := hB; (try simp only [eb20, Bool.true_eq, Bool.false_eq, decide_eq_true_eq, Bool.and_eq_true, Bool.or_eq_true, Bool.or_eq_false_iff, Bool.not_eq_true', decide_eq_false_iff_not, Int.not_lt, Int.not_le] at eb24); exact (q_addI rfl rfl (by omega))) ?_
  refine OpsW.g rfl rfl rfl (fun hB => by simp only [Bool.and_eq_true, beq_iff_eq] at hB; obtain rfl := hB; (try simp only [eb20, Bool.true_eq, Bool.false_eq, decide_eq_true_eq, Bool.and_eq_true, Bool.or_eq_true, Bool.or_eq_false_iff, Bool.not_eq_true', decide_eq_false_iff_not, Int.not_lt, Int.not_le] at eb24); exact (q_addI rfl rfl (by omega))) ?_
  refine OpsW.g rfl rfl rfl (fun hB => by simp only [Bool.and_eq_true, beq_iff_eq] at hB; obtain rfl := hB; exact (q_lss rfl rfl)) ?_
  refine OpsW.q rfl (q_or2 rfl rfl rfl) ?_
  refine OpsW.nil ?_
  refine SeqP.go ?_
  refine AW.cond rfl (fun h1 => ?_) (fun h1 => ?_)
  ·
    try simp only [eb20, eb24, decide_eq_true_eq, decide_eq_false_iff_not, Bool.or_eq_true, Bool.and_eq_true, Bool.or_eq_false_iff, Bool.and_eq_false_imp, Bool.not_eq_true', Bool.not_eq_false', ne_eq, Decidable.not_not, Int.not_lt, Int.not_le, Bool.not_eq_true, Bool.not_eq_false] at h1
    rw [firstS_no (by unfold frOk; simp_all <;> omega)]
    refine AW.seq ?_
    refine AW.region ?_
    refine OpsW.q rfl (q_build (cells := #[S [], .int .i64 0, S []]) rfl (by kernel_rfl)) ?_
    refine OpsW.ms (s_storeS (n := 3) hS1 at0 (by kernel_rfl) rfl rfl rfl (ones_all rfl) rfl) ?_
    rintro _ H3 ⟨rfl, hS3⟩
    clear hS1
    refine OpsW.q rfl (q_assign (v := .int _ _) rfl) ?_
    refine OpsW.q rfl (q_assign (v := S _) rfl) ?_
    refine OpsW.q rfl (q_assign (v := .bool _) rfl) ?_
    refine OpsW.nil ?_
    refine SeqP.go ?_
    refine AW.ret ?_
    refine SeqP.ret ?_
    refine RetP.mkc3 (m := 3) (v2 := .int _ _) (v3 := S _) (v4 := .bool _) (H' := H) rfl rfl rfl rfl rfl (hS3.blk at0) (by simp; done) (by kernel_rfl) hS3.le ?_
    exact ⟨by rw [tSeq_nil]; rfl, rfl⟩
  try simp only [eb20, eb24, decide_eq_true_eq, decide_eq_false_iff_not, Bool.or_eq_true, Bool.and_eq_true, Bool.or_eq_false_iff, Bool.and_eq_false_imp, Bool.not_eq_true', Bool.not_eq_false', ne_eq, Decidable.not_not, Int.not_lt, Int.not_le, Bool.not_eq_true, Bool.not_eq_false] at h1
  have hok : frOk s := by unfold frOk; simp_all <;> omega
  rw [firstS_yes hok]
  obtain ⟨g1, g2, g3, g4, g5, g6⟩ := frOk_len hok
  refine AW.skip ?_
  refine SeqP.go ?_
  refine AW.seq ?_
  refine AW.region ?_
  refine OpsW.q rfl (q_move (v := S _) rfl) ?_
  refine OpsW.q rfl (q_move (v := .int _ _) rfl) ?_
  refine OpsW.q rfl (q_addI rfl rfl (by omega)) ?_
  refine OpsW.q rfl (q_sliceS Try.underlying9 rfl rfl rfl (by omega) (by omega) (by omega)) ?_
  rw [show (s.take (4 + numB s).toNat).drop (Int.toNat 4) = frBody s from rfl]
  refine OpsW.q rfl (q_assign (v := S _) rfl) ?_
  refine OpsW.nil ?_
  refine SeqP.go ?_
  refine AW.seq ?_
  refine AW.region ?_
  refine OpsW.q rfl (q_move (v := S _) rfl) ?_
  refine OpsW.q rfl (q_move (v := .int _ _) rfl) ?_
  refine OpsW.q rfl (q_addI rfl rfl (by omega)) ?_
  refine OpsW.q rfl (q_move (v := .int _ _) rfl) ?_
  refine OpsW.q rfl (q_addI rfl rfl (by omega)) ?_
  refine OpsW.q rfl (q_addI rfl rfl (by omega)) ?_
  refine OpsW.q rfl (q_sliceS Try.underlying9 rfl rfl rfl (by omega) (by omega) (by omega)) ?_
  rw [show (s.take (4 + numB s + 32).toNat).drop (4 + numB s).toNat = frNext s from rfl]
  refine OpsW.q rfl (q_assign (v := S _) rfl) ?_
  refine OpsW.nil ?_
  refine SeqP.go ?_
  refine AW.seq ?_
  refine AW.drawD 9 0 rfl (by kernel_rfl) (by kernel_rfl) ?_
  refine SeqD.a rfl (fun _ => q_move (v := S _) rfl) ?_
  refine SeqD.a rfl (fun _ => q_sliceS_hi Try.underlying9 rfl rfl (by omega) (by omega)) ?_
  refine SeqD.a rfl (fun _ => q_move (v := S _) rfl) ?_
  refine SeqD.a rfl (fun _ => q_sliceS_lo Try.underlying9 rfl rfl (by omega) (by omega)) ?_
  refine SeqD.a rfl (fun _ => o_call rfl Try.func43 rfl rfl (numberR_con (by first | omega | (rw [List.length_drop]; show 4 ≤ _ - 32; omega)))) ?_
  refine SeqD.a rfl (fun _ => q_move (v := S _) rfl) ?_
  refine SeqD.a rfl (fun _ => q_sliceS_lo Try.underlying9 rfl rfl (by omega) (by omega)) ?_
  refine SeqD.a rfl (fun _ => q_build (cells := #[.int .i64 (tSeq (frBody s)), S (tDat (frBody s))]) rfl (by kernel_rfl)) ?_
  refine SeqD.a rfl (fun _ => q_build (cells := #[S (tWho (frBody s)), .int .i64 (tSeq (frBody s)), S (tDat (frBody s))]) rfl (by kernel_rfl)) ?_
  refine SeqD.x rfl (s_alloc (z := .agg #[S [], .int .i64 0, S []]) (cs := [S [], .int .i64 0, S []]) hS1 (by kernel_rfl) rfl) ?_
  rintro _ H4 ⟨b11, rfl, hS4⟩
  clear hS1
  refine ⟨trivial, ?_⟩
  refine SeqR2.done ?_
  refine OpsW.ms (s_storeS (n := 3) hS4 at0 (by kernel_rfl) rfl rfl rfl (ones_all rfl) rfl) ?_
  rintro _ H5 ⟨rfl, hS5⟩
  clear hS4
  refine OpsW.nil ?_
  refine SeqP.go ?_
  refine AW.seq ?_
  refine AW.drawD 11 2 rfl (by kernel_rfl) (by kernel_rfl) ?_
  refine SeqD.b (by kernel_rfl) rfl (q_loadA0 (n := 3) (by kernel_rfl) rfl (hS5.blk at0) (by simp; done)) ?_
  refine SeqD.a rfl (fun _ => q_move (v := .int _ _) rfl) ?_
  refine SeqD.a rfl (fun _ => q_addI rfl rfl (by omega)) ?_
  refine SeqD.a rfl (fun _ => q_addI rfl rfl (by omega)) ?_
  refine SeqD.a rfl (fun _ => q_move (v := S _) rfl) ?_
  refine SeqD.a rfl (fun _ => q_move (v := S _) rfl) ?_
  refine SeqD.a rfl (fun _ => q_move (v := S _) rfl) ?_
  refine SeqD.a rfl (fun _ => q_move (v := S _) rfl) ?_
  refine SeqD.a rfl (fun _ => q_cat rfl rfl (by omega)) ?_
  refine SeqD.a rfl (fun _ => o_call rfl Try.func52 rfl rfl (Sum256R_con (by rw [List.length_append]; omega))) ?_
  refine SeqD.a rfl (fun _ => q_eqS rfl rfl) ?_
  refine SeqD.ms (s_storeS (n := 3) hS5 at1 (by kernel_rfl) rfl rfl rfl (ones_all rfl) rfl) ?_
  rintro _ H6 ⟨rfl, hS6⟩
  clear hS5
  refine ⟨trivial, ?_⟩
  refine SeqR2.q rfl (q_assign (v := .int _ _) rfl) ?_
  refine SeqR2.q rfl (q_assign (v := S _) rfl) ?_
  refine SeqR2.done ?_
  refine OpsW.q rfl (q_assign (v := .bool _) rfl) ?_
  refine OpsW.nil ?_
  refine SeqP.go ?_
  refine AW.ret ?_
  refine RetP.mkc3 (m := 3) (v2 := .int _ _) (v3 := S _) (v4 := .bool _) (H' := H) rfl rfl rfl rfl rfl (hS6.blk at1) (by simp; done) (by kernel_rfl) hS6.le ?_
  exact ⟨rfl, rfl⟩
theorem FrameS_con {hd who dat : List UInt8} {seq : Int} (hh : hd.length ≤ 1000) (hw : who.length ≤ 2000000) (hd_ : dat.length ≤ 1000000) : Con Try.prog w0 30 #[S hd, S who, .agg #[.int .i64 seq, S dat]] H (fun v H' => v = .tuple #[S (frS hd (bodyS who seq dat)), S (nxS hd (bodyS who seq dat))] ∧ H' = H) := by
  have hS0 : Sep H [] H := Sep.refl
  have hf4 := fourB_length seq
  have hbl := bodyS_len (who := who) (seq := seq) (dat := dat)
  have hnl := nxS_len hd (bodyS who seq dat)
  have hf5 := fourB_length ((bodyS who seq dat).length : Int)
  refine Con.intro Try.func30 rfl rfl ?_
  refine AW.seq ?_
  refine AW.region ?_
  refine OpsW.m rfl (s_box (v := .agg _) hS0 rfl rfl) ?_
  rintro _ H1 ⟨b5, rfl, hS1⟩
  clear hS0
  refine OpsW.q rfl (q_assign (v := S _) rfl) ?_
  refine OpsW.q rfl (q_assign (v := S _) rfl) ?_
  refine OpsW.nil ?_
  refine SeqP.go ?_
  refine AW.seq ?_
  refine AW.drawK [] 7 rfl (by kernel_rfl) ?_
  refine SeqK.q rfl (q_move (v := S _) rfl) ?_
  refine SeqK.q rfl (q_fieldAddr (sz := 0) Try.underlying44 rfl (by kernel_rfl) rfl) ?_
  refine SeqK.q rfl (q_load (v := .int _ _) (by kernel_rfl) rfl (hS1.blk at0) rfl) ?_
  refine SeqK.q rfl (o_call rfl Try.func51 rfl rfl (fourR_con _)) ?_
  refine SeqK.q rfl (q_cat rfl rfl (by omega)) ?_
  refine SeqK.q rfl (q_fieldAddr (sz := 0) Try.underlying44 rfl (by kernel_rfl) rfl) ?_
  refine SeqK.q rfl (q_load (v := S _) (by kernel_rfl) rfl (hS1.blk at0) rfl) ?_
  refine SeqK.done ?_
  refine OpsW.q rfl (q_cat rfl rfl (by simp only [nums_length, List.length_set, List.length_replicate, List.length_take, List.length_drop, List.length_append, List.length_cons, List.length_nil, ofB_length, toB_length]; omega)) ?_
  rw [← bodyS_def]
  refine OpsW.q rfl (q_assign (v := S _) rfl) ?_
  refine OpsW.nil ?_
  refine SeqP.go ?_
  refine AW.seq ?_
  refine AW.region ?_
  refine OpsW.q rfl (q_move (v := S _) rfl) ?_
  refine OpsW.q rfl (q_move (v := S _) rfl) ?_
  refine OpsW.q rfl (q_cat rfl rfl (by omega)) ?_
  refine OpsW.q rfl (o_call rfl Try.func52 rfl rfl (Sum256R_con (by rw [List.length_append, bodyS_len]; omega))) ?_
  rw [← nxS_def]
  refine OpsW.q rfl (q_assign (v := S _) rfl) ?_
  refine OpsW.nil ?_
  refine SeqP.go ?_
  refine AW.seq ?_
  refine AW.region ?_
  refine OpsW.q rfl (q_move (v := S _) rfl) ?_
  refine OpsW.q rfl (q_lenS Try.underlying9 rfl) ?_
  refine OpsW.q rfl (o_call rfl Try.func51 rfl rfl (fourR_con _)) ?_
  refine OpsW.q rfl (q_move (v := S _) rfl) ?_
  refine OpsW.q rfl (q_cat rfl rfl (by omega)) ?_
  refine OpsW.q rfl (q_move (v := S _) rfl) ?_
  refine OpsW.q rfl (q_cat rfl rfl (by simp only [nums_length, List.length_set, List.length_replicate, List.length_take, List.length_drop, List.length_append, List.length_cons, List.length_nil, ofB_length, toB_length]; omega)) ?_
  rw [← frS_def]
  refine OpsW.q rfl (q_move (v := S _) rfl) ?_
  refine OpsW.q rfl (q_assign (v := S _) rfl) ?_
  refine OpsW.q rfl (q_assign (v := S _) rfl) ?_
  refine OpsW.nil ?_
  refine SeqP.go ?_
  refine AW.ret ?_
  refine RetP.mk2 (H' := H) (v1 := S _) (v2 := S _) rfl rfl rfl  hS1.le ?_
  exact ⟨rfl, rfl⟩
theorem MarkR_con {b tb : Nat} {x : StF} {lv : Value} (hb : H b = some (rfBlk tb x lv)) (hV : Vec H 78 3 lv x.st.L.length (rowsV oneC x.st.L)) (hok : StOk x.st.L) (hl : x.st.L.length ≤ 1000000000) {who : List UInt8} : Con Try.prog w0 36 #[.pointer (some ⟨b, 0, none⟩), S who] H (fun v H' => v = .int .i64 (mkP x.st.L who) ∧ H' = H) := by
  have hS0 : Sep H [] H := Sep.refl
  refine Con.intro Try.func36 rfl rfl ?_
  refine AW.seq ?_
  refine AW.region ?_
  refine OpsW.q rfl (q_assign (v := .int _ _) rfl) ?_
  refine OpsW.nil ?_
  refine SeqP.go ?_
  refine AW.seq ?_
  refine AW.region ?_
  refine OpsW.q rfl (q_assign (v := .int _ _) rfl) ?_
  refine OpsW.nil ?_
  refine SeqP.go ?_
  refine AW.seq ?_
  refine AW.seq ?_
  refine AW.region ?_
  refine OpsW.q rfl (q_assign (v := .int _ _) rfl) ?_
  refine OpsW.nil ?_
  refine SeqP.go ?_
  refine AW.block ?_
  refine AW.loop (fun m_ e_ H_ => ∃ (i : Nat) (e0 : Env), m_ = x.st.L.length - i ∧ (i ≤ x.st.L.length) ∧ e_ = upds e0 [(0, .pointer (some ⟨b, 0, none⟩)), (1, S who), (5, .int .i64 (mxP x.st.L who i)), (6, .int .i64 (i : Int))] ∧ Sep H [] H_) _ ⟨0, _, rfl, (Nat.zero_le _), Slots.eq ⟨(by rfl), (by rfl), (by rw [mxP_zero]; rfl), (by rfl),  trivial⟩, hS0⟩ ?_
  rintro m_ _ Hl0 ⟨i, e0, rfl, hf, rfl, hSl0⟩
  try clear hS0
  refine AW.seq ?_
  refine AW.seq ?_
  refine AW.region ?_
  refine OpsW.q rfl (q_move (v := .int _ _) rfl) ?_
  refine OpsW.q rfl (q_move (v := .pointer _) rfl) ?_
  refine OpsW.q rfl (q_nilCheck rfl) ?_
  refine OpsW.q rfl (q_fieldAddr (sz := 0) Try.underlying69 rfl (by kernel_rfl) rfl) ?_
  refine OpsW.q rfl (q_load (v := lv) (by kernel_rfl) rfl (hSl0.old hb) rfl) ?_
  refine OpsW.q rfl (q_lenVec Try.underlying67 rfl (hV.le hSl0.le)) ?_
  refine OpsW.q rfl (q_lss rfl rfl) ?_
  refine OpsW.nil ?_
  refine SeqP.go ?_
  refine AW.cond2 rfl (fun h0 => ?_) (fun h0 => ?_)
  ·
    try simp only [decide_eq_true_eq, decide_eq_false_iff_not, Bool.or_eq_true, Bool.and_eq_true, Bool.or_eq_false_iff, Bool.and_eq_false_imp, Bool.not_eq_true', Bool.not_eq_false', ne_eq, Decidable.not_not, Int.not_lt, Int.not_le, Bool.not_eq_true, Bool.not_eq_false] at h0
    refine AW.exit ?_
    refine SeqP.exit ?_
    refine LoopP.exit ?_
    obtain rfl : i = x.st.L.length := by omega
    rw [mxP_all hok]
    refine BlockP.here ?_
    refine SeqP.go ?_
    refine AW.seq ?_
    refine AW.region ?_
    refine OpsW.q rfl (q_move (v := .int _ _) rfl) ?_
    refine OpsW.q rfl (q_assign (v := .int _ _) rfl) ?_
    refine OpsW.nil ?_
    refine SeqP.go ?_
    refine AW.ret ?_
    refine RetP.mk1 (H' := H) (v1 := .int _ _) rfl rfl  hSl0.le ?_
    exact ⟨rfl, rfl⟩
  try simp only [decide_eq_true_eq, decide_eq_false_iff_not, Bool.or_eq_true, Bool.and_eq_true, Bool.or_eq_false_iff, Bool.and_eq_false_imp, Bool.not_eq_true', Bool.not_eq_false', ne_eq, Decidable.not_not, Int.not_lt, Int.not_le, Bool.not_eq_true, Bool.not_eq_false] at h0
  obtain ⟨o, ho⟩ : ∃ o, x.st.L[i]? = some o := ⟨x.st.L[i], List.getElem?_eq_getElem (by omega)⟩
  refine AW.skip ?_
  refine SeqP.go ?_
  refine AW.seq ?_
  refine AW.block ?_
  refine AW.seq ?_
  refine AW.region ?_
  refine OpsW.q rfl (q_move (v := .pointer _) rfl) ?_
  refine OpsW.q rfl (q_nilCheck rfl) ?_
  refine OpsW.q rfl (q_fieldAddr (sz := 0) Try.underlying69 rfl (by kernel_rfl) rfl) ?_
  refine OpsW.q rfl (q_load (v := lv) (by kernel_rfl) rfl (hSl0.old hb) rfl) ?_
  refine OpsW.q rfl (q_move (v := .int _ _) rfl) ?_
  refine OpsW.q rfl (q_indexV (Vec.le hV hSl0.le) Try.underlying67 (by kernel_rfl) rfl rfl (by omega) (by omega)) ?_
  refine OpsW.q rfl (q_fieldV (s2 := 0) (Vec.le hV hSl0.le) (by omega) Try.underlying78 rfl (by kernel_rfl) rfl) ?_
  refine OpsW.q rfl (q_loadV (Vec.le hV hSl0.le) (by kernel_rfl) rfl (rowsV_get (j := i) (i := 0) oneC_len ho rfl)) ?_
  refine OpsW.q rfl (q_move (v := S _) rfl) ?_
  refine OpsW.q rfl (q_eqS rfl rfl) ?_
  refine OpsW.nil ?_
  refine SeqP.go ?_
  refine AW.cond rfl (fun h1 => ?_) (fun h1 => ?_)
  ·
    try simp only [decide_eq_true_eq, decide_eq_false_iff_not, Bool.or_eq_true, Bool.and_eq_true, Bool.or_eq_false_iff, Bool.and_eq_false_imp, Bool.not_eq_true', Bool.not_eq_false', ne_eq, Decidable.not_not, Int.not_lt, Int.not_le, Bool.not_eq_true, Bool.not_eq_false] at h1
    have hnx := mxP_yes ho h1
    refine AW.region ?_
    refine OpsW.q rfl (q_move (v := .int _ _) rfl) ?_
    refine OpsW.q rfl (q_move (v := .pointer _) rfl) ?_
    refine OpsW.q rfl (q_nilCheck rfl) ?_
    refine OpsW.q rfl (q_fieldAddr (sz := 0) Try.underlying69 rfl (by kernel_rfl) rfl) ?_
    refine OpsW.q rfl (q_load (v := lv) (by kernel_rfl) rfl (hSl0.old hb) rfl) ?_
    refine OpsW.q rfl (q_move (v := .int _ _) rfl) ?_
    refine OpsW.q rfl (q_indexV (Vec.le hV hSl0.le) Try.underlying67 (by kernel_rfl) rfl rfl (by omega) (by omega)) ?_
    refine OpsW.q rfl (q_fieldV (s2 := 1) (Vec.le hV hSl0.le) (by omega) Try.underlying78 rfl (by kernel_rfl) rfl) ?_
    refine OpsW.q rfl (q_fieldV (s2 := 0) (Vec.le hV hSl0.le) (by omega) Try.underlying44 rfl (by kernel_rfl) rfl) ?_
    refine OpsW.q rfl (q_loadV (Vec.le hV hSl0.le) (by kernel_rfl) rfl (rowsV_get (j := i) (i := 1) oneC_len ho rfl)) ?_
    refine OpsW.q rfl (q_max rfl rfl) ?_
    refine OpsW.q rfl (q_assign (v := .int _ _) rfl) ?_
    refine OpsW.nil ?_
    refine BlockP.go ?_
    refine SeqP.go ?_
    refine AW.region ?_
    refine OpsW.q rfl (q_move (v := .int _ _) rfl) ?_
    refine OpsW.q rfl (q_addI rfl rfl (by omega)) ?_
    refine OpsW.q rfl (q_assign (v := .int _ _) rfl) ?_
    refine OpsW.nil ?_
    exact LoopP.go _ (by omega) ⟨i + 1, _, rfl, (by omega), Slots.eq ⟨(by rfl), (by rfl), (by rw [hnx]; rfl), (by rfl),  trivial⟩, hSl0⟩
  try simp only [decide_eq_true_eq, decide_eq_false_iff_not, Bool.or_eq_true, Bool.and_eq_true, Bool.or_eq_false_iff, Bool.and_eq_false_imp, Bool.not_eq_true', Bool.not_eq_false', ne_eq, Decidable.not_not, Int.not_lt, Int.not_le, Bool.not_eq_true, Bool.not_eq_false] at h1
  have hnx := mxP_no ho h1
  refine AW.skip ?_
  refine BlockP.go ?_
  refine SeqP.go ?_
  refine AW.region ?_
  refine OpsW.q rfl (q_move (v := .int _ _) rfl) ?_
  refine OpsW.q rfl (q_addI rfl rfl (by omega)) ?_
  refine OpsW.q rfl (q_assign (v := .int _ _) rfl) ?_
  refine OpsW.nil ?_
  exact LoopP.go _ (by omega) ⟨i + 1, _, rfl, (by omega), Slots.eq ⟨(by rfl), (by rfl), (by rw [hnx]; rfl), (by rfl),  trivial⟩, hSl0⟩
theorem OfR_con {b tb : Nat} {x : StF} {lv : Value} (hb : H b = some (rfBlk tb x lv)) (hV : Vec H 78 3 lv x.st.L.length (rowsV oneC x.st.L)) (hok : StOk x.st.L) (hl : x.st.L.length ≤ 1000000000) {who : List UInt8} : Con Try.prog w0 37 #[.pointer (some ⟨b, 0, none⟩), S who] H (fun v H' => Sep H [recV v (ofP x.st.L who)] H') := by
  have hS0 : Sep H [] H := Sep.refl
  refine Con.intro Try.func37 rfl rfl ?_
  refine AW.seq ?_
  refine AW.region ?_
  refine OpsW.q rfl (q_assign (v := .slice _ _ _) rfl) ?_
  refine OpsW.nil ?_
  refine SeqP.go ?_
  refine AW.seq ?_
  refine AW.region ?_
  refine OpsW.q rfl (q_assign (v := .slice _ _ _) rfl) ?_
  refine OpsW.nil ?_
  refine SeqP.go ?_
  refine AW.seq ?_
  refine AW.seq ?_
  refine AW.region ?_
  refine OpsW.q rfl (q_assign (v := .int _ _) rfl) ?_
  refine OpsW.nil ?_
  refine SeqP.go ?_
  refine AW.block ?_
  replace hS0 := hS0.nil (el := 44) (sz := 2)
  refine AW.loop (fun m_ e_ H_ => ∃ (i : Nat) (ov : Value) (e0 : Env), m_ = x.st.L.length - i ∧ (i ≤ x.st.L.length) ∧ e_ = upds e0 [(0, .pointer (some ⟨b, 0, none⟩)), (1, S who), (5, ov), (6, .int .i64 (i : Int))] ∧ Sep H [.vec ov 44 2 ((ofP (x.st.L.take i) who).length) (rowsV recC (ofP (x.st.L.take i) who))] H_) _ ⟨0, nilV, _, rfl, (Nat.zero_le _), Slots.eq ⟨(by rfl), (by rfl), (by rfl), (by rfl),  trivial⟩, (by rw [List.take_zero, ofP_nil]; exact hS0)⟩ ?_
  rintro m_ _ Hl0 ⟨i, ov, e0, rfl, hf, rfl, hSl0⟩
  try clear hS0
  refine AW.seq ?_
  refine AW.seq ?_
  refine AW.region ?_
  refine OpsW.q rfl (q_move (v := .int _ _) rfl) ?_
  refine OpsW.q rfl (q_move (v := .pointer _) rfl) ?_
  refine OpsW.q rfl (q_nilCheck rfl) ?_
  refine OpsW.q rfl (q_fieldAddr (sz := 0) Try.underlying69 rfl (by kernel_rfl) rfl) ?_
  refine OpsW.q rfl (q_load (v := lv) (by kernel_rfl) rfl (hSl0.old hb) rfl) ?_
  refine OpsW.q rfl (q_lenVec Try.underlying67 rfl (hV.le hSl0.le)) ?_
  refine OpsW.q rfl (q_lss rfl rfl) ?_
  refine OpsW.nil ?_
  refine SeqP.go ?_
  refine AW.cond2 rfl (fun h0 => ?_) (fun h0 => ?_)
  ·
    try simp only [decide_eq_true_eq, decide_eq_false_iff_not, Bool.or_eq_true, Bool.and_eq_true, Bool.or_eq_false_iff, Bool.and_eq_false_imp, Bool.not_eq_true', Bool.not_eq_false', ne_eq, Decidable.not_not, Int.not_lt, Int.not_le, Bool.not_eq_true, Bool.not_eq_false] at h0
    refine AW.exit ?_
    refine SeqP.exit ?_
    refine LoopP.exit ?_
    obtain rfl : i = x.st.L.length := by omega
    rw [List.take_length] at hSl0
    refine BlockP.here ?_
    refine SeqP.go ?_
    refine AW.seq ?_
    refine AW.region ?_
    refine OpsW.q rfl (q_move (v := ov) rfl) ?_
    refine OpsW.q rfl (q_assign (v := ov) rfl) ?_
    refine OpsW.nil ?_
    refine SeqP.go ?_
    refine AW.ret ?_
    refine RetP.mk1 (H' := Hl0) (v1 := ov) rfl rfl  (Hp.le_refl _) ?_
    exact hSl0
  try simp only [decide_eq_true_eq, decide_eq_false_iff_not, Bool.or_eq_true, Bool.and_eq_true, Bool.or_eq_false_iff, Bool.and_eq_false_imp, Bool.not_eq_true', Bool.not_eq_false', ne_eq, Decidable.not_not, Int.not_lt, Int.not_le, Bool.not_eq_true, Bool.not_eq_false] at h0
  obtain ⟨o, ho⟩ : ∃ o, x.st.L[i]? = some o := ⟨x.st.L[i], List.getElem?_eq_getElem (by omega)⟩
  have hol := ofP_len (x.st.L.take i) who
  rw [List.length_take] at hol
  refine AW.skip ?_
  refine SeqP.go ?_
  refine AW.seq ?_
  refine AW.block ?_
  refine AW.seq ?_
  refine AW.region ?_
  refine OpsW.q rfl (q_move (v := .pointer _) rfl) ?_
  refine OpsW.q rfl (q_nilCheck rfl) ?_
  refine OpsW.q rfl (q_fieldAddr (sz := 0) Try.underlying69 rfl (by kernel_rfl) rfl) ?_
  refine OpsW.q rfl (q_load (v := lv) (by kernel_rfl) rfl (hSl0.old hb) rfl) ?_
  refine OpsW.q rfl (q_move (v := .int _ _) rfl) ?_
  refine OpsW.q rfl (q_indexV (Vec.le hV hSl0.le) Try.underlying67 (by kernel_rfl) rfl rfl (by omega) (by omega)) ?_
  refine OpsW.q rfl (q_fieldV (s2 := 0) (Vec.le hV hSl0.le) (by omega) Try.underlying78 rfl (by kernel_rfl) rfl) ?_
  refine OpsW.q rfl (q_loadV (Vec.le hV hSl0.le) (by kernel_rfl) rfl (rowsV_get (j := i) (i := 0) oneC_len ho rfl)) ?_
  refine OpsW.q rfl (q_move (v := S _) rfl) ?_
  refine OpsW.q rfl (q_eqS rfl rfl) ?_
  refine OpsW.nil ?_
  refine SeqP.go ?_
  refine AW.cond rfl (fun h1 => ?_) (fun h1 => ?_)
  ·
    try simp only [decide_eq_true_eq, decide_eq_false_iff_not, Bool.or_eq_true, Bool.and_eq_true, Bool.or_eq_false_iff, Bool.and_eq_false_imp, Bool.not_eq_true', Bool.not_eq_false', ne_eq, Decidable.not_not, Int.not_lt, Int.not_le, Bool.not_eq_true, Bool.not_eq_false] at h1
    have hnx := ofP_yes ho h1
    refine AW.region ?_
    refine OpsW.q rfl (q_move (v := ov) rfl) ?_
    refine OpsW.q rfl (q_move (v := .pointer _) rfl) ?_
    refine OpsW.q rfl (q_nilCheck rfl) ?_
    refine OpsW.q rfl (q_fieldAddr (sz := 0) Try.underlying69 rfl (by kernel_rfl) rfl) ?_
    refine OpsW.q rfl (q_load (v := lv) (by kernel_rfl) rfl (hSl0.old hb) rfl) ?_
    refine OpsW.q rfl (q_move (v := .int _ _) rfl) ?_
    refine OpsW.q rfl (q_indexV (Vec.le hV hSl0.le) Try.underlying67 (by kernel_rfl) rfl rfl (by omega) (by omega)) ?_
    refine OpsW.q rfl (q_fieldV (s2 := 1) (Vec.le hV hSl0.le) (by omega) Try.underlying78 rfl (by kernel_rfl) rfl) ?_
    refine OpsW.q rfl (q_loadVR2 (Vec.le hV hSl0.le) oneC_len (by kernel_rfl) rfl ho (k := 1) (n := 2) (by decide) (cs := recC (oneR o)) rfl rfl (by omega)) ?_
    refine OpsW.m rfl (s_buildSlice2 (z := .agg #[.int .i64 0, S []]) hSl0 Try.underlying46 (by kernel_rfl) (by kernel_rfl) rfl) ?_
    rintro v35 H1 hS1
    clear hSl0
    refine OpsW.m rfl (s_append (sz := 2) (by_ := 24) (z := .agg #[.int .i64 0, S []]) hS1 at1 Try.underlying46 (by kernel_rfl) (by kernel_rfl) (by kernel_rfl) rfl (by kernel_rfl) rfl rfl (src_vec (hS1.vec at0) (fun u hu => recC_one (oneR o) u hu)) (by unfold maxLen; omega) (by omega)) ?_
    rintro v36 H2 hS2
    clear hS1
    replace hS2 := hS2.del del0
    refine OpsW.q rfl (q_assign (v := v36) rfl) ?_
    refine OpsW.nil ?_
    refine BlockP.go ?_
    refine SeqP.go ?_
    refine AW.region ?_
    refine OpsW.q rfl (q_move (v := .int _ _) rfl) ?_
    refine OpsW.q rfl (q_addI rfl rfl (by omega)) ?_
    refine OpsW.q rfl (q_assign (v := .int _ _) rfl) ?_
    refine OpsW.nil ?_
    exact LoopP.go _ (by omega) ⟨i + 1, v36, _, rfl, (by omega), Slots.eq ⟨(by rfl), (by rfl), (by rfl), (by rfl),  trivial⟩, (by rw [hnx, List.length_append, rowsV_append, rowsV_one]; exact hS2)⟩
  try simp only [decide_eq_true_eq, decide_eq_false_iff_not, Bool.or_eq_true, Bool.and_eq_true, Bool.or_eq_false_iff, Bool.and_eq_false_imp, Bool.not_eq_true', Bool.not_eq_false', ne_eq, Decidable.not_not, Int.not_lt, Int.not_le, Bool.not_eq_true, Bool.not_eq_false] at h1
  have hnx := ofP_no ho h1
  refine AW.skip ?_
  refine BlockP.go ?_
  refine SeqP.go ?_
  refine AW.region ?_
  refine OpsW.q rfl (q_move (v := .int _ _) rfl) ?_
  refine OpsW.q rfl (q_addI rfl rfl (by omega)) ?_
  refine OpsW.q rfl (q_assign (v := .int _ _) rfl) ?_
  refine OpsW.nil ?_
  exact LoopP.go _ (by omega) ⟨i + 1, ov, _, rfl, (by omega), Slots.eq ⟨(by rfl), (by rfl), (by rfl), (by rfl),  trivial⟩, (by rw [hnx]; exact hSl0)⟩
end
end Go.Proofs.Ytfiojlmccflplaa
end
section
namespace Go.Proofs.Ytfiojlmccflplaa.D
open Go Go.RowKit
set_option linter.unusedVariables false
set_option linter.unusedSimpArgs false
section
variable {P : Program} {w0 : World} {n : Nat} {ops : Array Oper} {Q : Post} {H : Hp} {e : Env} {b : Array Bool} {fuel : Nat}
theorem wanted_of {o : Oper} {a : Act} (hfr : Fr n e a) (hg : Region.wanted o (yieldE ops e) = true) : Region.wanted o (yielded ops a.tmps) = true := by
  rw [show yielded ops a.tmps = yieldE ops e from funext (hfr.yielded ops)]; exact hg
theorem AnyW.firstG {o : Oper} {v : Value} (i : Nat) (hi : ops[i]? = some o) (hsel : Region.noSelect ops = true) (hf : Region.free .any ops b i = true) (hr : (Region.ready .any ops b).contains i = true) (hg : Region.wanted o (yieldE ops e) = true) (hd : dstOk n o.dst = true)
    (h : QV P (D.ev e) o v) (hk : AnyW P w0 n ops Q fuel (b.setIfInBounds i true) (putE e o.dst v) H) : AnyW P w0 n ops Q (fuel + 1) b e H := by
  intro a w hfr ho
  have he : a.eval = D.ev e := funext hfr.ev
  refine wpAny_take hi hsel hf hr (fun c a w h => h.1.elim) (.inl ⟨wanted_of hfr hg, fun w => by rw [he]; exact h w⟩) ?_
  exact hk _ _ (hfr.put hd v) ho
theorem AnyW.onlyG {o : Oper} {R : Value → Hp → Prop} (i : Nat) (hi : ops[i]? = some o) (hr : Region.ready .any ops b = [i]) (hg : Region.wanted o (yieldE ops e) = true) (hd : dstOk n o.dst = true)
    (h : OpR P w0 (D.ev e) o H R) (hk : ∀ v H', R v H' → AnyW P w0 n ops Q fuel (b.setIfInBounds i true) (putE e o.dst v) H') : AnyW P w0 n ops Q (fuel + 1) b e H := by
  intro a w hfr ho
  refine ⟨fun g => absurd (hr.symm.trans g) (by simp), fun j hj => ?_⟩
  rw [hr] at hj
  obtain rfl : j = i := by simpa using hj
  unfold wpOp
  rw [hi]
  simp only [wanted_of hfr hg, if_true]
  exact .inl (Res.wp (ops := ops) (Q := Q) hfr ho h fun v H' w' hv ho' => hk v H' hv _ _ (hfr.put hd v) ho')
theorem AnyW.onlyQG {o : Oper} {v : Value} (i : Nat) (hi : ops[i]? = some o) (hr : Region.ready .any ops b = [i]) (hg : Region.wanted o (yieldE ops e) = true) (hd : dstOk n o.dst = true)
    (h : QS P w0 (D.ev e) o H v) (hk : AnyW P w0 n ops Q fuel (b.setIfInBounds i true) (putE e o.dst v) H) : AnyW P w0 n ops Q (fuel + 1) b e H :=
  AnyW.onlyG i hi hr hg hd h (by rintro _ _ ⟨rfl, rfl⟩; exact hk)
theorem AnyW.twoG {o1 o2 : Oper} {R1 R2 : Value → Hp → Prop} (i j : Nat) (hi : ops[i]? = some o1) (hj : ops[j]? = some o2) (hr : Region.ready .any ops b = [i, j]) (g1 : Region.wanted o1 (yieldE ops e) = true) (g2 : Region.wanted o2 (yieldE ops e) = true) (d1 : dstOk n o1.dst = true) (d2 : dstOk n o2.dst = true)
    (h1 : OpR P w0 (D.ev e) o1 H R1) (h2 : OpR P w0 (D.ev e) o2 H R2) (k1 : ∀ v H', R1 v H' → AnyW P w0 n ops Q fuel (b.setIfInBounds i true) (putE e o1.dst v) H') (k2 : ∀ v H', R2 v H' → AnyW P w0 n ops Q fuel (b.setIfInBounds j true) (putE e o2.dst v) H') :
    AnyW P w0 n ops Q (fuel + 1) b e H := by
  intro a w hfr ho
  refine ⟨fun g => absurd (hr.symm.trans g) (by simp), fun q hq => ?_⟩
  rw [hr] at hq
  rcases List.mem_cons.1 hq with rfl | hq
  · unfold wpOp
    rw [hi]
    simp only [wanted_of hfr g1, if_true]
    exact .inl (Res.wp (ops := ops) (Q := Q) hfr ho h1 fun v H' w' hv ho' => k1 v H' hv _ _ (hfr.put d1 v) ho')
  · obtain rfl : q = j := by simpa using hq
    unfold wpOp
    rw [hj]
    simp only [wanted_of hfr g2, if_true]
    exact .inl (Res.wp (ops := ops) (Q := Q) hfr ho h2 fun v H' w' hv ho' => k2 v H' hv _ _ (hfr.put d2 v) ho')
end
section
variable {P : Program} {w0 : World} {H H0 : Hp} {L : List Chunk} {ρ : Operand → Value} {d : Option Tmp} {ty : TypeId} {pos : String} {af : Array Edge} {g : Option (Nat × Bool)}
theorem o_buildSlice3 {t e : TypeId} {x : Operand} {z u0 u1 u2 : Value} (ht : P.underlying t = some (.slice e)) (hs : sizeT P e = some 3) (hz : zeroT P e = some z) (hx : ρ x = .agg #[u0, u1, u2]) :
    OpR P w0 ρ ⟨d, .buildSlice t 1 #[(0, x)], ty, pos, af, g⟩ H (fun v H' => ∃ b, H b = none ∧ v = .slice (some ⟨b, 0, none⟩) 1 1 ∧ H' = H.set b ⟨[u0, u1, u2], 3, e⟩) := by
  intro w ho
  have hf : ∀ a : Array Value, a.size = 3 → Instr.fill (fun i => some (i * 3, 3)) a [(0, Value.agg #[u0, u1, u2])] = some #[u0, u1, u2] := by
    intro a ha
    obtain ⟨l⟩ := a
    match l, ha with
    | [a0, a1, a2], _ => rfl
  have : (execOp ρ ⟨d, .buildSlice t 1 #[(0, x)], ty, pos, af, g⟩).run P w = .ok (.value (.slice (some ⟨w.heap.size, 0, none⟩) 1 1)) (w.alloc (.cells #[u0, u1, u2] e (0, 0))) := by
    have h24 : ¬ 1 * 3 > 2 ^ 24 := by omega
    have h0 : ¬ 1 * 3 = 0 := by omega
    simp only [execOp, Instr.buildSlice, Sem.run_bind, run_underlying ht, Result.andThen_ok, run_sizeT hs, h24, h0, if_false, Sem.run_pure, run_zeroT hz]
    have hp : (#[(0, x)].map fun (p : Nat × Operand) => (p.1, ρ p.2)).toList = [(0, Value.agg #[u0, u1, u2])] := by simp [hx]
    simp only [pure_bind, hp, hf _ (show (Array.map (fun x => z.cells[x % z.cells.size]!) (Array.range (1 * 3))).size = 3 by rw [Array.size_map, Array.size_range]), newRow, Sem.run_bind, run_newObj, World.alloc_eq, Result.andThen_ok, Sem.run_pure]
  rw [this]
  exact ⟨_, ho.alloc [u0, u1, u2] _ rfl e (0, 0) (.inl rfl), w.heap.size, ho.fresh, rfl, rfl⟩
theorem s_buildSlice3 {t e : TypeId} {x : Operand} {z u0 u1 u2 : Value} (hS : Sep H0 L H) (ht : P.underlying t = some (.slice e)) (hs : sizeT P e = some 3) (hz : zeroT P e = some z) (hx : ρ x = .agg #[u0, u1, u2]) :
    OpR P w0 ρ ⟨d, .buildSlice t 1 #[(0, x)], ty, pos, af, g⟩ H (fun u H' => Sep H0 (.vec u e 3 1 [u0, u1, u2] :: L) H') :=
  (o_buildSlice3 ht hs hz hx).mono (by
    rintro _ _ ⟨b, hb, rfl, rfl⟩
    exact (hS.new hb).asVec rfl rfl (Nat.le_refl _) (by omega) (by unfold maxLen; omega))
end
end Go.Proofs.Ytfiojlmccflplaa.D
end
section
namespace Go.Proofs.Ytfiojlmccflplaa
open Go Go.RowKit D
set_option linter.unusedVariables false
set_option linter.unusedSimpArgs false
set_option maxRecDepth 100000
set_option maxHeartbeats 2000000
section
variable {w0 : World} {H : Hp} {H0 : Hp}
theorem rf_snoc {K : List Chunk} {b tb : Nat} {L : OneL} {o : OneS} {nx : List UInt8} {dd : Bool} {lv : Value} {r : RefS} (h : Sep H0 (.blk b (rfBlk tb ⟨⟨L ++ [o], nx⟩, dd⟩ lv) :: .vec lv 78 3 (L.length + 1) (rowsV oneC L ++ oneC o) :: .blk tb (rblk r) :: K) H) : Sep H0 (rfC b tb ⟨⟨L ++ [o], nx⟩, dd⟩ r :: K) H := by
  refine rf_close (lv := lv) ?_
  show Sep H0 (_ :: .vec lv _ 3 (L ++ [o]).length (rowsV oneC (L ++ [o])) :: _) H
  rw [List.length_append, rowsV_append, rowsV_one]
  exact h
theorem AddR_w {b tb : Nat} {x : StF} {r : RefS} {lv : Value} (hS0 : Sep H0 [.blk b (rfBlk tb x lv), oneV lv x.st.L, .blk tb (rblk r)] H) (hok : StOk x.st.L) (hrf : RefOk r) (hrf2 : ∀ d, RefOk (appendR r d).2) (hl : x.st.L.length ≤ 1000000) (hhl : x.st.h.length = 32) {who dat : List UInt8} {seq : Int} : Con Try.prog w0 27 #[.pointer (some ⟨b, 0, none⟩), S who, .agg #[.int .i64 seq, S dat]] H (fun v H' => v = .int .i64 (addR r x who seq dat).1 ∧ Sep H0 [rfC b tb (addR r x who seq dat).2.1 (addR r x who seq dat).2.2] H') := by
  replace hS0 : Sep H0 [.blk b ⟨[.pointer (some ⟨tb, 0, none⟩), lv, S x.st.h, .bool x.dd], 4, 69⟩, .vec lv 78 3 x.st.L.length (rowsV oneC x.st.L), .blk tb ⟨rcells r, 5, 90⟩] H := hS0
  have hmk : 0 ≤ mkP x.st.L who ∧ mkP x.st.L who ≤ 1000000 := by have := ofP_len x.st.L who; unfold mkP; omega
  have hbl := bodyS_len (who := who) (seq := seq) (dat := dat)
  refine Con.intro Try.func27 rfl rfl ?_
  refine AW.seq ?_
  refine AW.region ?_
  refine OpsW.m rfl (s_box (v := .agg _) hS0 rfl rfl) ?_
  rintro _ H1 ⟨b5, rfl, hS1⟩
  clear hS0
  refine OpsW.q rfl (q_assign (v := .int _ _) rfl) ?_
  refine OpsW.nil ?_
  refine SeqP.go ?_
  refine AW.seq ?_
  refine AW.seq ?_
  refine AW.region ?_
  refine OpsW.q rfl (q_move (v := .pointer _) rfl) ?_
  refine OpsW.q rfl (q_nilCheck rfl) ?_
  refine OpsW.q rfl (q_fieldAddr (sz := 0) Try.underlying69 rfl (by kernel_rfl) rfl) ?_
  refine OpsW.q rfl (q_load (v := .bool _) (by kernel_rfl) rfl (hS1.blk at1) rfl) ?_
  refine OpsW.nil ?_
  refine SeqP.go ?_
  refine AW.cond rfl (fun h0 => ?_) (fun h0 => ?_)
  ·
    try simp only [decide_eq_true_eq, decide_eq_false_iff_not, Bool.or_eq_true, Bool.and_eq_true, Bool.or_eq_false_iff, Bool.and_eq_false_imp, Bool.not_eq_true', Bool.not_eq_false', ne_eq, Decidable.not_not, Int.not_lt, Int.not_le, Bool.not_eq_true, Bool.not_eq_false] at h0
    have hdd : x.dd = true := by simp_all
    rw [addR_dead hdd]
    refine AW.seq ?_
    refine AW.region ?_
    refine OpsW.q rfl (q_assign (v := .int _ _) rfl) ?_
    refine OpsW.nil ?_
    refine SeqP.go ?_
    refine AW.ret ?_
    refine SeqP.ret ?_
    refine RetP.mk1 (H' := _) (v1 := .int _ _) rfl rfl  (Hp.le_refl _) ?_
    exact ⟨rfl, rf_close hS1.tail⟩
  try simp only [decide_eq_true_eq, decide_eq_false_iff_not, Bool.or_eq_true, Bool.and_eq_true, Bool.or_eq_false_iff, Bool.and_eq_false_imp, Bool.not_eq_true', Bool.not_eq_false', ne_eq, Decidable.not_not, Int.not_lt, Int.not_le, Bool.not_eq_true, Bool.not_eq_false] at h0
  have hdd : x.dd = false := by simp_all
  refine AW.skip ?_
  refine SeqP.go ?_
  refine AW.seq ?_
  refine AW.seq ?_
  refine AW.region ?_
  refine OpsW.q rfl (q_move (v := S _) rfl) ?_
  refine OpsW.q rfl (q_lenS Try.underlying9 rfl) ?_
  refine OpsW.q rfl (q_neq rfl rfl) ?_
  refine OpsW.qb rfl (q_move (v := .bool _) rfl) ?_
  intro b18 eb18
  refine OpsW.g rfl rfl rfl (fun hB => by simp only [Bool.and_eq_true, beq_iff_eq] at hB; obtain rfl := hB; exact (q_fieldAddr (sz := 0) Try.underlying44 rfl (by kernel_rfl) rfl)) ?_
  refine OpsW.g rfl rfl rfl (fun hB => by simp only [Bool.and_eq_true, beq_iff_eq] at hB; obtain rfl := hB; exact (q_load (v := .int _ _) (by kernel_rfl) rfl (hS1.blk at0) rfl)) ?_
  refine OpsW.g rfl rfl rfl (fun hB => by simp only [Bool.and_eq_true, beq_iff_eq] at hB; obtain rfl := hB; exact (q_lss rfl rfl)) ?_
  refine OpsW.q rfl (q_or2 rfl rfl rfl) ?_
  refine OpsW.qb rfl (q_move (v := .bool _) rfl) ?_
  intro b23 eb23
  refine OpsW.g rfl rfl rfl (fun hB => by simp only [Bool.and_eq_true, beq_iff_eq] at hB; obtain rfl := hB; exact (q_fieldAddr (sz := 0) Try.underlying44 rfl (by kernel_rfl) rfl)) ?_
  refine OpsW.g rfl rfl rfl (fun hB => by simp only [Bool.and_eq_true, beq_iff_eq] at hB; obtain rfl := hB; exact (q_load (v := S _) (by kernel_rfl) rfl (hS1.blk at0) rfl)) ?_
  refine OpsW.g rfl rfl rfl (fun hB => by simp only [Bool.and_eq_true, beq_iff_eq] at hB; obtain rfl := hB; exact (q_lenS Try.underlying9 rfl)) ?_
  refine OpsW.g rfl rfl rfl (fun hB => by simp only [Bool.and_eq_true, beq_iff_eq] at hB; obtain rfl := hB; exact (q_lss rfl rfl)) ?_
  refine OpsW.q rfl (q_or2 rfl rfl rfl) ?_
  refine OpsW.qb rfl (q_move (v := .bool _) rfl) ?_
  intro b29 eb29
  refine OpsW.g rfl rfl rfl (fun hB => by simp only [Bool.and_eq_true, beq_iff_eq] at hB; obtain rfl := hB; exact (q_fieldAddr (sz := 0) Try.underlying44 rfl (by kernel_rfl) rfl)) ?_
  refine OpsW.g rfl rfl rfl (fun hB => by simp only [Bool.and_eq_true, beq_iff_eq] at hB; obtain rfl := hB; exact (q_load (v := S _) (by kernel_rfl) rfl (hS1.blk at0) rfl)) ?_
  refine OpsW.g rfl rfl rfl (fun hB => by simp only [Bool.and_eq_true, beq_iff_eq] at hB; obtain rfl := hB; exact (q_lenS Try.underlying9 rfl)) ?_
  refine OpsW.g rfl rfl rfl (fun hB => by simp only [Bool.and_eq_true, beq_iff_eq] at hB; obtain rfl := hB; exact (q_gtr rfl rfl)) ?_
  refine OpsW.q rfl (q_or2 rfl rfl rfl) ?_
  refine OpsW.nil ?_
  refine SeqP.go ?_
  refine AW.cond rfl (fun h1 => ?_) (fun h1 => ?_)
  ·
    try simp only [eb18, eb23, eb29, decide_eq_true_eq, decide_eq_false_iff_not, Bool.or_eq_true, Bool.and_eq_true, Bool.or_eq_false_iff, Bool.and_eq_false_imp, Bool.not_eq_true', Bool.not_eq_false', ne_eq, Decidable.not_not, Int.not_lt, Int.not_le, Bool.not_eq_true, Bool.not_eq_false] at h1
    have hbad : addBad who seq dat := by unfold addBad; rcases h1 with ((h | h) | h) | h; (left; omega); (right; left; omega); (right; right; left; exact List.eq_nil_of_length_eq_zero (by omega)); (right; right; right; omega)
    rw [addR_arg hdd hbad]
    refine AW.seq ?_
    refine AW.region ?_
    refine OpsW.q rfl (q_assign (v := .int _ _) rfl) ?_
    refine OpsW.nil ?_
    refine SeqP.go ?_
    refine AW.ret ?_
    refine SeqP.ret ?_
    refine RetP.mk1 (H' := _) (v1 := .int _ _) rfl rfl  (Hp.le_refl _) ?_
    exact ⟨rfl, rf_close hS1.tail⟩
  try simp only [eb18, eb23, eb29, decide_eq_true_eq, decide_eq_false_iff_not, Bool.or_eq_true, Bool.and_eq_true, Bool.or_eq_false_iff, Bool.and_eq_false_imp, Bool.not_eq_true', Bool.not_eq_false', ne_eq, Decidable.not_not, Int.not_lt, Int.not_le, Bool.not_eq_true, Bool.not_eq_false] at h1
  have hbad : ¬ addBad who seq dat := by unfold addBad; rintro (h | h | h | h); omega; omega; (subst h; simp at h1); omega
  refine AW.skip ?_
  refine SeqP.go ?_
  refine AW.seq ?_
  refine AW.region ?_
  refine OpsW.q rfl (q_move (v := .pointer _) rfl) ?_
  refine OpsW.q rfl (q_move (v := S _) rfl) ?_
  refine OpsW.q rfl (o_call rfl Try.func36 rfl rfl (MarkR_con (x := x) (hS1.blk at1) (hS1.vec at2) hok (by omega))) ?_
  refine OpsW.q rfl (q_assign (v := .int _ _) rfl) ?_
  refine OpsW.nil ?_
  refine SeqP.go ?_
  refine AW.seq ?_
  refine AW.seq ?_
  refine AW.region ?_
  refine OpsW.q rfl (q_fieldAddr (sz := 0) Try.underlying44 rfl (by kernel_rfl) rfl) ?_
  refine OpsW.q rfl (q_load (v := .int _ _) (by kernel_rfl) rfl (hS1.blk at0) rfl) ?_
  refine OpsW.q rfl (q_move (v := .int _ _) rfl) ?_
  refine OpsW.q rfl (q_leq rfl rfl) ?_
  refine OpsW.nil ?_
  refine SeqP.go ?_
  refine AW.cond rfl (fun h2 => ?_) (fun h2 => ?_)
  ·
    try simp only [eb18, eb23, eb29, decide_eq_true_eq, decide_eq_false_iff_not, Bool.or_eq_true, Bool.and_eq_true, Bool.or_eq_false_iff, Bool.and_eq_false_imp, Bool.not_eq_true', Bool.not_eq_false', ne_eq, Decidable.not_not, Int.not_lt, Int.not_le, Bool.not_eq_true, Bool.not_eq_false] at h2
    rw [addR_old hdd hbad h2]
    refine AW.seq ?_
    refine AW.region ?_
    refine OpsW.q rfl (q_assign (v := .int _ _) rfl) ?_
    refine OpsW.nil ?_
    refine SeqP.go ?_
    refine AW.ret ?_
    refine SeqP.ret ?_
    refine RetP.mk1 (H' := _) (v1 := .int _ _) rfl rfl  (Hp.le_refl _) ?_
    exact ⟨rfl, rf_close hS1.tail⟩
  try simp only [eb18, eb23, eb29, decide_eq_true_eq, decide_eq_false_iff_not, Bool.or_eq_true, Bool.and_eq_true, Bool.or_eq_false_iff, Bool.and_eq_false_imp, Bool.not_eq_true', Bool.not_eq_false', ne_eq, Decidable.not_not, Int.not_lt, Int.not_le, Bool.not_eq_true, Bool.not_eq_false] at h2
  refine AW.skip ?_
  refine SeqP.go ?_
  refine AW.seq ?_
  refine AW.seq ?_
  refine AW.region ?_
  refine OpsW.q rfl (q_fieldAddr (sz := 0) Try.underlying44 rfl (by kernel_rfl) rfl) ?_
  refine OpsW.q rfl (q_load (v := .int _ _) (by kernel_rfl) rfl (hS1.blk at0) rfl) ?_
  refine OpsW.q rfl (q_move (v := .int _ _) rfl) ?_
  refine OpsW.q rfl (q_addI rfl rfl (by omega)) ?_
  refine OpsW.q rfl (q_neq rfl rfl) ?_
  refine OpsW.nil ?_
  refine SeqP.go ?_
  refine AW.cond rfl (fun h3 => ?_) (fun h3 => ?_)
  ·
    try simp only [eb18, eb23, eb29, decide_eq_true_eq, decide_eq_false_iff_not, Bool.or_eq_true, Bool.and_eq_true, Bool.or_eq_false_iff, Bool.and_eq_false_imp, Bool.not_eq_true', Bool.not_eq_false', ne_eq, Decidable.not_not, Int.not_lt, Int.not_le, Bool.not_eq_true, Bool.not_eq_false] at h3
    rw [addR_seq hdd hbad (by omega)]
    refine AW.seq ?_
    refine AW.region ?_
    refine OpsW.q rfl (q_assign (v := .int _ _) rfl) ?_
    refine OpsW.nil ?_
    refine SeqP.go ?_
    refine AW.ret ?_
    refine SeqP.ret ?_
    refine RetP.mk1 (H' := _) (v1 := .int _ _) rfl rfl  (Hp.le_refl _) ?_
    exact ⟨rfl, rf_close hS1.tail⟩
  try simp only [eb18, eb23, eb29, decide_eq_true_eq, decide_eq_false_iff_not, Bool.or_eq_true, Bool.and_eq_true, Bool.or_eq_false_iff, Bool.and_eq_false_imp, Bool.not_eq_true', Bool.not_eq_false', ne_eq, Decidable.not_not, Int.not_lt, Int.not_le, Bool.not_eq_true, Bool.not_eq_false] at h3
  have hseq : seq = mkP x.st.L who + 1 := by omega
  rw [addR_go hdd hbad hseq]
  refine AW.skip ?_
  refine SeqP.go ?_
  refine AW.seq ?_
  refine AW.drawK [] 11 rfl (by kernel_rfl) ?_
  refine SeqK.q rfl (q_move (v := .pointer _) rfl) ?_
  refine SeqK.q rfl (q_nilCheck rfl) ?_
  refine SeqK.q rfl (q_fieldAddr (sz := 0) Try.underlying69 rfl (by kernel_rfl) rfl) ?_
  refine SeqK.q rfl (q_load (v := S _) (by kernel_rfl) rfl (hS1.blk at1) rfl) ?_
  refine SeqK.q rfl (q_move (v := S _) rfl) ?_
  refine SeqK.q rfl (q_loadA0 (n := 2) (by kernel_rfl) rfl (hS1.blk at0) (by rfl)) ?_
  refine SeqK.q rfl (o_call rfl Try.func30 rfl rfl (FrameS_con (by omega) (by unfold addBad at hbad; omega) (by unfold addBad at hbad; omega))) ?_
  refine SeqK.q rfl (q_move (v := .tuple _) rfl) ?_
  refine SeqK.q rfl (q_extract (v := S _) rfl rfl) ?_
  refine SeqK.q rfl (q_extract (v := S _) rfl rfl) ?_
  refine SeqK.q rfl (q_assign (v := S _) rfl) ?_
  refine SeqK.done ?_
  refine OpsW.q rfl (q_assign (v := S _) rfl) ?_
  refine OpsW.nil ?_
  refine SeqP.go ?_
  refine AW.seq ?_
  refine AW.region ?_
  refine OpsW.q rfl (q_move (v := .pointer _) rfl) ?_
  refine OpsW.q rfl (q_nilCheck rfl) ?_
  refine OpsW.q rfl (q_fieldAddr (sz := 0) Try.underlying69 rfl (by kernel_rfl) rfl) ?_
  refine OpsW.q rfl (q_load (v := .pointer _) (by kernel_rfl) rfl (hS1.blk at1) rfl) ?_
  refine OpsW.q rfl (q_move (v := S _) rfl) ?_
  obtain ⟨Hf2, le2, hA2, hB2⟩ := hS1.framed at3
  refine OpsW.m rfl (o_call rfl Try.func32 rfl rfl (AppendR_s hA2 hrf _ (by rw [frS_len, hbl]; unfold addBad at hbad; omega))) ?_
  rintro _ H2 ⟨rfl, hR2⟩
  have hS2 := hB2 _ _ hR2
  clear hR2 hB2 hA2
  clear hS1
  refine OpsW.q rfl (q_assign (v := .int _ _) rfl) ?_
  refine OpsW.nil ?_
  refine SeqP.go ?_
  refine AW.seq ?_
  refine AW.seq ?_
  refine AW.region ?_
  refine OpsW.q rfl (q_move (v := .int _ _) rfl) ?_
  refine OpsW.q rfl (q_eql rfl rfl) ?_
  refine OpsW.nil ?_
  refine SeqP.go ?_
  refine AW.cond rfl (fun h4 => ?_) (fun h4 => ?_)
  ·
    try simp only [eb18, eb23, eb29, decide_eq_true_eq, decide_eq_false_iff_not, Bool.or_eq_true, Bool.and_eq_true, Bool.or_eq_false_iff, Bool.and_eq_false_imp, Bool.not_eq_true', Bool.not_eq_false', ne_eq, Decidable.not_not, Int.not_lt, Int.not_le, Bool.not_eq_true, Bool.not_eq_false] at h4
    rw [layR_full h4]
    refine AW.seq ?_
    refine AW.region ?_
    refine OpsW.q rfl (q_move (v := .int _ _) rfl) ?_
    refine OpsW.q rfl (q_assign (v := .int _ _) rfl) ?_
    refine OpsW.nil ?_
    refine SeqP.go ?_
    refine AW.ret ?_
    refine SeqP.ret ?_
    refine RetP.mk1 (H' := _) (v1 := .int _ _) rfl rfl  (Hp.le_refl _) ?_
    exact ⟨by rw [h4], rf_close hS2.tail⟩
  try simp only [eb18, eb23, eb29, decide_eq_true_eq, decide_eq_false_iff_not, Bool.or_eq_true, Bool.and_eq_true, Bool.or_eq_false_iff, Bool.and_eq_false_imp, Bool.not_eq_true', Bool.not_eq_false', ne_eq, Decidable.not_not, Int.not_lt, Int.not_le, Bool.not_eq_true, Bool.not_eq_false] at h4
  refine AW.skip ?_
  refine SeqP.go ?_
  refine AW.seq ?_
  refine AW.seq ?_
  refine AW.region ?_
  refine OpsW.q rfl (q_move (v := .int _ _) rfl) ?_
  refine OpsW.q rfl (q_eql rfl rfl) ?_
  refine OpsW.nil ?_
  refine SeqP.go ?_
  refine AW.cond rfl (fun h5 => ?_) (fun h5 => ?_)
  ·
    try simp only [eb18, eb23, eb29, decide_eq_true_eq, decide_eq_false_iff_not, Bool.or_eq_true, Bool.and_eq_true, Bool.or_eq_false_iff, Bool.and_eq_false_imp, Bool.not_eq_true', Bool.not_eq_false', ne_eq, Decidable.not_not, Int.not_lt, Int.not_le, Bool.not_eq_true, Bool.not_eq_false] at h5
    refine AW.region ?_
    refine OpsW.q rfl (q_move (v := .pointer _) rfl) ?_
    refine OpsW.q rfl (q_nilCheck rfl) ?_
    refine OpsW.q rfl (q_fieldAddr (sz := 0) Try.underlying69 rfl (by kernel_rfl) rfl) ?_
    refine OpsW.q rfl (q_load (v := .pointer _) (by kernel_rfl) rfl (hS2.blk at1) rfl) ?_
    obtain ⟨Hf3, le3, hA3, hB3⟩ := hS2.framed at3
    refine OpsW.m rfl (o_call rfl Try.func50 rfl rfl (SyncR_s hA3 (hrf2 _))) ?_
    rintro _ H3 ⟨rfl, hR3⟩
    have hS3 := hB3 _ _ hR3
    clear hR3 hB3 hA3
    clear hS2
    refine OpsW.q rfl (q_assign (v := .int _ _) rfl) ?_
    refine OpsW.nil ?_
    refine SeqP.go ?_
    refine AW.seq ?_
    refine AW.seq ?_
    refine AW.region ?_
    refine OpsW.q rfl (q_move (v := .int _ _) rfl) ?_
    refine OpsW.q rfl (q_neq rfl rfl) ?_
    refine OpsW.nil ?_
    refine SeqP.go ?_
    refine AW.cond rfl (fun h6 => ?_) (fun h6 => ?_)
    ·
      try simp only [eb18, eb23, eb29, decide_eq_true_eq, decide_eq_false_iff_not, Bool.or_eq_true, Bool.and_eq_true, Bool.or_eq_false_iff, Bool.and_eq_false_imp, Bool.not_eq_true', Bool.not_eq_false', ne_eq, Decidable.not_not, Int.not_lt, Int.not_le, Bool.not_eq_true, Bool.not_eq_false] at h6
      rw [layR_syn h5 (by simpa using h6)]
      refine AW.seq ?_
      refine AW.region ?_
      refine OpsW.q rfl (q_move (v := .pointer _) rfl) ?_
      refine OpsW.q rfl (q_nilCheck rfl) ?_
      refine OpsW.q rfl (q_fieldAddr (sz := 0) Try.underlying69 rfl (by kernel_rfl) rfl) ?_
      refine OpsW.ms (s_storeC (v := .bool _) hS3 at1 (by kernel_rfl) rfl rfl rfl (by simp; done)) ?_
      rintro _ H4 ⟨rfl, hS4⟩
      clear hS3
      refine OpsW.nil ?_
      refine SeqP.go ?_
      refine AW.seq ?_
      refine AW.region ?_
      refine OpsW.q rfl (q_move (v := .int _ _) rfl) ?_
      refine OpsW.q rfl (q_assign (v := .int _ _) rfl) ?_
      refine OpsW.nil ?_
      refine SeqP.go ?_
      refine AW.ret ?_
      refine SeqP.ret ?_
      refine RetP.mk1 (H' := _) (v1 := .int _ _) rfl rfl  (Hp.le_refl _) ?_
      exact ⟨rfl, rf_close hS4.tail⟩
    try simp only [eb18, eb23, eb29, decide_eq_true_eq, decide_eq_false_iff_not, Bool.or_eq_true, Bool.and_eq_true, Bool.or_eq_false_iff, Bool.and_eq_false_imp, Bool.not_eq_true', Bool.not_eq_false', ne_eq, Decidable.not_not, Int.not_lt, Int.not_le, Bool.not_eq_true, Bool.not_eq_false] at h6
    rw [layR_ok h5 h6]
    refine AW.skip ?_
    refine SeqP.go ?_
    refine AW.seq ?_
    refine AW.steps rfl 13 rfl ?_
    refine AnyW.first 0 rfl (by kernel_rfl) (by kernel_rfl) (by kernel_rfl) rfl (dst_lt rfl) (v_move (v := .pointer _) rfl) ?_
    refine AnyW.first 1 rfl (by kernel_rfl) (by kernel_rfl) (by kernel_rfl) rfl (dst_lt rfl) (v_move (v := .pointer _) rfl) ?_
    refine AnyW.first 2 rfl (by kernel_rfl) (by kernel_rfl) (by kernel_rfl) rfl (dst_lt rfl) (v_nilCheck rfl) ?_
    refine AnyW.first 3 rfl (by kernel_rfl) (by kernel_rfl) (by kernel_rfl) rfl (dst_lt rfl) (v_fieldAddr (sz := 0) Try.underlying69 rfl (by kernel_rfl) rfl) ?_
    refine AnyW.first 5 rfl (by kernel_rfl) (by kernel_rfl) (by kernel_rfl) rfl (dst_lt rfl) (v_move (v := S _) rfl) ?_
    refine AnyW.two 4 6 rfl rfl (by kernel_rfl) rfl rfl (dst_lt rfl) (dst_lt rfl) (q_load (v := lv) (by kernel_rfl) rfl (hS3.blk at1) rfl) (q_loadA0 (n := 2) (by kernel_rfl) rfl (hS3.blk at0) (by rfl)) ?_ ?_
    ·
      rintro _ _ ⟨rfl, rfl⟩
      refine AnyW.onlyQ 6 rfl (by kernel_rfl) rfl (dst_lt rfl) (q_loadA0 (n := 2) (by kernel_rfl) rfl (hS3.blk at0) (by rfl)) ?_
      refine AnyW.onlyQ 7 rfl (by kernel_rfl) rfl (dst_lt rfl) (q_build (cells := #[S who, .int .i64 seq, S dat]) rfl (by kernel_rfl)) ?_
      refine AnyW.only 8 rfl (by kernel_rfl) rfl (dst_lt rfl) (s_buildSlice3 (z := .agg #[S [], .int .i64 0, S []]) hS3 Try.underlying67 (by kernel_rfl) (by kernel_rfl) rfl) ?_
      rintro v87 H5 hS5
      clear hS3
      refine AnyW.only 9 rfl (by kernel_rfl) rfl (dst_lt rfl) (s_append (sz := 3) (by_ := 40) (z := .agg #[S [], .int .i64 0, S []]) hS5 at3 Try.underlying67 (by kernel_rfl) (by kernel_rfl) (by kernel_rfl) rfl (by kernel_rfl) rfl rfl (src_vec (hS5.vec at0) (fun u hu => oneC_one ⟨who, seq, dat⟩ u hu)) (by unfold maxLen; omega) (by omega)) ?_
      rintro v88 H6 hS6
      clear hS5
      replace hS6 := hS6.del del0
      refine AnyW.onlyQ 10 rfl (by kernel_rfl) rfl (dst_lt rfl) (q_nilCheck rfl) ?_
      refine AnyW.onlyQ 11 rfl (by kernel_rfl) rfl (dst_lt rfl) (q_fieldAddr (sz := 0) Try.underlying69 rfl (by kernel_rfl) rfl) ?_
      refine AnyW.only 12 rfl (by kernel_rfl) rfl rfl (s_storeC (v := v88) hS6 at1 (by kernel_rfl) rfl rfl (hS6.vec at2).one (by simp; done)) ?_
      rintro _ H7 ⟨rfl, hS7⟩
      clear hS6
      refine AnyW.done (by kernel_rfl) ?_
      refine SeqP.go ?_
      refine AW.seq ?_
      refine AW.region ?_
      refine OpsW.q rfl (q_move (v := .pointer _) rfl) ?_
      refine OpsW.q rfl (q_move (v := S _) rfl) ?_
      refine OpsW.q rfl (q_nilCheck rfl) ?_
      refine OpsW.q rfl (q_fieldAddr (sz := 0) Try.underlying69 rfl (by kernel_rfl) rfl) ?_
      refine OpsW.ms (s_storeC (v := S _) hS7 at1 (by kernel_rfl) rfl rfl rfl (by simp; done)) ?_
      rintro _ H8 ⟨rfl, hS8⟩
      clear hS7
      refine OpsW.nil ?_
      refine SeqP.go ?_
      refine AW.seq ?_
      refine AW.region ?_
      refine OpsW.q rfl (q_assign (v := .int _ _) rfl) ?_
      refine OpsW.nil ?_
      refine SeqP.go ?_
      refine AW.ret ?_
      refine RetP.mk1 (H' := _) (v1 := .int _ _) rfl rfl  (Hp.le_refl _) ?_
      exact ⟨rfl, rf_snoc (o := ⟨who, seq, dat⟩) hS8.tail⟩
    ·
      rintro _ _ ⟨rfl, rfl⟩
      refine AnyW.first 7 rfl (by kernel_rfl) (by kernel_rfl) (by kernel_rfl) rfl (dst_lt rfl) (v_build (cells := #[S who, .int .i64 seq, S dat]) rfl (by kernel_rfl)) ?_
      refine AnyW.two 4 8 rfl rfl (by kernel_rfl) rfl rfl (dst_lt rfl) (dst_lt rfl) (q_load (v := lv) (by kernel_rfl) rfl (hS3.blk at1) rfl) (s_buildSlice3 (z := .agg #[S [], .int .i64 0, S []]) hS3 Try.underlying67 (by kernel_rfl) (by kernel_rfl) rfl) ?_ ?_
      ·
        rintro _ _ ⟨rfl, rfl⟩
        refine AnyW.only 8 rfl (by kernel_rfl) rfl (dst_lt rfl) (s_buildSlice3 (z := .agg #[S [], .int .i64 0, S []]) hS3 Try.underlying67 (by kernel_rfl) (by kernel_rfl) rfl) ?_
        rintro v87 H9 hS9
        clear hS3
        refine AnyW.only 9 rfl (by kernel_rfl) rfl (dst_lt rfl) (s_append (sz := 3) (by_ := 40) (z := .agg #[S [], .int .i64 0, S []]) hS9 at3 Try.underlying67 (by kernel_rfl) (by kernel_rfl) (by kernel_rfl) rfl (by kernel_rfl) rfl rfl (src_vec (hS9.vec at0) (fun u hu => oneC_one ⟨who, seq, dat⟩ u hu)) (by unfold maxLen; omega) (by omega)) ?_
        rintro v88 H10 hS10
        clear hS9
        replace hS10 := hS10.del del0
        refine AnyW.onlyQ 10 rfl (by kernel_rfl) rfl (dst_lt rfl) (q_nilCheck rfl) ?_
        refine AnyW.onlyQ 11 rfl (by kernel_rfl) rfl (dst_lt rfl) (q_fieldAddr (sz := 0) Try.underlying69 rfl (by kernel_rfl) rfl) ?_
        refine AnyW.only 12 rfl (by kernel_rfl) rfl rfl (s_storeC (v := v88) hS10 at1 (by kernel_rfl) rfl rfl (hS10.vec at2).one (by simp; done)) ?_
        rintro _ H11 ⟨rfl, hS11⟩
        clear hS10
        refine AnyW.done (by kernel_rfl) ?_
        refine SeqP.go ?_
        refine AW.seq ?_
        refine AW.region ?_
        refine OpsW.q rfl (q_move (v := .pointer _) rfl) ?_
        refine OpsW.q rfl (q_move (v := S _) rfl) ?_
        refine OpsW.q rfl (q_nilCheck rfl) ?_
        refine OpsW.q rfl (q_fieldAddr (sz := 0) Try.underlying69 rfl (by kernel_rfl) rfl) ?_
        refine OpsW.ms (s_storeC (v := S _) hS11 at1 (by kernel_rfl) rfl rfl rfl (by simp; done)) ?_
        rintro _ H12 ⟨rfl, hS12⟩
        clear hS11
        refine OpsW.nil ?_
        refine SeqP.go ?_
        refine AW.seq ?_
        refine AW.region ?_
        refine OpsW.q rfl (q_assign (v := .int _ _) rfl) ?_
        refine OpsW.nil ?_
        refine SeqP.go ?_
        refine AW.ret ?_
        refine RetP.mk1 (H' := _) (v1 := .int _ _) rfl rfl  (Hp.le_refl _) ?_
        exact ⟨rfl, rf_snoc (o := ⟨who, seq, dat⟩) hS12.tail⟩
      ·
        rintro v87 H13 hS13
        clear hS3
        refine AnyW.onlyQ 4 rfl (by kernel_rfl) rfl (dst_lt rfl) (q_load (v := lv) (by kernel_rfl) rfl (hS13.blk at2) rfl) ?_
        refine AnyW.only 9 rfl (by kernel_rfl) rfl (dst_lt rfl) (s_append (sz := 3) (by_ := 40) (z := .agg #[S [], .int .i64 0, S []]) hS13 at3 Try.underlying67 (by kernel_rfl) (by kernel_rfl) (by kernel_rfl) rfl (by kernel_rfl) rfl rfl (src_vec (hS13.vec at0) (fun u hu => oneC_one ⟨who, seq, dat⟩ u hu)) (by unfold maxLen; omega) (by omega)) ?_
        rintro v88 H14 hS14
        clear hS13
        replace hS14 := hS14.del del0
        refine AnyW.onlyQ 10 rfl (by kernel_rfl) rfl (dst_lt rfl) (q_nilCheck rfl) ?_
        refine AnyW.onlyQ 11 rfl (by kernel_rfl) rfl (dst_lt rfl) (q_fieldAddr (sz := 0) Try.underlying69 rfl (by kernel_rfl) rfl) ?_
        refine AnyW.only 12 rfl (by kernel_rfl) rfl rfl (s_storeC (v := v88) hS14 at1 (by kernel_rfl) rfl rfl (hS14.vec at2).one (by simp; done)) ?_
        rintro _ H15 ⟨rfl, hS15⟩
        clear hS14
        refine AnyW.done (by kernel_rfl) ?_
        refine SeqP.go ?_
        refine AW.seq ?_
        refine AW.region ?_
        refine OpsW.q rfl (q_move (v := .pointer _) rfl) ?_
        refine OpsW.q rfl (q_move (v := S _) rfl) ?_
        refine OpsW.q rfl (q_nilCheck rfl) ?_
        refine OpsW.q rfl (q_fieldAddr (sz := 0) Try.underlying69 rfl (by kernel_rfl) rfl) ?_
        refine OpsW.ms (s_storeC (v := S _) hS15 at1 (by kernel_rfl) rfl rfl rfl (by simp; done)) ?_
        rintro _ H16 ⟨rfl, hS16⟩
        clear hS15
        refine OpsW.nil ?_
        refine SeqP.go ?_
        refine AW.seq ?_
        refine AW.region ?_
        refine OpsW.q rfl (q_assign (v := .int _ _) rfl) ?_
        refine OpsW.nil ?_
        refine SeqP.go ?_
        refine AW.ret ?_
        refine RetP.mk1 (H' := _) (v1 := .int _ _) rfl rfl  (Hp.le_refl _) ?_
        exact ⟨rfl, rf_snoc (o := ⟨who, seq, dat⟩) hS16.tail⟩
  try simp only [eb18, eb23, eb29, decide_eq_true_eq, decide_eq_false_iff_not, Bool.or_eq_true, Bool.and_eq_true, Bool.or_eq_false_iff, Bool.and_eq_false_imp, Bool.not_eq_true', Bool.not_eq_false', ne_eq, Decidable.not_not, Int.not_lt, Int.not_le, Bool.not_eq_true, Bool.not_eq_false] at h5
  refine AW.skip ?_
  refine SeqP.go ?_
  refine AW.seq ?_
  refine AW.seq ?_
  refine AW.region ?_
  refine OpsW.q rfl (q_move (v := .int _ _) rfl) ?_
  refine OpsW.q rfl (q_neq rfl rfl) ?_
  refine OpsW.nil ?_
  refine SeqP.go ?_
  refine AW.cond rfl (fun h6 => ?_) (fun h6 => ?_)
  ·
    try simp only [eb18, eb23, eb29, decide_eq_true_eq, decide_eq_false_iff_not, Bool.or_eq_true, Bool.and_eq_true, Bool.or_eq_false_iff, Bool.and_eq_false_imp, Bool.not_eq_true', Bool.not_eq_false', ne_eq, Decidable.not_not, Int.not_lt, Int.not_le, Bool.not_eq_true, Bool.not_eq_false] at h6
    rw [layR_app h4 (by simpa using h5)]
    refine AW.seq ?_
    refine AW.region ?_
    refine OpsW.q rfl (q_move (v := .pointer _) rfl) ?_
    refine OpsW.q rfl (q_nilCheck rfl) ?_
    refine OpsW.q rfl (q_fieldAddr (sz := 0) Try.underlying69 rfl (by kernel_rfl) rfl) ?_
    refine OpsW.ms (s_storeC (v := .bool _) hS2 at1 (by kernel_rfl) rfl rfl rfl (by simp; done)) ?_
    rintro _ H17 ⟨rfl, hS17⟩
    clear hS2
    refine OpsW.nil ?_
    refine SeqP.go ?_
    refine AW.seq ?_
    refine AW.region ?_
    refine OpsW.q rfl (q_move (v := .int _ _) rfl) ?_
    refine OpsW.q rfl (q_assign (v := .int _ _) rfl) ?_
    refine OpsW.nil ?_
    refine SeqP.go ?_
    refine AW.ret ?_
    refine SeqP.ret ?_
    refine RetP.mk1 (H' := _) (v1 := .int _ _) rfl rfl  (Hp.le_refl _) ?_
    exact ⟨rfl, rf_close hS17.tail⟩
  exfalso
  try simp only [eb18, eb23, eb29, decide_eq_true_eq, decide_eq_false_iff_not, Bool.or_eq_true, Bool.and_eq_true, Bool.or_eq_false_iff, Bool.and_eq_false_imp, Bool.not_eq_true', Bool.not_eq_false', ne_eq, Decidable.not_not, Int.not_lt, Int.not_le, Bool.not_eq_true, Bool.not_eq_false] at h6
  first | contradiction | (simp at *; done) | simp_all
theorem OpenR_w {tb : Nat} {r : RefS} (hS0 : Sep H0 [.blk tb (rblk r)] H) (hrf : RefOk r) (hal0 : r.t.length ≤ 16777216) : Con Try.prog w0 26 #[.pointer (some ⟨tb, 0, none⟩)] H (fun v H' => (¬ (openR r).1 = 0 ∧ v = .tuple #[.pointer none, .int .i64 (openR r).1] ∧ Sep H0 [.blk tb (rblk (openR r).2)] H') ∨ ((openR r).1 = 0 ∧ ∃ b, v = .tuple #[.pointer (some ⟨b, 0, none⟩), .int .i64 0] ∧ Sep H0 [rfC b tb ⟨(scanS st0 r.t).2, false⟩ (openR r).2] H')) := by
  obtain ⟨all, hall⟩ : ∃ all, all = r.t := ⟨_, rfl⟩
  have hal : all.length ≤ 16777216 := by rw [hall]; exact hal0
  refine Con.intro Try.func26 rfl rfl ?_
  refine AW.seq ?_
  refine AW.region ?_
  refine OpsW.q rfl (q_assign (v := .pointer _) rfl) ?_
  refine OpsW.q rfl (q_assign (v := .int _ _) rfl) ?_
  refine OpsW.nil ?_
  refine SeqP.go ?_
  refine AW.seq ?_
  by_cases hd : r.dd = true
  ·
    refine AW.region ?_
    refine OpsW.q rfl (q_move (v := .pointer _) rfl) ?_
    refine OpsW.q rfl (o_call rfl Try.func33 rfl rfl (ReadR_s hS0 at0 hrf)) ?_
    rw [readR_dead hd]
    refine OpsW.q rfl (q_move (v := .tuple _) rfl) ?_
    refine OpsW.q rfl (q_extract (v := S _) rfl rfl) ?_
    refine OpsW.q rfl (q_extract (v := .int _ _) rfl rfl) ?_
    refine OpsW.q rfl (q_assign (v := S _) rfl) ?_
    refine OpsW.q rfl (q_assign (v := .int _ _) rfl) ?_
    refine OpsW.nil ?_
    refine SeqP.go ?_
    refine AW.seq ?_
    refine AW.seq ?_
    refine AW.region ?_
    refine OpsW.q rfl (q_move (v := .int _ _) rfl) ?_
    refine OpsW.q rfl (q_neq rfl rfl) ?_
    refine OpsW.nil ?_
    refine SeqP.go ?_
    refine AW.cond rfl (fun h0 => ?_) (fun h0 => ?_)
    ·
      try simp only [decide_eq_true_eq, decide_eq_false_iff_not, Bool.or_eq_true, Bool.and_eq_true, Bool.or_eq_false_iff, Bool.and_eq_false_imp, Bool.not_eq_true', Bool.not_eq_false', ne_eq, Decidable.not_not, Int.not_lt, Int.not_le, Bool.not_eq_true, Bool.not_eq_false] at h0
      refine AW.seq ?_
      refine AW.region ?_
      refine OpsW.q rfl (q_move (v := .int _ _) rfl) ?_
      refine OpsW.q rfl (q_assign (v := .pointer _) rfl) ?_
      refine OpsW.q rfl (q_assign (v := .int _ _) rfl) ?_
      refine OpsW.nil ?_
      refine SeqP.go ?_
      refine AW.ret ?_
      refine SeqP.ret ?_
      refine RetP.mk2 (H' := _) (v1 := .pointer _) (v2 := .int _ _) rfl rfl rfl  (Hp.le_refl _) ?_
      exact .inl ⟨by rw [openR_dead hd]; exact (by decide : ¬ (41 : Int) = 0), by rw [openR_dead hd], by rw [openR_dead hd]; exact hS0⟩
    exfalso
    try simp only [decide_eq_true_eq, decide_eq_false_iff_not, Bool.or_eq_true, Bool.and_eq_true, Bool.or_eq_false_iff, Bool.and_eq_false_imp, Bool.not_eq_true', Bool.not_eq_false', ne_eq, Decidable.not_not, Int.not_lt, Int.not_le, Bool.not_eq_true, Bool.not_eq_false] at h0
    simp at h0
  ·
    have hd2 : r.dd = false := by simpa using hd
    refine AW.region ?_
    refine OpsW.q rfl (q_move (v := .pointer _) rfl) ?_
    refine OpsW.q rfl (o_call rfl Try.func33 rfl rfl (ReadR_s hS0 at0 hrf)) ?_
    rw [readR_ok hd2, ← hall]
    refine OpsW.q rfl (q_move (v := .tuple _) rfl) ?_
    refine OpsW.q rfl (q_extract (v := S _) rfl rfl) ?_
    refine OpsW.q rfl (q_extract (v := .int _ _) rfl rfl) ?_
    refine OpsW.q rfl (q_assign (v := S _) rfl) ?_
    refine OpsW.q rfl (q_assign (v := .int _ _) rfl) ?_
    refine OpsW.nil ?_
    refine SeqP.go ?_
    refine AW.seq ?_
    refine AW.seq ?_
    refine AW.region ?_
    refine OpsW.q rfl (q_move (v := .int _ _) rfl) ?_
    refine OpsW.q rfl (q_neq rfl rfl) ?_
    refine OpsW.nil ?_
    refine SeqP.go ?_
    refine AW.cond rfl (fun h0 => ?_) (fun h0 => ?_)
    ·
      exfalso
      try simp only [decide_eq_true_eq, decide_eq_false_iff_not, Bool.or_eq_true, Bool.and_eq_true, Bool.or_eq_false_iff, Bool.and_eq_false_imp, Bool.not_eq_true', Bool.not_eq_false', ne_eq, Decidable.not_not, Int.not_lt, Int.not_le, Bool.not_eq_true, Bool.not_eq_false] at h0
      simp at h0
    try simp only [decide_eq_true_eq, decide_eq_false_iff_not, Bool.or_eq_true, Bool.and_eq_true, Bool.or_eq_false_iff, Bool.and_eq_false_imp, Bool.not_eq_true', Bool.not_eq_false', ne_eq, Decidable.not_not, Int.not_lt, Int.not_le, Bool.not_eq_true, Bool.not_eq_false] at h0
    refine AW.skip ?_
    refine SeqP.go ?_
    refine AW.seq ?_
    refine AW.region ?_
    refine OpsW.q rfl (q_move (v := .pointer _) rfl) ?_
    refine OpsW.q rfl (o_call rfl Try.func40 rfl rfl (zeroR_con)) ?_
    refine OpsW.q rfl (q_build (cells := #[.pointer (some ⟨tb, 0, none⟩), nilV, S z32, .bool false]) rfl (by kernel_rfl)) ?_
    refine OpsW.m rfl (s_box (v := .agg _) hS0 rfl rfl) ?_
    rintro _ H1 ⟨b23, rfl, hS1⟩
    clear hS0
    refine OpsW.q rfl (q_assign (v := .pointer _) rfl) ?_
    refine OpsW.nil ?_
    refine SeqP.go ?_
    refine AW.seq ?_
    refine AW.region ?_
    refine OpsW.q rfl (q_assign (v := .int _ _) rfl) ?_
    refine OpsW.nil ?_
    refine SeqP.go ?_
    refine AW.seq ?_
    refine AW.block ?_
    replace hS1 := hS1.nil (el := 78) (sz := 3)
    refine AW.loop (fun m_ e_ H_ => ∃ (a : Nat) (s : StS) (lv : Value) (e0 : Env), m_ = all.length - a ∧ (StOk s.L ∧ a ≤ all.length ∧ s.L.length ≤ a ∧ a + (scanS s (all.drop a)).1 = (scanS st0 all).1 ∧ (scanS s (all.drop a)).2 = (scanS st0 all).2 ∧ s.h.length = 32) ∧ e_ = upds e0 [(0, .pointer (some ⟨tb, 0, none⟩)), (4, S all), (6, .pointer (some ⟨b23, 0, none⟩)), (7, .int .i64 (a : Int))] ∧ Sep H0 [.vec lv 78 3 s.L.length (rowsV oneC s.L), .blk b23 ⟨[.pointer (some ⟨tb, 0, none⟩), lv, S s.h, .bool false], 4, 69⟩, .blk tb ⟨rcells r, 5, 90⟩] H_) _ ⟨0, st0, nilV, _, rfl, ⟨stok0, Nat.zero_le _, Nat.zero_le _, by rw [List.drop_zero, Nat.zero_add], by rw [List.drop_zero], rfl⟩, Slots.eq ⟨(by rfl), (by rfl), (by rfl), (by rfl),  trivial⟩, hS1⟩ ?_
    rintro m_ _ Hl0 ⟨a, s, lv, e0, rfl, ⟨hI, hI2, hI3, hI4, hI5, hI7⟩, rfl, hSl0⟩
    try clear hS1
    have hI6 : s.L.length ≤ 1000000000 := by omega
    refine AW.block ?_
    refine AW.cut (fun e_ H_ => ∃ (b8 : Nat) (e0 : Env), (True) ∧ e_ = upds e0 [(0, .pointer (some ⟨tb, 0, none⟩)), (4, S all), (6, .pointer (some ⟨b23, 0, none⟩)), (7, .int .i64 (a : Int)), (8, .pointer (some ⟨b8, 0, none⟩)), (9, .int .i64 (firstS (all.drop a) s.h).1.size), (10, S (firstS (all.drop a) s.h).1.next), (11, .bool (firstS (all.drop a) s.h).2)] ∧ Sep H0 [.blk b8 ⟨[S (tWho (firstS (all.drop a) s.h).1.body), .int .i64 (tSeq (firstS (all.drop a) s.h).1.body), S (tDat (firstS (all.drop a) s.h).1.body)], 3, 78⟩, .vec lv 78 3 s.L.length (rowsV oneC s.L), .blk b23 ⟨[.pointer (some ⟨tb, 0, none⟩), lv, S s.h, .bool false], 4, 69⟩, .blk tb ⟨rcells r, 5, 90⟩] H_) ?_ ?_
    ·
      refine AW.steps rfl 18 rfl ?_
      refine AnyW.first 0 rfl (by kernel_rfl) (by kernel_rfl) (by kernel_rfl) rfl (dst_lt rfl) (v_move (v := S _) rfl) ?_
      refine AnyW.first 1 rfl (by kernel_rfl) (by kernel_rfl) (by kernel_rfl) rfl (dst_lt rfl) (v_move (v := .int _ _) rfl) ?_
      refine AnyW.first 2 rfl (by kernel_rfl) (by kernel_rfl) (by kernel_rfl) rfl (dst_lt rfl) (v_sliceS_lo Try.underlying9 rfl rfl (by omega) (by omega)) ?_
      refine AnyW.first 3 rfl (by kernel_rfl) (by kernel_rfl) (by kernel_rfl) rfl (dst_lt rfl) (v_move (v := .pointer _) rfl) ?_
      refine AnyW.first 4 rfl (by kernel_rfl) (by kernel_rfl) (by kernel_rfl) rfl (dst_lt rfl) (v_nilCheck rfl) ?_
      refine AnyW.first 5 rfl (by kernel_rfl) (by kernel_rfl) (by kernel_rfl) rfl (dst_lt rfl) (v_fieldAddr (sz := 0) Try.underlying69 rfl (by kernel_rfl) rfl) ?_
      refine AnyW.two 6 13 rfl rfl (by kernel_rfl) rfl rfl (dst_lt rfl) (dst_lt rfl) (q_load (v := S _) (by kernel_rfl) rfl (hSl0.blk at1) rfl) (s_alloc (z := .agg #[S [], .int .i64 0, S []]) (cs := [S [], .int .i64 0, S []]) hSl0 (by kernel_rfl) rfl) ?_ ?_
      ·
        rintro _ _ ⟨rfl, rfl⟩
        refine AnyW.two 7 13 rfl rfl (by kernel_rfl) rfl rfl (dst_lt rfl) (dst_lt rfl) (o_call rfl Try.func41 rfl rfl (firstR_con (by rw [List.length_drop]; omega) (by omega))) (s_alloc (z := .agg #[S [], .int .i64 0, S []]) (cs := [S [], .int .i64 0, S []]) hSl0 (by kernel_rfl) rfl) ?_ ?_
        ·
          rintro _ _ ⟨rfl, rfl⟩
          refine AnyW.first 8 rfl (by kernel_rfl) (by kernel_rfl) (by kernel_rfl) rfl (dst_lt rfl) (v_move (v := .tuple _) rfl) ?_
          refine AnyW.first 9 rfl (by kernel_rfl) (by kernel_rfl) (by kernel_rfl) rfl (dst_lt rfl) (v_extract (v := .agg _) rfl rfl) ?_
          refine AnyW.first 10 rfl (by kernel_rfl) (by kernel_rfl) (by kernel_rfl) rfl (dst_lt rfl) (v_extract (v := .int _ _) rfl rfl) ?_
          refine AnyW.first 11 rfl (by kernel_rfl) (by kernel_rfl) (by kernel_rfl) rfl (dst_lt rfl) (v_extract (v := S _) rfl rfl) ?_
          refine AnyW.first 12 rfl (by kernel_rfl) (by kernel_rfl) (by kernel_rfl) rfl (dst_lt rfl) (v_extract (v := .bool _) rfl rfl) ?_
          refine AnyW.only 13 rfl (by kernel_rfl) rfl (dst_lt rfl) (s_alloc (z := .agg #[S [], .int .i64 0, S []]) (cs := [S [], .int .i64 0, S []]) hSl0 (by kernel_rfl) rfl) ?_
          rintro _ H2 ⟨b8, rfl, hS2⟩
          clear hSl0
          refine AnyW.only 14 rfl (by kernel_rfl) rfl rfl (s_storeS (n := 3) hS2 at0 (by kernel_rfl) rfl rfl rfl (ones_all rfl) rfl) ?_
          rintro _ H3 ⟨rfl, hS3⟩
          clear hS2
          refine AnyW.onlyQ 15 rfl (by kernel_rfl) rfl (dst_lt rfl) (q_assign (v := .int _ _) rfl) ?_
          refine AnyW.onlyQ 16 rfl (by kernel_rfl) rfl (dst_lt rfl) (q_assign (v := S _) rfl) ?_
          refine AnyW.onlyQ 17 rfl (by kernel_rfl) rfl (dst_lt rfl) (q_assign (v := .bool _) rfl) ?_
          refine AnyW.done (by kernel_rfl) ?_
          exact CutP.go ⟨b8, _, trivial, Slots.eq ⟨(by rfl), (by rfl), (by rfl), (by rfl), (by rfl), (by rfl), (by rfl), (by rfl),  trivial⟩, hS3⟩
        ·
          rintro _ H4 ⟨b8, rfl, hS4⟩
          clear hSl0
          refine AnyW.onlyQ 7 rfl (by kernel_rfl) rfl (dst_lt rfl) (o_call rfl Try.func41 rfl rfl (firstR_con (by rw [List.length_drop]; omega) (by omega))) ?_
          refine AnyW.onlyQ 8 rfl (by kernel_rfl) rfl (dst_lt rfl) (q_move (v := .tuple _) rfl) ?_
          refine AnyW.first 9 rfl (by kernel_rfl) (by kernel_rfl) (by kernel_rfl) rfl (dst_lt rfl) (v_extract (v := .agg _) rfl rfl) ?_
          refine AnyW.first 10 rfl (by kernel_rfl) (by kernel_rfl) (by kernel_rfl) rfl (dst_lt rfl) (v_extract (v := .int _ _) rfl rfl) ?_
          refine AnyW.first 11 rfl (by kernel_rfl) (by kernel_rfl) (by kernel_rfl) rfl (dst_lt rfl) (v_extract (v := S _) rfl rfl) ?_
          refine AnyW.first 12 rfl (by kernel_rfl) (by kernel_rfl) (by kernel_rfl) rfl (dst_lt rfl) (v_extract (v := .bool _) rfl rfl) ?_
          refine AnyW.only 14 rfl (by kernel_rfl) rfl rfl (s_storeS (n := 3) hS4 at0 (by kernel_rfl) rfl rfl rfl (ones_all rfl) rfl) ?_
          rintro _ H5 ⟨rfl, hS5⟩
          clear hS4
          refine AnyW.onlyQ 15 rfl (by kernel_rfl) rfl (dst_lt rfl) (q_assign (v := .int _ _) rfl) ?_
          refine AnyW.onlyQ 16 rfl (by kernel_rfl) rfl (dst_lt rfl) (q_assign (v := S _) rfl) ?_
          refine AnyW.onlyQ 17 rfl (by kernel_rfl) rfl (dst_lt rfl) (q_assign (v := .bool _) rfl) ?_
          refine AnyW.done (by kernel_rfl) ?_
          exact CutP.go ⟨b8, _, trivial, Slots.eq ⟨(by rfl), (by rfl), (by rfl), (by rfl), (by rfl), (by rfl), (by rfl), (by rfl),  trivial⟩, hS5⟩
      ·
        rintro _ H6 ⟨b8, rfl, hS6⟩
        clear hSl0
        refine AnyW.onlyQ 6 rfl (by kernel_rfl) rfl (dst_lt rfl) (q_load (v := S _) (by kernel_rfl) rfl (hS6.blk at2) rfl) ?_
        refine AnyW.onlyQ 7 rfl (by kernel_rfl) rfl (dst_lt rfl) (o_call rfl Try.func41 rfl rfl (firstR_con (by rw [List.length_drop]; omega) (by omega))) ?_
        refine AnyW.onlyQ 8 rfl (by kernel_rfl) rfl (dst_lt rfl) (q_move (v := .tuple _) rfl) ?_
        refine AnyW.first 9 rfl (by kernel_rfl) (by kernel_rfl) (by kernel_rfl) rfl (dst_lt rfl) (v_extract (v := .agg _) rfl rfl) ?_
        refine AnyW.first 10 rfl (by kernel_rfl) (by kernel_rfl) (by kernel_rfl) rfl (dst_lt rfl) (v_extract (v := .int _ _) rfl rfl) ?_
        refine AnyW.first 11 rfl (by kernel_rfl) (by kernel_rfl) (by kernel_rfl) rfl (dst_lt rfl) (v_extract (v := S _) rfl rfl) ?_
        refine AnyW.first 12 rfl (by kernel_rfl) (by kernel_rfl) (by kernel_rfl) rfl (dst_lt rfl) (v_extract (v := .bool _) rfl rfl) ?_
        refine AnyW.only 14 rfl (by kernel_rfl) rfl rfl (s_storeS (n := 3) hS6 at0 (by kernel_rfl) rfl rfl rfl (ones_all rfl) rfl) ?_
        rintro _ H7 ⟨rfl, hS7⟩
        clear hS6
        refine AnyW.onlyQ 15 rfl (by kernel_rfl) rfl (dst_lt rfl) (q_assign (v := .int _ _) rfl) ?_
        refine AnyW.onlyQ 16 rfl (by kernel_rfl) rfl (dst_lt rfl) (q_assign (v := S _) rfl) ?_
        refine AnyW.onlyQ 17 rfl (by kernel_rfl) rfl (dst_lt rfl) (q_assign (v := .bool _) rfl) ?_
        refine AnyW.done (by kernel_rfl) ?_
        exact CutP.go ⟨b8, _, trivial, Slots.eq ⟨(by rfl), (by rfl), (by rfl), (by rfl), (by rfl), (by rfl), (by rfl), (by rfl),  trivial⟩, hS7⟩
    rintro _ Hc8 ⟨b8, _, _, rfl, hSc8⟩
    try clear hSl0
    refine AW.seq ?_
    refine AW.seq ?_
    by_cases hw : (firstS (all.drop a) s.h).2 = true
    ·
      rw [hw]
      have hfo := frOk_len (firstS_ok hw).1
      have hmk : 0 ≤ mkP (⟨s, false⟩ : StF).st.L (tWho (firstS (all.drop a) s.h).1.body) ∧ mkP (⟨s, false⟩ : StF).st.L (tWho (firstS (all.drop a) s.h).1.body) ≤ 1000000000 := by have := ofP_len s.L (tWho (firstS (all.drop a) s.h).1.body); show 0 ≤ mkP s.L _ ∧ mkP s.L _ ≤ _; unfold mkP; omega
      refine AW.drawK [] 11 rfl (by kernel_rfl) ?_
      refine SeqK.q rfl (q_move (v := .bool _) rfl) ?_
      refine SeqK.q rfl (q_not rfl) ?_
      refine SeqK.q rfl (q_move (v := .bool false) rfl) ?_
      refine SeqK.qw rfl rfl (q_fieldAddr (sz := 1) Try.underlying78 rfl (by kernel_rfl) rfl) ?_
      refine SeqK.qw rfl rfl (q_fieldAddr (sz := 0) Try.underlying44 rfl (by kernel_rfl) rfl) ?_
      refine SeqK.qw rfl rfl (q_load (v := .int _ _) (by kernel_rfl) rfl (hSc8.blk at0) rfl) ?_
      refine SeqK.qw rfl rfl (q_move (v := .pointer _) rfl) ?_
      refine SeqK.qw rfl rfl (q_fieldAddr (sz := 0) Try.underlying78 rfl (by kernel_rfl) rfl) ?_
      refine SeqK.qw rfl rfl (q_load (v := S _) (by kernel_rfl) rfl (hSc8.blk at0) rfl) ?_
      refine SeqK.qw rfl rfl (o_call rfl Try.func36 rfl rfl (MarkR_con (x := ⟨s, false⟩) (hSc8.blk at2) (hSc8.vec at1) hI hI6)) ?_
      refine SeqK.qw rfl rfl (q_addI rfl rfl (by omega)) ?_
      refine SeqK.done ?_
      refine OpsW.qw rfl rfl (q_neq rfl rfl) ?_
      refine OpsW.q rfl (q_or2 rfl rfl rfl) ?_
      refine OpsW.nil ?_
      refine SeqP.go ?_
      refine AW.cond rfl (fun h1 => ?_) (fun h1 => ?_)
      ·
        try simp only [decide_eq_true_eq, decide_eq_false_iff_not, Bool.or_eq_true, Bool.and_eq_true, Bool.or_eq_false_iff, Bool.and_eq_false_imp, Bool.not_eq_true', Bool.not_eq_false', ne_eq, Decidable.not_not, Int.not_lt, Int.not_le, Bool.not_eq_true, Bool.not_eq_false] at h1
        have hend : ¬ goesS s (all.drop a) := fun g => by have := g.2; rw [takeS_no (by simpa using h1)] at this; cases this
        refine AW.exit ?_
        refine SeqP.exit ?_
        refine BlockP.far rfl ?_
        refine LoopP.exit ?_
        rw [scanS_end hend] at hI4 hI5
        have hN1 : (scanS st0 all).1 = a := hI4.symm
        have hN2 : (scanS st0 all).2 = s := hI5.symm
        refine BlockP.here ?_
        refine SeqP.go ?_
        refine AW.seq ?_
        refine AW.seq ?_
        refine AW.region ?_
        refine OpsW.q rfl (q_move (v := .int _ _) rfl) ?_
        refine OpsW.q rfl (q_move (v := S _) rfl) ?_
        refine OpsW.q rfl (q_lenS Try.underlying9 rfl) ?_
        refine OpsW.q rfl (q_lss rfl rfl) ?_
        refine OpsW.nil ?_
        refine SeqP.go ?_
        refine AW.cond rfl (fun h2 => ?_) (fun h2 => ?_)
        ·
          try simp only [decide_eq_true_eq, decide_eq_false_iff_not, Bool.or_eq_true, Bool.and_eq_true, Bool.or_eq_false_iff, Bool.and_eq_false_imp, Bool.not_eq_true', Bool.not_eq_false', ne_eq, Decidable.not_not, Int.not_lt, Int.not_le, Bool.not_eq_true, Bool.not_eq_false] at h2
          have hoc : openR r = cutR r (a : Int) := by rw [openR_go hd2, openRC_cut (by rw [← hall, hN1]; omega), ← hall, hN1]
          refine AW.region ?_
          refine OpsW.q rfl (q_move (v := .pointer _) rfl) ?_
          refine OpsW.q rfl (q_move (v := .int _ _) rfl) ?_
          obtain ⟨Hf9, le9, hA9, hB9⟩ := hSc8.framed at3
          refine OpsW.m rfl (o_call rfl Try.func49 rfl rfl (CutR_s hA9 hrf _)) ?_
          rintro _ H9 ⟨rfl, hR9⟩
          have hS9 := hB9 _ _ hR9
          clear hR9 hB9 hA9
          clear hSc8
          refine OpsW.q rfl (q_assign (v := .int _ _) rfl) ?_
          refine OpsW.nil ?_
          refine SeqP.go ?_
          refine AW.seq ?_
          refine AW.seq ?_
          refine AW.region ?_
          refine OpsW.q rfl (q_move (v := .int _ _) rfl) ?_
          refine OpsW.q rfl (q_neq rfl rfl) ?_
          refine OpsW.nil ?_
          refine SeqP.go ?_
          refine AW.cond rfl (fun h3 => ?_) (fun h3 => ?_)
          ·
            try simp only [decide_eq_true_eq, decide_eq_false_iff_not, Bool.or_eq_true, Bool.and_eq_true, Bool.or_eq_false_iff, Bool.and_eq_false_imp, Bool.not_eq_true', Bool.not_eq_false', ne_eq, Decidable.not_not, Int.not_lt, Int.not_le, Bool.not_eq_true, Bool.not_eq_false] at h3
            refine AW.seq ?_
            refine AW.region ?_
            refine OpsW.q rfl (q_move (v := .int _ _) rfl) ?_
            refine OpsW.q rfl (q_assign (v := .pointer _) rfl) ?_
            refine OpsW.q rfl (q_assign (v := .int _ _) rfl) ?_
            refine OpsW.nil ?_
            refine SeqP.go ?_
            refine AW.ret ?_
            refine SeqP.ret ?_
            refine RetP.mk2 (H' := _) (v1 := .pointer _) (v2 := .int _ _) rfl rfl rfl  (Hp.le_refl _) ?_
            exact .inl ⟨by rw [hoc]; simpa using h3, by rw [hoc], by rw [hoc]; exact hS9.tail.tail.tail⟩
          try simp only [decide_eq_true_eq, decide_eq_false_iff_not, Bool.or_eq_true, Bool.and_eq_true, Bool.or_eq_false_iff, Bool.and_eq_false_imp, Bool.not_eq_true', Bool.not_eq_false', ne_eq, Decidable.not_not, Int.not_lt, Int.not_le, Bool.not_eq_true, Bool.not_eq_false] at h3
          refine AW.skip ?_
          refine SeqP.go ?_
          refine AW.seq ?_
          refine AW.region ?_
          refine OpsW.q rfl (q_move (v := .pointer _) rfl) ?_
          refine OpsW.q rfl (q_assign (v := .pointer _) rfl) ?_
          refine OpsW.q rfl (q_assign (v := .int _ _) rfl) ?_
          refine OpsW.nil ?_
          refine SeqP.go ?_
          refine AW.ret ?_
          refine RetP.mk2 (H' := _) (v1 := .pointer _) (v2 := .int _ _) rfl rfl rfl  (Hp.le_refl _) ?_
          refine .inr ⟨by rw [hoc]; simpa using h3, b23, rfl, ?_⟩
          rw [hoc, hN2]
          exact rf_close (lv := lv) (Sep.bring del1 hS9.tail)
        try simp only [decide_eq_true_eq, decide_eq_false_iff_not, Bool.or_eq_true, Bool.and_eq_true, Bool.or_eq_false_iff, Bool.and_eq_false_imp, Bool.not_eq_true', Bool.not_eq_false', ne_eq, Decidable.not_not, Int.not_lt, Int.not_le, Bool.not_eq_true, Bool.not_eq_false] at h2
        have hoc : openR r = syncR r := by rw [openR_go hd2, openRC_sync (by rw [← hall, hN1]; omega)]
        refine AW.region ?_
        refine OpsW.q rfl (q_move (v := .pointer _) rfl) ?_
        obtain ⟨Hf10, le10, hA10, hB10⟩ := hSc8.framed at3
        refine OpsW.m rfl (o_call rfl Try.func50 rfl rfl (SyncR_s hA10 hrf)) ?_
        rintro _ H10 ⟨rfl, hR10⟩
        have hS10 := hB10 _ _ hR10
        clear hR10 hB10 hA10
        clear hSc8
        refine OpsW.q rfl (q_assign (v := .int _ _) rfl) ?_
        refine OpsW.nil ?_
        refine SeqP.go ?_
        refine AW.seq ?_
        refine AW.seq ?_
        refine AW.region ?_
        refine OpsW.q rfl (q_move (v := .int _ _) rfl) ?_
        refine OpsW.q rfl (q_neq rfl rfl) ?_
        refine OpsW.nil ?_
        refine SeqP.go ?_
        refine AW.cond rfl (fun h3 => ?_) (fun h3 => ?_)
        ·
          try simp only [decide_eq_true_eq, decide_eq_false_iff_not, Bool.or_eq_true, Bool.and_eq_true, Bool.or_eq_false_iff, Bool.and_eq_false_imp, Bool.not_eq_true', Bool.not_eq_false', ne_eq, Decidable.not_not, Int.not_lt, Int.not_le, Bool.not_eq_true, Bool.not_eq_false] at h3
          refine AW.seq ?_
          refine AW.region ?_
          refine OpsW.q rfl (q_move (v := .int _ _) rfl) ?_
          refine OpsW.q rfl (q_assign (v := .pointer _) rfl) ?_
          refine OpsW.q rfl (q_assign (v := .int _ _) rfl) ?_
          refine OpsW.nil ?_
          refine SeqP.go ?_
          refine AW.ret ?_
          refine SeqP.ret ?_
          refine RetP.mk2 (H' := _) (v1 := .pointer _) (v2 := .int _ _) rfl rfl rfl  (Hp.le_refl _) ?_
          exact .inl ⟨by rw [hoc]; simpa using h3, by rw [hoc], by rw [hoc]; exact hS10.tail.tail.tail⟩
        try simp only [decide_eq_true_eq, decide_eq_false_iff_not, Bool.or_eq_true, Bool.and_eq_true, Bool.or_eq_false_iff, Bool.and_eq_false_imp, Bool.not_eq_true', Bool.not_eq_false', ne_eq, Decidable.not_not, Int.not_lt, Int.not_le, Bool.not_eq_true, Bool.not_eq_false] at h3
        refine AW.skip ?_
        refine SeqP.go ?_
        refine AW.seq ?_
        refine AW.region ?_
        refine OpsW.q rfl (q_move (v := .pointer _) rfl) ?_
        refine OpsW.q rfl (q_assign (v := .pointer _) rfl) ?_
        refine OpsW.q rfl (q_assign (v := .int _ _) rfl) ?_
        refine OpsW.nil ?_
        refine SeqP.go ?_
        refine AW.ret ?_
        refine RetP.mk2 (H' := _) (v1 := .pointer _) (v2 := .int _ _) rfl rfl rfl  (Hp.le_refl _) ?_
        refine .inr ⟨by rw [hoc]; simpa using h3, b23, rfl, ?_⟩
        rw [hoc, hN2]
        exact rf_close (lv := lv) (Sep.bring del1 hS10.tail)
      try simp only [decide_eq_true_eq, decide_eq_false_iff_not, Bool.or_eq_true, Bool.and_eq_true, Bool.or_eq_false_iff, Bool.and_eq_false_imp, Bool.not_eq_true', Bool.not_eq_false', ne_eq, Decidable.not_not, Int.not_lt, Int.not_le, Bool.not_eq_true, Bool.not_eq_false] at h1
      have hsq : tSeq (firstS (all.drop a) s.h).1.body = mkP s.L (tWho (firstS (all.drop a) s.h).1.body) + 1 := by simpa using h1
      have hnx : nextS s (all.drop a) = ⟨s.L ++ [⟨tWho (firstS (all.drop a) s.h).1.body, tSeq (firstS (all.drop a) s.h).1.body, tDat (firstS (all.drop a) s.h).1.body⟩], (firstS (all.drop a) s.h).1.next⟩ := by unfold nextS; rw [takeS_yes hsq]
      have hgo : goesS s (all.drop a) := ⟨hw, by rw [takeS_yes hsq]⟩
      have hgl := goes_len hgo
      rw [List.length_drop] at hgl
      have hsc := scanS_go hgo
      rw [hsc] at hI4 hI5
      rw [List.drop_drop] at hI4 hI5
      dsimp only at hI4 hI5
      have hok2 : StOk (nextS s (all.drop a)).L := takeS_ok hI _ _
      have hln2 : (nextS s (all.drop a)).L.length ≤ s.L.length + 1 := takeS_len s _ _
      have hhd2 : (nextS s (all.drop a)).h.length = 32 := nextS_head hgo
      refine AW.skip ?_
      refine SeqP.go ?_
      refine AW.cut (fun e_ H_ => ∃ (lv2 : Value) (e0 : Env), (True) ∧ e_ = upds e0 [(0, .pointer (some ⟨tb, 0, none⟩)), (4, S all), (6, .pointer (some ⟨b23, 0, none⟩)), (7, .int .i64 (a : Int)), (9, .int .i64 (firstS (all.drop a) s.h).1.size), (10, S (firstS (all.drop a) s.h).1.next)] ∧ Sep H0 [.blk b8 ⟨[S (tWho (firstS (all.drop a) s.h).1.body), .int .i64 (tSeq (firstS (all.drop a) s.h).1.body), S (tDat (firstS (all.drop a) s.h).1.body)], 3, 78⟩, .vec lv2 78 3 ((s.L.length + 1)) (rowsV oneC s.L ++ oneC ⟨tWho (firstS (all.drop a) s.h).1.body, tSeq (firstS (all.drop a) s.h).1.body, tDat (firstS (all.drop a) s.h).1.body⟩), .blk b23 ⟨[.pointer (some ⟨tb, 0, none⟩), lv2, S s.h, .bool false], 4, 69⟩, .blk tb ⟨rcells r, 5, 90⟩] H_) ?_ ?_
      ·
        refine AW.steps rfl 11 rfl ?_
        refine AnyW.first 0 rfl (by kernel_rfl) (by kernel_rfl) (by kernel_rfl) rfl (dst_lt rfl) (v_move (v := .pointer _) rfl) ?_
        refine AnyW.first 1 rfl (by kernel_rfl) (by kernel_rfl) (by kernel_rfl) rfl (dst_lt rfl) (v_move (v := .pointer _) rfl) ?_
        refine AnyW.first 2 rfl (by kernel_rfl) (by kernel_rfl) (by kernel_rfl) rfl (dst_lt rfl) (v_nilCheck rfl) ?_
        refine AnyW.first 3 rfl (by kernel_rfl) (by kernel_rfl) (by kernel_rfl) rfl (dst_lt rfl) (v_fieldAddr (sz := 0) Try.underlying69 rfl (by kernel_rfl) rfl) ?_
        refine AnyW.two 4 5 rfl rfl (by kernel_rfl) rfl rfl (dst_lt rfl) (dst_lt rfl) (q_load (v := lv) (by kernel_rfl) rfl (hSc8.blk at2) rfl) (q_loadA0 (n := 3) (by kernel_rfl) rfl (hSc8.blk at0) (by simp; done)) ?_ ?_
        ·
          rintro _ _ ⟨rfl, rfl⟩
          refine AnyW.onlyQ 5 rfl (by kernel_rfl) rfl (dst_lt rfl) (q_loadA0 (n := 3) (by kernel_rfl) rfl (hSc8.blk at0) (by simp; done)) ?_
          refine AnyW.only 6 rfl (by kernel_rfl) rfl (dst_lt rfl) (s_buildSlice3 (z := .agg #[S [], .int .i64 0, S []]) hSc8 Try.underlying67 (by kernel_rfl) (by kernel_rfl) rfl) ?_
          rintro v56 H11 hS11
          clear hSc8
          refine AnyW.only 7 rfl (by kernel_rfl) rfl (dst_lt rfl) (s_append (sz := 3) (by_ := 40) (z := .agg #[S [], .int .i64 0, S []]) hS11 at2 Try.underlying67 (by kernel_rfl) (by kernel_rfl) (by kernel_rfl) rfl (by kernel_rfl) rfl rfl (src_vec (hS11.vec at0) (fun u hu => oneC_one ⟨tWho (firstS (all.drop a) s.h).1.body, tSeq (firstS (all.drop a) s.h).1.body, tDat (firstS (all.drop a) s.h).1.body⟩ u hu)) (by unfold maxLen; omega) (by omega)) ?_
          rintro v57 H12 hS12
          clear hS11
          replace hS12 := hS12.del del0
          refine AnyW.onlyQ 8 rfl (by kernel_rfl) rfl (dst_lt rfl) (q_nilCheck rfl) ?_
          refine AnyW.onlyQ 9 rfl (by kernel_rfl) rfl (dst_lt rfl) (q_fieldAddr (sz := 0) Try.underlying69 rfl (by kernel_rfl) rfl) ?_
          refine AnyW.only 10 rfl (by kernel_rfl) rfl rfl (s_storeC (v := v57) hS12 at2 (by kernel_rfl) rfl rfl (hS12.vec at1).one (by simp; done)) ?_
          rintro _ H13 ⟨rfl, hS13⟩
          clear hS12
          refine AnyW.done (by kernel_rfl) ?_
          exact CutP.go ⟨v57, _, trivial, Slots.eq ⟨(by rfl), (by rfl), (by rfl), (by rfl), (by rfl), (by rfl),  trivial⟩, hS13⟩
        ·
          rintro _ _ ⟨rfl, rfl⟩
          refine AnyW.two 4 6 rfl rfl (by kernel_rfl) rfl rfl (dst_lt rfl) (dst_lt rfl) (q_load (v := lv) (by kernel_rfl) rfl (hSc8.blk at2) rfl) (s_buildSlice3 (z := .agg #[S [], .int .i64 0, S []]) hSc8 Try.underlying67 (by kernel_rfl) (by kernel_rfl) rfl) ?_ ?_
          ·
            rintro _ _ ⟨rfl, rfl⟩
            refine AnyW.only 6 rfl (by kernel_rfl) rfl (dst_lt rfl) (s_buildSlice3 (z := .agg #[S [], .int .i64 0, S []]) hSc8 Try.underlying67 (by kernel_rfl) (by kernel_rfl) rfl) ?_
            rintro v56 H14 hS14
            clear hSc8
            refine AnyW.only 7 rfl (by kernel_rfl) rfl (dst_lt rfl) (s_append (sz := 3) (by_ := 40) (z := .agg #[S [], .int .i64 0, S []]) hS14 at2 Try.underlying67 (by kernel_rfl) (by kernel_rfl) (by kernel_rfl) rfl (by kernel_rfl) rfl rfl (src_vec (hS14.vec at0) (fun u hu => oneC_one ⟨tWho (firstS (all.drop a) s.h).1.body, tSeq (firstS (all.drop a) s.h).1.body, tDat (firstS (all.drop a) s.h).1.body⟩ u hu)) (by unfold maxLen; omega) (by omega)) ?_
            rintro v57 H15 hS15
            clear hS14
            replace hS15 := hS15.del del0
            refine AnyW.onlyQ 8 rfl (by kernel_rfl) rfl (dst_lt rfl) (q_nilCheck rfl) ?_
            refine AnyW.onlyQ 9 rfl (by kernel_rfl) rfl (dst_lt rfl) (q_fieldAddr (sz := 0) Try.underlying69 rfl (by kernel_rfl) rfl) ?_
            refine AnyW.only 10 rfl (by kernel_rfl) rfl rfl (s_storeC (v := v57) hS15 at2 (by kernel_rfl) rfl rfl (hS15.vec at1).one (by simp; done)) ?_
            rintro _ H16 ⟨rfl, hS16⟩
            clear hS15
            refine AnyW.done (by kernel_rfl) ?_
            exact CutP.go ⟨v57, _, trivial, Slots.eq ⟨(by rfl), (by rfl), (by rfl), (by rfl), (by rfl), (by rfl),  trivial⟩, hS16⟩
          ·
            rintro v56 H17 hS17
            clear hSc8
            refine AnyW.onlyQ 4 rfl (by kernel_rfl) rfl (dst_lt rfl) (q_load (v := lv) (by kernel_rfl) rfl (hS17.blk at3) rfl) ?_
            refine AnyW.only 7 rfl (by kernel_rfl) rfl (dst_lt rfl) (s_append (sz := 3) (by_ := 40) (z := .agg #[S [], .int .i64 0, S []]) hS17 at2 Try.underlying67 (by kernel_rfl) (by kernel_rfl) (by kernel_rfl) rfl (by kernel_rfl) rfl rfl (src_vec (hS17.vec at0) (fun u hu => oneC_one ⟨tWho (firstS (all.drop a) s.h).1.body, tSeq (firstS (all.drop a) s.h).1.body, tDat (firstS (all.drop a) s.h).1.body⟩ u hu)) (by unfold maxLen; omega) (by omega)) ?_
            rintro v57 H18 hS18
            clear hS17
            replace hS18 := hS18.del del0
            refine AnyW.onlyQ 8 rfl (by kernel_rfl) rfl (dst_lt rfl) (q_nilCheck rfl) ?_
            refine AnyW.onlyQ 9 rfl (by kernel_rfl) rfl (dst_lt rfl) (q_fieldAddr (sz := 0) Try.underlying69 rfl (by kernel_rfl) rfl) ?_
            refine AnyW.only 10 rfl (by kernel_rfl) rfl rfl (s_storeC (v := v57) hS18 at2 (by kernel_rfl) rfl rfl (hS18.vec at1).one (by simp; done)) ?_
            rintro _ H19 ⟨rfl, hS19⟩
            clear hS18
            refine AnyW.done (by kernel_rfl) ?_
            exact CutP.go ⟨v57, _, trivial, Slots.eq ⟨(by rfl), (by rfl), (by rfl), (by rfl), (by rfl), (by rfl),  trivial⟩, hS19⟩
      rintro _ Hc20 ⟨lv2, _, _, rfl, hSc20⟩
      try clear hSc8
      refine AW.seq ?_
      refine AW.region ?_
      refine OpsW.q rfl (q_move (v := .pointer _) rfl) ?_
      refine OpsW.q rfl (q_move (v := S _) rfl) ?_
      refine OpsW.q rfl (q_nilCheck rfl) ?_
      refine OpsW.q rfl (q_fieldAddr (sz := 0) Try.underlying69 rfl (by kernel_rfl) rfl) ?_
      refine OpsW.ms (s_storeC (v := S _) hSc20 at2 (by kernel_rfl) rfl rfl rfl (by simp; done)) ?_
      rintro _ H21 ⟨rfl, hS21⟩
      clear hSc20
      refine OpsW.nil ?_
      refine SeqP.go ?_
      refine AW.region ?_
      refine OpsW.q rfl (q_move (v := .int _ _) rfl) ?_
      refine OpsW.q rfl (q_move (v := .int _ _) rfl) ?_
      refine OpsW.q rfl (q_addI rfl rfl (by omega)) ?_
      refine OpsW.q rfl (q_assign (v := .int _ _) rfl) ?_
      refine OpsW.nil ?_
      refine BlockP.go ?_
      replace hS21 := hS21.del del0
      exact LoopP.go _ (by omega) ⟨a + stepS s (all.drop a), nextS s (all.drop a), lv2, _, rfl, ⟨hok2, by omega, by omega, by omega, hI5, hhd2⟩, Slots.eq ⟨(by rfl), (by rfl), (by rfl), (by show Value.int .i64 ((a : Int) + (firstS (all.drop a) s.h).1.size) = Value.int .i64 _; rw [hgl.2.2.1]; rfl),  trivial⟩, (by rw [hnx, List.length_append, rowsV_append, rowsV_one]; exact hS21)⟩
    ·
      have hw2 : (firstS (all.drop a) s.h).2 = false := by simpa using hw
      rw [hw2]
      refine AW.drawK [] 11 rfl (by kernel_rfl) ?_
      refine SeqK.q rfl (q_move (v := .bool _) rfl) ?_
      refine SeqK.q rfl (q_not rfl) ?_
      refine SeqK.q rfl (q_move (v := .bool true) rfl) ?_
      refine SeqK.p rfl rfl ?_
      refine SeqK.p rfl rfl ?_
      refine SeqK.p rfl rfl ?_
      refine SeqK.p rfl rfl ?_
      refine SeqK.p rfl rfl ?_
      refine SeqK.p rfl rfl ?_
      refine SeqK.p rfl rfl ?_
      refine SeqK.p rfl rfl ?_
      refine SeqK.done ?_
      refine OpsW.p rfl rfl ?_
      refine OpsW.q rfl (q_or2 (B := false) rfl rfl rfl) ?_
      refine OpsW.nil ?_
      refine SeqP.go ?_
      refine AW.cond rfl (fun h1 => ?_) (fun h1 => ?_)
      ·
        try simp only [decide_eq_true_eq, decide_eq_false_iff_not, Bool.or_eq_true, Bool.and_eq_true, Bool.or_eq_false_iff, Bool.and_eq_false_imp, Bool.not_eq_true', Bool.not_eq_false', ne_eq, Decidable.not_not, Int.not_lt, Int.not_le, Bool.not_eq_true, Bool.not_eq_false] at h1
        have hend : ¬ goesS s (all.drop a) := fun g => hw g.1
        refine AW.exit ?_
        refine SeqP.exit ?_
        refine BlockP.far rfl ?_
        refine LoopP.exit ?_
        rw [scanS_end hend] at hI4 hI5
        have hN1 : (scanS st0 all).1 = a := hI4.symm
        have hN2 : (scanS st0 all).2 = s := hI5.symm
        refine BlockP.here ?_
        refine SeqP.go ?_
        refine AW.seq ?_
        refine AW.seq ?_
        refine AW.region ?_
        refine OpsW.q rfl (q_move (v := .int _ _) rfl) ?_
        refine OpsW.q rfl (q_move (v := S _) rfl) ?_
        refine OpsW.q rfl (q_lenS Try.underlying9 rfl) ?_
        refine OpsW.q rfl (q_lss rfl rfl) ?_
        refine OpsW.nil ?_
        refine SeqP.go ?_
        refine AW.cond rfl (fun h2 => ?_) (fun h2 => ?_)
        ·
          try simp only [decide_eq_true_eq, decide_eq_false_iff_not, Bool.or_eq_true, Bool.and_eq_true, Bool.or_eq_false_iff, Bool.and_eq_false_imp, Bool.not_eq_true', Bool.not_eq_false', ne_eq, Decidable.not_not, Int.not_lt, Int.not_le, Bool.not_eq_true, Bool.not_eq_false] at h2
          have hoc : openR r = cutR r (a : Int) := by rw [openR_go hd2, openRC_cut (by rw [← hall, hN1]; omega), ← hall, hN1]
          refine AW.region ?_
          refine OpsW.q rfl (q_move (v := .pointer _) rfl) ?_
          refine OpsW.q rfl (q_move (v := .int _ _) rfl) ?_
          obtain ⟨Hf22, le22, hA22, hB22⟩ := hSc8.framed at3
          refine OpsW.m rfl (o_call rfl Try.func49 rfl rfl (CutR_s hA22 hrf _)) ?_
          rintro _ H22 ⟨rfl, hR22⟩
          have hS22 := hB22 _ _ hR22
          clear hR22 hB22 hA22
          clear hSc8
          refine OpsW.q rfl (q_assign (v := .int _ _) rfl) ?_
          refine OpsW.nil ?_
          refine SeqP.go ?_
          refine AW.seq ?_
          refine AW.seq ?_
          refine AW.region ?_
          refine OpsW.q rfl (q_move (v := .int _ _) rfl) ?_
          refine OpsW.q rfl (q_neq rfl rfl) ?_
          refine OpsW.nil ?_
          refine SeqP.go ?_
          refine AW.cond rfl (fun h3 => ?_) (fun h3 => ?_)
          ·
            try simp only [decide_eq_true_eq, decide_eq_false_iff_not, Bool.or_eq_true, Bool.and_eq_true, Bool.or_eq_false_iff, Bool.and_eq_false_imp, Bool.not_eq_true', Bool.not_eq_false', ne_eq, Decidable.not_not, Int.not_lt, Int.not_le, Bool.not_eq_true, Bool.not_eq_false] at h3
            refine AW.seq ?_
            refine AW.region ?_
            refine OpsW.q rfl (q_move (v := .int _ _) rfl) ?_
            refine OpsW.q rfl (q_assign (v := .pointer _) rfl) ?_
            refine OpsW.q rfl (q_assign (v := .int _ _) rfl) ?_
            refine OpsW.nil ?_
            refine SeqP.go ?_
            refine AW.ret ?_
            refine SeqP.ret ?_
            refine RetP.mk2 (H' := _) (v1 := .pointer _) (v2 := .int _ _) rfl rfl rfl  (Hp.le_refl _) ?_
            exact .inl ⟨by rw [hoc]; simpa using h3, by rw [hoc], by rw [hoc]; exact hS22.tail.tail.tail⟩
          try simp only [decide_eq_true_eq, decide_eq_false_iff_not, Bool.or_eq_true, Bool.and_eq_true, Bool.or_eq_false_iff, Bool.and_eq_false_imp, Bool.not_eq_true', Bool.not_eq_false', ne_eq, Decidable.not_not, Int.not_lt, Int.not_le, Bool.not_eq_true, Bool.not_eq_false] at h3
          refine AW.skip ?_
          refine SeqP.go ?_
          refine AW.seq ?_
          refine AW.region ?_
          refine OpsW.q rfl (q_move (v := .pointer _) rfl) ?_
          refine OpsW.q rfl (q_assign (v := .pointer _) rfl) ?_
          refine OpsW.q rfl (q_assign (v := .int _ _) rfl) ?_
          refine OpsW.nil ?_
          refine SeqP.go ?_
          refine AW.ret ?_
          refine RetP.mk2 (H' := _) (v1 := .pointer _) (v2 := .int _ _) rfl rfl rfl  (Hp.le_refl _) ?_
          refine .inr ⟨by rw [hoc]; simpa using h3, b23, rfl, ?_⟩
          rw [hoc, hN2]
          exact rf_close (lv := lv) (Sep.bring del1 hS22.tail)
        try simp only [decide_eq_true_eq, decide_eq_false_iff_not, Bool.or_eq_true, Bool.and_eq_true, Bool.or_eq_false_iff, Bool.and_eq_false_imp, Bool.not_eq_true', Bool.not_eq_false', ne_eq, Decidable.not_not, Int.not_lt, Int.not_le, Bool.not_eq_true, Bool.not_eq_false] at h2
        have hoc : openR r = syncR r := by rw [openR_go hd2, openRC_sync (by rw [← hall, hN1]; omega)]
        refine AW.region ?_
        refine OpsW.q rfl (q_move (v := .pointer _) rfl) ?_
        obtain ⟨Hf23, le23, hA23, hB23⟩ := hSc8.framed at3
        refine OpsW.m rfl (o_call rfl Try.func50 rfl rfl (SyncR_s hA23 hrf)) ?_
        rintro _ H23 ⟨rfl, hR23⟩
        have hS23 := hB23 _ _ hR23
        clear hR23 hB23 hA23
        clear hSc8
        refine OpsW.q rfl (q_assign (v := .int _ _) rfl) ?_
        refine OpsW.nil ?_
        refine SeqP.go ?_
        refine AW.seq ?_
        refine AW.seq ?_
        refine AW.region ?_
        refine OpsW.q rfl (q_move (v := .int _ _) rfl) ?_
        refine OpsW.q rfl (q_neq rfl rfl) ?_
        refine OpsW.nil ?_
        refine SeqP.go ?_
        refine AW.cond rfl (fun h3 => ?_) (fun h3 => ?_)
        ·
          try simp only [decide_eq_true_eq, decide_eq_false_iff_not, Bool.or_eq_true, Bool.and_eq_true, Bool.or_eq_false_iff, Bool.and_eq_false_imp, Bool.not_eq_true', Bool.not_eq_false', ne_eq, Decidable.not_not, Int.not_lt, Int.not_le, Bool.not_eq_true, Bool.not_eq_false] at h3
          refine AW.seq ?_
          refine AW.region ?_
          refine OpsW.q rfl (q_move (v := .int _ _) rfl) ?_
          refine OpsW.q rfl (q_assign (v := .pointer _) rfl) ?_
          refine OpsW.q rfl (q_assign (v := .int _ _) rfl) ?_
          refine OpsW.nil ?_
          refine SeqP.go ?_
          refine AW.ret ?_
          refine SeqP.ret ?_
          refine RetP.mk2 (H' := _) (v1 := .pointer _) (v2 := .int _ _) rfl rfl rfl  (Hp.le_refl _) ?_
          exact .inl ⟨by rw [hoc]; simpa using h3, by rw [hoc], by rw [hoc]; exact hS23.tail.tail.tail⟩
        try simp only [decide_eq_true_eq, decide_eq_false_iff_not, Bool.or_eq_true, Bool.and_eq_true, Bool.or_eq_false_iff, Bool.and_eq_false_imp, Bool.not_eq_true', Bool.not_eq_false', ne_eq, Decidable.not_not, Int.not_lt, Int.not_le, Bool.not_eq_true, Bool.not_eq_false] at h3
        refine AW.skip ?_
        refine SeqP.go ?_
        refine AW.seq ?_
        refine AW.region ?_
        refine OpsW.q rfl (q_move (v := .pointer _) rfl) ?_
        refine OpsW.q rfl (q_assign (v := .pointer _) rfl) ?_
        refine OpsW.q rfl (q_assign (v := .int _ _) rfl) ?_
        refine OpsW.nil ?_
        refine SeqP.go ?_
        refine AW.ret ?_
        refine RetP.mk2 (H' := _) (v1 := .pointer _) (v2 := .int _ _) rfl rfl rfl  (Hp.le_refl _) ?_
        refine .inr ⟨by rw [hoc]; simpa using h3, b23, rfl, ?_⟩
        rw [hoc, hN2]
        exact rf_close (lv := lv) (Sep.bring del1 hS23.tail)
      exfalso
      try simp only [decide_eq_true_eq, decide_eq_false_iff_not, Bool.or_eq_true, Bool.and_eq_true, Bool.or_eq_false_iff, Bool.and_eq_false_imp, Bool.not_eq_true', Bool.not_eq_false', ne_eq, Decidable.not_not, Int.not_lt, Int.not_le, Bool.not_eq_true, Bool.not_eq_false] at h1
      simp at h1
end
end Go.Proofs.Ytfiojlmccflplaa
end
section
namespace Go.Proofs.Ytfiojlmccflplaa
open Go Go.RowKit D
set_option linter.unusedVariables false
set_option linter.unusedSimpArgs false
def Inv (s : TapeS) (r : RefS) : Prop := Sim s r ∧ TapeOk s ∧ r.ar ≤ 9223372036854775807
theorem Inv.ref {s : TapeS} {r : RefS} (h : Inv s r) : RefOk r := h.1.ok h.2.1 h.2.2
theorem inv_new {n : Int} (h : 1 ≤ n ∧ n ≤ 16777216) : Inv (tape0 n) ⟨[], 0, n, 0, false⟩ :=
  ⟨⟨rfl, rfl, rfl, rfl, fun _ => rfl⟩, ⟨h.2, by simp [tape0]; omega, by simp [tape0], by simp [tape0]⟩, by simp⟩
theorem Inv.len {s : TapeS} {r : RefS} (h : Inv s r) : (r.t.length : Int) = ((s.f.length + s.l.length : Nat) : Int) := by rw [h.1.t, List.length_append]
theorem act_sim {s : TapeS} {r : RefS} (h : Inv s r) (hd : s.dd = false) : (actP s).1 = (if (actR r).dd = true then 41 else 0) ∧ Inv (actP s).2 (actR r) ∧ (s.ar = 1 ↔ (actR r).dd = true) := by
  have hI := h
  obtain ⟨⟨h1, h2, h3, h4, h5⟩, ⟨k1, k2, k3, k4⟩, h6⟩ := h
  have har := h5 hd
  by_cases ha : s.ar = 1
  · rw [actP_die ha, actR_pos (by omega)]
    refine ⟨by simp [har, ha], ⟨⟨h1, h2, h3, by simp [har, ha], fun h => by simp at h⟩, ⟨k1, k2, k3, k4⟩, by show r.ar - 1 ≤ _; omega⟩, by simp [har, ha]⟩
  · rw [actP_go ha]
    by_cases h0 : 0 < r.ar
    · rw [actR_pos h0]
      refine ⟨by simp; omega, ⟨⟨h1, h2, h3, ?_, fun _ => by show r.ar - 1 = max 0 (s.ar - 1); omega⟩, ⟨k1, k2, by show 0 ≤ max 0 (s.ar - 1); omega, by show max 0 (s.ar - 1) ≤ _; omega⟩, by show r.ar - 1 ≤ _; omega⟩, by simp; omega⟩
      show decide (r.ar - 1 = 0) = s.dd
      rw [hd]; simp; omega
    · rw [actR_zero (by omega)]
      refine ⟨by simp [h4, hd], ⟨⟨h1, h2, h3, h4, fun _ => by show r.ar = max 0 (s.ar - 1); omega⟩, ⟨k1, k2, by show 0 ≤ max 0 (s.ar - 1); omega, by show max 0 (s.ar - 1) ≤ _; omega⟩, h6⟩, by simp [h4, hd]; omega⟩
theorem inv_append {s : TapeS} {r : RefS} (h : Inv s r) (d : List UInt8) : (appendR r d).1 = (appendP s d).1 ∧ Inv (appendP s d).2 (appendR r d).2 := by
  have hI := h
  have hlen := h.len
  obtain ⟨⟨h1, h2, h3, h4, h5⟩, ⟨k1, k2, k3, k4⟩, h6⟩ := h
  by_cases hd : s.dd = true
  · rw [appendP_dead hd]; unfold appendR; rw [if_pos (by rw [h4, hd])]; exact ⟨rfl, hI⟩
  · have hd' : s.dd = false := by simpa using hd
    have hn : ¬ r.dd = true := by rw [h4]; exact hd
    by_cases hf : s.lim < ((s.f.length + s.l.length : Nat) : Int) + (d.length : Int)
    · rw [appendP_full hd' hf]; unfold appendR; rw [if_neg hn, if_pos (by omega)]; exact ⟨rfl, hI⟩
    · rw [appendP_ok hd' (by omega)]; unfold appendR; rw [if_neg hn, if_neg (by omega)]
      have hI2 : Inv { s with l := s.l ++ d } { r with t := r.t ++ d } := by
        refine ⟨⟨by show r.t ++ d = s.f ++ (s.l ++ d); rw [h1, List.append_assoc], h2, h3, h4, h5⟩, ⟨k1, ?_, k3, k4⟩, h6⟩
        show ((s.f.length + (s.l ++ d).length : Nat) : Int) ≤ s.lim
        rw [List.length_append]; omega
      have := act_sim hI2 hd'
      exact ⟨this.1.symm, this.2.1⟩
theorem inv_sync {s : TapeS} {r : RefS} (h : Inv s r) : (syncR r).1 = (syncP s).1 ∧ Inv (syncP s).2 (syncR r).2 := by
  have hI := h
  have hlen := h.len
  obtain ⟨⟨h1, h2, h3, h4, h5⟩, ⟨k1, k2, k3, k4⟩, h6⟩ := h
  by_cases hd : s.dd = true
  · rw [syncP_dead hd, syncR_dead (by rw [h4, hd])]; exact ⟨rfl, hI⟩
  · have hd' : s.dd = false := by simpa using hd
    have hn : r.dd = false := by rw [h4, hd']
    obtain ⟨a1, a2, a3⟩ := act_sim hI hd'
    by_cases ha : s.ar = 1
    · rw [syncP_die hd' ha, syncR_die hn (a3.1 ha)]; rw [actP_die ha] at a2; exact ⟨rfl, a2⟩
    · have hnd : (actR r).dd = false := by simpa using fun h => ha (a3.2 h)
      rw [syncP_ok hd' ha, syncR_ok hn hnd]; rw [actP_go ha] at a2
      obtain ⟨⟨b1, b2, b3, b4, b5⟩, ⟨c1, c2, c3, c4⟩, b6⟩ := a2
      exact ⟨rfl, ⟨by show (actR r).t = (s.f ++ s.l) ++ []; rw [b1, List.append_nil], by show ((actR r).t.length : Int) = ((s.f ++ s.l).length : Int); rw [b1], b3, b4, b5⟩, ⟨c1, by show (((s.f ++ s.l).length + 0 : Nat) : Int) ≤ s.lim; rw [List.length_append]; omega, c3, c4⟩, b6⟩
theorem inv_cut {s : TapeS} {r : RefS} (h : Inv s r) (n : Int) : (cutR r n).1 = (cutP s n).1 ∧ Inv (cutP s n).2 (cutR r n).2 := by
  have hI := h
  have hlen := h.len
  obtain ⟨⟨h1, h2, h3, h4, h5⟩, ⟨k1, k2, k3, k4⟩, h6⟩ := h
  by_cases hd : s.dd = true
  · rw [cutP_dead hd, cutR_dead (by rw [h4, hd])]; exact ⟨rfl, hI⟩
  · have hd' : s.dd = false := by simpa using hd
    have hn : r.dd = false := by rw [h4, hd']
    by_cases hb : n < 0 ∨ ((s.f.length + s.l.length : Nat) : Int) < n
    · rw [cutP_bad hd' hb, cutR_bad hn (by omega)]; exact ⟨rfl, hI⟩
    · obtain ⟨a1, a2, a3⟩ := act_sim hI hd'
      by_cases ha : s.ar = 1
      · rw [cutP_die hd' (by omega) ha, cutR_die hn (by omega) (a3.1 ha)]; rw [actP_die ha] at a2; exact ⟨rfl, a2⟩
      · have hnd : (actR r).dd = false := by simpa using fun h => ha (a3.2 h)
        rw [cutP_ok hd' (by omega) ha, cutR_ok hn (by omega) hnd]; rw [actP_go ha] at a2
        obtain ⟨⟨b1, b2, b3, b4, b5⟩, ⟨c1, c2, c3, c4⟩, b6⟩ := a2
        have htl : ((s.f ++ s.l).take n.toNat).length = n.toNat := by rw [List.length_take, List.length_append]; omega
        refine ⟨rfl, ⟨by show (actR r).t.take n.toNat = (s.f ++ s.l).take n.toNat ++ []; rw [b1, List.append_nil], by show n = (((s.f ++ s.l).take n.toNat).length : Int); rw [htl]; omega, b3, b4, b5⟩, ⟨c1, ?_, c3, c4⟩, b6⟩
        show ((((s.f ++ s.l).take n.toNat).length + 0 : Nat) : Int) ≤ s.lim
        rw [htl]; omega
theorem inv_arm {s : TapeS} {r : RefS} (h : Inv s r) {n : Int} (hn : n ≤ 9223372036854775807) : Inv (armP s n) (armR r n) := by
  obtain ⟨⟨h1, h2, h3, h4, h5⟩, ⟨k1, k2, k3, k4⟩, h6⟩ := h
  exact ⟨⟨h1, h2, h3, h4, fun _ => rfl⟩, ⟨k1, k2, by show 0 ≤ max n 0; omega, by show max n 0 ≤ _; omega⟩, by show max n 0 ≤ _; omega⟩
theorem spoilP_length (l : List UInt8) : (spoilP l).length = l.length := by
  unfold spoilP; split
  · rfl
  · rw [List.length_append, List.length_take, toB_length]; simp; omega
theorem spoilP_app (f l : List UInt8) (h : 0 < l.length) : spoilP (f ++ l) = f ++ spoilP l := by
  unfold spoilP
  rw [if_neg (by rw [List.length_append]; omega), if_neg (by omega)]
  have hb : bt (f ++ l) ((f ++ l).length - 1) = bt l (l.length - 1) := by
    unfold bt
    rw [List.getD_eq_getElem?_getD, List.getD_eq_getElem?_getD, List.getElem?_append_right (by rw [List.length_append]; omega)]
    rw [List.length_append, show f.length + l.length - 1 - f.length = l.length - 1 from by omega]
  rw [hb, List.length_append, List.take_append, show f.length + l.length - 1 - f.length = l.length - 1 from by omega, List.take_of_length_le (by omega), List.append_assoc]
theorem spoilP_nil : spoilP [] = [] := rfl
def keptP (s : TapeS) (keep : Int) (spoil : Bool) : List UInt8 := if spoil = true then spoilP (s.l.take (max 0 (min keep (s.l.length : Int))).toNat) else s.l.take (max 0 (min keep (s.l.length : Int))).toNat
theorem crashP_eq (s : TapeS) (keep : Int) (spoil : Bool) : crashP s keep spoil = { s with f := s.f ++ keptP s keep spoil, l := [], dd := false, ar := 0 } := rfl
theorem kept_length (s : TapeS) (keep : Int) (spoil : Bool) : (keptP s keep spoil).length ≤ s.l.length ∧ ((keptP s keep spoil).length : Int) ≤ max 0 keep := by
  have : (keptP s keep spoil).length = (s.l.take (max 0 (min keep (s.l.length : Int))).toNat).length := by unfold keptP; split; rw [spoilP_length]; rfl
  rw [this, List.length_take]; omega
theorem crash_same {s : TapeS} {r : RefS} (h : Inv s r) (keep : Int) (spoil : Bool) : crashT r keep spoil = s.f ++ keptP s keep spoil := by
  have hlen := h.len
  obtain ⟨⟨h1, h2, h3, h4, h5⟩, ⟨k1, k2, k3, k4⟩, h6⟩ := h
  unfold crashT keptP
  have hn : max 0 (min keep ((r.t.length : Int) - r.firm)) = max 0 (min keep (s.l.length : Int)) := by omega
  rw [hn, h1, h2]
  obtain ⟨k, hk, hkl⟩ : ∃ k : Nat, max 0 (min keep (s.l.length : Int)) = (k : Int) ∧ k ≤ s.l.length := ⟨(max 0 (min keep (s.l.length : Int))).toNat, by omega, by omega⟩
  rw [hk, show ((s.f.length : Int) + (k : Int)).toNat = s.f.length + k from by omega, Int.toNat_natCast]
  have ht : (s.f ++ s.l).take (s.f.length + k) = s.f ++ s.l.take k := by rw [List.take_append, List.take_of_length_le (by omega), Nat.add_sub_cancel_left]
  rw [ht]
  have htl : (s.l.take k).length = k := by rw [List.length_take]; omega
  by_cases hs : spoil = true
  · rw [if_pos hs]
    by_cases hk0 : 0 < k
    · rw [if_pos ⟨hs, by omega⟩, spoilP_app _ _ (by omega)]
    · rw [if_neg (fun h => by omega), show k = 0 from by omega]; simp [spoilP_nil]
  · rw [if_neg hs, if_neg (fun h => hs h.1)]
theorem inv_crash {s : TapeS} {r : RefS} (h : Inv s r) (keep : Int) (spoil : Bool) : Inv (crashP s keep spoil) (crashR r keep spoil) := by
  have hc := crash_same h keep spoil
  have hl := kept_length s keep spoil
  obtain ⟨⟨h1, h2, h3, h4, h5⟩, ⟨k1, k2, k3, k4⟩, h6⟩ := h
  rw [crashP_eq]; unfold crashR
  rw [hc]
  refine ⟨⟨by show _ = _ ++ []; rw [List.append_nil], rfl, h3, rfl, fun _ => rfl⟩, ⟨k1, ?_, by show (0 : Int) ≤ 0; omega, by show (0 : Int) ≤ _; omega⟩, by show (0 : Int) ≤ _; omega⟩
  show (((s.f ++ keptP s keep spoil).length + 0 : Nat) : Int) ≤ s.lim
  rw [List.length_append]; omega
theorem inv_read {s : TapeS} {r : RefS} (h : Inv s r) : readR r = readP s := by
  unfold readR readP; rw [h.1.dd, h.1.t]
theorem inv_dd {s : TapeS} {r : RefS} (h : Inv s r) : r.dd = s.dd := h.1.dd
end Go.Proofs.Ytfiojlmccflplaa
end
section
namespace Go.Proofs.Ytfiojlmccflplaa
open Go Go.RowKit D
set_option linter.unusedVariables false
set_option linter.unusedSimpArgs false
set_option maxRecDepth 100000
set_option maxHeartbeats 1000000
section
variable {w0 : World} {H : Hp} {H0 : Hp} {b : Nat} {r : RefS}
theorem New_s (n : Int) : Con Try.prog w0 14 #[.int .i64 n] H (fun v H' => ((n < 1 ∨ 16777216 < n) ∧ v = .tuple #[.pointer none, .int .i64 1] ∧ H' = H) ∨ ((1 ≤ n ∧ n ≤ 16777216) ∧ ∃ b, v = .tuple #[PT b, .int .i64 0] ∧ Sep H [tapeC b (tape0 n)] H')) := by
  have hS0 : Sep H [] H := Sep.refl
  refine Con.intro Try.func14 rfl rfl ?_
  refine AW.seq ?_
  refine AW.region ?_
  refine OpsW.q rfl (q_assign (v := .pointer _) rfl) ?_
  refine OpsW.q rfl (q_assign (v := .int _ _) rfl) ?_
  refine OpsW.nil ?_
  refine SeqP.go ?_
  refine AW.seq ?_
  refine AW.seq ?_
  refine AW.region ?_
  refine OpsW.q rfl (q_move (v := .int _ _) rfl) ?_
  refine OpsW.q rfl (q_lss rfl rfl) ?_
  refine OpsW.qb rfl (q_move (v := .bool _) rfl) ?_
  intro b6 eb6
  refine OpsW.g rfl rfl rfl (fun hB => by simp only [Bool.and_eq_true, beq_iff_eq] at hB; obtain rfl := hB; exact (q_move (v := .int _ _) rfl)) ?_
  refine OpsW.g rfl rfl rfl (fun hB => by simp only [Bool.and_eq_true, beq_iff_eq] at hB; obtain rfl := hB; exact (q_gtr rfl rfl)) ?_
  refine OpsW.q rfl (q_or2 rfl rfl rfl) ?_
  refine OpsW.nil ?_
  refine SeqP.go ?_
  refine AW.cond rfl (fun h0 => ?_) (fun h0 => ?_)
  ·
    try simp only [eb6, decide_eq_true_eq, decide_eq_false_iff_not, Bool.or_eq_true, Bool.and_eq_true, Bool.or_eq_false_iff, Bool.and_eq_false_imp, Bool.not_eq_true', Bool.not_eq_false', ne_eq, Decidable.not_not, Int.not_lt, Int.not_le, Bool.not_eq_true, Bool.not_eq_false] at h0
    have hbad : n < 1 ∨ 16777216 < n := by simp_all <;> omega
    refine AW.seq ?_
    refine AW.region ?_
    refine OpsW.q rfl (q_assign (v := .pointer _) rfl) ?_
    refine OpsW.q rfl (q_assign (v := .int _ _) rfl) ?_
    refine OpsW.nil ?_
    refine SeqP.go ?_
    refine AW.ret ?_
    refine SeqP.ret ?_
    refine RetP.mk2 (H' := H) (v1 := .pointer _) (v2 := .int _ _) rfl rfl rfl  (Hp.le_refl _) ?_
    exact .inl ⟨hbad, rfl, rfl⟩
  try simp only [eb6, decide_eq_true_eq, decide_eq_false_iff_not, Bool.or_eq_true, Bool.and_eq_true, Bool.or_eq_false_iff, Bool.and_eq_false_imp, Bool.not_eq_true', Bool.not_eq_false', ne_eq, Decidable.not_not, Int.not_lt, Int.not_le, Bool.not_eq_true, Bool.not_eq_false] at h0
  have hin : 1 ≤ n ∧ n ≤ 16777216 := by simp_all <;> omega
  refine AW.skip ?_
  refine SeqP.go ?_
  refine AW.seq ?_
  refine AW.region ?_
  refine OpsW.q rfl (q_move (v := .int _ _) rfl) ?_
  refine OpsW.q rfl (q_build (cells := #[.int .i64 n, nilV, nilV, .int .i64 0, .bool false]) rfl (by kernel_rfl)) ?_
  refine OpsW.m rfl (s_box (v := .agg _) hS0 rfl rfl) ?_
  rintro _ H1 ⟨b12, rfl, hS1⟩
  clear hS0
  refine OpsW.q rfl (q_assign (v := .pointer _) rfl) ?_
  refine OpsW.q rfl (q_assign (v := .int _ _) rfl) ?_
  refine OpsW.nil ?_
  refine SeqP.go ?_
  refine AW.ret ?_
  refine RetP.mk2 (H' := H1) (v1 := .pointer _) (v2 := .int _ _) rfl rfl rfl  (Hp.le_refl _) ?_
  exact .inr ⟨hin, b12, rfl, tape_new hS1⟩
theorem NewR_s (n : Int) : Con Try.prog w0 25 #[.int .i64 n] H (fun v H' => ((n < 1 ∨ 16777216 < n) ∧ v = .tuple #[.pointer none, .int .i64 1] ∧ H' = H) ∨ ((1 ≤ n ∧ n ≤ 16777216) ∧ ∃ b, v = .tuple #[PT b, .int .i64 0] ∧ Sep H [.blk b (rblk ⟨[], 0, n, 0, false⟩)] H')) := by
  have hS0 : Sep H [] H := Sep.refl
  refine Con.intro Try.func25 rfl rfl ?_
  refine AW.seq ?_
  refine AW.region ?_
  refine OpsW.q rfl (q_assign (v := .pointer _) rfl) ?_
  refine OpsW.q rfl (q_assign (v := .int _ _) rfl) ?_
  refine OpsW.nil ?_
  refine SeqP.go ?_
  refine AW.seq ?_
  refine AW.seq ?_
  refine AW.region ?_
  refine OpsW.q rfl (q_move (v := .int _ _) rfl) ?_
  refine OpsW.q rfl (q_lss rfl rfl) ?_
  refine OpsW.qb rfl (q_move (v := .bool _) rfl) ?_
  intro b6 eb6
  refine OpsW.g rfl rfl rfl (fun hB => by simp only [Bool.and_eq_true, beq_iff_eq] at hB; obtain rfl := hB; exact (q_move (v := .int _ _) rfl)) ?_
  refine OpsW.g rfl rfl rfl (fun hB => by simp only [Bool.and_eq_true, beq_iff_eq] at hB; obtain rfl := hB; exact (q_gtr rfl rfl)) ?_
  refine OpsW.q rfl (q_or2 rfl rfl rfl) ?_
  refine OpsW.nil ?_
  refine SeqP.go ?_
  refine AW.cond rfl (fun h0 => ?_) (fun h0 => ?_)
  ·
    try simp only [eb6, decide_eq_true_eq, decide_eq_false_iff_not, Bool.or_eq_true, Bool.and_eq_true, Bool.or_eq_false_iff, Bool.and_eq_false_imp, Bool.not_eq_true', Bool.not_eq_false', ne_eq, Decidable.not_not, Int.not_lt, Int.not_le, Bool.not_eq_true, Bool.not_eq_false] at h0
    have hbad : n < 1 ∨ 16777216 < n := by simp_all <;> omega
    refine AW.seq ?_
    refine AW.region ?_
    refine OpsW.q rfl (q_assign (v := .pointer _) rfl) ?_
    refine OpsW.q rfl (q_assign (v := .int _ _) rfl) ?_
    refine OpsW.nil ?_
    refine SeqP.go ?_
    refine AW.ret ?_
    refine SeqP.ret ?_
    refine RetP.mk2 (H' := H) (v1 := .pointer _) (v2 := .int _ _) rfl rfl rfl  (Hp.le_refl _) ?_
    exact .inl ⟨hbad, rfl, rfl⟩
  try simp only [eb6, decide_eq_true_eq, decide_eq_false_iff_not, Bool.or_eq_true, Bool.and_eq_true, Bool.or_eq_false_iff, Bool.and_eq_false_imp, Bool.not_eq_true', Bool.not_eq_false', ne_eq, Decidable.not_not, Int.not_lt, Int.not_le, Bool.not_eq_true, Bool.not_eq_false] at h0
  have hin : 1 ≤ n ∧ n ≤ 16777216 := by simp_all <;> omega
  refine AW.skip ?_
  refine SeqP.go ?_
  refine AW.seq ?_
  refine AW.region ?_
  refine OpsW.q rfl (q_move (v := .int _ _) rfl) ?_
  refine OpsW.q rfl (q_build (cells := #[S [], .int .i64 0, .int .i64 n, .int .i64 0, .bool false]) rfl (by kernel_rfl)) ?_
  refine OpsW.m rfl (s_box (v := .agg _) hS0 rfl rfl) ?_
  rintro _ H1 ⟨b12, rfl, hS1⟩
  clear hS0
  refine OpsW.q rfl (q_assign (v := .pointer _) rfl) ?_
  refine OpsW.q rfl (q_assign (v := .int _ _) rfl) ?_
  refine OpsW.nil ?_
  refine SeqP.go ?_
  refine AW.ret ?_
  refine RetP.mk2 (H' := H1) (v1 := .pointer _) (v2 := .int _ _) rfl rfl rfl  (Hp.le_refl _) ?_
  exact .inr ⟨hin, b12, rfl, hS1⟩
theorem CrashR_s (hS0 : Sep H0 [.blk b (rblk r)] H) (hok : RefOk r) (x : Int) (sp : Bool) : Con Try.prog w0 29 #[PT b, .int .i64 x, .bool sp] H (fun v H' => v = .tuple #[] ∧ Sep H0 [.blk b (rblk (crashR r x sp))] H') := by
  obtain ⟨ho1, ho2, ho3, ho4⟩ := hok
  refine Con.intro Try.func29 rfl rfl ?_
  refine AW.seq ?_
  refine AW.drawK [] 11 rfl (by kernel_rfl) ?_
  refine SeqK.q rfl (q_move (v := .int _ _) rfl) ?_
  refine SeqK.q rfl (q_move (v := .pointer _) rfl) ?_
  refine SeqK.q rfl (q_nilCheck rfl) ?_
  refine SeqK.q rfl (q_fieldAddr (sz := 0) Try.underlying90 rfl (by kernel_rfl) rfl) ?_
  refine SeqK.q rfl (q_load (v := S _) (by kernel_rfl) rfl (hS0.blk at0) rfl) ?_
  refine SeqK.q rfl (q_lenS Try.underlying9 rfl) ?_
  refine SeqK.q rfl (q_move (v := .pointer _) rfl) ?_
  refine SeqK.q rfl (q_nilCheck rfl) ?_
  refine SeqK.q rfl (q_fieldAddr (sz := 0) Try.underlying90 rfl (by kernel_rfl) rfl) ?_
  refine SeqK.q rfl (q_load (v := .int _ _) (by kernel_rfl) rfl (hS0.blk at0) rfl) ?_
  refine SeqK.q rfl (q_subI rfl rfl (by omega)) ?_
  refine SeqK.done ?_
  refine OpsW.q rfl (q_min rfl rfl) ?_
  refine OpsW.q rfl (q_max rfl rfl) ?_
  obtain ⟨k, hk, hk1⟩ : ∃ k : Nat, max 0 (min x ((r.t.length : Int) - r.firm)) = (k : Int) ∧ (k : Int) ≤ (r.t.length : Int) - r.firm := ⟨(max 0 (min x ((r.t.length : Int) - r.firm))).toNat, by omega, by omega⟩
  have hcr : crashT r x sp = if sp = true ∧ 0 < (k : Int) then spoilP (r.t.take (r.firm + (k : Int)).toNat) else r.t.take (r.firm + (k : Int)).toNat := by unfold crashT; rw [hk]
  rw [hk]
  obtain ⟨kt, hkt⟩ : ∃ kt, kt = r.t.take (r.firm + (k : Int)).toNat := ⟨_, rfl⟩
  have hkl : (kt.length : Int) = r.firm + (k : Int) := by rw [hkt, List.length_take]; omega
  rw [← hkt] at hcr
  refine OpsW.q rfl (q_assign (v := .int _ _) rfl) ?_
  refine OpsW.nil ?_
  refine SeqP.go ?_
  refine AW.seq ?_
  refine AW.drawK [] 10 rfl (by kernel_rfl) ?_
  refine SeqK.q rfl (q_move (v := .pointer _) rfl) ?_
  refine SeqK.q rfl (q_nilCheck rfl) ?_
  refine SeqK.q rfl (q_fieldAddr (sz := 0) Try.underlying90 rfl (by kernel_rfl) rfl) ?_
  refine SeqK.q rfl (q_load (v := S _) (by kernel_rfl) rfl (hS0.blk at0) rfl) ?_
  refine SeqK.q rfl (q_move (v := .pointer _) rfl) ?_
  refine SeqK.q rfl (q_nilCheck rfl) ?_
  refine SeqK.q rfl (q_fieldAddr (sz := 0) Try.underlying90 rfl (by kernel_rfl) rfl) ?_
  refine SeqK.q rfl (q_load (v := .int _ _) (by kernel_rfl) rfl (hS0.blk at0) rfl) ?_
  refine SeqK.q rfl (q_move (v := .int _ _) rfl) ?_
  refine SeqK.q rfl (q_addI rfl rfl (by omega)) ?_
  refine SeqK.done ?_
  refine OpsW.q rfl (q_sliceS_hi Try.underlying9 rfl rfl (by omega) (by omega)) ?_
  rw [← hkt]
  refine OpsW.q rfl (q_assign (v := S _) rfl) ?_
  refine OpsW.nil ?_
  refine SeqP.go ?_
  refine AW.seq ?_
  refine AW.seq ?_
  refine AW.region ?_
  refine OpsW.q rfl (q_move (v := .bool _) rfl) ?_
  refine OpsW.qb rfl (q_move (v := .bool _) rfl) ?_
  intro b33 eb33
  refine OpsW.g rfl rfl rfl (fun hB => by simp only [Bool.and_eq_true, beq_iff_eq] at hB; obtain rfl := hB; exact (q_move (v := .int _ _) rfl)) ?_
  refine OpsW.g rfl rfl rfl (fun hB => by simp only [Bool.and_eq_true, beq_iff_eq] at hB; obtain rfl := hB; exact (q_gtr rfl rfl)) ?_
  refine OpsW.q rfl (q_and2 rfl rfl rfl) ?_
  refine OpsW.nil ?_
  refine SeqP.go ?_
  refine AW.cond rfl (fun h0 => ?_) (fun h0 => ?_)
  ·
    try simp only [eb33, decide_eq_true_eq, decide_eq_false_iff_not, Bool.or_eq_true, Bool.and_eq_true, Bool.or_eq_false_iff, Bool.and_eq_false_imp, Bool.not_eq_true', Bool.not_eq_false', ne_eq, Decidable.not_not, Int.not_lt, Int.not_le, Bool.not_eq_true, Bool.not_eq_false] at h0
    obtain ⟨hsp, hk0⟩ : sp = true ∧ 0 < k := by simp_all <;> omega
    rw [if_pos ⟨hsp, by omega⟩] at hcr
    refine AW.drawD 11 1 rfl (by kernel_rfl) (by kernel_rfl) ?_
    refine SeqD.a rfl (fun _ => q_move (v := S _) rfl) ?_
    refine SeqD.a rfl (fun _ => q_move (v := S _) rfl) ?_
    refine SeqD.a rfl (fun _ => q_lenS Try.underlying9 rfl) ?_
    refine SeqD.a rfl (fun _ => q_subI rfl rfl (by omega)) ?_
    refine SeqD.a rfl (fun _ => q_sliceS_hi Try.underlying9 rfl rfl (by omega) (by omega)) ?_
    refine SeqD.a rfl (fun _ => q_move (v := S _) rfl) ?_
    refine SeqD.a rfl (fun _ => q_move (v := S _) rfl) ?_
    refine SeqD.a rfl (fun _ => q_lenS Try.underlying9 rfl) ?_
    refine SeqD.a rfl (fun _ => q_subI rfl rfl (by omega)) ?_
    refine SeqD.a rfl (fun _ => q_indexS Try.underlying9 rfl rfl (by omega) (by omega)) ?_
    refine SeqD.a rfl (fun _ => q_xor rfl rfl) ?_
    refine SeqD.x rfl (s_buildSlice (z := .int .u8 0) (vs := nums .u8 [_]) hS0 Try.underlying72 (by kernel_rfl) (by kernel_rfl) rfl (by rfl) (by rfl) (by decide) rfl (nums_one _ _) rfl) ?_
    rintro v48 H1 hS1
    clear hS0
    refine ⟨trivial, ?_⟩
    refine SeqR2.q rfl (q_stringVec (hS1.vec at0) Try.underlying72 Try.underlying5 Try.underlying9 rfl) ?_
    refine SeqR2.done ?_
    refine OpsW.q rfl (q_cat rfl rfl (by simp only [nums_length, List.length_set, List.length_replicate, List.length_take, List.length_drop, List.length_append, List.length_cons, List.length_nil, ofB_length, toB_length]; omega)) ?_
    refine OpsW.q rfl (q_assign (v := S _) rfl) ?_
    refine OpsW.nil ?_
    refine SeqP.go ?_
    refine AW.seq ?_
    refine AW.region ?_
    refine OpsW.q rfl (q_move (v := .pointer _) rfl) ?_
    refine OpsW.q rfl (q_move (v := S _) rfl) ?_
    refine OpsW.q rfl (q_nilCheck rfl) ?_
    refine OpsW.q rfl (q_fieldAddr (sz := 0) Try.underlying90 rfl (by kernel_rfl) rfl) ?_
    refine OpsW.ms (s_storeC (v := S _) hS1 at1 (by kernel_rfl) rfl rfl rfl (by simp; done)) ?_
    rintro _ H2 ⟨rfl, hS2⟩
    clear hS1
    refine OpsW.nil ?_
    refine SeqP.go ?_
    refine AW.seq ?_
    refine AW.region ?_
    refine OpsW.q rfl (q_move (v := .pointer _) rfl) ?_
    refine OpsW.q rfl (q_move (v := S _) rfl) ?_
    refine OpsW.q rfl (q_lenS Try.underlying9 rfl) ?_
    refine OpsW.q rfl (q_nilCheck rfl) ?_
    refine OpsW.q rfl (q_fieldAddr (sz := 0) Try.underlying90 rfl (by kernel_rfl) rfl) ?_
    refine OpsW.ms (s_storeC (v := .int _ _) hS2 at1 (by kernel_rfl) rfl rfl rfl (by simp; done)) ?_
    rintro _ H3 ⟨rfl, hS3⟩
    clear hS2
    refine OpsW.nil ?_
    refine SeqP.go ?_
    refine AW.seq ?_
    refine AW.region ?_
    refine OpsW.q rfl (q_move (v := .pointer _) rfl) ?_
    refine OpsW.q rfl (q_nilCheck rfl) ?_
    refine OpsW.q rfl (q_fieldAddr (sz := 0) Try.underlying90 rfl (by kernel_rfl) rfl) ?_
    refine OpsW.ms (s_storeC (v := .bool _) hS3 at1 (by kernel_rfl) rfl rfl rfl (by simp; done)) ?_
    rintro _ H4 ⟨rfl, hS4⟩
    clear hS3
    refine OpsW.nil ?_
    refine SeqP.go ?_
    refine AW.region ?_
    refine OpsW.q rfl (q_move (v := .pointer _) rfl) ?_
    refine OpsW.q rfl (q_nilCheck rfl) ?_
    refine OpsW.q rfl (q_fieldAddr (sz := 0) Try.underlying90 rfl (by kernel_rfl) rfl) ?_
    refine OpsW.ms (s_storeC (v := .int _ _) hS4 at1 (by kernel_rfl) rfl rfl rfl (by simp; done)) ?_
    rintro _ H5 ⟨rfl, hS5⟩
    clear hS4
    refine OpsW.nil ?_
    refine RetP.end0 (H' := H5) rfl (Hp.le_refl _) ?_
    refine ⟨rfl, ?_⟩
    show Sep H0 [.blk b ⟨rcells ⟨crashT r x sp, ((crashT r x sp).length : Int), r.lim, 0, false⟩, _, _⟩] _
    rw [hcr, show spoilP kt = kt.take ((kt.length : Int) - 1).toNat ++ toB [ixor .u8 (bt kt ((kt.length : Int) - 1).toNat) 255] from by unfold spoilP; rw [if_neg (by omega), show ((kt.length : Int) - 1).toNat = kt.length - 1 from by omega]]
    exact hS5.tail
  try simp only [eb33, decide_eq_true_eq, decide_eq_false_iff_not, Bool.or_eq_true, Bool.and_eq_true, Bool.or_eq_false_iff, Bool.and_eq_false_imp, Bool.not_eq_true', Bool.not_eq_false', ne_eq, Decidable.not_not, Int.not_lt, Int.not_le, Bool.not_eq_true, Bool.not_eq_false] at h0
  rw [if_neg (by simp_all <;> omega)] at hcr
  refine AW.skip ?_
  refine SeqP.go ?_
  refine AW.seq ?_
  refine AW.region ?_
  refine OpsW.q rfl (q_move (v := .pointer _) rfl) ?_
  refine OpsW.q rfl (q_move (v := S _) rfl) ?_
  refine OpsW.q rfl (q_nilCheck rfl) ?_
  refine OpsW.q rfl (q_fieldAddr (sz := 0) Try.underlying90 rfl (by kernel_rfl) rfl) ?_
  refine OpsW.ms (s_storeC (v := S _) hS0 at0 (by kernel_rfl) rfl rfl rfl (by simp; done)) ?_
  rintro _ H6 ⟨rfl, hS6⟩
  clear hS0
  refine OpsW.nil ?_
  refine SeqP.go ?_
  refine AW.seq ?_
  refine AW.region ?_
  refine OpsW.q rfl (q_move (v := .pointer _) rfl) ?_
  refine OpsW.q rfl (q_move (v := S _) rfl) ?_
  refine OpsW.q rfl (q_lenS Try.underlying9 rfl) ?_
  refine OpsW.q rfl (q_nilCheck rfl) ?_
  refine OpsW.q rfl (q_fieldAddr (sz := 0) Try.underlying90 rfl (by kernel_rfl) rfl) ?_
  refine OpsW.ms (s_storeC (v := .int _ _) hS6 at0 (by kernel_rfl) rfl rfl rfl (by simp; done)) ?_
  rintro _ H7 ⟨rfl, hS7⟩
  clear hS6
  refine OpsW.nil ?_
  refine SeqP.go ?_
  refine AW.seq ?_
  refine AW.region ?_
  refine OpsW.q rfl (q_move (v := .pointer _) rfl) ?_
  refine OpsW.q rfl (q_nilCheck rfl) ?_
  refine OpsW.q rfl (q_fieldAddr (sz := 0) Try.underlying90 rfl (by kernel_rfl) rfl) ?_
  refine OpsW.ms (s_storeC (v := .bool _) hS7 at0 (by kernel_rfl) rfl rfl rfl (by simp; done)) ?_
  rintro _ H8 ⟨rfl, hS8⟩
  clear hS7
  refine OpsW.nil ?_
  refine SeqP.go ?_
  refine AW.region ?_
  refine OpsW.q rfl (q_move (v := .pointer _) rfl) ?_
  refine OpsW.q rfl (q_nilCheck rfl) ?_
  refine OpsW.q rfl (q_fieldAddr (sz := 0) Try.underlying90 rfl (by kernel_rfl) rfl) ?_
  refine OpsW.ms (s_storeC (v := .int _ _) hS8 at0 (by kernel_rfl) rfl rfl rfl (by simp; done)) ?_
  rintro _ H9 ⟨rfl, hS9⟩
  clear hS8
  refine OpsW.nil ?_
  refine RetP.end0 (H' := H9) rfl (Hp.le_refl _) ?_
  refine ⟨rfl, ?_⟩
  show Sep H0 [.blk b ⟨rcells ⟨crashT r x sp, ((crashT r x sp).length : Int), r.lim, 0, false⟩, _, _⟩] _
  rw [hcr]
  exact hS9
end
end Go.Proofs.Ytfiojlmccflplaa
end
