/-
  The walks of package store: frames, and what is taken up.
-/
import Derived.Test.YtfiojlmccflplaaDQ
import Derived.Test.YtfiojlmccflplaaProg
import Derived.Test.YtfiojlmccflplaaSs
import Derived.Test.YtfiojlmccflplaaSi
import Derived.Test.YtfiojlmccflplaaDK
namespace Go.Proofs.Ytfiojlmccflplaa
open Go Go.RowKit D
set_option linter.unusedVariables false
set_option linter.unusedSimpArgs false
set_option maxRecDepth 100000
set_option maxHeartbeats 2000000
section
variable {w0 : World} {H : Hp} {H0 : Hp}

theorem numberS_con {s : List UInt8} (h4 : 4 ≤ s.length) : Con Try.prog w0 55 #[S s] H (fun v H' => v = .int .i64 (numB s) ∧ H' = H) := by
  have hS0 : Sep H [] H := Sep.refl
  have b0 := bt_range s 0
  have b1 := bt_range s 1
  have b2 := bt_range s 2
  have b3 := bt_range s 3
  refine Con.intro Try.func55 rfl rfl ?_
  refine AW.seq ?_
  refine AW.region ?_
  refine OpsW.q rfl (q_assign (v := .int _ _) rfl) ?_
  refine OpsW.nil ?_
  refine SeqP.go ?_
  refine AW.seq ?_
  refine AW.drawK [] 17 rfl (by kernel_rfl) ?_
  refine SeqK.q rfl (q_move (v := S _) rfl) ?_
  refine SeqK.q rfl (q_indexSL 0 Try.underlying9 rfl rfl (by omega)) ?_
  refine SeqK.q rfl (q_convBI rfl Try.underlying3 rfl) ?_
  refine SeqK.q rfl (q_shlL 24 rfl rfl (by decide) rfl) ?_
  refine SeqK.q rfl (q_move (v := S _) rfl) ?_
  refine SeqK.q rfl (q_indexSL 1 Try.underlying9 rfl rfl (by omega)) ?_
  refine SeqK.q rfl (q_convBI rfl Try.underlying3 rfl) ?_
  refine SeqK.q rfl (q_shlL 16 rfl rfl (by decide) rfl) ?_
  refine SeqK.q rfl (q_or rfl rfl) ?_
  refine SeqK.q rfl (q_move (v := S _) rfl) ?_
  refine SeqK.q rfl (q_indexSL 2 Try.underlying9 rfl rfl (by omega)) ?_
  refine SeqK.q rfl (q_convBI rfl Try.underlying3 rfl) ?_
  refine SeqK.q rfl (q_shlL 8 rfl rfl (by decide) rfl) ?_
  refine SeqK.q rfl (q_or rfl rfl) ?_
  refine SeqK.q rfl (q_move (v := S _) rfl) ?_
  refine SeqK.q rfl (q_indexSL 3 Try.underlying9 rfl rfl (by omega)) ?_
  refine SeqK.q rfl (q_convBI rfl Try.underlying3 rfl) ?_
  refine SeqK.done ?_
  refine OpsW.q rfl (q_or rfl rfl) ?_
  refine OpsW.q rfl (q_assign (v := .int _ _) rfl) ?_
  refine OpsW.nil ?_
  refine SeqP.go ?_
  refine AW.ret ?_
  refine RetP.mk1 (H' := H) (v1 := .int _ _) rfl rfl  hS0.le ?_
  refine ⟨?_, rfl⟩
  exact congrArg (Value.int .i64) (num_eq s)
theorem fourS_con (n : Int) : Con Try.prog w0 57 #[.int .i64 n] H (fun v H' => v = S (fourB n) ∧ H' = H) := by
  have hS0 : Sep H [] H := Sep.refl
  refine Con.intro Try.func57 rfl rfl ?_
  refine AW.seq ?_
  refine AW.region ?_
  refine OpsW.q rfl (q_assign (v := S _) rfl) ?_
  refine OpsW.nil ?_
  refine SeqP.go ?_
  refine AW.seq ?_
  refine AW.region ?_
  refine OpsW.q rfl (q_move (v := .int _ _) rfl) ?_
  refine OpsW.q rfl (q_shrL 24 rfl rfl (by decide) rfl) ?_
  refine OpsW.q rfl (q_convInt rfl Try.underlying5 rfl) ?_
  refine OpsW.q rfl (q_move (v := .int _ _) rfl) ?_
  refine OpsW.q rfl (q_shrL 16 rfl rfl (by decide) rfl) ?_
  refine OpsW.q rfl (q_convInt rfl Try.underlying5 rfl) ?_
  refine OpsW.q rfl (q_move (v := .int _ _) rfl) ?_
  refine OpsW.q rfl (q_shrL 8 rfl rfl (by decide) rfl) ?_
  refine OpsW.q rfl (q_convInt rfl Try.underlying5 rfl) ?_
  refine OpsW.q rfl (q_move (v := .int _ _) rfl) ?_
  refine OpsW.q rfl (q_convInt rfl Try.underlying5 rfl) ?_
  refine OpsW.m rfl (s_buildSlice (z := .int .u8 0) (vs := nums .u8 [_, _, _, _]) hS0 Try.underlying72 (by kernel_rfl) (by kernel_rfl) rfl (by rfl) (by rfl) (by decide) rfl (nums_one _ _) rfl) ?_
  rintro v14 H1 hS1
  clear hS0
  refine OpsW.q rfl (q_stringVec (hS1.vec at0) Try.underlying72 Try.underlying5 Try.underlying9 rfl) ?_
  refine OpsW.q rfl (q_assign (v := S _) rfl) ?_
  refine OpsW.nil ?_
  refine SeqP.go ?_
  refine AW.ret ?_
  refine RetP.mk1 (H' := H) (v1 := S _) rfl rfl  hS1.le ?_
  exact ⟨by rw [fourB_def], rfl⟩
theorem zero_con  : Con Try.prog w0 38 #[] H (fun v H' => v = S z32 ∧ H' = H) := by
  have hS0 : Sep H [] H := Sep.refl
  refine Con.intro Try.func38 rfl rfl ?_
  refine AW.seq ?_
  refine AW.region ?_
  refine OpsW.q rfl (q_assign (v := S _) rfl) ?_
  refine OpsW.nil ?_
  refine SeqP.go ?_
  refine AW.seq ?_
  refine AW.region ?_
  refine OpsW.m rfl (s_makeSliceB (by_ := 1) hS0 Try.underlying72 (by kernel_rfl) (by kernel_rfl) (by kernel_rfl) rfl rfl (by first | omega | decide) (by first | omega | decide) (by first | (with_reducible assumption) | omega | (unfold maxLen; omega) | (simp only [nums_length, List.length_set, List.length_replicate, List.length_take, List.length_drop, List.length_append, List.length_cons, List.length_nil, ofB_length, toB_length]; omega) | (simp only [nums_length, List.length_set, List.length_replicate, List.length_take, List.length_drop, List.length_append, List.length_cons, List.length_nil, ofB_length, toB_length]; unfold maxLen; omega) | (simp; done) | (simp; omega) | rfl | decide) (by first | (with_reducible assumption) | omega | (unfold maxLen; omega) | (simp only [nums_length, List.length_set, List.length_replicate, List.length_take, List.length_drop, List.length_append, List.length_cons, List.length_nil, ofB_length, toB_length]; omega) | (simp only [nums_length, List.length_set, List.length_replicate, List.length_take, List.length_drop, List.length_append, List.length_cons, List.length_nil, ofB_length, toB_length]; unfold maxLen; omega) | (simp; done) | (simp; omega) | rfl | decide) (by first | (with_reducible assumption) | omega | (unfold maxLen; omega) | (simp only [nums_length, List.length_set, List.length_replicate, List.length_take, List.length_drop, List.length_append, List.length_cons, List.length_nil, ofB_length, toB_length]; omega) | (simp only [nums_length, List.length_set, List.length_replicate, List.length_take, List.length_drop, List.length_append, List.length_cons, List.length_nil, ofB_length, toB_length]; unfold maxLen; omega) | (simp; done) | (simp; omega) | rfl | decide)) ?_
  rintro v1 H1 hS1
  clear hS0
  refine OpsW.q rfl (q_stringB (hS1.vec at0) Try.underlying72 Try.underlying5 Try.underlying9 rfl) ?_
  refine OpsW.q rfl (q_assign (v := S _) rfl) ?_
  refine OpsW.nil ?_
  refine SeqP.go ?_
  refine AW.ret ?_
  refine RetP.mk1 (H' := H) (v1 := S _) rfl rfl  hS1.le ?_
  exact ⟨rfl, rfl⟩
theorem firstS_con {s hd : List UInt8} (hm : s.length ≤ 1000000000) (hh : hd.length ≤ 1000000) : Con Try.prog w0 39 #[S s, S hd] H (fun v H' => v = .tuple #[.agg #[S (firstS s hd).1.body, .int .i64 (firstS s hd).1.size, S (firstS s hd).1.next], .bool (firstS s hd).2] ∧ H' = H) := by
  have hS0 : Sep H [] H := Sep.refl
  have hnr := numB_range s
  refine Con.intro Try.func39 rfl rfl ?_
  refine AW.seq ?_
  refine AW.region ?_
  refine OpsW.m rfl (s_alloc (z := .agg #[S [], .int .i64 0, S []]) (cs := [S [], .int .i64 0, S []]) hS0 (by kernel_rfl) rfl) ?_
  rintro _ H1 ⟨b4, rfl, hS1⟩
  clear hS0
  refine OpsW.q rfl (q_assign (v := .bool _) rfl) ?_
  refine OpsW.nil ?_
  refine SeqP.go ?_
  refine AW.seq ?_
  refine AW.seq ?_
  refine AW.region ?_
  refine OpsW.q rfl (q_move (v := S _) rfl) ?_
  refine OpsW.q rfl (q_lenS Try.underlying9 rfl) ?_
  refine OpsW.q rfl (q_lss rfl rfl) ?_
  refine OpsW.nil ?_
  refine SeqP.go ?_
  refine AW.cond rfl (fun h0 => ?_) (fun h0 => ?_)
  ·
    try simp only [decide_eq_true_eq, decide_eq_false_iff_not, Bool.or_eq_true, Bool.and_eq_true, Bool.or_eq_false_iff, Bool.and_eq_false_imp, Bool.not_eq_true', Bool.not_eq_false', ne_eq, Decidable.not_not, Int.not_lt, Int.not_le, Bool.not_eq_true, Bool.not_eq_false] at h0
    rw [firstS_no (by unfold frOk; omega)]
    refine AW.seq ?_
    refine AW.region ?_
    refine OpsW.q rfl (q_build (cells := #[S [], .int .i64 0, S []]) rfl (by kernel_rfl)) ?_
    refine OpsW.ms (s_storeS (n := 3) hS1 at0 (by kernel_rfl) rfl rfl rfl (ones_all rfl) rfl) ?_
    rintro _ H2 ⟨rfl, hS2⟩
    clear hS1
    refine OpsW.q rfl (q_assign (v := .bool _) rfl) ?_
    refine OpsW.nil ?_
    refine SeqP.go ?_
    refine AW.ret ?_
    refine SeqP.ret ?_
    refine RetP.mkc1 (m := 3) (v2 := .bool _) (H' := H) rfl rfl rfl (hS2.blk at0) (by first | (with_reducible assumption) | omega | (unfold maxLen; omega) | (simp only [nums_length, List.length_set, List.length_replicate, List.length_take, List.length_drop, List.length_append, List.length_cons, List.length_nil, ofB_length, toB_length]; omega) | (simp only [nums_length, List.length_set, List.length_replicate, List.length_take, List.length_drop, List.length_append, List.length_cons, List.length_nil, ofB_length, toB_length]; unfold maxLen; omega) | (simp; done) | (simp; omega) | rfl | decide) (by kernel_rfl) hS2.le ?_
    exact ⟨rfl, rfl⟩
  try simp only [decide_eq_true_eq, decide_eq_false_iff_not, Bool.or_eq_true, Bool.and_eq_true, Bool.or_eq_false_iff, Bool.and_eq_false_imp, Bool.not_eq_true', Bool.not_eq_false', ne_eq, Decidable.not_not, Int.not_lt, Int.not_le, Bool.not_eq_true, Bool.not_eq_false] at h0
  refine AW.skip ?_
  refine SeqP.go ?_
  refine AW.seq ?_
  refine AW.region ?_
  refine OpsW.q rfl (q_move (v := S _) rfl) ?_
  refine OpsW.q rfl (o_call rfl Try.func55 rfl rfl (numberS_con (by omega))) ?_
  refine OpsW.q rfl (q_assign (v := .int _ _) rfl) ?_
  refine OpsW.nil ?_
  refine SeqP.go ?_
  refine AW.seq ?_
  refine AW.seq ?_
  refine AW.region ?_
  refine OpsW.q rfl (q_move (v := .int _ _) rfl) ?_
  refine OpsW.q rfl (q_lss rfl rfl) ?_
  refine OpsW.qb rfl (q_move (v := .bool _) rfl) ?_
  intro b16 eb16
  refine OpsW.g rfl rfl rfl (fun hB => by simp only [Bool.and_eq_true, beq_iff_eq] at hB; obtain rfl := hB; exact (q_move (v := .int _ _) rfl)) ?_
  refine OpsW.g rfl rfl rfl (fun hB => by simp only [Bool.and_eq_true, beq_iff_eq] at hB; obtain rfl := hB; exact (q_gtr rfl rfl)) ?_
  refine OpsW.q rfl (q_or2 rfl rfl rfl) ?_
  refine OpsW.qb rfl (q_move (v := .bool _) rfl) ?_
  intro b20 eb20
  refine OpsW.g rfl rfl rfl (fun hB => by simp only [Bool.and_eq_true, beq_iff_eq] at hB; obtain rfl := hB; exact (q_move (v := S _) rfl)) ?_
  refine OpsW.g rfl rfl rfl (fun hB => by simp only [Bool.and_eq_true, beq_iff_eq] at hB; obtain rfl := hB; exact (q_lenS Try.underlying9 rfl)) ?_
  refine OpsW.g rfl rfl rfl (fun hB => by simp only [Bool.and_eq_true, beq_iff_eq] at hB; obtain rfl := hB; exact (q_move (v := .int _ _) rfl)) ?_
  refine OpsW.g rfl rfl rfl (fun hB => by simp only [Bool.and_eq_true, beq_iff_eq] at hB; obtain rfl := hB; (try simp only [eb16, Bool.true_eq, Bool.false_eq, decide_eq_true_eq, Bool.and_eq_true, Bool.or_eq_true, Bool.or_eq_false_iff, Bool.not_eq_true', decide_eq_false_iff_not, Int.not_lt, Int.not_le] at eb20); exact (q_addI rfl rfl (by omega))) ?_
  refine OpsW.g rfl rfl rfl (fun hB => by simp only [Bool.and_eq_true, beq_iff_eq] at hB; obtain rfl := hB; (try simp only [eb16, Bool.true_eq, Bool.false_eq, decide_eq_true_eq, Bool.and_eq_true, Bool.or_eq_true, Bool.or_eq_false_iff, Bool.not_eq_true', decide_eq_false_iff_not, Int.not_lt, Int.not_le] at eb20); exact (q_addI rfl rfl (by omega))) ?_
  refine OpsW.g rfl rfl rfl (fun hB => by simp only [Bool.and_eq_true, beq_iff_eq] at hB; obtain rfl := hB; exact (q_lss rfl rfl)) ?_
  refine OpsW.q rfl (q_or2 rfl rfl rfl) ?_
  refine OpsW.nil ?_
  refine SeqP.go ?_
  refine AW.cond rfl (fun h1 => ?_) (fun h1 => ?_)
  ·
    try simp only [eb16, eb20, decide_eq_true_eq, decide_eq_false_iff_not, Bool.or_eq_true, Bool.and_eq_true, Bool.or_eq_false_iff, Bool.and_eq_false_imp, Bool.not_eq_true', Bool.not_eq_false', ne_eq, Decidable.not_not, Int.not_lt, Int.not_le, Bool.not_eq_true, Bool.not_eq_false] at h1
    rw [firstS_no (by unfold frOk; simp_all <;> omega)]
    refine AW.seq ?_
    refine AW.region ?_
    refine OpsW.q rfl (q_build (cells := #[S [], .int .i64 0, S []]) rfl (by kernel_rfl)) ?_
    refine OpsW.ms (s_storeS (n := 3) hS1 at0 (by kernel_rfl) rfl rfl rfl (ones_all rfl) rfl) ?_
    rintro _ H3 ⟨rfl, hS3⟩
    clear hS1
    refine OpsW.q rfl (q_assign (v := .bool _) rfl) ?_
    refine OpsW.nil ?_
    refine SeqP.go ?_
    refine AW.ret ?_
    refine SeqP.ret ?_
    refine RetP.mkc1 (m := 3) (v2 := .bool _) (H' := H) rfl rfl rfl (hS3.blk at0) (by first | (with_reducible assumption) | omega | (unfold maxLen; omega) | (simp only [nums_length, List.length_set, List.length_replicate, List.length_take, List.length_drop, List.length_append, List.length_cons, List.length_nil, ofB_length, toB_length]; omega) | (simp only [nums_length, List.length_set, List.length_replicate, List.length_take, List.length_drop, List.length_append, List.length_cons, List.length_nil, ofB_length, toB_length]; unfold maxLen; omega) | (simp; done) | (simp; omega) | rfl | decide) (by kernel_rfl) hS3.le ?_
    exact ⟨rfl, rfl⟩
  try simp only [eb16, eb20, decide_eq_true_eq, decide_eq_false_iff_not, Bool.or_eq_true, Bool.and_eq_true, Bool.or_eq_false_iff, Bool.and_eq_false_imp, Bool.not_eq_true', Bool.not_eq_false', ne_eq, Decidable.not_not, Int.not_lt, Int.not_le, Bool.not_eq_true, Bool.not_eq_false] at h1
  have hok : frOk s := by unfold frOk; simp_all <;> omega
  rw [firstS_yes hok]
  obtain ⟨g1, g2, g3, g4, g5, g6⟩ := frOk_len hok
  refine AW.skip ?_
  refine SeqP.go ?_
  refine AW.seq ?_
  refine AW.drawD 15 0 rfl (by kernel_rfl) (by kernel_rfl) ?_
  refine SeqD.a rfl (fun _ => q_move (v := S _) rfl) ?_
  refine SeqD.a rfl (fun _ => q_move (v := .int _ _) rfl) ?_
  refine SeqD.a rfl (fun _ => q_addI rfl rfl (by omega)) ?_
  refine SeqD.a rfl (fun _ => q_sliceS Try.underlying9 rfl rfl rfl (by first | omega | decide) (by first | omega | decide) (by first | omega | decide)) ?_
  refine SeqD.a rfl (fun _ => q_move (v := .int _ _) rfl) ?_
  refine SeqD.a rfl (fun _ => q_addI rfl rfl (by omega)) ?_
  refine SeqD.a rfl (fun _ => q_addI rfl rfl (by omega)) ?_
  refine SeqD.a rfl (fun _ => q_move (v := S _) rfl) ?_
  refine SeqD.a rfl (fun _ => q_move (v := .int _ _) rfl) ?_
  refine SeqD.a rfl (fun _ => q_addI rfl rfl (by omega)) ?_
  refine SeqD.a rfl (fun _ => q_move (v := .int _ _) rfl) ?_
  refine SeqD.a rfl (fun _ => q_addI rfl rfl (by omega)) ?_
  refine SeqD.a rfl (fun _ => q_addI rfl rfl (by omega)) ?_
  refine SeqD.a rfl (fun _ => q_sliceS Try.underlying9 rfl rfl rfl (by first | omega | decide) (by first | omega | decide) (by first | omega | decide)) ?_
  refine SeqD.a rfl (fun _ => q_build (cells := #[S (frBody s), .int .i64 (4 + numB s + 32), S (frNext s)]) rfl (by kernel_rfl)) ?_
  refine SeqD.x rfl (s_alloc (z := .agg #[S [], .int .i64 0, S []]) (cs := [S [], .int .i64 0, S []]) hS1 (by kernel_rfl) rfl) ?_
  rintro _ H4 ⟨b7, rfl, hS4⟩
  clear hS1
  refine ⟨trivial, ?_⟩
  refine SeqR2.done ?_
  refine OpsW.ms (s_storeS (n := 3) hS4 at0 (by kernel_rfl) rfl rfl rfl (ones_all rfl) rfl) ?_
  rintro _ H5 ⟨rfl, hS5⟩
  clear hS4
  refine OpsW.nil ?_
  refine SeqP.go ?_
  refine AW.seq ?_
  refine AW.drawD 9 0 rfl (by kernel_rfl) (by kernel_rfl) ?_
  refine SeqD.b (by kernel_rfl) rfl (q_loadA0 (n := 3) (by kernel_rfl) rfl (hS5.blk at0) (by first | (with_reducible assumption) | omega | (unfold maxLen; omega) | (simp only [nums_length, List.length_set, List.length_replicate, List.length_take, List.length_drop, List.length_append, List.length_cons, List.length_nil, ofB_length, toB_length]; omega) | (simp only [nums_length, List.length_set, List.length_replicate, List.length_take, List.length_drop, List.length_append, List.length_cons, List.length_nil, ofB_length, toB_length]; unfold maxLen; omega) | (simp; done) | (simp; omega) | rfl | decide)) ?_
  refine SeqD.a rfl (fun _ => q_fieldAddr (sz := 0) Try.underlying74 rfl (by kernel_rfl) rfl) ?_
  refine SeqD.q rfl (q_load (v := S _) (by kernel_rfl) rfl (hS5.blk at0) rfl) ?_
  refine SeqD.a rfl (fun _ => q_move (v := S _) rfl) ?_
  refine SeqD.a rfl (fun _ => q_fieldAddr (sz := 0) Try.underlying74 rfl (by kernel_rfl) rfl) ?_
  refine SeqD.b (by kernel_rfl) rfl (q_load (v := S _) (by kernel_rfl) rfl (hS5.blk at0) rfl) ?_
  refine SeqD.a rfl (fun _ => q_cat rfl rfl (by first | (with_reducible assumption) | omega | (unfold maxLen; omega) | (simp only [nums_length, List.length_set, List.length_replicate, List.length_take, List.length_drop, List.length_append, List.length_cons, List.length_nil, ofB_length, toB_length]; omega) | (simp only [nums_length, List.length_set, List.length_replicate, List.length_take, List.length_drop, List.length_append, List.length_cons, List.length_nil, ofB_length, toB_length]; unfold maxLen; omega) | (simp; done) | (simp; omega) | rfl | decide)) ?_
  refine SeqD.a rfl (fun _ => o_call rfl Try.func56 rfl rfl (Sum256_con (by rw [List.length_append]; omega))) ?_
  refine SeqD.a rfl (fun _ => q_eqS rfl rfl) ?_
  refine SeqD.ms (s_storeS (n := 3) hS5 at1 (by kernel_rfl) rfl rfl rfl (ones_all rfl) rfl) ?_
  rintro _ H6 ⟨rfl, hS6⟩
  clear hS5
  refine ⟨⟨trivial, q_load (v := S _) (by kernel_rfl) rfl (hS6.blk at0) rfl⟩, ?_⟩
  refine SeqR2.done ?_
  refine OpsW.q rfl (q_assign (v := .bool _) rfl) ?_
  refine OpsW.nil ?_
  refine SeqP.go ?_
  refine AW.ret ?_
  refine RetP.mkc1 (m := 3) (v2 := .bool _) (H' := H) rfl rfl rfl (hS6.blk at1) (by first | (with_reducible assumption) | omega | (unfold maxLen; omega) | (simp only [nums_length, List.length_set, List.length_replicate, List.length_take, List.length_drop, List.length_append, List.length_cons, List.length_nil, ofB_length, toB_length]; omega) | (simp only [nums_length, List.length_set, List.length_replicate, List.length_take, List.length_drop, List.length_append, List.length_cons, List.length_nil, ofB_length, toB_length]; unfold maxLen; omega) | (simp; done) | (simp; omega) | rfl | decide) (by kernel_rfl) hS6.le ?_
  exact ⟨rfl, rfl⟩
theorem Mark_con {b tb mb : Nat} {x : StF} {who : List UInt8} {vs : Vals} (hb : H b = some (stBlk tb mb x)) (hmb : H mb = some (mpB (ents S vs))) (hV : Vec H 44 2 ((mgt vs who).getD nilV) (ofP x.st.L who).length (rowsV recC (ofP x.st.L who))) : Con Try.prog w0 18 #[.pointer (some ⟨b, 0, none⟩), S who] H (fun v H' => v = .int .i64 (mkP x.st.L who) ∧ H' = H) := by
  have hS0 : Sep H [] H := Sep.refl
  refine Con.intro Try.func18 rfl rfl ?_
  refine AW.seq ?_
  refine AW.region ?_
  refine OpsW.q rfl (q_assign (v := .int _ _) rfl) ?_
  refine OpsW.nil ?_
  refine SeqP.go ?_
  refine AW.seq ?_
  refine AW.seq ?_
  refine AW.region ?_
  refine OpsW.q rfl (q_move (v := .pointer _) rfl) ?_
  refine OpsW.q rfl (q_eqlP Try.underlying35 rfl rfl) ?_
  refine OpsW.nil ?_
  refine SeqP.go ?_
  refine AW.cond rfl (fun h0 => ?_) (fun h0 => ?_)
  ·
    exfalso
    try simp only [decide_eq_true_eq, decide_eq_false_iff_not, Bool.or_eq_true, Bool.and_eq_true, Bool.or_eq_false_iff, Bool.and_eq_false_imp, Bool.not_eq_true', Bool.not_eq_false', ne_eq, Decidable.not_not, Int.not_lt, Int.not_le, Bool.not_eq_true, Bool.not_eq_false] at h0
    first | contradiction | (simp at *; done) | simp_all
  try simp only [decide_eq_true_eq, decide_eq_false_iff_not, Bool.or_eq_true, Bool.and_eq_true, Bool.or_eq_false_iff, Bool.and_eq_false_imp, Bool.not_eq_true', Bool.not_eq_false', ne_eq, Decidable.not_not, Int.not_lt, Int.not_le, Bool.not_eq_true, Bool.not_eq_false] at h0
  refine AW.skip ?_
  refine SeqP.go ?_
  refine AW.seq ?_
  refine AW.region ?_
  refine OpsW.q rfl (q_move (v := .pointer _) rfl) ?_
  refine OpsW.q rfl (q_nilCheck rfl) ?_
  refine OpsW.q rfl (q_fieldAddr (sz := 0) Try.underlying85 rfl (by kernel_rfl) rfl) ?_
  refine OpsW.q rfl (q_load (v := .map _) (by kernel_rfl) rfl (hS0.old hb) rfl) ?_
  refine OpsW.q rfl (q_move (v := S _) rfl) ?_
  refine OpsW.q rfl (q_lookup (z := .slice none 0 0) Try.underlying52 (key_str Try.underlying9) (by kernel_rfl) rfl rfl (hS0.old hmb)) ?_
  refine OpsW.q rfl (q_lenVec Try.underlying46 rfl (Vec.le hV hS0.le)) ?_
  refine OpsW.q rfl (q_assign (v := .int _ _) rfl) ?_
  refine OpsW.nil ?_
  refine SeqP.go ?_
  refine AW.ret ?_
  refine RetP.mk1 (H' := H) (v1 := .int _ _) rfl rfl  hS0.le ?_
  exact ⟨rfl, rfl⟩
theorem Of_con {b tb mb : Nat} {x : StF} {who : List UInt8} {vs : Vals} (hb : H b = some (stBlk tb mb x)) (hmb : H mb = some (mpB (ents S vs))) (hV : Vec H 44 2 ((mgt vs who).getD nilV) (ofP x.st.L who).length (rowsV recC (ofP x.st.L who))) (hl : x.st.L.length ≤ 1000000000) : Con Try.prog w0 19 #[.pointer (some ⟨b, 0, none⟩), S who] H (fun v H' => Sep H [recV v (ofP x.st.L who)] H') := by
  have hS0 : Sep H [] H := Sep.refl
  have hol := ofP_len x.st.L who
  refine Con.intro Try.func19 rfl rfl ?_
  refine AW.seq ?_
  refine AW.region ?_
  refine OpsW.q rfl (q_assign (v := .slice _ _ _) rfl) ?_
  refine OpsW.nil ?_
  refine SeqP.go ?_
  refine AW.seq ?_
  refine AW.seq ?_
  refine AW.region ?_
  refine OpsW.q rfl (q_move (v := .pointer _) rfl) ?_
  refine OpsW.q rfl (q_eqlP Try.underlying35 rfl rfl) ?_
  refine OpsW.nil ?_
  refine SeqP.go ?_
  refine AW.cond rfl (fun h0 => ?_) (fun h0 => ?_)
  ·
    exfalso
    try simp only [decide_eq_true_eq, decide_eq_false_iff_not, Bool.or_eq_true, Bool.and_eq_true, Bool.or_eq_false_iff, Bool.and_eq_false_imp, Bool.not_eq_true', Bool.not_eq_false', ne_eq, Decidable.not_not, Int.not_lt, Int.not_le, Bool.not_eq_true, Bool.not_eq_false] at h0
    first | contradiction | (simp at *; done) | simp_all
  try simp only [decide_eq_true_eq, decide_eq_false_iff_not, Bool.or_eq_true, Bool.and_eq_true, Bool.or_eq_false_iff, Bool.and_eq_false_imp, Bool.not_eq_true', Bool.not_eq_false', ne_eq, Decidable.not_not, Int.not_lt, Int.not_le, Bool.not_eq_true, Bool.not_eq_false] at h0
  refine AW.skip ?_
  refine SeqP.go ?_
  refine AW.seq ?_
  refine AW.region ?_
  refine OpsW.q rfl (q_move (v := .pointer _) rfl) ?_
  refine OpsW.q rfl (q_nilCheck rfl) ?_
  refine OpsW.q rfl (q_fieldAddr (sz := 0) Try.underlying85 rfl (by kernel_rfl) rfl) ?_
  refine OpsW.q rfl (q_load (v := .map _) (by kernel_rfl) rfl (hS0.old hb) rfl) ?_
  refine OpsW.q rfl (q_move (v := S _) rfl) ?_
  refine OpsW.q rfl (q_lookup (z := .slice none 0 0) Try.underlying52 (key_str Try.underlying9) (by kernel_rfl) rfl rfl (hS0.old hmb)) ?_
  refine OpsW.m rfl (s_append0 (sz := 2) (by_ := 24) (z := .agg #[.int .i64 0, S []]) hS0 Try.underlying46 (by kernel_rfl) (by kernel_rfl) (by kernel_rfl) rfl (by kernel_rfl) rfl rfl (src_vec (Vec.le hV hS0.le) (fun u hu => by obtain ⟨r, _, hr⟩ := List.mem_flatMap.1 hu; exact recC_one r u hr)) (by first | (with_reducible assumption) | omega | (unfold maxLen; omega) | (simp only [nums_length, List.length_set, List.length_replicate, List.length_take, List.length_drop, List.length_append, List.length_cons, List.length_nil, ofB_length, toB_length]; omega) | (simp only [nums_length, List.length_set, List.length_replicate, List.length_take, List.length_drop, List.length_append, List.length_cons, List.length_nil, ofB_length, toB_length]; unfold maxLen; omega) | (simp; done) | (simp; omega) | rfl | decide) (by first | (with_reducible assumption) | omega | (unfold maxLen; omega) | (simp only [nums_length, List.length_set, List.length_replicate, List.length_take, List.length_drop, List.length_append, List.length_cons, List.length_nil, ofB_length, toB_length]; omega) | (simp only [nums_length, List.length_set, List.length_replicate, List.length_take, List.length_drop, List.length_append, List.length_cons, List.length_nil, ofB_length, toB_length]; unfold maxLen; omega) | (simp; done) | (simp; omega) | rfl | decide)) ?_
  rintro v13 H1 hS1
  clear hS0
  refine OpsW.q rfl (q_assign (v := v13) rfl) ?_
  refine OpsW.nil ?_
  refine SeqP.go ?_
  refine AW.ret ?_
  refine RetP.mk1 (H' := H1) (v1 := v13) rfl rfl  (Hp.le_refl _) ?_
  simpa using hS1
theorem Head_con {b tb mb : Nat} {x : StF} (hb : H b = some (stBlk tb mb x)) : Con Try.prog w0 20 #[.pointer (some ⟨b, 0, none⟩)] H (fun v H' => v = S x.st.h ∧ H' = H) := by
  have hS0 : Sep H [] H := Sep.refl
  refine Con.intro Try.func20 rfl rfl ?_
  refine AW.seq ?_
  refine AW.region ?_
  refine OpsW.q rfl (q_assign (v := S _) rfl) ?_
  refine OpsW.nil ?_
  refine SeqP.go ?_
  refine AW.seq ?_
  refine AW.seq ?_
  refine AW.region ?_
  refine OpsW.q rfl (q_move (v := .pointer _) rfl) ?_
  refine OpsW.q rfl (q_eqlP Try.underlying35 rfl rfl) ?_
  refine OpsW.nil ?_
  refine SeqP.go ?_
  refine AW.cond rfl (fun h0 => ?_) (fun h0 => ?_)
  ·
    exfalso
    try simp only [decide_eq_true_eq, decide_eq_false_iff_not, Bool.or_eq_true, Bool.and_eq_true, Bool.or_eq_false_iff, Bool.and_eq_false_imp, Bool.not_eq_true', Bool.not_eq_false', ne_eq, Decidable.not_not, Int.not_lt, Int.not_le, Bool.not_eq_true, Bool.not_eq_false] at h0
    first | contradiction | (simp at *; done) | simp_all
  try simp only [decide_eq_true_eq, decide_eq_false_iff_not, Bool.or_eq_true, Bool.and_eq_true, Bool.or_eq_false_iff, Bool.and_eq_false_imp, Bool.not_eq_true', Bool.not_eq_false', ne_eq, Decidable.not_not, Int.not_lt, Int.not_le, Bool.not_eq_true, Bool.not_eq_false] at h0
  refine AW.skip ?_
  refine SeqP.go ?_
  refine AW.seq ?_
  refine AW.region ?_
  refine OpsW.q rfl (q_move (v := .pointer _) rfl) ?_
  refine OpsW.q rfl (q_nilCheck rfl) ?_
  refine OpsW.q rfl (q_fieldAddr (sz := 0) Try.underlying85 rfl (by kernel_rfl) rfl) ?_
  refine OpsW.q rfl (q_load (v := S _) (by kernel_rfl) rfl (hS0.old hb) rfl) ?_
  refine OpsW.q rfl (q_assign (v := S _) rfl) ?_
  refine OpsW.nil ?_
  refine SeqP.go ?_
  refine AW.ret ?_
  refine RetP.mk1 (H' := H) (v1 := S _) rfl rfl  hS0.le ?_
  exact ⟨rfl, rfl⟩
theorem takeS_s {b tb mb : Nat} {x : StF} {body nx : List UInt8} {sz : Int} (hS0 : Sep H0 [.blk b (stBlk tb mb x), .pred (stM mb x.st.L)] H) (hb : 36 ≤ body.length) (hbm : body.length ≤ 1099511627776) (hl : x.st.L.length ≤ 1000000000) : Con Try.prog w0 44 #[.pointer (some ⟨b, 0, none⟩), .agg #[S body, .int .i64 sz, S nx]] H (fun v H' => v = .bool (takeS x.st body nx).1 ∧ Sep H0 [.blk b (stBlk tb mb ⟨(takeS x.st body nx).2, x.dd⟩), .pred (stM mb (takeS x.st body nx).2.L)] H') := by
  obtain ⟨vs, ov, hov, hnd, hno, hSo⟩ := st_open (tWho body) (Sep.bring del1 hS0)
  have hS1 : Sep H0 [.blk b ⟨[.pointer (some ⟨tb, 0, none⟩), S x.st.h, .map (some mb), .bool x.dd], 4, 85⟩, .blk mb (mpB (ents S vs)), .vec ov 44 2 (ofP x.st.L (tWho body)).length (rowsV recC (ofP x.st.L (tWho body))), .pred (stEx x.st.L vs (tWho body))] H := Sep.bring del3 hSo
  clear hSo hS0
  have hol := ofP_len x.st.L (tWho body)
  have hmk : 0 ≤ mkP x.st.L (tWho body) ∧ mkP x.st.L (tWho body) ≤ 1000000000 := by unfold mkP; omega
  have hnr := numB_range (body.drop (Int.toNat 32))
  refine Con.intro Try.func44 rfl rfl ?_
  refine AW.seq ?_
  refine AW.region ?_
  refine OpsW.m rfl (s_box (v := .agg _) hS1 rfl rfl) ?_
  rintro _ H1 ⟨b3, rfl, hS1x⟩
  clear hS1
  refine OpsW.q rfl (q_assign (v := .bool _) rfl) ?_
  refine OpsW.nil ?_
  refine SeqP.go ?_
  refine AW.seq ?_
  refine AW.drawD 11 1 rfl (by kernel_rfl) (by kernel_rfl) ?_
  refine SeqD.a rfl (fun _ => q_fieldAddr (sz := 0) Try.underlying74 rfl (by kernel_rfl) rfl) ?_
  refine SeqD.q rfl (q_load (v := S _) (by kernel_rfl) rfl (hS1x.blk at0) rfl) ?_
  refine SeqD.a rfl (fun _ => q_sliceS_hi Try.underlying9 rfl rfl (by first | omega | decide) (by first | omega | decide)) ?_
  rw [show body.take (Int.toNat 32) = tWho body from rfl]
  refine SeqD.a rfl (fun _ => q_fieldAddr (sz := 0) Try.underlying74 rfl (by kernel_rfl) rfl) ?_
  refine SeqD.q rfl (q_load (v := S _) (by kernel_rfl) rfl (hS1x.blk at0) rfl) ?_
  refine SeqD.a rfl (fun _ => q_sliceS_lo Try.underlying9 rfl rfl (by first | omega | decide) (by first | omega | decide)) ?_
  refine SeqD.a rfl (fun _ => o_call rfl Try.func55 rfl rfl (numberS_con (by rw [List.length_drop]; show 4 ≤ body.length - 32; omega))) ?_
  rw [show numB (body.drop (Int.toNat 32)) = tSeq body from rfl]
  refine SeqD.a rfl (fun _ => q_fieldAddr (sz := 0) Try.underlying74 rfl (by kernel_rfl) rfl) ?_
  refine SeqD.q rfl (q_load (v := S _) (by kernel_rfl) rfl (hS1x.blk at0) rfl) ?_
  refine SeqD.a rfl (fun _ => q_sliceS_lo Try.underlying9 rfl rfl (by first | omega | decide) (by first | omega | decide)) ?_
  rw [show body.drop (Int.toNat 36) = tDat body from rfl]
  refine SeqD.a rfl (fun _ => q_build (cells := #[.int .i64 (tSeq body), S (tDat body)]) rfl (by kernel_rfl)) ?_
  refine SeqD.x rfl (s_alloc (z := .agg #[.int .i64 0, S []]) (cs := [.int .i64 0, S []]) hS1x (by kernel_rfl) rfl) ?_
  rintro _ H2 ⟨b6, rfl, hS2⟩
  clear hS1x
  refine ⟨⟨⟨⟨trivial, q_load (v := S _) (by kernel_rfl) rfl (hS2.blk at1) rfl⟩, q_load (v := S _) (by kernel_rfl) rfl (hS2.blk at1) rfl⟩, q_load (v := S _) (by kernel_rfl) rfl (hS2.blk at1) rfl⟩, ?_⟩
  refine SeqR2.q rfl (q_assign (v := S _) rfl) ?_
  refine SeqR2.done ?_
  refine OpsW.ms (s_storeS (n := 2) hS2 at0 (by kernel_rfl) rfl rfl rfl (ones_all rfl) rfl) ?_
  rintro _ H3 ⟨rfl, hS3⟩
  clear hS2
  refine OpsW.nil ?_
  refine SeqP.go ?_
  refine AW.seq ?_
  refine AW.seq ?_
  refine AW.drawK [] 6 rfl (by kernel_rfl) ?_
  refine SeqK.q rfl (q_fieldAddr (sz := 0) Try.underlying44 rfl (by kernel_rfl) rfl) ?_
  refine SeqK.q rfl (q_load (v := .int _ _) (by kernel_rfl) rfl (hS3.blk at0) rfl) ?_
  refine SeqK.q rfl (q_move (v := .pointer _) rfl) ?_
  refine SeqK.q rfl (q_move (v := S _) rfl) ?_
  refine SeqK.q rfl (o_call rfl Try.func18 rfl rfl (Mark_con (vs := vs) (x := x) (hS3.blk (by first | exact at2 | exact at1)) (hS3.blk (by first | exact at3 | exact at2)) (by rw [hov]; exact hS3.vec (by first | exact at4 | exact at3)))) ?_
  refine SeqK.q rfl (q_addI rfl rfl (by omega)) ?_
  refine SeqK.done ?_
  refine OpsW.q rfl (q_neq rfl rfl) ?_
  refine OpsW.nil ?_
  refine SeqP.go ?_
  refine AW.cond rfl (fun h0 => ?_) (fun h0 => ?_)
  ·
    try simp only [decide_eq_true_eq, decide_eq_false_iff_not, Bool.or_eq_true, Bool.and_eq_true, Bool.or_eq_false_iff, Bool.and_eq_false_imp, Bool.not_eq_true', Bool.not_eq_false', ne_eq, Decidable.not_not, Int.not_lt, Int.not_le, Bool.not_eq_true, Bool.not_eq_false] at h0
    rw [takeS_no (by simp_all)]
    refine AW.seq ?_
    refine AW.region ?_
    refine OpsW.q rfl (q_assign (v := .bool _) rfl) ?_
    refine OpsW.nil ?_
    refine SeqP.go ?_
    refine AW.ret ?_
    refine SeqP.ret ?_
    refine RetP.mk1 (H' := _) (v1 := .bool _) rfl rfl  (Hp.le_refl _) ?_
    refine ⟨rfl, ?_⟩
    exact Sep.under hS3.tail.tail fun hG => st_shut hov hnd hno hG
  try simp only [decide_eq_true_eq, decide_eq_false_iff_not, Bool.or_eq_true, Bool.and_eq_true, Bool.or_eq_false_iff, Bool.and_eq_false_imp, Bool.not_eq_true', Bool.not_eq_false', ne_eq, Decidable.not_not, Int.not_lt, Int.not_le, Bool.not_eq_true, Bool.not_eq_false] at h0
  have hseq : tSeq body = mkP x.st.L (tWho body) + 1 := by simp_all
  rw [takeS_yes hseq]
  refine AW.skip ?_
  refine SeqP.go ?_
  refine AW.cut (fun e_ H_ => ∃ (ov2 : Value) (e0 : Env), (True) ∧ e_ = upds e0 [(0, .pointer (some ⟨b, 0, none⟩)), (3, .pointer (some ⟨b3, 0, none⟩))] ∧ Sep H0 [.blk b3 ⟨[S body, .int .i64 sz, S nx], 3, 74⟩, .blk b ⟨[.pointer (some ⟨tb, 0, none⟩), S x.st.h, .map (some mb), .bool x.dd], 4, 85⟩, .blk mb (mpB (ents S ((mst vs (tWho body) ov2)))), .vec ov2 44 2 ((ofP (x.st.L ++ ([⟨tWho body, tSeq body, tDat body⟩] : OneL)) (tWho body)).length) (rowsV recC (ofP (x.st.L ++ ([⟨tWho body, tSeq body, tDat body⟩] : OneL)) (tWho body))), .pred (stEx x.st.L vs (tWho body))] H_) ?_ ?_
  ·
    refine AW.steps rfl 15 rfl ?_
    refine AnyW.first 0 rfl (by kernel_rfl) (by kernel_rfl) (by kernel_rfl) rfl (dst_lt rfl) (v_move (v := .pointer _) rfl) ?_
    refine AnyW.first 1 rfl (by kernel_rfl) (by kernel_rfl) (by kernel_rfl) rfl (dst_lt rfl) (v_nilCheck rfl) ?_
    refine AnyW.first 2 rfl (by kernel_rfl) (by kernel_rfl) (by kernel_rfl) rfl (dst_lt rfl) (v_fieldAddr (sz := 0) Try.underlying85 rfl (by kernel_rfl) rfl) ?_
    refine AnyW.first 4 rfl (by kernel_rfl) (by kernel_rfl) (by kernel_rfl) rfl (dst_lt rfl) (v_move (v := S _) rfl) ?_
    refine AnyW.first 5 rfl (by kernel_rfl) (by kernel_rfl) (by kernel_rfl) rfl (dst_lt rfl) (v_move (v := .pointer _) rfl) ?_
    refine AnyW.first 6 rfl (by kernel_rfl) (by kernel_rfl) (by kernel_rfl) rfl (dst_lt rfl) (v_nilCheck rfl) ?_
    refine AnyW.first 7 rfl (by kernel_rfl) (by kernel_rfl) (by kernel_rfl) rfl (dst_lt rfl) (v_fieldAddr (sz := 0) Try.underlying85 rfl (by kernel_rfl) rfl) ?_
    refine AnyW.first 9 rfl (by kernel_rfl) (by kernel_rfl) (by kernel_rfl) rfl (dst_lt rfl) (v_move (v := S _) rfl) ?_
    refine AnyW.three 3 8 11 rfl rfl rfl (by kernel_rfl) rfl rfl rfl (dst_lt rfl) (dst_lt rfl) (dst_lt rfl) (q_load (v := .map _) (by kernel_rfl) rfl (hS3.blk at2) rfl) (q_load (v := .map _) (by kernel_rfl) rfl (hS3.blk at2) rfl) (q_loadA0 (n := 2) (by kernel_rfl) rfl (hS3.blk at0) (by first | (with_reducible assumption) | omega | (unfold maxLen; omega) | (simp only [nums_length, List.length_set, List.length_replicate, List.length_take, List.length_drop, List.length_append, List.length_cons, List.length_nil, ofB_length, toB_length]; omega) | (simp only [nums_length, List.length_set, List.length_replicate, List.length_take, List.length_drop, List.length_append, List.length_cons, List.length_nil, ofB_length, toB_length]; unfold maxLen; omega) | (simp; done) | (simp; omega) | rfl | decide)) ?_ ?_ ?_
    ·
      rintro _ _ ⟨rfl, rfl⟩
      refine AnyW.two 8 11 rfl rfl (by kernel_rfl) rfl rfl (dst_lt rfl) (dst_lt rfl) (q_load (v := .map _) (by kernel_rfl) rfl (hS3.blk at2) rfl) (q_loadA0 (n := 2) (by kernel_rfl) rfl (hS3.blk at0) (by first | (with_reducible assumption) | omega | (unfold maxLen; omega) | (simp only [nums_length, List.length_set, List.length_replicate, List.length_take, List.length_drop, List.length_append, List.length_cons, List.length_nil, ofB_length, toB_length]; omega) | (simp only [nums_length, List.length_set, List.length_replicate, List.length_take, List.length_drop, List.length_append, List.length_cons, List.length_nil, ofB_length, toB_length]; unfold maxLen; omega) | (simp; done) | (simp; omega) | rfl | decide)) ?_ ?_
      ·
        rintro _ _ ⟨rfl, rfl⟩
        refine AnyW.two 10 11 rfl rfl (by kernel_rfl) rfl rfl (dst_lt rfl) (dst_lt rfl) (q_lookup (z := .slice none 0 0) Try.underlying52 (key_str Try.underlying9) (by kernel_rfl) rfl rfl (hS3.blk at3)) (q_loadA0 (n := 2) (by kernel_rfl) rfl (hS3.blk at0) (by first | (with_reducible assumption) | omega | (unfold maxLen; omega) | (simp only [nums_length, List.length_set, List.length_replicate, List.length_take, List.length_drop, List.length_append, List.length_cons, List.length_nil, ofB_length, toB_length]; omega) | (simp only [nums_length, List.length_set, List.length_replicate, List.length_take, List.length_drop, List.length_append, List.length_cons, List.length_nil, ofB_length, toB_length]; unfold maxLen; omega) | (simp; done) | (simp; omega) | rfl | decide)) ?_ ?_
        ·
          rintro _ _ ⟨rfl, rfl⟩
          rw [hov]
          refine AnyW.onlyQ 11 rfl (by kernel_rfl) rfl (dst_lt rfl) (q_loadA0 (n := 2) (by kernel_rfl) rfl (hS3.blk at0) (by first | (with_reducible assumption) | omega | (unfold maxLen; omega) | (simp only [nums_length, List.length_set, List.length_replicate, List.length_take, List.length_drop, List.length_append, List.length_cons, List.length_nil, ofB_length, toB_length]; omega) | (simp only [nums_length, List.length_set, List.length_replicate, List.length_take, List.length_drop, List.length_append, List.length_cons, List.length_nil, ofB_length, toB_length]; unfold maxLen; omega) | (simp; done) | (simp; omega) | rfl | decide)) ?_
          refine AnyW.only 12 rfl (by kernel_rfl) rfl (dst_lt rfl) (s_buildSlice2 (z := .agg #[.int .i64 0, S []]) hS3 Try.underlying46 (by kernel_rfl) (by kernel_rfl) rfl) ?_
          rintro v37 H4 hS4
          clear hS3
          refine AnyW.only 13 rfl (by kernel_rfl) rfl (dst_lt rfl) (s_append (sz := 2) (by_ := 24) (z := .agg #[.int .i64 0, S []]) hS4 at5 Try.underlying46 (by kernel_rfl) (by kernel_rfl) (by kernel_rfl) rfl (by kernel_rfl) rfl rfl (src_vec (hS4.vec at0) (fun u hu => recC_one ⟨tSeq body, tDat body⟩ u hu)) (by first | (with_reducible assumption) | omega | (unfold maxLen; omega) | (simp only [nums_length, List.length_set, List.length_replicate, List.length_take, List.length_drop, List.length_append, List.length_cons, List.length_nil, ofB_length, toB_length]; omega) | (simp only [nums_length, List.length_set, List.length_replicate, List.length_take, List.length_drop, List.length_append, List.length_cons, List.length_nil, ofB_length, toB_length]; unfold maxLen; omega) | (simp; done) | (simp; omega) | rfl | decide) (by first | (with_reducible assumption) | omega | (unfold maxLen; omega) | (simp only [nums_length, List.length_set, List.length_replicate, List.length_take, List.length_drop, List.length_append, List.length_cons, List.length_nil, ofB_length, toB_length]; omega) | (simp only [nums_length, List.length_set, List.length_replicate, List.length_take, List.length_drop, List.length_append, List.length_cons, List.length_nil, ofB_length, toB_length]; unfold maxLen; omega) | (simp; done) | (simp; omega) | rfl | decide)) ?_
          rintro v38 H5 hS5
          clear hS4
          replace hS5 := hS5.del del0
          refine AnyW.only 14 rfl (by kernel_rfl) rfl rfl (s_mapUpdate (u := v38) hS5 at3 Try.underlying52 (key_str Try.underlying9) rfl rfl rfl) ?_
          rintro _ H6 ⟨rfl, hS6⟩
          clear hS5
          refine AnyW.done (by kernel_rfl) ?_
          replace hS6 := hS6.del del0
          exact CutP.go ⟨v38, _, trivial, Slots.eq ⟨(by first | rfl | exact i64_int (by omega) (by omega) (by omega) | assumption), (by first | rfl | exact i64_int (by omega) (by omega) (by omega) | assumption),  trivial⟩, (by rw [ofP_snoc, if_pos rfl, List.length_append, rowsV_append]; exact hS6)⟩
        ·
          rintro _ _ ⟨rfl, rfl⟩
          refine AnyW.two 10 12 rfl rfl (by kernel_rfl) rfl rfl (dst_lt rfl) (dst_lt rfl) (q_lookup (z := .slice none 0 0) Try.underlying52 (key_str Try.underlying9) (by kernel_rfl) rfl rfl (hS3.blk at3)) (s_buildSlice2 (z := .agg #[.int .i64 0, S []]) hS3 Try.underlying46 (by kernel_rfl) (by kernel_rfl) rfl) ?_ ?_
          ·
            rintro _ _ ⟨rfl, rfl⟩
            rw [hov]
            refine AnyW.only 12 rfl (by kernel_rfl) rfl (dst_lt rfl) (s_buildSlice2 (z := .agg #[.int .i64 0, S []]) hS3 Try.underlying46 (by kernel_rfl) (by kernel_rfl) rfl) ?_
            rintro v37 H7 hS7
            clear hS3
            refine AnyW.only 13 rfl (by kernel_rfl) rfl (dst_lt rfl) (s_append (sz := 2) (by_ := 24) (z := .agg #[.int .i64 0, S []]) hS7 at5 Try.underlying46 (by kernel_rfl) (by kernel_rfl) (by kernel_rfl) rfl (by kernel_rfl) rfl rfl (src_vec (hS7.vec at0) (fun u hu => recC_one ⟨tSeq body, tDat body⟩ u hu)) (by first | (with_reducible assumption) | omega | (unfold maxLen; omega) | (simp only [nums_length, List.length_set, List.length_replicate, List.length_take, List.length_drop, List.length_append, List.length_cons, List.length_nil, ofB_length, toB_length]; omega) | (simp only [nums_length, List.length_set, List.length_replicate, List.length_take, List.length_drop, List.length_append, List.length_cons, List.length_nil, ofB_length, toB_length]; unfold maxLen; omega) | (simp; done) | (simp; omega) | rfl | decide) (by first | (with_reducible assumption) | omega | (unfold maxLen; omega) | (simp only [nums_length, List.length_set, List.length_replicate, List.length_take, List.length_drop, List.length_append, List.length_cons, List.length_nil, ofB_length, toB_length]; omega) | (simp only [nums_length, List.length_set, List.length_replicate, List.length_take, List.length_drop, List.length_append, List.length_cons, List.length_nil, ofB_length, toB_length]; unfold maxLen; omega) | (simp; done) | (simp; omega) | rfl | decide)) ?_
            rintro v38 H8 hS8
            clear hS7
            replace hS8 := hS8.del del0
            refine AnyW.only 14 rfl (by kernel_rfl) rfl rfl (s_mapUpdate (u := v38) hS8 at3 Try.underlying52 (key_str Try.underlying9) rfl rfl rfl) ?_
            rintro _ H9 ⟨rfl, hS9⟩
            clear hS8
            refine AnyW.done (by kernel_rfl) ?_
            replace hS9 := hS9.del del0
            exact CutP.go ⟨v38, _, trivial, Slots.eq ⟨(by first | rfl | exact i64_int (by omega) (by omega) (by omega) | assumption), (by first | rfl | exact i64_int (by omega) (by omega) (by omega) | assumption),  trivial⟩, (by rw [ofP_snoc, if_pos rfl, List.length_append, rowsV_append]; exact hS9)⟩
          ·
            rintro v37 H10 hS10
            clear hS3
            refine AnyW.onlyQ 10 rfl (by kernel_rfl) rfl (dst_lt rfl) (q_lookup (z := .slice none 0 0) Try.underlying52 (key_str Try.underlying9) (by kernel_rfl) rfl rfl (hS10.blk at4)) ?_
            rw [hov]
            refine AnyW.only 13 rfl (by kernel_rfl) rfl (dst_lt rfl) (s_append (sz := 2) (by_ := 24) (z := .agg #[.int .i64 0, S []]) hS10 at5 Try.underlying46 (by kernel_rfl) (by kernel_rfl) (by kernel_rfl) rfl (by kernel_rfl) rfl rfl (src_vec (hS10.vec at0) (fun u hu => recC_one ⟨tSeq body, tDat body⟩ u hu)) (by first | (with_reducible assumption) | omega | (unfold maxLen; omega) | (simp only [nums_length, List.length_set, List.length_replicate, List.length_take, List.length_drop, List.length_append, List.length_cons, List.length_nil, ofB_length, toB_length]; omega) | (simp only [nums_length, List.length_set, List.length_replicate, List.length_take, List.length_drop, List.length_append, List.length_cons, List.length_nil, ofB_length, toB_length]; unfold maxLen; omega) | (simp; done) | (simp; omega) | rfl | decide) (by first | (with_reducible assumption) | omega | (unfold maxLen; omega) | (simp only [nums_length, List.length_set, List.length_replicate, List.length_take, List.length_drop, List.length_append, List.length_cons, List.length_nil, ofB_length, toB_length]; omega) | (simp only [nums_length, List.length_set, List.length_replicate, List.length_take, List.length_drop, List.length_append, List.length_cons, List.length_nil, ofB_length, toB_length]; unfold maxLen; omega) | (simp; done) | (simp; omega) | rfl | decide)) ?_
            rintro v38 H11 hS11
            clear hS10
            replace hS11 := hS11.del del0
            refine AnyW.only 14 rfl (by kernel_rfl) rfl rfl (s_mapUpdate (u := v38) hS11 at3 Try.underlying52 (key_str Try.underlying9) rfl rfl rfl) ?_
            rintro _ H12 ⟨rfl, hS12⟩
            clear hS11
            refine AnyW.done (by kernel_rfl) ?_
            replace hS12 := hS12.del del0
            exact CutP.go ⟨v38, _, trivial, Slots.eq ⟨(by first | rfl | exact i64_int (by omega) (by omega) (by omega) | assumption), (by first | rfl | exact i64_int (by omega) (by omega) (by omega) | assumption),  trivial⟩, (by rw [ofP_snoc, if_pos rfl, List.length_append, rowsV_append]; exact hS12)⟩
      ·
        rintro _ _ ⟨rfl, rfl⟩
        refine AnyW.two 8 12 rfl rfl (by kernel_rfl) rfl rfl (dst_lt rfl) (dst_lt rfl) (q_load (v := .map _) (by kernel_rfl) rfl (hS3.blk at2) rfl) (s_buildSlice2 (z := .agg #[.int .i64 0, S []]) hS3 Try.underlying46 (by kernel_rfl) (by kernel_rfl) rfl) ?_ ?_
        ·
          rintro _ _ ⟨rfl, rfl⟩
          refine AnyW.two 10 12 rfl rfl (by kernel_rfl) rfl rfl (dst_lt rfl) (dst_lt rfl) (q_lookup (z := .slice none 0 0) Try.underlying52 (key_str Try.underlying9) (by kernel_rfl) rfl rfl (hS3.blk at3)) (s_buildSlice2 (z := .agg #[.int .i64 0, S []]) hS3 Try.underlying46 (by kernel_rfl) (by kernel_rfl) rfl) ?_ ?_
          ·
            rintro _ _ ⟨rfl, rfl⟩
            rw [hov]
            refine AnyW.only 12 rfl (by kernel_rfl) rfl (dst_lt rfl) (s_buildSlice2 (z := .agg #[.int .i64 0, S []]) hS3 Try.underlying46 (by kernel_rfl) (by kernel_rfl) rfl) ?_
            rintro v37 H13 hS13
            clear hS3
            refine AnyW.only 13 rfl (by kernel_rfl) rfl (dst_lt rfl) (s_append (sz := 2) (by_ := 24) (z := .agg #[.int .i64 0, S []]) hS13 at5 Try.underlying46 (by kernel_rfl) (by kernel_rfl) (by kernel_rfl) rfl (by kernel_rfl) rfl rfl (src_vec (hS13.vec at0) (fun u hu => recC_one ⟨tSeq body, tDat body⟩ u hu)) (by first | (with_reducible assumption) | omega | (unfold maxLen; omega) | (simp only [nums_length, List.length_set, List.length_replicate, List.length_take, List.length_drop, List.length_append, List.length_cons, List.length_nil, ofB_length, toB_length]; omega) | (simp only [nums_length, List.length_set, List.length_replicate, List.length_take, List.length_drop, List.length_append, List.length_cons, List.length_nil, ofB_length, toB_length]; unfold maxLen; omega) | (simp; done) | (simp; omega) | rfl | decide) (by first | (with_reducible assumption) | omega | (unfold maxLen; omega) | (simp only [nums_length, List.length_set, List.length_replicate, List.length_take, List.length_drop, List.length_append, List.length_cons, List.length_nil, ofB_length, toB_length]; omega) | (simp only [nums_length, List.length_set, List.length_replicate, List.length_take, List.length_drop, List.length_append, List.length_cons, List.length_nil, ofB_length, toB_length]; unfold maxLen; omega) | (simp; done) | (simp; omega) | rfl | decide)) ?_
            rintro v38 H14 hS14
            clear hS13
            replace hS14 := hS14.del del0
            refine AnyW.only 14 rfl (by kernel_rfl) rfl rfl (s_mapUpdate (u := v38) hS14 at3 Try.underlying52 (key_str Try.underlying9) rfl rfl rfl) ?_
            rintro _ H15 ⟨rfl, hS15⟩
            clear hS14
            refine AnyW.done (by kernel_rfl) ?_
            replace hS15 := hS15.del del0
            exact CutP.go ⟨v38, _, trivial, Slots.eq ⟨(by first | rfl | exact i64_int (by omega) (by omega) (by omega) | assumption), (by first | rfl | exact i64_int (by omega) (by omega) (by omega) | assumption),  trivial⟩, (by rw [ofP_snoc, if_pos rfl, List.length_append, rowsV_append]; exact hS15)⟩
          ·
            rintro v37 H16 hS16
            clear hS3
            refine AnyW.onlyQ 10 rfl (by kernel_rfl) rfl (dst_lt rfl) (q_lookup (z := .slice none 0 0) Try.underlying52 (key_str Try.underlying9) (by kernel_rfl) rfl rfl (hS16.blk at4)) ?_
            rw [hov]
            refine AnyW.only 13 rfl (by kernel_rfl) rfl (dst_lt rfl) (s_append (sz := 2) (by_ := 24) (z := .agg #[.int .i64 0, S []]) hS16 at5 Try.underlying46 (by kernel_rfl) (by kernel_rfl) (by kernel_rfl) rfl (by kernel_rfl) rfl rfl (src_vec (hS16.vec at0) (fun u hu => recC_one ⟨tSeq body, tDat body⟩ u hu)) (by first | (with_reducible assumption) | omega | (unfold maxLen; omega) | (simp only [nums_length, List.length_set, List.length_replicate, List.length_take, List.length_drop, List.length_append, List.length_cons, List.length_nil, ofB_length, toB_length]; omega) | (simp only [nums_length, List.length_set, List.length_replicate, List.length_take, List.length_drop, List.length_append, List.length_cons, List.length_nil, ofB_length, toB_length]; unfold maxLen; omega) | (simp; done) | (simp; omega) | rfl | decide) (by first | (with_reducible assumption) | omega | (unfold maxLen; omega) | (simp only [nums_length, List.length_set, List.length_replicate, List.length_take, List.length_drop, List.length_append, List.length_cons, List.length_nil, ofB_length, toB_length]; omega) | (simp only [nums_length, List.length_set, List.length_replicate, List.length_take, List.length_drop, List.length_append, List.length_cons, List.length_nil, ofB_length, toB_length]; unfold maxLen; omega) | (simp; done) | (simp; omega) | rfl | decide)) ?_
            rintro v38 H17 hS17
            clear hS16
            replace hS17 := hS17.del del0
            refine AnyW.only 14 rfl (by kernel_rfl) rfl rfl (s_mapUpdate (u := v38) hS17 at3 Try.underlying52 (key_str Try.underlying9) rfl rfl rfl) ?_
            rintro _ H18 ⟨rfl, hS18⟩
            clear hS17
            refine AnyW.done (by kernel_rfl) ?_
            replace hS18 := hS18.del del0
            exact CutP.go ⟨v38, _, trivial, Slots.eq ⟨(by first | rfl | exact i64_int (by omega) (by omega) (by omega) | assumption), (by first | rfl | exact i64_int (by omega) (by omega) (by omega) | assumption),  trivial⟩, (by rw [ofP_snoc, if_pos rfl, List.length_append, rowsV_append]; exact hS18)⟩
        ·
          rintro v37 H19 hS19
          clear hS3
          refine AnyW.onlyQ 8 rfl (by kernel_rfl) rfl (dst_lt rfl) (q_load (v := .map _) (by kernel_rfl) rfl (hS19.blk at3) rfl) ?_
          refine AnyW.onlyQ 10 rfl (by kernel_rfl) rfl (dst_lt rfl) (q_lookup (z := .slice none 0 0) Try.underlying52 (key_str Try.underlying9) (by kernel_rfl) rfl rfl (hS19.blk at4)) ?_
          rw [hov]
          refine AnyW.only 13 rfl (by kernel_rfl) rfl (dst_lt rfl) (s_append (sz := 2) (by_ := 24) (z := .agg #[.int .i64 0, S []]) hS19 at5 Try.underlying46 (by kernel_rfl) (by kernel_rfl) (by kernel_rfl) rfl (by kernel_rfl) rfl rfl (src_vec (hS19.vec at0) (fun u hu => recC_one ⟨tSeq body, tDat body⟩ u hu)) (by first | (with_reducible assumption) | omega | (unfold maxLen; omega) | (simp only [nums_length, List.length_set, List.length_replicate, List.length_take, List.length_drop, List.length_append, List.length_cons, List.length_nil, ofB_length, toB_length]; omega) | (simp only [nums_length, List.length_set, List.length_replicate, List.length_take, List.length_drop, List.length_append, List.length_cons, List.length_nil, ofB_length, toB_length]; unfold maxLen; omega) | (simp; done) | (simp; omega) | rfl | decide) (by first | (with_reducible assumption) | omega | (unfold maxLen; omega) | (simp only [nums_length, List.length_set, List.length_replicate, List.length_take, List.length_drop, List.length_append, List.length_cons, List.length_nil, ofB_length, toB_length]; omega) | (simp only [nums_length, List.length_set, List.length_replicate, List.length_take, List.length_drop, List.length_append, List.length_cons, List.length_nil, ofB_length, toB_length]; unfold maxLen; omega) | (simp; done) | (simp; omega) | rfl | decide)) ?_
          rintro v38 H20 hS20
          clear hS19
          replace hS20 := hS20.del del0
          refine AnyW.only 14 rfl (by kernel_rfl) rfl rfl (s_mapUpdate (u := v38) hS20 at3 Try.underlying52 (key_str Try.underlying9) rfl rfl rfl) ?_
          rintro _ H21 ⟨rfl, hS21⟩
          clear hS20
          refine AnyW.done (by kernel_rfl) ?_
          replace hS21 := hS21.del del0
          exact CutP.go ⟨v38, _, trivial, Slots.eq ⟨(by first | rfl | exact i64_int (by omega) (by omega) (by omega) | assumption), (by first | rfl | exact i64_int (by omega) (by omega) (by omega) | assumption),  trivial⟩, (by rw [ofP_snoc, if_pos rfl, List.length_append, rowsV_append]; exact hS21)⟩
    ·
      rintro _ _ ⟨rfl, rfl⟩
      refine AnyW.three 3 10 11 rfl rfl rfl (by kernel_rfl) rfl rfl rfl (dst_lt rfl) (dst_lt rfl) (dst_lt rfl) (q_load (v := .map _) (by kernel_rfl) rfl (hS3.blk at2) rfl) (q_lookup (z := .slice none 0 0) Try.underlying52 (key_str Try.underlying9) (by kernel_rfl) rfl rfl (hS3.blk at3)) (q_loadA0 (n := 2) (by kernel_rfl) rfl (hS3.blk at0) (by first | (with_reducible assumption) | omega | (unfold maxLen; omega) | (simp only [nums_length, List.length_set, List.length_replicate, List.length_take, List.length_drop, List.length_append, List.length_cons, List.length_nil, ofB_length, toB_length]; omega) | (simp only [nums_length, List.length_set, List.length_replicate, List.length_take, List.length_drop, List.length_append, List.length_cons, List.length_nil, ofB_length, toB_length]; unfold maxLen; omega) | (simp; done) | (simp; omega) | rfl | decide)) ?_ ?_ ?_
      ·
        rintro _ _ ⟨rfl, rfl⟩
        refine AnyW.two 10 11 rfl rfl (by kernel_rfl) rfl rfl (dst_lt rfl) (dst_lt rfl) (q_lookup (z := .slice none 0 0) Try.underlying52 (key_str Try.underlying9) (by kernel_rfl) rfl rfl (hS3.blk at3)) (q_loadA0 (n := 2) (by kernel_rfl) rfl (hS3.blk at0) (by first | (with_reducible assumption) | omega | (unfold maxLen; omega) | (simp only [nums_length, List.length_set, List.length_replicate, List.length_take, List.length_drop, List.length_append, List.length_cons, List.length_nil, ofB_length, toB_length]; omega) | (simp only [nums_length, List.length_set, List.length_replicate, List.length_take, List.length_drop, List.length_append, List.length_cons, List.length_nil, ofB_length, toB_length]; unfold maxLen; omega) | (simp; done) | (simp; omega) | rfl | decide)) ?_ ?_
        ·
          rintro _ _ ⟨rfl, rfl⟩
          rw [hov]
          refine AnyW.onlyQ 11 rfl (by kernel_rfl) rfl (dst_lt rfl) (q_loadA0 (n := 2) (by kernel_rfl) rfl (hS3.blk at0) (by first | (with_reducible assumption) | omega | (unfold maxLen; omega) | (simp only [nums_length, List.length_set, List.length_replicate, List.length_take, List.length_drop, List.length_append, List.length_cons, List.length_nil, ofB_length, toB_length]; omega) | (simp only [nums_length, List.length_set, List.length_replicate, List.length_take, List.length_drop, List.length_append, List.length_cons, List.length_nil, ofB_length, toB_length]; unfold maxLen; omega) | (simp; done) | (simp; omega) | rfl | decide)) ?_
          refine AnyW.only 12 rfl (by kernel_rfl) rfl (dst_lt rfl) (s_buildSlice2 (z := .agg #[.int .i64 0, S []]) hS3 Try.underlying46 (by kernel_rfl) (by kernel_rfl) rfl) ?_
          rintro v37 H22 hS22
          clear hS3
          refine AnyW.only 13 rfl (by kernel_rfl) rfl (dst_lt rfl) (s_append (sz := 2) (by_ := 24) (z := .agg #[.int .i64 0, S []]) hS22 at5 Try.underlying46 (by kernel_rfl) (by kernel_rfl) (by kernel_rfl) rfl (by kernel_rfl) rfl rfl (src_vec (hS22.vec at0) (fun u hu => recC_one ⟨tSeq body, tDat body⟩ u hu)) (by first | (with_reducible assumption) | omega | (unfold maxLen; omega) | (simp only [nums_length, List.length_set, List.length_replicate, List.length_take, List.length_drop, List.length_append, List.length_cons, List.length_nil, ofB_length, toB_length]; omega) | (simp only [nums_length, List.length_set, List.length_replicate, List.length_take, List.length_drop, List.length_append, List.length_cons, List.length_nil, ofB_length, toB_length]; unfold maxLen; omega) | (simp; done) | (simp; omega) | rfl | decide) (by first | (with_reducible assumption) | omega | (unfold maxLen; omega) | (simp only [nums_length, List.length_set, List.length_replicate, List.length_take, List.length_drop, List.length_append, List.length_cons, List.length_nil, ofB_length, toB_length]; omega) | (simp only [nums_length, List.length_set, List.length_replicate, List.length_take, List.length_drop, List.length_append, List.length_cons, List.length_nil, ofB_length, toB_length]; unfold maxLen; omega) | (simp; done) | (simp; omega) | rfl | decide)) ?_
          rintro v38 H23 hS23
          clear hS22
          replace hS23 := hS23.del del0
          refine AnyW.only 14 rfl (by kernel_rfl) rfl rfl (s_mapUpdate (u := v38) hS23 at3 Try.underlying52 (key_str Try.underlying9) rfl rfl rfl) ?_
          rintro _ H24 ⟨rfl, hS24⟩
          clear hS23
          refine AnyW.done (by kernel_rfl) ?_
          replace hS24 := hS24.del del0
          exact CutP.go ⟨v38, _, trivial, Slots.eq ⟨(by first | rfl | exact i64_int (by omega) (by omega) (by omega) | assumption), (by first | rfl | exact i64_int (by omega) (by omega) (by omega) | assumption),  trivial⟩, (by rw [ofP_snoc, if_pos rfl, List.length_append, rowsV_append]; exact hS24)⟩
        ·
          rintro _ _ ⟨rfl, rfl⟩
          refine AnyW.two 10 12 rfl rfl (by kernel_rfl) rfl rfl (dst_lt rfl) (dst_lt rfl) (q_lookup (z := .slice none 0 0) Try.underlying52 (key_str Try.underlying9) (by kernel_rfl) rfl rfl (hS3.blk at3)) (s_buildSlice2 (z := .agg #[.int .i64 0, S []]) hS3 Try.underlying46 (by kernel_rfl) (by kernel_rfl) rfl) ?_ ?_
          ·
            rintro _ _ ⟨rfl, rfl⟩
            rw [hov]
            refine AnyW.only 12 rfl (by kernel_rfl) rfl (dst_lt rfl) (s_buildSlice2 (z := .agg #[.int .i64 0, S []]) hS3 Try.underlying46 (by kernel_rfl) (by kernel_rfl) rfl) ?_
            rintro v37 H25 hS25
            clear hS3
            refine AnyW.only 13 rfl (by kernel_rfl) rfl (dst_lt rfl) (s_append (sz := 2) (by_ := 24) (z := .agg #[.int .i64 0, S []]) hS25 at5 Try.underlying46 (by kernel_rfl) (by kernel_rfl) (by kernel_rfl) rfl (by kernel_rfl) rfl rfl (src_vec (hS25.vec at0) (fun u hu => recC_one ⟨tSeq body, tDat body⟩ u hu)) (by first | (with_reducible assumption) | omega | (unfold maxLen; omega) | (simp only [nums_length, List.length_set, List.length_replicate, List.length_take, List.length_drop, List.length_append, List.length_cons, List.length_nil, ofB_length, toB_length]; omega) | (simp only [nums_length, List.length_set, List.length_replicate, List.length_take, List.length_drop, List.length_append, List.length_cons, List.length_nil, ofB_length, toB_length]; unfold maxLen; omega) | (simp; done) | (simp; omega) | rfl | decide) (by first | (with_reducible assumption) | omega | (unfold maxLen; omega) | (simp only [nums_length, List.length_set, List.length_replicate, List.length_take, List.length_drop, List.length_append, List.length_cons, List.length_nil, ofB_length, toB_length]; omega) | (simp only [nums_length, List.length_set, List.length_replicate, List.length_take, List.length_drop, List.length_append, List.length_cons, List.length_nil, ofB_length, toB_length]; unfold maxLen; omega) | (simp; done) | (simp; omega) | rfl | decide)) ?_
            rintro v38 H26 hS26
            clear hS25
            replace hS26 := hS26.del del0
            refine AnyW.only 14 rfl (by kernel_rfl) rfl rfl (s_mapUpdate (u := v38) hS26 at3 Try.underlying52 (key_str Try.underlying9) rfl rfl rfl) ?_
            rintro _ H27 ⟨rfl, hS27⟩
            clear hS26
            refine AnyW.done (by kernel_rfl) ?_
            replace hS27 := hS27.del del0
            exact CutP.go ⟨v38, _, trivial, Slots.eq ⟨(by first | rfl | exact i64_int (by omega) (by omega) (by omega) | assumption), (by first | rfl | exact i64_int (by omega) (by omega) (by omega) | assumption),  trivial⟩, (by rw [ofP_snoc, if_pos rfl, List.length_append, rowsV_append]; exact hS27)⟩
          ·
            rintro v37 H28 hS28
            clear hS3
            refine AnyW.onlyQ 10 rfl (by kernel_rfl) rfl (dst_lt rfl) (q_lookup (z := .slice none 0 0) Try.underlying52 (key_str Try.underlying9) (by kernel_rfl) rfl rfl (hS28.blk at4)) ?_
            rw [hov]
            refine AnyW.only 13 rfl (by kernel_rfl) rfl (dst_lt rfl) (s_append (sz := 2) (by_ := 24) (z := .agg #[.int .i64 0, S []]) hS28 at5 Try.underlying46 (by kernel_rfl) (by kernel_rfl) (by kernel_rfl) rfl (by kernel_rfl) rfl rfl (src_vec (hS28.vec at0) (fun u hu => recC_one ⟨tSeq body, tDat body⟩ u hu)) (by first | (with_reducible assumption) | omega | (unfold maxLen; omega) | (simp only [nums_length, List.length_set, List.length_replicate, List.length_take, List.length_drop, List.length_append, List.length_cons, List.length_nil, ofB_length, toB_length]; omega) | (simp only [nums_length, List.length_set, List.length_replicate, List.length_take, List.length_drop, List.length_append, List.length_cons, List.length_nil, ofB_length, toB_length]; unfold maxLen; omega) | (simp; done) | (simp; omega) | rfl | decide) (by first | (with_reducible assumption) | omega | (unfold maxLen; omega) | (simp only [nums_length, List.length_set, List.length_replicate, List.length_take, List.length_drop, List.length_append, List.length_cons, List.length_nil, ofB_length, toB_length]; omega) | (simp only [nums_length, List.length_set, List.length_replicate, List.length_take, List.length_drop, List.length_append, List.length_cons, List.length_nil, ofB_length, toB_length]; unfold maxLen; omega) | (simp; done) | (simp; omega) | rfl | decide)) ?_
            rintro v38 H29 hS29
            clear hS28
            replace hS29 := hS29.del del0
            refine AnyW.only 14 rfl (by kernel_rfl) rfl rfl (s_mapUpdate (u := v38) hS29 at3 Try.underlying52 (key_str Try.underlying9) rfl rfl rfl) ?_
            rintro _ H30 ⟨rfl, hS30⟩
            clear hS29
            refine AnyW.done (by kernel_rfl) ?_
            replace hS30 := hS30.del del0
            exact CutP.go ⟨v38, _, trivial, Slots.eq ⟨(by first | rfl | exact i64_int (by omega) (by omega) (by omega) | assumption), (by first | rfl | exact i64_int (by omega) (by omega) (by omega) | assumption),  trivial⟩, (by rw [ofP_snoc, if_pos rfl, List.length_append, rowsV_append]; exact hS30)⟩
      ·
        rintro _ _ ⟨rfl, rfl⟩
        rw [hov]
        refine AnyW.two 3 11 rfl rfl (by kernel_rfl) rfl rfl (dst_lt rfl) (dst_lt rfl) (q_load (v := .map _) (by kernel_rfl) rfl (hS3.blk at2) rfl) (q_loadA0 (n := 2) (by kernel_rfl) rfl (hS3.blk at0) (by first | (with_reducible assumption) | omega | (unfold maxLen; omega) | (simp only [nums_length, List.length_set, List.length_replicate, List.length_take, List.length_drop, List.length_append, List.length_cons, List.length_nil, ofB_length, toB_length]; omega) | (simp only [nums_length, List.length_set, List.length_replicate, List.length_take, List.length_drop, List.length_append, List.length_cons, List.length_nil, ofB_length, toB_length]; unfold maxLen; omega) | (simp; done) | (simp; omega) | rfl | decide)) ?_ ?_
        ·
          rintro _ _ ⟨rfl, rfl⟩
          refine AnyW.onlyQ 11 rfl (by kernel_rfl) rfl (dst_lt rfl) (q_loadA0 (n := 2) (by kernel_rfl) rfl (hS3.blk at0) (by first | (with_reducible assumption) | omega | (unfold maxLen; omega) | (simp only [nums_length, List.length_set, List.length_replicate, List.length_take, List.length_drop, List.length_append, List.length_cons, List.length_nil, ofB_length, toB_length]; omega) | (simp only [nums_length, List.length_set, List.length_replicate, List.length_take, List.length_drop, List.length_append, List.length_cons, List.length_nil, ofB_length, toB_length]; unfold maxLen; omega) | (simp; done) | (simp; omega) | rfl | decide)) ?_
          refine AnyW.only 12 rfl (by kernel_rfl) rfl (dst_lt rfl) (s_buildSlice2 (z := .agg #[.int .i64 0, S []]) hS3 Try.underlying46 (by kernel_rfl) (by kernel_rfl) rfl) ?_
          rintro v37 H31 hS31
          clear hS3
          refine AnyW.only 13 rfl (by kernel_rfl) rfl (dst_lt rfl) (s_append (sz := 2) (by_ := 24) (z := .agg #[.int .i64 0, S []]) hS31 at5 Try.underlying46 (by kernel_rfl) (by kernel_rfl) (by kernel_rfl) rfl (by kernel_rfl) rfl rfl (src_vec (hS31.vec at0) (fun u hu => recC_one ⟨tSeq body, tDat body⟩ u hu)) (by first | (with_reducible assumption) | omega | (unfold maxLen; omega) | (simp only [nums_length, List.length_set, List.length_replicate, List.length_take, List.length_drop, List.length_append, List.length_cons, List.length_nil, ofB_length, toB_length]; omega) | (simp only [nums_length, List.length_set, List.length_replicate, List.length_take, List.length_drop, List.length_append, List.length_cons, List.length_nil, ofB_length, toB_length]; unfold maxLen; omega) | (simp; done) | (simp; omega) | rfl | decide) (by first | (with_reducible assumption) | omega | (unfold maxLen; omega) | (simp only [nums_length, List.length_set, List.length_replicate, List.length_take, List.length_drop, List.length_append, List.length_cons, List.length_nil, ofB_length, toB_length]; omega) | (simp only [nums_length, List.length_set, List.length_replicate, List.length_take, List.length_drop, List.length_append, List.length_cons, List.length_nil, ofB_length, toB_length]; unfold maxLen; omega) | (simp; done) | (simp; omega) | rfl | decide)) ?_
          rintro v38 H32 hS32
          clear hS31
          replace hS32 := hS32.del del0
          refine AnyW.only 14 rfl (by kernel_rfl) rfl rfl (s_mapUpdate (u := v38) hS32 at3 Try.underlying52 (key_str Try.underlying9) rfl rfl rfl) ?_
          rintro _ H33 ⟨rfl, hS33⟩
          clear hS32
          refine AnyW.done (by kernel_rfl) ?_
          replace hS33 := hS33.del del0
          exact CutP.go ⟨v38, _, trivial, Slots.eq ⟨(by first | rfl | exact i64_int (by omega) (by omega) (by omega) | assumption), (by first | rfl | exact i64_int (by omega) (by omega) (by omega) | assumption),  trivial⟩, (by rw [ofP_snoc, if_pos rfl, List.length_append, rowsV_append]; exact hS33)⟩
        ·
          rintro _ _ ⟨rfl, rfl⟩
          refine AnyW.two 3 12 rfl rfl (by kernel_rfl) rfl rfl (dst_lt rfl) (dst_lt rfl) (q_load (v := .map _) (by kernel_rfl) rfl (hS3.blk at2) rfl) (s_buildSlice2 (z := .agg #[.int .i64 0, S []]) hS3 Try.underlying46 (by kernel_rfl) (by kernel_rfl) rfl) ?_ ?_
          ·
            rintro _ _ ⟨rfl, rfl⟩
            refine AnyW.only 12 rfl (by kernel_rfl) rfl (dst_lt rfl) (s_buildSlice2 (z := .agg #[.int .i64 0, S []]) hS3 Try.underlying46 (by kernel_rfl) (by kernel_rfl) rfl) ?_
            rintro v37 H34 hS34
            clear hS3
            refine AnyW.only 13 rfl (by kernel_rfl) rfl (dst_lt rfl) (s_append (sz := 2) (by_ := 24) (z := .agg #[.int .i64 0, S []]) hS34 at5 Try.underlying46 (by kernel_rfl) (by kernel_rfl) (by kernel_rfl) rfl (by kernel_rfl) rfl rfl (src_vec (hS34.vec at0) (fun u hu => recC_one ⟨tSeq body, tDat body⟩ u hu)) (by first | (with_reducible assumption) | omega | (unfold maxLen; omega) | (simp only [nums_length, List.length_set, List.length_replicate, List.length_take, List.length_drop, List.length_append, List.length_cons, List.length_nil, ofB_length, toB_length]; omega) | (simp only [nums_length, List.length_set, List.length_replicate, List.length_take, List.length_drop, List.length_append, List.length_cons, List.length_nil, ofB_length, toB_length]; unfold maxLen; omega) | (simp; done) | (simp; omega) | rfl | decide) (by first | (with_reducible assumption) | omega | (unfold maxLen; omega) | (simp only [nums_length, List.length_set, List.length_replicate, List.length_take, List.length_drop, List.length_append, List.length_cons, List.length_nil, ofB_length, toB_length]; omega) | (simp only [nums_length, List.length_set, List.length_replicate, List.length_take, List.length_drop, List.length_append, List.length_cons, List.length_nil, ofB_length, toB_length]; unfold maxLen; omega) | (simp; done) | (simp; omega) | rfl | decide)) ?_
            rintro v38 H35 hS35
            clear hS34
            replace hS35 := hS35.del del0
            refine AnyW.only 14 rfl (by kernel_rfl) rfl rfl (s_mapUpdate (u := v38) hS35 at3 Try.underlying52 (key_str Try.underlying9) rfl rfl rfl) ?_
            rintro _ H36 ⟨rfl, hS36⟩
            clear hS35
            refine AnyW.done (by kernel_rfl) ?_
            replace hS36 := hS36.del del0
            exact CutP.go ⟨v38, _, trivial, Slots.eq ⟨(by first | rfl | exact i64_int (by omega) (by omega) (by omega) | assumption), (by first | rfl | exact i64_int (by omega) (by omega) (by omega) | assumption),  trivial⟩, (by rw [ofP_snoc, if_pos rfl, List.length_append, rowsV_append]; exact hS36)⟩
          ·
            rintro v37 H37 hS37
            clear hS3
            refine AnyW.two 3 13 rfl rfl (by kernel_rfl) rfl rfl (dst_lt rfl) (dst_lt rfl) (q_load (v := .map _) (by kernel_rfl) rfl (hS37.blk at3) rfl) (s_append (sz := 2) (by_ := 24) (z := .agg #[.int .i64 0, S []]) hS37 at5 Try.underlying46 (by kernel_rfl) (by kernel_rfl) (by kernel_rfl) rfl (by kernel_rfl) rfl rfl (src_vec (hS37.vec at0) (fun u hu => recC_one ⟨tSeq body, tDat body⟩ u hu)) (by first | (with_reducible assumption) | omega | (unfold maxLen; omega) | (simp only [nums_length, List.length_set, List.length_replicate, List.length_take, List.length_drop, List.length_append, List.length_cons, List.length_nil, ofB_length, toB_length]; omega) | (simp only [nums_length, List.length_set, List.length_replicate, List.length_take, List.length_drop, List.length_append, List.length_cons, List.length_nil, ofB_length, toB_length]; unfold maxLen; omega) | (simp; done) | (simp; omega) | rfl | decide) (by first | (with_reducible assumption) | omega | (unfold maxLen; omega) | (simp only [nums_length, List.length_set, List.length_replicate, List.length_take, List.length_drop, List.length_append, List.length_cons, List.length_nil, ofB_length, toB_length]; omega) | (simp only [nums_length, List.length_set, List.length_replicate, List.length_take, List.length_drop, List.length_append, List.length_cons, List.length_nil, ofB_length, toB_length]; unfold maxLen; omega) | (simp; done) | (simp; omega) | rfl | decide)) ?_ ?_
            ·
              rintro _ _ ⟨rfl, rfl⟩
              refine AnyW.only 13 rfl (by kernel_rfl) rfl (dst_lt rfl) (s_append (sz := 2) (by_ := 24) (z := .agg #[.int .i64 0, S []]) hS37 at5 Try.underlying46 (by kernel_rfl) (by kernel_rfl) (by kernel_rfl) rfl (by kernel_rfl) rfl rfl (src_vec (hS37.vec at0) (fun u hu => recC_one ⟨tSeq body, tDat body⟩ u hu)) (by first | (with_reducible assumption) | omega | (unfold maxLen; omega) | (simp only [nums_length, List.length_set, List.length_replicate, List.length_take, List.length_drop, List.length_append, List.length_cons, List.length_nil, ofB_length, toB_length]; omega) | (simp only [nums_length, List.length_set, List.length_replicate, List.length_take, List.length_drop, List.length_append, List.length_cons, List.length_nil, ofB_length, toB_length]; unfold maxLen; omega) | (simp; done) | (simp; omega) | rfl | decide) (by first | (with_reducible assumption) | omega | (unfold maxLen; omega) | (simp only [nums_length, List.length_set, List.length_replicate, List.length_take, List.length_drop, List.length_append, List.length_cons, List.length_nil, ofB_length, toB_length]; omega) | (simp only [nums_length, List.length_set, List.length_replicate, List.length_take, List.length_drop, List.length_append, List.length_cons, List.length_nil, ofB_length, toB_length]; unfold maxLen; omega) | (simp; done) | (simp; omega) | rfl | decide)) ?_
              rintro v38 H38 hS38
              clear hS37
              replace hS38 := hS38.del del0
              refine AnyW.only 14 rfl (by kernel_rfl) rfl rfl (s_mapUpdate (u := v38) hS38 at3 Try.underlying52 (key_str Try.underlying9) rfl rfl rfl) ?_
              rintro _ H39 ⟨rfl, hS39⟩
              clear hS38
              refine AnyW.done (by kernel_rfl) ?_
              replace hS39 := hS39.del del0
              exact CutP.go ⟨v38, _, trivial, Slots.eq ⟨(by first | rfl | exact i64_int (by omega) (by omega) (by omega) | assumption), (by first | rfl | exact i64_int (by omega) (by omega) (by omega) | assumption),  trivial⟩, (by rw [ofP_snoc, if_pos rfl, List.length_append, rowsV_append]; exact hS39)⟩
            ·
              rintro v38 H40 hS40
              clear hS37
              replace hS40 := hS40.del del0
              refine AnyW.onlyQ 3 rfl (by kernel_rfl) rfl (dst_lt rfl) (q_load (v := .map _) (by kernel_rfl) rfl (hS40.blk at2) rfl) ?_
              refine AnyW.only 14 rfl (by kernel_rfl) rfl rfl (s_mapUpdate (u := v38) hS40 at3 Try.underlying52 (key_str Try.underlying9) rfl rfl rfl) ?_
              rintro _ H41 ⟨rfl, hS41⟩
              clear hS40
              refine AnyW.done (by kernel_rfl) ?_
              replace hS41 := hS41.del del0
              exact CutP.go ⟨v38, _, trivial, Slots.eq ⟨(by first | rfl | exact i64_int (by omega) (by omega) (by omega) | assumption), (by first | rfl | exact i64_int (by omega) (by omega) (by omega) | assumption),  trivial⟩, (by rw [ofP_snoc, if_pos rfl, List.length_append, rowsV_append]; exact hS41)⟩
      ·
        rintro _ _ ⟨rfl, rfl⟩
        refine AnyW.three 3 10 12 rfl rfl rfl (by kernel_rfl) rfl rfl rfl (dst_lt rfl) (dst_lt rfl) (dst_lt rfl) (q_load (v := .map _) (by kernel_rfl) rfl (hS3.blk at2) rfl) (q_lookup (z := .slice none 0 0) Try.underlying52 (key_str Try.underlying9) (by kernel_rfl) rfl rfl (hS3.blk at3)) (s_buildSlice2 (z := .agg #[.int .i64 0, S []]) hS3 Try.underlying46 (by kernel_rfl) (by kernel_rfl) rfl) ?_ ?_ ?_
        ·
          rintro _ _ ⟨rfl, rfl⟩
          refine AnyW.two 10 12 rfl rfl (by kernel_rfl) rfl rfl (dst_lt rfl) (dst_lt rfl) (q_lookup (z := .slice none 0 0) Try.underlying52 (key_str Try.underlying9) (by kernel_rfl) rfl rfl (hS3.blk at3)) (s_buildSlice2 (z := .agg #[.int .i64 0, S []]) hS3 Try.underlying46 (by kernel_rfl) (by kernel_rfl) rfl) ?_ ?_
          ·
            rintro _ _ ⟨rfl, rfl⟩
            rw [hov]
            refine AnyW.only 12 rfl (by kernel_rfl) rfl (dst_lt rfl) (s_buildSlice2 (z := .agg #[.int .i64 0, S []]) hS3 Try.underlying46 (by kernel_rfl) (by kernel_rfl) rfl) ?_
            rintro v37 H42 hS42
            clear hS3
            refine AnyW.only 13 rfl (by kernel_rfl) rfl (dst_lt rfl) (s_append (sz := 2) (by_ := 24) (z := .agg #[.int .i64 0, S []]) hS42 at5 Try.underlying46 (by kernel_rfl) (by kernel_rfl) (by kernel_rfl) rfl (by kernel_rfl) rfl rfl (src_vec (hS42.vec at0) (fun u hu => recC_one ⟨tSeq body, tDat body⟩ u hu)) (by first | (with_reducible assumption) | omega | (unfold maxLen; omega) | (simp only [nums_length, List.length_set, List.length_replicate, List.length_take, List.length_drop, List.length_append, List.length_cons, List.length_nil, ofB_length, toB_length]; omega) | (simp only [nums_length, List.length_set, List.length_replicate, List.length_take, List.length_drop, List.length_append, List.length_cons, List.length_nil, ofB_length, toB_length]; unfold maxLen; omega) | (simp; done) | (simp; omega) | rfl | decide) (by first | (with_reducible assumption) | omega | (unfold maxLen; omega) | (simp only [nums_length, List.length_set, List.length_replicate, List.length_take, List.length_drop, List.length_append, List.length_cons, List.length_nil, ofB_length, toB_length]; omega) | (simp only [nums_length, List.length_set, List.length_replicate, List.length_take, List.length_drop, List.length_append, List.length_cons, List.length_nil, ofB_length, toB_length]; unfold maxLen; omega) | (simp; done) | (simp; omega) | rfl | decide)) ?_
            rintro v38 H43 hS43
            clear hS42
            replace hS43 := hS43.del del0
            refine AnyW.only 14 rfl (by kernel_rfl) rfl rfl (s_mapUpdate (u := v38) hS43 at3 Try.underlying52 (key_str Try.underlying9) rfl rfl rfl) ?_
            rintro _ H44 ⟨rfl, hS44⟩
            clear hS43
            refine AnyW.done (by kernel_rfl) ?_
            replace hS44 := hS44.del del0
            exact CutP.go ⟨v38, _, trivial, Slots.eq ⟨(by first | rfl | exact i64_int (by omega) (by omega) (by omega) | assumption), (by first | rfl | exact i64_int (by omega) (by omega) (by omega) | assumption),  trivial⟩, (by rw [ofP_snoc, if_pos rfl, List.length_append, rowsV_append]; exact hS44)⟩
          ·
            rintro v37 H45 hS45
            clear hS3
            refine AnyW.onlyQ 10 rfl (by kernel_rfl) rfl (dst_lt rfl) (q_lookup (z := .slice none 0 0) Try.underlying52 (key_str Try.underlying9) (by kernel_rfl) rfl rfl (hS45.blk at4)) ?_
            rw [hov]
            refine AnyW.only 13 rfl (by kernel_rfl) rfl (dst_lt rfl) (s_append (sz := 2) (by_ := 24) (z := .agg #[.int .i64 0, S []]) hS45 at5 Try.underlying46 (by kernel_rfl) (by kernel_rfl) (by kernel_rfl) rfl (by kernel_rfl) rfl rfl (src_vec (hS45.vec at0) (fun u hu => recC_one ⟨tSeq body, tDat body⟩ u hu)) (by first | (with_reducible assumption) | omega | (unfold maxLen; omega) | (simp only [nums_length, List.length_set, List.length_replicate, List.length_take, List.length_drop, List.length_append, List.length_cons, List.length_nil, ofB_length, toB_length]; omega) | (simp only [nums_length, List.length_set, List.length_replicate, List.length_take, List.length_drop, List.length_append, List.length_cons, List.length_nil, ofB_length, toB_length]; unfold maxLen; omega) | (simp; done) | (simp; omega) | rfl | decide) (by first | (with_reducible assumption) | omega | (unfold maxLen; omega) | (simp only [nums_length, List.length_set, List.length_replicate, List.length_take, List.length_drop, List.length_append, List.length_cons, List.length_nil, ofB_length, toB_length]; omega) | (simp only [nums_length, List.length_set, List.length_replicate, List.length_take, List.length_drop, List.length_append, List.length_cons, List.length_nil, ofB_length, toB_length]; unfold maxLen; omega) | (simp; done) | (simp; omega) | rfl | decide)) ?_
            rintro v38 H46 hS46
            clear hS45
            replace hS46 := hS46.del del0
            refine AnyW.only 14 rfl (by kernel_rfl) rfl rfl (s_mapUpdate (u := v38) hS46 at3 Try.underlying52 (key_str Try.underlying9) rfl rfl rfl) ?_
            rintro _ H47 ⟨rfl, hS47⟩
            clear hS46
            refine AnyW.done (by kernel_rfl) ?_
            replace hS47 := hS47.del del0
            exact CutP.go ⟨v38, _, trivial, Slots.eq ⟨(by first | rfl | exact i64_int (by omega) (by omega) (by omega) | assumption), (by first | rfl | exact i64_int (by omega) (by omega) (by omega) | assumption),  trivial⟩, (by rw [ofP_snoc, if_pos rfl, List.length_append, rowsV_append]; exact hS47)⟩
        ·
          rintro _ _ ⟨rfl, rfl⟩
          rw [hov]
          refine AnyW.two 3 12 rfl rfl (by kernel_rfl) rfl rfl (dst_lt rfl) (dst_lt rfl) (q_load (v := .map _) (by kernel_rfl) rfl (hS3.blk at2) rfl) (s_buildSlice2 (z := .agg #[.int .i64 0, S []]) hS3 Try.underlying46 (by kernel_rfl) (by kernel_rfl) rfl) ?_ ?_
          ·
            rintro _ _ ⟨rfl, rfl⟩
            refine AnyW.only 12 rfl (by kernel_rfl) rfl (dst_lt rfl) (s_buildSlice2 (z := .agg #[.int .i64 0, S []]) hS3 Try.underlying46 (by kernel_rfl) (by kernel_rfl) rfl) ?_
            rintro v37 H48 hS48
            clear hS3
            refine AnyW.only 13 rfl (by kernel_rfl) rfl (dst_lt rfl) (s_append (sz := 2) (by_ := 24) (z := .agg #[.int .i64 0, S []]) hS48 at5 Try.underlying46 (by kernel_rfl) (by kernel_rfl) (by kernel_rfl) rfl (by kernel_rfl) rfl rfl (src_vec (hS48.vec at0) (fun u hu => recC_one ⟨tSeq body, tDat body⟩ u hu)) (by first | (with_reducible assumption) | omega | (unfold maxLen; omega) | (simp only [nums_length, List.length_set, List.length_replicate, List.length_take, List.length_drop, List.length_append, List.length_cons, List.length_nil, ofB_length, toB_length]; omega) | (simp only [nums_length, List.length_set, List.length_replicate, List.length_take, List.length_drop, List.length_append, List.length_cons, List.length_nil, ofB_length, toB_length]; unfold maxLen; omega) | (simp; done) | (simp; omega) | rfl | decide) (by first | (with_reducible assumption) | omega | (unfold maxLen; omega) | (simp only [nums_length, List.length_set, List.length_replicate, List.length_take, List.length_drop, List.length_append, List.length_cons, List.length_nil, ofB_length, toB_length]; omega) | (simp only [nums_length, List.length_set, List.length_replicate, List.length_take, List.length_drop, List.length_append, List.length_cons, List.length_nil, ofB_length, toB_length]; unfold maxLen; omega) | (simp; done) | (simp; omega) | rfl | decide)) ?_
            rintro v38 H49 hS49
            clear hS48
            replace hS49 := hS49.del del0
            refine AnyW.only 14 rfl (by kernel_rfl) rfl rfl (s_mapUpdate (u := v38) hS49 at3 Try.underlying52 (key_str Try.underlying9) rfl rfl rfl) ?_
            rintro _ H50 ⟨rfl, hS50⟩
            clear hS49
            refine AnyW.done (by kernel_rfl) ?_
            replace hS50 := hS50.del del0
            exact CutP.go ⟨v38, _, trivial, Slots.eq ⟨(by first | rfl | exact i64_int (by omega) (by omega) (by omega) | assumption), (by first | rfl | exact i64_int (by omega) (by omega) (by omega) | assumption),  trivial⟩, (by rw [ofP_snoc, if_pos rfl, List.length_append, rowsV_append]; exact hS50)⟩
          ·
            rintro v37 H51 hS51
            clear hS3
            refine AnyW.two 3 13 rfl rfl (by kernel_rfl) rfl rfl (dst_lt rfl) (dst_lt rfl) (q_load (v := .map _) (by kernel_rfl) rfl (hS51.blk at3) rfl) (s_append (sz := 2) (by_ := 24) (z := .agg #[.int .i64 0, S []]) hS51 at5 Try.underlying46 (by kernel_rfl) (by kernel_rfl) (by kernel_rfl) rfl (by kernel_rfl) rfl rfl (src_vec (hS51.vec at0) (fun u hu => recC_one ⟨tSeq body, tDat body⟩ u hu)) (by first | (with_reducible assumption) | omega | (unfold maxLen; omega) | (simp only [nums_length, List.length_set, List.length_replicate, List.length_take, List.length_drop, List.length_append, List.length_cons, List.length_nil, ofB_length, toB_length]; omega) | (simp only [nums_length, List.length_set, List.length_replicate, List.length_take, List.length_drop, List.length_append, List.length_cons, List.length_nil, ofB_length, toB_length]; unfold maxLen; omega) | (simp; done) | (simp; omega) | rfl | decide) (by first | (with_reducible assumption) | omega | (unfold maxLen; omega) | (simp only [nums_length, List.length_set, List.length_replicate, List.length_take, List.length_drop, List.length_append, List.length_cons, List.length_nil, ofB_length, toB_length]; omega) | (simp only [nums_length, List.length_set, List.length_replicate, List.length_take, List.length_drop, List.length_append, List.length_cons, List.length_nil, ofB_length, toB_length]; unfold maxLen; omega) | (simp; done) | (simp; omega) | rfl | decide)) ?_ ?_
            ·
              rintro _ _ ⟨rfl, rfl⟩
              refine AnyW.only 13 rfl (by kernel_rfl) rfl (dst_lt rfl) (s_append (sz := 2) (by_ := 24) (z := .agg #[.int .i64 0, S []]) hS51 at5 Try.underlying46 (by kernel_rfl) (by kernel_rfl) (by kernel_rfl) rfl (by kernel_rfl) rfl rfl (src_vec (hS51.vec at0) (fun u hu => recC_one ⟨tSeq body, tDat body⟩ u hu)) (by first | (with_reducible assumption) | omega | (unfold maxLen; omega) | (simp only [nums_length, List.length_set, List.length_replicate, List.length_take, List.length_drop, List.length_append, List.length_cons, List.length_nil, ofB_length, toB_length]; omega) | (simp only [nums_length, List.length_set, List.length_replicate, List.length_take, List.length_drop, List.length_append, List.length_cons, List.length_nil, ofB_length, toB_length]; unfold maxLen; omega) | (simp; done) | (simp; omega) | rfl | decide) (by first | (with_reducible assumption) | omega | (unfold maxLen; omega) | (simp only [nums_length, List.length_set, List.length_replicate, List.length_take, List.length_drop, List.length_append, List.length_cons, List.length_nil, ofB_length, toB_length]; omega) | (simp only [nums_length, List.length_set, List.length_replicate, List.length_take, List.length_drop, List.length_append, List.length_cons, List.length_nil, ofB_length, toB_length]; unfold maxLen; omega) | (simp; done) | (simp; omega) | rfl | decide)) ?_
              rintro v38 H52 hS52
              clear hS51
              replace hS52 := hS52.del del0
              refine AnyW.only 14 rfl (by kernel_rfl) rfl rfl (s_mapUpdate (u := v38) hS52 at3 Try.underlying52 (key_str Try.underlying9) rfl rfl rfl) ?_
              rintro _ H53 ⟨rfl, hS53⟩
              clear hS52
              refine AnyW.done (by kernel_rfl) ?_
              replace hS53 := hS53.del del0
              exact CutP.go ⟨v38, _, trivial, Slots.eq ⟨(by first | rfl | exact i64_int (by omega) (by omega) (by omega) | assumption), (by first | rfl | exact i64_int (by omega) (by omega) (by omega) | assumption),  trivial⟩, (by rw [ofP_snoc, if_pos rfl, List.length_append, rowsV_append]; exact hS53)⟩
            ·
              rintro v38 H54 hS54
              clear hS51
              replace hS54 := hS54.del del0
              refine AnyW.onlyQ 3 rfl (by kernel_rfl) rfl (dst_lt rfl) (q_load (v := .map _) (by kernel_rfl) rfl (hS54.blk at2) rfl) ?_
              refine AnyW.only 14 rfl (by kernel_rfl) rfl rfl (s_mapUpdate (u := v38) hS54 at3 Try.underlying52 (key_str Try.underlying9) rfl rfl rfl) ?_
              rintro _ H55 ⟨rfl, hS55⟩
              clear hS54
              refine AnyW.done (by kernel_rfl) ?_
              replace hS55 := hS55.del del0
              exact CutP.go ⟨v38, _, trivial, Slots.eq ⟨(by first | rfl | exact i64_int (by omega) (by omega) (by omega) | assumption), (by first | rfl | exact i64_int (by omega) (by omega) (by omega) | assumption),  trivial⟩, (by rw [ofP_snoc, if_pos rfl, List.length_append, rowsV_append]; exact hS55)⟩
        ·
          rintro v37 H56 hS56
          clear hS3
          refine AnyW.two 3 10 rfl rfl (by kernel_rfl) rfl rfl (dst_lt rfl) (dst_lt rfl) (q_load (v := .map _) (by kernel_rfl) rfl (hS56.blk at3) rfl) (q_lookup (z := .slice none 0 0) Try.underlying52 (key_str Try.underlying9) (by kernel_rfl) rfl rfl (hS56.blk at4)) ?_ ?_
          ·
            rintro _ _ ⟨rfl, rfl⟩
            refine AnyW.onlyQ 10 rfl (by kernel_rfl) rfl (dst_lt rfl) (q_lookup (z := .slice none 0 0) Try.underlying52 (key_str Try.underlying9) (by kernel_rfl) rfl rfl (hS56.blk at4)) ?_
            rw [hov]
            refine AnyW.only 13 rfl (by kernel_rfl) rfl (dst_lt rfl) (s_append (sz := 2) (by_ := 24) (z := .agg #[.int .i64 0, S []]) hS56 at5 Try.underlying46 (by kernel_rfl) (by kernel_rfl) (by kernel_rfl) rfl (by kernel_rfl) rfl rfl (src_vec (hS56.vec at0) (fun u hu => recC_one ⟨tSeq body, tDat body⟩ u hu)) (by first | (with_reducible assumption) | omega | (unfold maxLen; omega) | (simp only [nums_length, List.length_set, List.length_replicate, List.length_take, List.length_drop, List.length_append, List.length_cons, List.length_nil, ofB_length, toB_length]; omega) | (simp only [nums_length, List.length_set, List.length_replicate, List.length_take, List.length_drop, List.length_append, List.length_cons, List.length_nil, ofB_length, toB_length]; unfold maxLen; omega) | (simp; done) | (simp; omega) | rfl | decide) (by first | (with_reducible assumption) | omega | (unfold maxLen; omega) | (simp only [nums_length, List.length_set, List.length_replicate, List.length_take, List.length_drop, List.length_append, List.length_cons, List.length_nil, ofB_length, toB_length]; omega) | (simp only [nums_length, List.length_set, List.length_replicate, List.length_take, List.length_drop, List.length_append, List.length_cons, List.length_nil, ofB_length, toB_length]; unfold maxLen; omega) | (simp; done) | (simp; omega) | rfl | decide)) ?_
            rintro v38 H57 hS57
            clear hS56
            replace hS57 := hS57.del del0
            refine AnyW.only 14 rfl (by kernel_rfl) rfl rfl (s_mapUpdate (u := v38) hS57 at3 Try.underlying52 (key_str Try.underlying9) rfl rfl rfl) ?_
            rintro _ H58 ⟨rfl, hS58⟩
            clear hS57
            refine AnyW.done (by kernel_rfl) ?_
            replace hS58 := hS58.del del0
            exact CutP.go ⟨v38, _, trivial, Slots.eq ⟨(by first | rfl | exact i64_int (by omega) (by omega) (by omega) | assumption), (by first | rfl | exact i64_int (by omega) (by omega) (by omega) | assumption),  trivial⟩, (by rw [ofP_snoc, if_pos rfl, List.length_append, rowsV_append]; exact hS58)⟩
          ·
            rintro _ _ ⟨rfl, rfl⟩
            rw [hov]
            refine AnyW.two 3 13 rfl rfl (by kernel_rfl) rfl rfl (dst_lt rfl) (dst_lt rfl) (q_load (v := .map _) (by kernel_rfl) rfl (hS56.blk at3) rfl) (s_append (sz := 2) (by_ := 24) (z := .agg #[.int .i64 0, S []]) hS56 at5 Try.underlying46 (by kernel_rfl) (by kernel_rfl) (by kernel_rfl) rfl (by kernel_rfl) rfl rfl (src_vec (hS56.vec at0) (fun u hu => recC_one ⟨tSeq body, tDat body⟩ u hu)) (by first | (with_reducible assumption) | omega | (unfold maxLen; omega) | (simp only [nums_length, List.length_set, List.length_replicate, List.length_take, List.length_drop, List.length_append, List.length_cons, List.length_nil, ofB_length, toB_length]; omega) | (simp only [nums_length, List.length_set, List.length_replicate, List.length_take, List.length_drop, List.length_append, List.length_cons, List.length_nil, ofB_length, toB_length]; unfold maxLen; omega) | (simp; done) | (simp; omega) | rfl | decide) (by first | (with_reducible assumption) | omega | (unfold maxLen; omega) | (simp only [nums_length, List.length_set, List.length_replicate, List.length_take, List.length_drop, List.length_append, List.length_cons, List.length_nil, ofB_length, toB_length]; omega) | (simp only [nums_length, List.length_set, List.length_replicate, List.length_take, List.length_drop, List.length_append, List.length_cons, List.length_nil, ofB_length, toB_length]; unfold maxLen; omega) | (simp; done) | (simp; omega) | rfl | decide)) ?_ ?_
            ·
              rintro _ _ ⟨rfl, rfl⟩
              refine AnyW.only 13 rfl (by kernel_rfl) rfl (dst_lt rfl) (s_append (sz := 2) (by_ := 24) (z := .agg #[.int .i64 0, S []]) hS56 at5 Try.underlying46 (by kernel_rfl) (by kernel_rfl) (by kernel_rfl) rfl (by kernel_rfl) rfl rfl (src_vec (hS56.vec at0) (fun u hu => recC_one ⟨tSeq body, tDat body⟩ u hu)) (by first | (with_reducible assumption) | omega | (unfold maxLen; omega) | (simp only [nums_length, List.length_set, List.length_replicate, List.length_take, List.length_drop, List.length_append, List.length_cons, List.length_nil, ofB_length, toB_length]; omega) | (simp only [nums_length, List.length_set, List.length_replicate, List.length_take, List.length_drop, List.length_append, List.length_cons, List.length_nil, ofB_length, toB_length]; unfold maxLen; omega) | (simp; done) | (simp; omega) | rfl | decide) (by first | (with_reducible assumption) | omega | (unfold maxLen; omega) | (simp only [nums_length, List.length_set, List.length_replicate, List.length_take, List.length_drop, List.length_append, List.length_cons, List.length_nil, ofB_length, toB_length]; omega) | (simp only [nums_length, List.length_set, List.length_replicate, List.length_take, List.length_drop, List.length_append, List.length_cons, List.length_nil, ofB_length, toB_length]; unfold maxLen; omega) | (simp; done) | (simp; omega) | rfl | decide)) ?_
              rintro v38 H59 hS59
              clear hS56
              replace hS59 := hS59.del del0
              refine AnyW.only 14 rfl (by kernel_rfl) rfl rfl (s_mapUpdate (u := v38) hS59 at3 Try.underlying52 (key_str Try.underlying9) rfl rfl rfl) ?_
              rintro _ H60 ⟨rfl, hS60⟩
              clear hS59
              refine AnyW.done (by kernel_rfl) ?_
              replace hS60 := hS60.del del0
              exact CutP.go ⟨v38, _, trivial, Slots.eq ⟨(by first | rfl | exact i64_int (by omega) (by omega) (by omega) | assumption), (by first | rfl | exact i64_int (by omega) (by omega) (by omega) | assumption),  trivial⟩, (by rw [ofP_snoc, if_pos rfl, List.length_append, rowsV_append]; exact hS60)⟩
            ·
              rintro v38 H61 hS61
              clear hS56
              replace hS61 := hS61.del del0
              refine AnyW.onlyQ 3 rfl (by kernel_rfl) rfl (dst_lt rfl) (q_load (v := .map _) (by kernel_rfl) rfl (hS61.blk at2) rfl) ?_
              refine AnyW.only 14 rfl (by kernel_rfl) rfl rfl (s_mapUpdate (u := v38) hS61 at3 Try.underlying52 (key_str Try.underlying9) rfl rfl rfl) ?_
              rintro _ H62 ⟨rfl, hS62⟩
              clear hS61
              refine AnyW.done (by kernel_rfl) ?_
              replace hS62 := hS62.del del0
              exact CutP.go ⟨v38, _, trivial, Slots.eq ⟨(by first | rfl | exact i64_int (by omega) (by omega) (by omega) | assumption), (by first | rfl | exact i64_int (by omega) (by omega) (by omega) | assumption),  trivial⟩, (by rw [ofP_snoc, if_pos rfl, List.length_append, rowsV_append]; exact hS62)⟩
    ·
      rintro _ _ ⟨rfl, rfl⟩
      refine AnyW.three 3 8 12 rfl rfl rfl (by kernel_rfl) rfl rfl rfl (dst_lt rfl) (dst_lt rfl) (dst_lt rfl) (q_load (v := .map _) (by kernel_rfl) rfl (hS3.blk at2) rfl) (q_load (v := .map _) (by kernel_rfl) rfl (hS3.blk at2) rfl) (s_buildSlice2 (z := .agg #[.int .i64 0, S []]) hS3 Try.underlying46 (by kernel_rfl) (by kernel_rfl) rfl) ?_ ?_ ?_
      ·
        rintro _ _ ⟨rfl, rfl⟩
        refine AnyW.two 8 12 rfl rfl (by kernel_rfl) rfl rfl (dst_lt rfl) (dst_lt rfl) (q_load (v := .map _) (by kernel_rfl) rfl (hS3.blk at2) rfl) (s_buildSlice2 (z := .agg #[.int .i64 0, S []]) hS3 Try.underlying46 (by kernel_rfl) (by kernel_rfl) rfl) ?_ ?_
        ·
          rintro _ _ ⟨rfl, rfl⟩
          refine AnyW.two 10 12 rfl rfl (by kernel_rfl) rfl rfl (dst_lt rfl) (dst_lt rfl) (q_lookup (z := .slice none 0 0) Try.underlying52 (key_str Try.underlying9) (by kernel_rfl) rfl rfl (hS3.blk at3)) (s_buildSlice2 (z := .agg #[.int .i64 0, S []]) hS3 Try.underlying46 (by kernel_rfl) (by kernel_rfl) rfl) ?_ ?_
          ·
            rintro _ _ ⟨rfl, rfl⟩
            rw [hov]
            refine AnyW.only 12 rfl (by kernel_rfl) rfl (dst_lt rfl) (s_buildSlice2 (z := .agg #[.int .i64 0, S []]) hS3 Try.underlying46 (by kernel_rfl) (by kernel_rfl) rfl) ?_
            rintro v37 H63 hS63
            clear hS3
            refine AnyW.only 13 rfl (by kernel_rfl) rfl (dst_lt rfl) (s_append (sz := 2) (by_ := 24) (z := .agg #[.int .i64 0, S []]) hS63 at5 Try.underlying46 (by kernel_rfl) (by kernel_rfl) (by kernel_rfl) rfl (by kernel_rfl) rfl rfl (src_vec (hS63.vec at0) (fun u hu => recC_one ⟨tSeq body, tDat body⟩ u hu)) (by first | (with_reducible assumption) | omega | (unfold maxLen; omega) | (simp only [nums_length, List.length_set, List.length_replicate, List.length_take, List.length_drop, List.length_append, List.length_cons, List.length_nil, ofB_length, toB_length]; omega) | (simp only [nums_length, List.length_set, List.length_replicate, List.length_take, List.length_drop, List.length_append, List.length_cons, List.length_nil, ofB_length, toB_length]; unfold maxLen; omega) | (simp; done) | (simp; omega) | rfl | decide) (by first | (with_reducible assumption) | omega | (unfold maxLen; omega) | (simp only [nums_length, List.length_set, List.length_replicate, List.length_take, List.length_drop, List.length_append, List.length_cons, List.length_nil, ofB_length, toB_length]; omega) | (simp only [nums_length, List.length_set, List.length_replicate, List.length_take, List.length_drop, List.length_append, List.length_cons, List.length_nil, ofB_length, toB_length]; unfold maxLen; omega) | (simp; done) | (simp; omega) | rfl | decide)) ?_
            rintro v38 H64 hS64
            clear hS63
            replace hS64 := hS64.del del0
            refine AnyW.only 14 rfl (by kernel_rfl) rfl rfl (s_mapUpdate (u := v38) hS64 at3 Try.underlying52 (key_str Try.underlying9) rfl rfl rfl) ?_
            rintro _ H65 ⟨rfl, hS65⟩
            clear hS64
            refine AnyW.done (by kernel_rfl) ?_
            replace hS65 := hS65.del del0
            exact CutP.go ⟨v38, _, trivial, Slots.eq ⟨(by first | rfl | exact i64_int (by omega) (by omega) (by omega) | assumption), (by first | rfl | exact i64_int (by omega) (by omega) (by omega) | assumption),  trivial⟩, (by rw [ofP_snoc, if_pos rfl, List.length_append, rowsV_append]; exact hS65)⟩
          ·
            rintro v37 H66 hS66
            clear hS3
            refine AnyW.onlyQ 10 rfl (by kernel_rfl) rfl (dst_lt rfl) (q_lookup (z := .slice none 0 0) Try.underlying52 (key_str Try.underlying9) (by kernel_rfl) rfl rfl (hS66.blk at4)) ?_
            rw [hov]
            refine AnyW.only 13 rfl (by kernel_rfl) rfl (dst_lt rfl) (s_append (sz := 2) (by_ := 24) (z := .agg #[.int .i64 0, S []]) hS66 at5 Try.underlying46 (by kernel_rfl) (by kernel_rfl) (by kernel_rfl) rfl (by kernel_rfl) rfl rfl (src_vec (hS66.vec at0) (fun u hu => recC_one ⟨tSeq body, tDat body⟩ u hu)) (by first | (with_reducible assumption) | omega | (unfold maxLen; omega) | (simp only [nums_length, List.length_set, List.length_replicate, List.length_take, List.length_drop, List.length_append, List.length_cons, List.length_nil, ofB_length, toB_length]; omega) | (simp only [nums_length, List.length_set, List.length_replicate, List.length_take, List.length_drop, List.length_append, List.length_cons, List.length_nil, ofB_length, toB_length]; unfold maxLen; omega) | (simp; done) | (simp; omega) | rfl | decide) (by first | (with_reducible assumption) | omega | (unfold maxLen; omega) | (simp only [nums_length, List.length_set, List.length_replicate, List.length_take, List.length_drop, List.length_append, List.length_cons, List.length_nil, ofB_length, toB_length]; omega) | (simp only [nums_length, List.length_set, List.length_replicate, List.length_take, List.length_drop, List.length_append, List.length_cons, List.length_nil, ofB_length, toB_length]; unfold maxLen; omega) | (simp; done) | (simp; omega) | rfl | decide)) ?_
            rintro v38 H67 hS67
            clear hS66
            replace hS67 := hS67.del del0
            refine AnyW.only 14 rfl (by kernel_rfl) rfl rfl (s_mapUpdate (u := v38) hS67 at3 Try.underlying52 (key_str Try.underlying9) rfl rfl rfl) ?_
            rintro _ H68 ⟨rfl, hS68⟩
            clear hS67
            refine AnyW.done (by kernel_rfl) ?_
            replace hS68 := hS68.del del0
            exact CutP.go ⟨v38, _, trivial, Slots.eq ⟨(by first | rfl | exact i64_int (by omega) (by omega) (by omega) | assumption), (by first | rfl | exact i64_int (by omega) (by omega) (by omega) | assumption),  trivial⟩, (by rw [ofP_snoc, if_pos rfl, List.length_append, rowsV_append]; exact hS68)⟩
        ·
          rintro v37 H69 hS69
          clear hS3
          refine AnyW.onlyQ 8 rfl (by kernel_rfl) rfl (dst_lt rfl) (q_load (v := .map _) (by kernel_rfl) rfl (hS69.blk at3) rfl) ?_
          refine AnyW.onlyQ 10 rfl (by kernel_rfl) rfl (dst_lt rfl) (q_lookup (z := .slice none 0 0) Try.underlying52 (key_str Try.underlying9) (by kernel_rfl) rfl rfl (hS69.blk at4)) ?_
          rw [hov]
          refine AnyW.only 13 rfl (by kernel_rfl) rfl (dst_lt rfl) (s_append (sz := 2) (by_ := 24) (z := .agg #[.int .i64 0, S []]) hS69 at5 Try.underlying46 (by kernel_rfl) (by kernel_rfl) (by kernel_rfl) rfl (by kernel_rfl) rfl rfl (src_vec (hS69.vec at0) (fun u hu => recC_one ⟨tSeq body, tDat body⟩ u hu)) (by first | (with_reducible assumption) | omega | (unfold maxLen; omega) | (simp only [nums_length, List.length_set, List.length_replicate, List.length_take, List.length_drop, List.length_append, List.length_cons, List.length_nil, ofB_length, toB_length]; omega) | (simp only [nums_length, List.length_set, List.length_replicate, List.length_take, List.length_drop, List.length_append, List.length_cons, List.length_nil, ofB_length, toB_length]; unfold maxLen; omega) | (simp; done) | (simp; omega) | rfl | decide) (by first | (with_reducible assumption) | omega | (unfold maxLen; omega) | (simp only [nums_length, List.length_set, List.length_replicate, List.length_take, List.length_drop, List.length_append, List.length_cons, List.length_nil, ofB_length, toB_length]; omega) | (simp only [nums_length, List.length_set, List.length_replicate, List.length_take, List.length_drop, List.length_append, List.length_cons, List.length_nil, ofB_length, toB_length]; unfold maxLen; omega) | (simp; done) | (simp; omega) | rfl | decide)) ?_
          rintro v38 H70 hS70
          clear hS69
          replace hS70 := hS70.del del0
          refine AnyW.only 14 rfl (by kernel_rfl) rfl rfl (s_mapUpdate (u := v38) hS70 at3 Try.underlying52 (key_str Try.underlying9) rfl rfl rfl) ?_
          rintro _ H71 ⟨rfl, hS71⟩
          clear hS70
          refine AnyW.done (by kernel_rfl) ?_
          replace hS71 := hS71.del del0
          exact CutP.go ⟨v38, _, trivial, Slots.eq ⟨(by first | rfl | exact i64_int (by omega) (by omega) (by omega) | assumption), (by first | rfl | exact i64_int (by omega) (by omega) (by omega) | assumption),  trivial⟩, (by rw [ofP_snoc, if_pos rfl, List.length_append, rowsV_append]; exact hS71)⟩
      ·
        rintro _ _ ⟨rfl, rfl⟩
        refine AnyW.three 3 10 12 rfl rfl rfl (by kernel_rfl) rfl rfl rfl (dst_lt rfl) (dst_lt rfl) (dst_lt rfl) (q_load (v := .map _) (by kernel_rfl) rfl (hS3.blk at2) rfl) (q_lookup (z := .slice none 0 0) Try.underlying52 (key_str Try.underlying9) (by kernel_rfl) rfl rfl (hS3.blk at3)) (s_buildSlice2 (z := .agg #[.int .i64 0, S []]) hS3 Try.underlying46 (by kernel_rfl) (by kernel_rfl) rfl) ?_ ?_ ?_
        ·
          rintro _ _ ⟨rfl, rfl⟩
          refine AnyW.two 10 12 rfl rfl (by kernel_rfl) rfl rfl (dst_lt rfl) (dst_lt rfl) (q_lookup (z := .slice none 0 0) Try.underlying52 (key_str Try.underlying9) (by kernel_rfl) rfl rfl (hS3.blk at3)) (s_buildSlice2 (z := .agg #[.int .i64 0, S []]) hS3 Try.underlying46 (by kernel_rfl) (by kernel_rfl) rfl) ?_ ?_
          ·
            rintro _ _ ⟨rfl, rfl⟩
            rw [hov]
            refine AnyW.only 12 rfl (by kernel_rfl) rfl (dst_lt rfl) (s_buildSlice2 (z := .agg #[.int .i64 0, S []]) hS3 Try.underlying46 (by kernel_rfl) (by kernel_rfl) rfl) ?_
            rintro v37 H72 hS72
            clear hS3
            refine AnyW.only 13 rfl (by kernel_rfl) rfl (dst_lt rfl) (s_append (sz := 2) (by_ := 24) (z := .agg #[.int .i64 0, S []]) hS72 at5 Try.underlying46 (by kernel_rfl) (by kernel_rfl) (by kernel_rfl) rfl (by kernel_rfl) rfl rfl (src_vec (hS72.vec at0) (fun u hu => recC_one ⟨tSeq body, tDat body⟩ u hu)) (by first | (with_reducible assumption) | omega | (unfold maxLen; omega) | (simp only [nums_length, List.length_set, List.length_replicate, List.length_take, List.length_drop, List.length_append, List.length_cons, List.length_nil, ofB_length, toB_length]; omega) | (simp only [nums_length, List.length_set, List.length_replicate, List.length_take, List.length_drop, List.length_append, List.length_cons, List.length_nil, ofB_length, toB_length]; unfold maxLen; omega) | (simp; done) | (simp; omega) | rfl | decide) (by first | (with_reducible assumption) | omega | (unfold maxLen; omega) | (simp only [nums_length, List.length_set, List.length_replicate, List.length_take, List.length_drop, List.length_append, List.length_cons, List.length_nil, ofB_length, toB_length]; omega) | (simp only [nums_length, List.length_set, List.length_replicate, List.length_take, List.length_drop, List.length_append, List.length_cons, List.length_nil, ofB_length, toB_length]; unfold maxLen; omega) | (simp; done) | (simp; omega) | rfl | decide)) ?_
            rintro v38 H73 hS73
            clear hS72
            replace hS73 := hS73.del del0
            refine AnyW.only 14 rfl (by kernel_rfl) rfl rfl (s_mapUpdate (u := v38) hS73 at3 Try.underlying52 (key_str Try.underlying9) rfl rfl rfl) ?_
            rintro _ H74 ⟨rfl, hS74⟩
            clear hS73
            refine AnyW.done (by kernel_rfl) ?_
            replace hS74 := hS74.del del0
            exact CutP.go ⟨v38, _, trivial, Slots.eq ⟨(by first | rfl | exact i64_int (by omega) (by omega) (by omega) | assumption), (by first | rfl | exact i64_int (by omega) (by omega) (by omega) | assumption),  trivial⟩, (by rw [ofP_snoc, if_pos rfl, List.length_append, rowsV_append]; exact hS74)⟩
          ·
            rintro v37 H75 hS75
            clear hS3
            refine AnyW.onlyQ 10 rfl (by kernel_rfl) rfl (dst_lt rfl) (q_lookup (z := .slice none 0 0) Try.underlying52 (key_str Try.underlying9) (by kernel_rfl) rfl rfl (hS75.blk at4)) ?_
            rw [hov]
            refine AnyW.only 13 rfl (by kernel_rfl) rfl (dst_lt rfl) (s_append (sz := 2) (by_ := 24) (z := .agg #[.int .i64 0, S []]) hS75 at5 Try.underlying46 (by kernel_rfl) (by kernel_rfl) (by kernel_rfl) rfl (by kernel_rfl) rfl rfl (src_vec (hS75.vec at0) (fun u hu => recC_one ⟨tSeq body, tDat body⟩ u hu)) (by first | (with_reducible assumption) | omega | (unfold maxLen; omega) | (simp only [nums_length, List.length_set, List.length_replicate, List.length_take, List.length_drop, List.length_append, List.length_cons, List.length_nil, ofB_length, toB_length]; omega) | (simp only [nums_length, List.length_set, List.length_replicate, List.length_take, List.length_drop, List.length_append, List.length_cons, List.length_nil, ofB_length, toB_length]; unfold maxLen; omega) | (simp; done) | (simp; omega) | rfl | decide) (by first | (with_reducible assumption) | omega | (unfold maxLen; omega) | (simp only [nums_length, List.length_set, List.length_replicate, List.length_take, List.length_drop, List.length_append, List.length_cons, List.length_nil, ofB_length, toB_length]; omega) | (simp only [nums_length, List.length_set, List.length_replicate, List.length_take, List.length_drop, List.length_append, List.length_cons, List.length_nil, ofB_length, toB_length]; unfold maxLen; omega) | (simp; done) | (simp; omega) | rfl | decide)) ?_
            rintro v38 H76 hS76
            clear hS75
            replace hS76 := hS76.del del0
            refine AnyW.only 14 rfl (by kernel_rfl) rfl rfl (s_mapUpdate (u := v38) hS76 at3 Try.underlying52 (key_str Try.underlying9) rfl rfl rfl) ?_
            rintro _ H77 ⟨rfl, hS77⟩
            clear hS76
            refine AnyW.done (by kernel_rfl) ?_
            replace hS77 := hS77.del del0
            exact CutP.go ⟨v38, _, trivial, Slots.eq ⟨(by first | rfl | exact i64_int (by omega) (by omega) (by omega) | assumption), (by first | rfl | exact i64_int (by omega) (by omega) (by omega) | assumption),  trivial⟩, (by rw [ofP_snoc, if_pos rfl, List.length_append, rowsV_append]; exact hS77)⟩
        ·
          rintro _ _ ⟨rfl, rfl⟩
          rw [hov]
          refine AnyW.two 3 12 rfl rfl (by kernel_rfl) rfl rfl (dst_lt rfl) (dst_lt rfl) (q_load (v := .map _) (by kernel_rfl) rfl (hS3.blk at2) rfl) (s_buildSlice2 (z := .agg #[.int .i64 0, S []]) hS3 Try.underlying46 (by kernel_rfl) (by kernel_rfl) rfl) ?_ ?_
          ·
            rintro _ _ ⟨rfl, rfl⟩
            refine AnyW.only 12 rfl (by kernel_rfl) rfl (dst_lt rfl) (s_buildSlice2 (z := .agg #[.int .i64 0, S []]) hS3 Try.underlying46 (by kernel_rfl) (by kernel_rfl) rfl) ?_
            rintro v37 H78 hS78
            clear hS3
            refine AnyW.only 13 rfl (by kernel_rfl) rfl (dst_lt rfl) (s_append (sz := 2) (by_ := 24) (z := .agg #[.int .i64 0, S []]) hS78 at5 Try.underlying46 (by kernel_rfl) (by kernel_rfl) (by kernel_rfl) rfl (by kernel_rfl) rfl rfl (src_vec (hS78.vec at0) (fun u hu => recC_one ⟨tSeq body, tDat body⟩ u hu)) (by first | (with_reducible assumption) | omega | (unfold maxLen; omega) | (simp only [nums_length, List.length_set, List.length_replicate, List.length_take, List.length_drop, List.length_append, List.length_cons, List.length_nil, ofB_length, toB_length]; omega) | (simp only [nums_length, List.length_set, List.length_replicate, List.length_take, List.length_drop, List.length_append, List.length_cons, List.length_nil, ofB_length, toB_length]; unfold maxLen; omega) | (simp; done) | (simp; omega) | rfl | decide) (by first | (with_reducible assumption) | omega | (unfold maxLen; omega) | (simp only [nums_length, List.length_set, List.length_replicate, List.length_take, List.length_drop, List.length_append, List.length_cons, List.length_nil, ofB_length, toB_length]; omega) | (simp only [nums_length, List.length_set, List.length_replicate, List.length_take, List.length_drop, List.length_append, List.length_cons, List.length_nil, ofB_length, toB_length]; unfold maxLen; omega) | (simp; done) | (simp; omega) | rfl | decide)) ?_
            rintro v38 H79 hS79
            clear hS78
            replace hS79 := hS79.del del0
            refine AnyW.only 14 rfl (by kernel_rfl) rfl rfl (s_mapUpdate (u := v38) hS79 at3 Try.underlying52 (key_str Try.underlying9) rfl rfl rfl) ?_
            rintro _ H80 ⟨rfl, hS80⟩
            clear hS79
            refine AnyW.done (by kernel_rfl) ?_
            replace hS80 := hS80.del del0
            exact CutP.go ⟨v38, _, trivial, Slots.eq ⟨(by first | rfl | exact i64_int (by omega) (by omega) (by omega) | assumption), (by first | rfl | exact i64_int (by omega) (by omega) (by omega) | assumption),  trivial⟩, (by rw [ofP_snoc, if_pos rfl, List.length_append, rowsV_append]; exact hS80)⟩
          ·
            rintro v37 H81 hS81
            clear hS3
            refine AnyW.two 3 13 rfl rfl (by kernel_rfl) rfl rfl (dst_lt rfl) (dst_lt rfl) (q_load (v := .map _) (by kernel_rfl) rfl (hS81.blk at3) rfl) (s_append (sz := 2) (by_ := 24) (z := .agg #[.int .i64 0, S []]) hS81 at5 Try.underlying46 (by kernel_rfl) (by kernel_rfl) (by kernel_rfl) rfl (by kernel_rfl) rfl rfl (src_vec (hS81.vec at0) (fun u hu => recC_one ⟨tSeq body, tDat body⟩ u hu)) (by first | (with_reducible assumption) | omega | (unfold maxLen; omega) | (simp only [nums_length, List.length_set, List.length_replicate, List.length_take, List.length_drop, List.length_append, List.length_cons, List.length_nil, ofB_length, toB_length]; omega) | (simp only [nums_length, List.length_set, List.length_replicate, List.length_take, List.length_drop, List.length_append, List.length_cons, List.length_nil, ofB_length, toB_length]; unfold maxLen; omega) | (simp; done) | (simp; omega) | rfl | decide) (by first | (with_reducible assumption) | omega | (unfold maxLen; omega) | (simp only [nums_length, List.length_set, List.length_replicate, List.length_take, List.length_drop, List.length_append, List.length_cons, List.length_nil, ofB_length, toB_length]; omega) | (simp only [nums_length, List.length_set, List.length_replicate, List.length_take, List.length_drop, List.length_append, List.length_cons, List.length_nil, ofB_length, toB_length]; unfold maxLen; omega) | (simp; done) | (simp; omega) | rfl | decide)) ?_ ?_
            ·
              rintro _ _ ⟨rfl, rfl⟩
              refine AnyW.only 13 rfl (by kernel_rfl) rfl (dst_lt rfl) (s_append (sz := 2) (by_ := 24) (z := .agg #[.int .i64 0, S []]) hS81 at5 Try.underlying46 (by kernel_rfl) (by kernel_rfl) (by kernel_rfl) rfl (by kernel_rfl) rfl rfl (src_vec (hS81.vec at0) (fun u hu => recC_one ⟨tSeq body, tDat body⟩ u hu)) (by first | (with_reducible assumption) | omega | (unfold maxLen; omega) | (simp only [nums_length, List.length_set, List.length_replicate, List.length_take, List.length_drop, List.length_append, List.length_cons, List.length_nil, ofB_length, toB_length]; omega) | (simp only [nums_length, List.length_set, List.length_replicate, List.length_take, List.length_drop, List.length_append, List.length_cons, List.length_nil, ofB_length, toB_length]; unfold maxLen; omega) | (simp; done) | (simp; omega) | rfl | decide) (by first | (with_reducible assumption) | omega | (unfold maxLen; omega) | (simp only [nums_length, List.length_set, List.length_replicate, List.length_take, List.length_drop, List.length_append, List.length_cons, List.length_nil, ofB_length, toB_length]; omega) | (simp only [nums_length, List.length_set, List.length_replicate, List.length_take, List.length_drop, List.length_append, List.length_cons, List.length_nil, ofB_length, toB_length]; unfold maxLen; omega) | (simp; done) | (simp; omega) | rfl | decide)) ?_
              rintro v38 H82 hS82
              clear hS81
              replace hS82 := hS82.del del0
              refine AnyW.only 14 rfl (by kernel_rfl) rfl rfl (s_mapUpdate (u := v38) hS82 at3 Try.underlying52 (key_str Try.underlying9) rfl rfl rfl) ?_
              rintro _ H83 ⟨rfl, hS83⟩
              clear hS82
              refine AnyW.done (by kernel_rfl) ?_
              replace hS83 := hS83.del del0
              exact CutP.go ⟨v38, _, trivial, Slots.eq ⟨(by first | rfl | exact i64_int (by omega) (by omega) (by omega) | assumption), (by first | rfl | exact i64_int (by omega) (by omega) (by omega) | assumption),  trivial⟩, (by rw [ofP_snoc, if_pos rfl, List.length_append, rowsV_append]; exact hS83)⟩
            ·
              rintro v38 H84 hS84
              clear hS81
              replace hS84 := hS84.del del0
              refine AnyW.onlyQ 3 rfl (by kernel_rfl) rfl (dst_lt rfl) (q_load (v := .map _) (by kernel_rfl) rfl (hS84.blk at2) rfl) ?_
              refine AnyW.only 14 rfl (by kernel_rfl) rfl rfl (s_mapUpdate (u := v38) hS84 at3 Try.underlying52 (key_str Try.underlying9) rfl rfl rfl) ?_
              rintro _ H85 ⟨rfl, hS85⟩
              clear hS84
              refine AnyW.done (by kernel_rfl) ?_
              replace hS85 := hS85.del del0
              exact CutP.go ⟨v38, _, trivial, Slots.eq ⟨(by first | rfl | exact i64_int (by omega) (by omega) (by omega) | assumption), (by first | rfl | exact i64_int (by omega) (by omega) (by omega) | assumption),  trivial⟩, (by rw [ofP_snoc, if_pos rfl, List.length_append, rowsV_append]; exact hS85)⟩
        ·
          rintro v37 H86 hS86
          clear hS3
          refine AnyW.two 3 10 rfl rfl (by kernel_rfl) rfl rfl (dst_lt rfl) (dst_lt rfl) (q_load (v := .map _) (by kernel_rfl) rfl (hS86.blk at3) rfl) (q_lookup (z := .slice none 0 0) Try.underlying52 (key_str Try.underlying9) (by kernel_rfl) rfl rfl (hS86.blk at4)) ?_ ?_
          ·
            rintro _ _ ⟨rfl, rfl⟩
            refine AnyW.onlyQ 10 rfl (by kernel_rfl) rfl (dst_lt rfl) (q_lookup (z := .slice none 0 0) Try.underlying52 (key_str Try.underlying9) (by kernel_rfl) rfl rfl (hS86.blk at4)) ?_
            rw [hov]
            refine AnyW.only 13 rfl (by kernel_rfl) rfl (dst_lt rfl) (s_append (sz := 2) (by_ := 24) (z := .agg #[.int .i64 0, S []]) hS86 at5 Try.underlying46 (by kernel_rfl) (by kernel_rfl) (by kernel_rfl) rfl (by kernel_rfl) rfl rfl (src_vec (hS86.vec at0) (fun u hu => recC_one ⟨tSeq body, tDat body⟩ u hu)) (by first | (with_reducible assumption) | omega | (unfold maxLen; omega) | (simp only [nums_length, List.length_set, List.length_replicate, List.length_take, List.length_drop, List.length_append, List.length_cons, List.length_nil, ofB_length, toB_length]; omega) | (simp only [nums_length, List.length_set, List.length_replicate, List.length_take, List.length_drop, List.length_append, List.length_cons, List.length_nil, ofB_length, toB_length]; unfold maxLen; omega) | (simp; done) | (simp; omega) | rfl | decide) (by first | (with_reducible assumption) | omega | (unfold maxLen; omega) | (simp only [nums_length, List.length_set, List.length_replicate, List.length_take, List.length_drop, List.length_append, List.length_cons, List.length_nil, ofB_length, toB_length]; omega) | (simp only [nums_length, List.length_set, List.length_replicate, List.length_take, List.length_drop, List.length_append, List.length_cons, List.length_nil, ofB_length, toB_length]; unfold maxLen; omega) | (simp; done) | (simp; omega) | rfl | decide)) ?_
            rintro v38 H87 hS87
            clear hS86
            replace hS87 := hS87.del del0
            refine AnyW.only 14 rfl (by kernel_rfl) rfl rfl (s_mapUpdate (u := v38) hS87 at3 Try.underlying52 (key_str Try.underlying9) rfl rfl rfl) ?_
            rintro _ H88 ⟨rfl, hS88⟩
            clear hS87
            refine AnyW.done (by kernel_rfl) ?_
            replace hS88 := hS88.del del0
            exact CutP.go ⟨v38, _, trivial, Slots.eq ⟨(by first | rfl | exact i64_int (by omega) (by omega) (by omega) | assumption), (by first | rfl | exact i64_int (by omega) (by omega) (by omega) | assumption),  trivial⟩, (by rw [ofP_snoc, if_pos rfl, List.length_append, rowsV_append]; exact hS88)⟩
          ·
            rintro _ _ ⟨rfl, rfl⟩
            rw [hov]
            refine AnyW.two 3 13 rfl rfl (by kernel_rfl) rfl rfl (dst_lt rfl) (dst_lt rfl) (q_load (v := .map _) (by kernel_rfl) rfl (hS86.blk at3) rfl) (s_append (sz := 2) (by_ := 24) (z := .agg #[.int .i64 0, S []]) hS86 at5 Try.underlying46 (by kernel_rfl) (by kernel_rfl) (by kernel_rfl) rfl (by kernel_rfl) rfl rfl (src_vec (hS86.vec at0) (fun u hu => recC_one ⟨tSeq body, tDat body⟩ u hu)) (by first | (with_reducible assumption) | omega | (unfold maxLen; omega) | (simp only [nums_length, List.length_set, List.length_replicate, List.length_take, List.length_drop, List.length_append, List.length_cons, List.length_nil, ofB_length, toB_length]; omega) | (simp only [nums_length, List.length_set, List.length_replicate, List.length_take, List.length_drop, List.length_append, List.length_cons, List.length_nil, ofB_length, toB_length]; unfold maxLen; omega) | (simp; done) | (simp; omega) | rfl | decide) (by first | (with_reducible assumption) | omega | (unfold maxLen; omega) | (simp only [nums_length, List.length_set, List.length_replicate, List.length_take, List.length_drop, List.length_append, List.length_cons, List.length_nil, ofB_length, toB_length]; omega) | (simp only [nums_length, List.length_set, List.length_replicate, List.length_take, List.length_drop, List.length_append, List.length_cons, List.length_nil, ofB_length, toB_length]; unfold maxLen; omega) | (simp; done) | (simp; omega) | rfl | decide)) ?_ ?_
            ·
              rintro _ _ ⟨rfl, rfl⟩
              refine AnyW.only 13 rfl (by kernel_rfl) rfl (dst_lt rfl) (s_append (sz := 2) (by_ := 24) (z := .agg #[.int .i64 0, S []]) hS86 at5 Try.underlying46 (by kernel_rfl) (by kernel_rfl) (by kernel_rfl) rfl (by kernel_rfl) rfl rfl (src_vec (hS86.vec at0) (fun u hu => recC_one ⟨tSeq body, tDat body⟩ u hu)) (by first | (with_reducible assumption) | omega | (unfold maxLen; omega) | (simp only [nums_length, List.length_set, List.length_replicate, List.length_take, List.length_drop, List.length_append, List.length_cons, List.length_nil, ofB_length, toB_length]; omega) | (simp only [nums_length, List.length_set, List.length_replicate, List.length_take, List.length_drop, List.length_append, List.length_cons, List.length_nil, ofB_length, toB_length]; unfold maxLen; omega) | (simp; done) | (simp; omega) | rfl | decide) (by first | (with_reducible assumption) | omega | (unfold maxLen; omega) | (simp only [nums_length, List.length_set, List.length_replicate, List.length_take, List.length_drop, List.length_append, List.length_cons, List.length_nil, ofB_length, toB_length]; omega) | (simp only [nums_length, List.length_set, List.length_replicate, List.length_take, List.length_drop, List.length_append, List.length_cons, List.length_nil, ofB_length, toB_length]; unfold maxLen; omega) | (simp; done) | (simp; omega) | rfl | decide)) ?_
              rintro v38 H89 hS89
              clear hS86
              replace hS89 := hS89.del del0
              refine AnyW.only 14 rfl (by kernel_rfl) rfl rfl (s_mapUpdate (u := v38) hS89 at3 Try.underlying52 (key_str Try.underlying9) rfl rfl rfl) ?_
              rintro _ H90 ⟨rfl, hS90⟩
              clear hS89
              refine AnyW.done (by kernel_rfl) ?_
              replace hS90 := hS90.del del0
              exact CutP.go ⟨v38, _, trivial, Slots.eq ⟨(by first | rfl | exact i64_int (by omega) (by omega) (by omega) | assumption), (by first | rfl | exact i64_int (by omega) (by omega) (by omega) | assumption),  trivial⟩, (by rw [ofP_snoc, if_pos rfl, List.length_append, rowsV_append]; exact hS90)⟩
            ·
              rintro v38 H91 hS91
              clear hS86
              replace hS91 := hS91.del del0
              refine AnyW.onlyQ 3 rfl (by kernel_rfl) rfl (dst_lt rfl) (q_load (v := .map _) (by kernel_rfl) rfl (hS91.blk at2) rfl) ?_
              refine AnyW.only 14 rfl (by kernel_rfl) rfl rfl (s_mapUpdate (u := v38) hS91 at3 Try.underlying52 (key_str Try.underlying9) rfl rfl rfl) ?_
              rintro _ H92 ⟨rfl, hS92⟩
              clear hS91
              refine AnyW.done (by kernel_rfl) ?_
              replace hS92 := hS92.del del0
              exact CutP.go ⟨v38, _, trivial, Slots.eq ⟨(by first | rfl | exact i64_int (by omega) (by omega) (by omega) | assumption), (by first | rfl | exact i64_int (by omega) (by omega) (by omega) | assumption),  trivial⟩, (by rw [ofP_snoc, if_pos rfl, List.length_append, rowsV_append]; exact hS92)⟩
      ·
        rintro v37 H93 hS93
        clear hS3
        refine AnyW.two 3 8 rfl rfl (by kernel_rfl) rfl rfl (dst_lt rfl) (dst_lt rfl) (q_load (v := .map _) (by kernel_rfl) rfl (hS93.blk at3) rfl) (q_load (v := .map _) (by kernel_rfl) rfl (hS93.blk at3) rfl) ?_ ?_
        ·
          rintro _ _ ⟨rfl, rfl⟩
          refine AnyW.onlyQ 8 rfl (by kernel_rfl) rfl (dst_lt rfl) (q_load (v := .map _) (by kernel_rfl) rfl (hS93.blk at3) rfl) ?_
          refine AnyW.onlyQ 10 rfl (by kernel_rfl) rfl (dst_lt rfl) (q_lookup (z := .slice none 0 0) Try.underlying52 (key_str Try.underlying9) (by kernel_rfl) rfl rfl (hS93.blk at4)) ?_
          rw [hov]
          refine AnyW.only 13 rfl (by kernel_rfl) rfl (dst_lt rfl) (s_append (sz := 2) (by_ := 24) (z := .agg #[.int .i64 0, S []]) hS93 at5 Try.underlying46 (by kernel_rfl) (by kernel_rfl) (by kernel_rfl) rfl (by kernel_rfl) rfl rfl (src_vec (hS93.vec at0) (fun u hu => recC_one ⟨tSeq body, tDat body⟩ u hu)) (by first | (with_reducible assumption) | omega | (unfold maxLen; omega) | (simp only [nums_length, List.length_set, List.length_replicate, List.length_take, List.length_drop, List.length_append, List.length_cons, List.length_nil, ofB_length, toB_length]; omega) | (simp only [nums_length, List.length_set, List.length_replicate, List.length_take, List.length_drop, List.length_append, List.length_cons, List.length_nil, ofB_length, toB_length]; unfold maxLen; omega) | (simp; done) | (simp; omega) | rfl | decide) (by first | (with_reducible assumption) | omega | (unfold maxLen; omega) | (simp only [nums_length, List.length_set, List.length_replicate, List.length_take, List.length_drop, List.length_append, List.length_cons, List.length_nil, ofB_length, toB_length]; omega) | (simp only [nums_length, List.length_set, List.length_replicate, List.length_take, List.length_drop, List.length_append, List.length_cons, List.length_nil, ofB_length, toB_length]; unfold maxLen; omega) | (simp; done) | (simp; omega) | rfl | decide)) ?_
          rintro v38 H94 hS94
          clear hS93
          replace hS94 := hS94.del del0
          refine AnyW.only 14 rfl (by kernel_rfl) rfl rfl (s_mapUpdate (u := v38) hS94 at3 Try.underlying52 (key_str Try.underlying9) rfl rfl rfl) ?_
          rintro _ H95 ⟨rfl, hS95⟩
          clear hS94
          refine AnyW.done (by kernel_rfl) ?_
          replace hS95 := hS95.del del0
          exact CutP.go ⟨v38, _, trivial, Slots.eq ⟨(by first | rfl | exact i64_int (by omega) (by omega) (by omega) | assumption), (by first | rfl | exact i64_int (by omega) (by omega) (by omega) | assumption),  trivial⟩, (by rw [ofP_snoc, if_pos rfl, List.length_append, rowsV_append]; exact hS95)⟩
        ·
          rintro _ _ ⟨rfl, rfl⟩
          refine AnyW.two 3 10 rfl rfl (by kernel_rfl) rfl rfl (dst_lt rfl) (dst_lt rfl) (q_load (v := .map _) (by kernel_rfl) rfl (hS93.blk at3) rfl) (q_lookup (z := .slice none 0 0) Try.underlying52 (key_str Try.underlying9) (by kernel_rfl) rfl rfl (hS93.blk at4)) ?_ ?_
          ·
            rintro _ _ ⟨rfl, rfl⟩
            refine AnyW.onlyQ 10 rfl (by kernel_rfl) rfl (dst_lt rfl) (q_lookup (z := .slice none 0 0) Try.underlying52 (key_str Try.underlying9) (by kernel_rfl) rfl rfl (hS93.blk at4)) ?_
            rw [hov]
            refine AnyW.only 13 rfl (by kernel_rfl) rfl (dst_lt rfl) (s_append (sz := 2) (by_ := 24) (z := .agg #[.int .i64 0, S []]) hS93 at5 Try.underlying46 (by kernel_rfl) (by kernel_rfl) (by kernel_rfl) rfl (by kernel_rfl) rfl rfl (src_vec (hS93.vec at0) (fun u hu => recC_one ⟨tSeq body, tDat body⟩ u hu)) (by first | (with_reducible assumption) | omega | (unfold maxLen; omega) | (simp only [nums_length, List.length_set, List.length_replicate, List.length_take, List.length_drop, List.length_append, List.length_cons, List.length_nil, ofB_length, toB_length]; omega) | (simp only [nums_length, List.length_set, List.length_replicate, List.length_take, List.length_drop, List.length_append, List.length_cons, List.length_nil, ofB_length, toB_length]; unfold maxLen; omega) | (simp; done) | (simp; omega) | rfl | decide) (by first | (with_reducible assumption) | omega | (unfold maxLen; omega) | (simp only [nums_length, List.length_set, List.length_replicate, List.length_take, List.length_drop, List.length_append, List.length_cons, List.length_nil, ofB_length, toB_length]; omega) | (simp only [nums_length, List.length_set, List.length_replicate, List.length_take, List.length_drop, List.length_append, List.length_cons, List.length_nil, ofB_length, toB_length]; unfold maxLen; omega) | (simp; done) | (simp; omega) | rfl | decide)) ?_
            rintro v38 H96 hS96
            clear hS93
            replace hS96 := hS96.del del0
            refine AnyW.only 14 rfl (by kernel_rfl) rfl rfl (s_mapUpdate (u := v38) hS96 at3 Try.underlying52 (key_str Try.underlying9) rfl rfl rfl) ?_
            rintro _ H97 ⟨rfl, hS97⟩
            clear hS96
            refine AnyW.done (by kernel_rfl) ?_
            replace hS97 := hS97.del del0
            exact CutP.go ⟨v38, _, trivial, Slots.eq ⟨(by first | rfl | exact i64_int (by omega) (by omega) (by omega) | assumption), (by first | rfl | exact i64_int (by omega) (by omega) (by omega) | assumption),  trivial⟩, (by rw [ofP_snoc, if_pos rfl, List.length_append, rowsV_append]; exact hS97)⟩
          ·
            rintro _ _ ⟨rfl, rfl⟩
            rw [hov]
            refine AnyW.two 3 13 rfl rfl (by kernel_rfl) rfl rfl (dst_lt rfl) (dst_lt rfl) (q_load (v := .map _) (by kernel_rfl) rfl (hS93.blk at3) rfl) (s_append (sz := 2) (by_ := 24) (z := .agg #[.int .i64 0, S []]) hS93 at5 Try.underlying46 (by kernel_rfl) (by kernel_rfl) (by kernel_rfl) rfl (by kernel_rfl) rfl rfl (src_vec (hS93.vec at0) (fun u hu => recC_one ⟨tSeq body, tDat body⟩ u hu)) (by first | (with_reducible assumption) | omega | (unfold maxLen; omega) | (simp only [nums_length, List.length_set, List.length_replicate, List.length_take, List.length_drop, List.length_append, List.length_cons, List.length_nil, ofB_length, toB_length]; omega) | (simp only [nums_length, List.length_set, List.length_replicate, List.length_take, List.length_drop, List.length_append, List.length_cons, List.length_nil, ofB_length, toB_length]; unfold maxLen; omega) | (simp; done) | (simp; omega) | rfl | decide) (by first | (with_reducible assumption) | omega | (unfold maxLen; omega) | (simp only [nums_length, List.length_set, List.length_replicate, List.length_take, List.length_drop, List.length_append, List.length_cons, List.length_nil, ofB_length, toB_length]; omega) | (simp only [nums_length, List.length_set, List.length_replicate, List.length_take, List.length_drop, List.length_append, List.length_cons, List.length_nil, ofB_length, toB_length]; unfold maxLen; omega) | (simp; done) | (simp; omega) | rfl | decide)) ?_ ?_
            ·
              rintro _ _ ⟨rfl, rfl⟩
              refine AnyW.only 13 rfl (by kernel_rfl) rfl (dst_lt rfl) (s_append (sz := 2) (by_ := 24) (z := .agg #[.int .i64 0, S []]) hS93 at5 Try.underlying46 (by kernel_rfl) (by kernel_rfl) (by kernel_rfl) rfl (by kernel_rfl) rfl rfl (src_vec (hS93.vec at0) (fun u hu => recC_one ⟨tSeq body, tDat body⟩ u hu)) (by first | (with_reducible assumption) | omega | (unfold maxLen; omega) | (simp only [nums_length, List.length_set, List.length_replicate, List.length_take, List.length_drop, List.length_append, List.length_cons, List.length_nil, ofB_length, toB_length]; omega) | (simp only [nums_length, List.length_set, List.length_replicate, List.length_take, List.length_drop, List.length_append, List.length_cons, List.length_nil, ofB_length, toB_length]; unfold maxLen; omega) | (simp; done) | (simp; omega) | rfl | decide) (by first | (with_reducible assumption) | omega | (unfold maxLen; omega) | (simp only [nums_length, List.length_set, List.length_replicate, List.length_take, List.length_drop, List.length_append, List.length_cons, List.length_nil, ofB_length, toB_length]; omega) | (simp only [nums_length, List.length_set, List.length_replicate, List.length_take, List.length_drop, List.length_append, List.length_cons, List.length_nil, ofB_length, toB_length]; unfold maxLen; omega) | (simp; done) | (simp; omega) | rfl | decide)) ?_
              rintro v38 H98 hS98
              clear hS93
              replace hS98 := hS98.del del0
              refine AnyW.only 14 rfl (by kernel_rfl) rfl rfl (s_mapUpdate (u := v38) hS98 at3 Try.underlying52 (key_str Try.underlying9) rfl rfl rfl) ?_
              rintro _ H99 ⟨rfl, hS99⟩
              clear hS98
              refine AnyW.done (by kernel_rfl) ?_
              replace hS99 := hS99.del del0
              exact CutP.go ⟨v38, _, trivial, Slots.eq ⟨(by first | rfl | exact i64_int (by omega) (by omega) (by omega) | assumption), (by first | rfl | exact i64_int (by omega) (by omega) (by omega) | assumption),  trivial⟩, (by rw [ofP_snoc, if_pos rfl, List.length_append, rowsV_append]; exact hS99)⟩
            ·
              rintro v38 H100 hS100
              clear hS93
              replace hS100 := hS100.del del0
              refine AnyW.onlyQ 3 rfl (by kernel_rfl) rfl (dst_lt rfl) (q_load (v := .map _) (by kernel_rfl) rfl (hS100.blk at2) rfl) ?_
              refine AnyW.only 14 rfl (by kernel_rfl) rfl rfl (s_mapUpdate (u := v38) hS100 at3 Try.underlying52 (key_str Try.underlying9) rfl rfl rfl) ?_
              rintro _ H101 ⟨rfl, hS101⟩
              clear hS100
              refine AnyW.done (by kernel_rfl) ?_
              replace hS101 := hS101.del del0
              exact CutP.go ⟨v38, _, trivial, Slots.eq ⟨(by first | rfl | exact i64_int (by omega) (by omega) (by omega) | assumption), (by first | rfl | exact i64_int (by omega) (by omega) (by omega) | assumption),  trivial⟩, (by rw [ofP_snoc, if_pos rfl, List.length_append, rowsV_append]; exact hS101)⟩
  rintro _ Hc102 ⟨ov2, _, _, rfl, hSc102⟩
  try clear hS3
  refine AW.seq ?_
  refine AW.region ?_
  refine OpsW.q rfl (q_move (v := .pointer _) rfl) ?_
  refine OpsW.q rfl (q_fieldAddr (sz := 0) Try.underlying74 rfl (by kernel_rfl) rfl) ?_
  refine OpsW.q rfl (q_load (v := S _) (by kernel_rfl) rfl (hSc102.blk at0) rfl) ?_
  refine OpsW.q rfl (q_nilCheck rfl) ?_
  refine OpsW.q rfl (q_fieldAddr (sz := 0) Try.underlying85 rfl (by kernel_rfl) rfl) ?_
  refine OpsW.ms (s_storeC (v := S _) hSc102 at1 (by kernel_rfl) rfl rfl rfl (by first | (with_reducible assumption) | omega | (unfold maxLen; omega) | (simp only [nums_length, List.length_set, List.length_replicate, List.length_take, List.length_drop, List.length_append, List.length_cons, List.length_nil, ofB_length, toB_length]; omega) | (simp only [nums_length, List.length_set, List.length_replicate, List.length_take, List.length_drop, List.length_append, List.length_cons, List.length_nil, ofB_length, toB_length]; unfold maxLen; omega) | (simp; done) | (simp; omega) | rfl | decide)) ?_
  rintro _ H103 ⟨rfl, hS103⟩
  clear hSc102
  refine OpsW.nil ?_
  refine SeqP.go ?_
  refine AW.seq ?_
  refine AW.region ?_
  refine OpsW.q rfl (q_assign (v := .bool _) rfl) ?_
  refine OpsW.nil ?_
  refine SeqP.go ?_
  refine AW.ret ?_
  refine RetP.mk1 (H' := _) (v1 := .bool _) rfl rfl  (Hp.le_refl _) ?_
  refine ⟨rfl, ?_⟩
  exact Sep.under hS103.tail fun hG => st_close hnd hno (fun w hw => by rw [ofP_snoc, if_neg (fun e => hw e.symm)]) hG
end
end Go.Proofs.Ytfiojlmccflplaa

