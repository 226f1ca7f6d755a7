/-
  The walk of what package spool takes up.
-/
import Derived.Test.YtpaombkodoofgaaDQ
import Derived.Test.YtpaombkodoofgaaProg
import Derived.Test.YtpaombkodoofgaaSkSpec
import Derived.Test.YtpaombkodoofgaaSq
import Derived.Test.YtpaombkodoofgaaDH
namespace Go.Proofs.Ytpaombkodoofgaa
open Go Go.RowKit D
set_option linter.unusedVariables false
set_option linter.unusedSimpArgs false
set_option maxRecDepth 100000
set_option maxHeartbeats 2000000
section
variable {w0 : World} {H : Hp} {H0 : Hp}

theorem take_s {b : Nat} {lv tp : Value} {s : SpS} {rm : Int} {dd : Bool} {body : List UInt8} (hS0 : Sep H0 [.blk b ⟨[lv, .int .i64 s.ak, .int .i64 s.la, tp, .int .i64 rm, .bool dd], 6, 56⟩, .vec lv 46 2 s.l.length (rowsV recC s.l)] H) (hok : SpOk s) : Con Try.prog w0 18 #[.pointer (some ⟨b, 0, none⟩), S body] H (fun v H' => ∃ lv', v = .bool (takeP s body).1 ∧ Sep H0 [.blk b ⟨[lv', .int .i64 (takeP s body).2.ak, .int .i64 (takeP s body).2.la, tp, .int .i64 rm, .bool dd], 6, 56⟩, .vec lv' 46 2 (takeP s body).2.l.length (rowsV recC (takeP s body).2.l)] H') := by
  obtain ⟨k1, k2, k3, k4⟩ := id hok
  refine Con.intro Try.func18 rfl rfl ?_
  refine AW.seq ?_
  refine AW.region ?_
  refine OpsW.q rfl (q_assign (v := .bool _) rfl) ?_
  refine OpsW.nil ?_
  refine SeqP.go ?_
  refine AW.seq ?_
  refine AW.seq ?_
  refine AW.region ?_
  refine OpsW.q rfl (q_move (v := S _) rfl) ?_
  refine OpsW.q rfl (q_lenS Try.underlying9 rfl) ?_
  refine OpsW.q rfl (q_leq rfl rfl) ?_
  refine OpsW.nil ?_
  refine SeqP.go ?_
  refine AW.cond rfl (fun h0 => ?_) (fun h0 => ?_)
  ·
    try simp only [decide_eq_true_eq, decide_eq_false_iff_not, Bool.or_eq_true, Bool.and_eq_true, Bool.or_eq_false_iff, Bool.and_eq_false_imp, Bool.not_eq_true', Bool.not_eq_false', ne_eq, Decidable.not_not, Int.not_lt, Int.not_le, Bool.not_eq_true, Bool.not_eq_false] at h0
    refine AW.seq ?_
    refine AW.region ?_
    refine OpsW.q rfl (q_assign (v := .bool _) rfl) ?_
    refine OpsW.nil ?_
    refine SeqP.go ?_
    refine AW.ret ?_
    refine SeqP.ret ?_
    refine RetP.mk1 (H' := _) (v1 := .bool _) rfl rfl  (Hp.le_refl _) ?_
    exact ⟨lv, by rw [take_short (by omega)], by rw [take_short (by omega)]; exact hS0⟩
  try simp only [decide_eq_true_eq, decide_eq_false_iff_not, Bool.or_eq_true, Bool.and_eq_true, Bool.or_eq_false_iff, Bool.and_eq_false_imp, Bool.not_eq_true', Bool.not_eq_false', ne_eq, Decidable.not_not, Int.not_lt, Int.not_le, Bool.not_eq_true, Bool.not_eq_false] at h0
  refine AW.skip ?_
  refine SeqP.go ?_
  refine AW.cut (fun e_ H_ => ∃ (b5 : Nat) (e0 : Env), (True) ∧ e_ = upds e0 [(0, .pointer (some ⟨b, 0, none⟩)), (1, S body), (5, .pointer (some ⟨b5, 0, none⟩)), (6, S (tkR body))] ∧ Sep H0 [.blk b5 ⟨[.int .i64 (tkN body)], 1, 3⟩, .blk b ⟨[lv, .int .i64 s.ak, .int .i64 s.la, tp, .int .i64 rm, .bool dd], 6, 56⟩, .vec lv 46 2 s.l.length (rowsV recC s.l)] H_) ?_ ?_
  ·
    refine AW.steps rfl 8 rfl ?_
    refine AnyW.first 0 rfl (by kernel_rfl) (by kernel_rfl) (by kernel_rfl) rfl (dst_lt rfl) (v_move (v := S _) rfl) ?_
    refine AnyW.first 1 rfl (by kernel_rfl) (by kernel_rfl) (by kernel_rfl) rfl (dst_lt rfl) (v_sliceS_lo Try.underlying9 rfl rfl (by first | omega | decide) (by first | omega | decide)) ?_
    refine AnyW.first 3 rfl (by kernel_rfl) (by kernel_rfl) (by kernel_rfl) rfl (dst_lt rfl) (v_move (v := S _) rfl) ?_
    refine AnyW.first 4 rfl (by kernel_rfl) (by kernel_rfl) (by kernel_rfl) rfl (dst_lt rfl) (v_sliceS_lo Try.underlying9 rfl rfl (by first | omega | decide) (by first | omega | decide)) ?_
    rw [show body.drop (Int.toNat 5) = tkR body from rfl]
    refine AnyW.two 2 5 rfl rfl (by kernel_rfl) rfl rfl (dst_lt rfl) (dst_lt rfl) (o_call rfl Try.func25 rfl rfl (number_con (by rw [List.length_drop]; show 4 ≤ body.length - 1; omega))) (s_alloc (z := .int .i64 0) (cs := [.int .i64 0]) hS0 (by kernel_rfl) rfl) ?_ ?_
    ·
      rintro _ _ ⟨rfl, rfl⟩
      rw [show numB (body.drop (Int.toNat 1)) = tkN body from rfl]
      refine AnyW.only 5 rfl (by kernel_rfl) rfl (dst_lt rfl) (s_alloc (z := .int .i64 0) (cs := [.int .i64 0]) hS0 (by kernel_rfl) rfl) ?_
      rintro _ H1 ⟨b5, rfl, hS1⟩
      clear hS0
      refine AnyW.only 6 rfl (by kernel_rfl) rfl rfl (s_storeC (v := .int _ _) hS1 at0 (by kernel_rfl) rfl rfl rfl (by first | (with_reducible assumption) | omega | (unfold maxLen; omega) | (simp only [nums_length, List.length_set, List.length_replicate, List.length_take, List.length_drop, List.length_append, List.length_cons, List.length_nil, ofB_length, toB_length]; omega) | (simp only [nums_length, List.length_set, List.length_replicate, List.length_take, List.length_drop, List.length_append, List.length_cons, List.length_nil, ofB_length, toB_length]; unfold maxLen; omega) | (simp; done) | (simp; omega) | rfl | decide)) ?_
      rintro _ H2 ⟨rfl, hS2⟩
      clear hS1
      refine AnyW.onlyQ 7 rfl (by kernel_rfl) rfl (dst_lt rfl) (q_assign (v := S _) rfl) ?_
      refine AnyW.done (by kernel_rfl) ?_
      exact CutP.go ⟨b5, _, trivial, Slots.eq ⟨(by first | rfl | exact i64_int (by omega) (by omega) (by omega) | assumption), (by first | rfl | exact i64_int (by omega) (by omega) (by omega) | assumption), (by first | rfl | exact i64_int (by omega) (by omega) (by omega) | assumption), (by first | rfl | exact i64_int (by omega) (by omega) (by omega) | assumption),  trivial⟩, hS2⟩
    ·
      rintro _ H3 ⟨b5, rfl, hS3⟩
      clear hS0
      refine AnyW.onlyQ 2 rfl (by kernel_rfl) rfl (dst_lt rfl) (o_call rfl Try.func25 rfl rfl (number_con (by rw [List.length_drop]; show 4 ≤ body.length - 1; omega))) ?_
      rw [show numB (body.drop (Int.toNat 1)) = tkN body from rfl]
      refine AnyW.only 6 rfl (by kernel_rfl) rfl rfl (s_storeC (v := .int _ _) hS3 at0 (by kernel_rfl) rfl rfl rfl (by first | (with_reducible assumption) | omega | (unfold maxLen; omega) | (simp only [nums_length, List.length_set, List.length_replicate, List.length_take, List.length_drop, List.length_append, List.length_cons, List.length_nil, ofB_length, toB_length]; omega) | (simp only [nums_length, List.length_set, List.length_replicate, List.length_take, List.length_drop, List.length_append, List.length_cons, List.length_nil, ofB_length, toB_length]; unfold maxLen; omega) | (simp; done) | (simp; omega) | rfl | decide)) ?_
      rintro _ H4 ⟨rfl, hS4⟩
      clear hS3
      refine AnyW.onlyQ 7 rfl (by kernel_rfl) rfl (dst_lt rfl) (q_assign (v := S _) rfl) ?_
      refine AnyW.done (by kernel_rfl) ?_
      exact CutP.go ⟨b5, _, trivial, Slots.eq ⟨(by first | rfl | exact i64_int (by omega) (by omega) (by omega) | assumption), (by first | rfl | exact i64_int (by omega) (by omega) (by omega) | assumption), (by first | rfl | exact i64_int (by omega) (by omega) (by omega) | assumption), (by first | rfl | exact i64_int (by omega) (by omega) (by omega) | assumption),  trivial⟩, hS4⟩
  rintro _ Hc5 ⟨b5, _, _, rfl, hSc5⟩
  try clear hS0
  refine AW.seq ?_
  refine AW.block ?_
  refine AW.seq ?_
  refine AW.drawK [] 10 rfl (by kernel_rfl) ?_
  refine SeqK.q rfl (q_move (v := S _) rfl) ?_
  refine SeqK.q rfl (q_indexS Try.underlying9 rfl rfl (by first | omega | decide) (by first | omega | decide)) ?_
  refine SeqK.q rfl (q_eql rfl rfl) ?_
  refine SeqK.qb rfl (q_move (v := .bool _) rfl) ?_
  intro b19 eb19
  refine SeqK.g rfl rfl rfl (fun hB => by simp only [Bool.and_eq_true, beq_iff_eq] at hB; obtain rfl := hB; exact (q_load (v := .int _ _) (by kernel_rfl) rfl (hSc5.blk at0) rfl)) ?_
  refine SeqK.g rfl rfl rfl (fun hB => by simp only [Bool.and_eq_true, beq_iff_eq] at hB; obtain rfl := hB; exact (q_move (v := .pointer _) rfl)) ?_
  refine SeqK.g rfl rfl rfl (fun hB => by simp only [Bool.and_eq_true, beq_iff_eq] at hB; obtain rfl := hB; exact (q_nilCheck rfl)) ?_
  refine SeqK.g rfl rfl rfl (fun hB => by simp only [Bool.and_eq_true, beq_iff_eq] at hB; obtain rfl := hB; exact (q_fieldAddr (sz := 0) Try.underlying54 rfl (by kernel_rfl) rfl)) ?_
  refine SeqK.g rfl rfl rfl (fun hB => by simp only [Bool.and_eq_true, beq_iff_eq] at hB; obtain rfl := hB; exact (q_load (v := .int _ _) (by kernel_rfl) rfl (hSc5.blk at1) rfl)) ?_
  refine SeqK.g rfl rfl rfl (fun hB => by simp only [Bool.and_eq_true, beq_iff_eq] at hB; obtain rfl := hB; (try simp only [Bool.true_eq, Bool.false_eq, decide_eq_true_eq, Bool.and_eq_true, Bool.or_eq_true, Bool.or_eq_false_iff, Bool.not_eq_true', decide_eq_false_iff_not, Int.not_lt, Int.not_le] at eb19); exact (q_addI rfl rfl (by omega))) ?_
  refine SeqK.done ?_
  refine OpsW.g rfl rfl rfl (fun hB => by simp only [Bool.and_eq_true, beq_iff_eq] at hB; obtain rfl := hB; exact (q_eql rfl rfl)) ?_
  refine OpsW.q rfl (q_and2 rfl rfl rfl) ?_
  refine OpsW.qb rfl (q_move (v := .bool _) rfl) ?_
  intro b28 eb28
  refine OpsW.g rfl rfl rfl (fun hB => by simp only [Bool.and_eq_true, beq_iff_eq] at hB; obtain rfl := hB; exact (q_move (v := S _) rfl)) ?_
  refine OpsW.g rfl rfl rfl (fun hB => by simp only [Bool.and_eq_true, beq_iff_eq] at hB; obtain rfl := hB; exact (q_neS rfl rfl)) ?_
  refine OpsW.q rfl (q_and2 rfl rfl rfl) ?_
  refine OpsW.qb rfl (q_move (v := .bool _) rfl) ?_
  intro b32 eb32
  refine OpsW.g rfl rfl rfl (fun hB => by simp only [Bool.and_eq_true, beq_iff_eq] at hB; obtain rfl := hB; exact (q_move (v := S _) rfl)) ?_
  refine OpsW.g rfl rfl rfl (fun hB => by simp only [Bool.and_eq_true, beq_iff_eq] at hB; obtain rfl := hB; exact (q_lenS Try.underlying9 rfl)) ?_
  refine OpsW.g rfl rfl rfl (fun hB => by simp only [Bool.and_eq_true, beq_iff_eq] at hB; obtain rfl := hB; exact (q_leq rfl rfl)) ?_
  refine OpsW.q rfl (q_and2 rfl rfl rfl) ?_
  refine OpsW.q rfl (q_assign (v := .bool _) rfl) ?_
  refine OpsW.nil ?_
  refine SeqP.go ?_
  refine AW.cond rfl (fun h1 => ?_) (fun h1 => ?_)
  ·
    try simp only [eb19, eb28, eb32, decide_eq_true_eq, decide_eq_false_iff_not, Bool.or_eq_true, Bool.and_eq_true, Bool.or_eq_false_iff, Bool.and_eq_false_imp, Bool.not_eq_true', Bool.not_eq_false', ne_eq, Decidable.not_not, Int.not_lt, Int.not_le, Bool.not_eq_true, Bool.not_eq_false] at h1
    have hmsg : tkMsg s body := by unfold tkMsg; simp_all
    refine AW.seq ?_
    refine AW.region ?_
    refine OpsW.q rfl (q_move (v := .pointer _) rfl) ?_
    refine OpsW.q rfl (q_load (v := .int _ _) (by kernel_rfl) rfl (hSc5.blk at0) rfl) ?_
    refine OpsW.q rfl (q_nilCheck rfl) ?_
    refine OpsW.q rfl (q_fieldAddr (sz := 0) Try.underlying54 rfl (by kernel_rfl) rfl) ?_
    refine OpsW.ms (s_storeC (v := .int _ _) hSc5 at1 (by kernel_rfl) rfl rfl rfl (by first | (with_reducible assumption) | omega | (unfold maxLen; omega) | (simp only [nums_length, List.length_set, List.length_replicate, List.length_take, List.length_drop, List.length_append, List.length_cons, List.length_nil, ofB_length, toB_length]; omega) | (simp only [nums_length, List.length_set, List.length_replicate, List.length_take, List.length_drop, List.length_append, List.length_cons, List.length_nil, ofB_length, toB_length]; unfold maxLen; omega) | (simp; done) | (simp; omega) | rfl | decide)) ?_
    rintro _ H6 ⟨rfl, hS6⟩
    clear hSc5
    refine OpsW.nil ?_
    refine SeqP.go ?_
    refine AW.seq ?_
    refine AW.steps rfl 13 rfl ?_
    refine AnyW.first 0 rfl (by kernel_rfl) (by kernel_rfl) (by kernel_rfl) rfl (dst_lt rfl) (v_move (v := .pointer _) rfl) ?_
    refine AnyW.first 1 rfl (by kernel_rfl) (by kernel_rfl) (by kernel_rfl) rfl (dst_lt rfl) (v_move (v := .pointer _) rfl) ?_
    refine AnyW.first 2 rfl (by kernel_rfl) (by kernel_rfl) (by kernel_rfl) rfl (dst_lt rfl) (v_nilCheck rfl) ?_
    refine AnyW.first 3 rfl (by kernel_rfl) (by kernel_rfl) (by kernel_rfl) rfl (dst_lt rfl) (v_fieldAddr (sz := 0) Try.underlying54 rfl (by kernel_rfl) rfl) ?_
    refine AnyW.first 6 rfl (by kernel_rfl) (by kernel_rfl) (by kernel_rfl) rfl (dst_lt rfl) (v_move (v := S _) rfl) ?_
    refine AnyW.two 4 5 rfl rfl (by kernel_rfl) rfl rfl (dst_lt rfl) (dst_lt rfl) (q_load (v := lv) (by kernel_rfl) rfl (hS6.blk at1) rfl) (q_load (v := .int _ _) (by kernel_rfl) rfl (hS6.blk at0) rfl) ?_ ?_
    ·
      rintro _ _ ⟨rfl, rfl⟩
      refine AnyW.onlyQ 5 rfl (by kernel_rfl) rfl (dst_lt rfl) (q_load (v := .int _ _) (by kernel_rfl) rfl (hS6.blk at0) rfl) ?_
      refine AnyW.onlyQ 7 rfl (by kernel_rfl) rfl (dst_lt rfl) (q_build (cells := #[.int .i64 (tkN body), S (tkR body)]) rfl (by kernel_rfl)) ?_
      refine AnyW.only 8 rfl (by kernel_rfl) rfl (dst_lt rfl) (s_buildSlice2 (z := .agg #[.int .i64 0, S []]) hS6 Try.underlying31 (by kernel_rfl) (by kernel_rfl) rfl) ?_
      rintro v49 H7 hS7
      clear hS6
      refine AnyW.only 9 rfl (by kernel_rfl) rfl (dst_lt rfl) (s_append (sz := 2) (by_ := 24) (z := .agg #[.int .i64 0, S []]) hS7 at3 Try.underlying31 (by kernel_rfl) (by kernel_rfl) (by kernel_rfl) rfl (by kernel_rfl) rfl rfl (src_vec (hS7.vec at0) (fun u hu => recC_one ⟨tkN body, tkR body⟩ u hu)) (by first | (with_reducible assumption) | omega | (unfold maxLen; omega) | (simp only [nums_length, List.length_set, List.length_replicate, List.length_take, List.length_drop, List.length_append, List.length_cons, List.length_nil, ofB_length, toB_length]; omega) | (simp only [nums_length, List.length_set, List.length_replicate, List.length_take, List.length_drop, List.length_append, List.length_cons, List.length_nil, ofB_length, toB_length]; unfold maxLen; omega) | (simp; done) | (simp; omega) | rfl | decide) (by first | (with_reducible assumption) | omega | (unfold maxLen; omega) | (simp only [nums_length, List.length_set, List.length_replicate, List.length_take, List.length_drop, List.length_append, List.length_cons, List.length_nil, ofB_length, toB_length]; omega) | (simp only [nums_length, List.length_set, List.length_replicate, List.length_take, List.length_drop, List.length_append, List.length_cons, List.length_nil, ofB_length, toB_length]; unfold maxLen; omega) | (simp; done) | (simp; omega) | rfl | decide)) ?_
      rintro v50 H8 hS8
      clear hS7
      replace hS8 := hS8.del del0
      refine AnyW.onlyQ 10 rfl (by kernel_rfl) rfl (dst_lt rfl) (q_nilCheck rfl) ?_
      refine AnyW.onlyQ 11 rfl (by kernel_rfl) rfl (dst_lt rfl) (q_fieldAddr (sz := 0) Try.underlying54 rfl (by kernel_rfl) rfl) ?_
      refine AnyW.only 12 rfl (by kernel_rfl) rfl rfl (s_storeC (v := v50) hS8 at1 (by kernel_rfl) rfl rfl (hS8.vec at2).one (by first | (with_reducible assumption) | omega | (unfold maxLen; omega) | (simp only [nums_length, List.length_set, List.length_replicate, List.length_take, List.length_drop, List.length_append, List.length_cons, List.length_nil, ofB_length, toB_length]; omega) | (simp only [nums_length, List.length_set, List.length_replicate, List.length_take, List.length_drop, List.length_append, List.length_cons, List.length_nil, ofB_length, toB_length]; unfold maxLen; omega) | (simp; done) | (simp; omega) | rfl | decide)) ?_
      rintro _ H9 ⟨rfl, hS9⟩
      clear hS8
      refine AnyW.done (by kernel_rfl) ?_
      refine SeqP.go ?_
      refine AW.seq ?_
      refine AW.region ?_
      refine OpsW.q rfl (q_assign (v := .bool _) rfl) ?_
      refine OpsW.nil ?_
      refine SeqP.go ?_
      refine AW.ret ?_
      refine BlockP.ret ?_
      refine SeqP.ret ?_
      refine RetP.mk1 (H' := _) (v1 := .bool _) rfl rfl  (Hp.le_refl _) ?_
      rw [take_msg (by omega) hmsg]
      refine ⟨v50, rfl, ?_⟩
      show Sep H0 [.blk b ⟨[_, .int .i64 s.ak, .int .i64 (tkN body), tp, .int .i64 rm, .bool dd], 6, _⟩, .vec _ _ 2 (s.l ++ ([⟨tkN body, tkR body⟩] : RecL)).length (rowsV recC (s.l ++ ([⟨tkN body, tkR body⟩] : RecL)))] _
      rw [List.length_append, rowsV_append, rowsV_one]
      first | exact hS9 | exact hS9.tail | exact hS9.tail.tail
    ·
      rintro _ _ ⟨rfl, rfl⟩
      refine AnyW.first 7 rfl (by kernel_rfl) (by kernel_rfl) (by kernel_rfl) rfl (dst_lt rfl) (v_build (cells := #[.int .i64 (tkN body), S (tkR body)]) rfl (by kernel_rfl)) ?_
      refine AnyW.two 4 8 rfl rfl (by kernel_rfl) rfl rfl (dst_lt rfl) (dst_lt rfl) (q_load (v := lv) (by kernel_rfl) rfl (hS6.blk at1) rfl) (s_buildSlice2 (z := .agg #[.int .i64 0, S []]) hS6 Try.underlying31 (by kernel_rfl) (by kernel_rfl) rfl) ?_ ?_
      ·
        rintro _ _ ⟨rfl, rfl⟩
        refine AnyW.only 8 rfl (by kernel_rfl) rfl (dst_lt rfl) (s_buildSlice2 (z := .agg #[.int .i64 0, S []]) hS6 Try.underlying31 (by kernel_rfl) (by kernel_rfl) rfl) ?_
        rintro v49 H10 hS10
        clear hS6
        refine AnyW.only 9 rfl (by kernel_rfl) rfl (dst_lt rfl) (s_append (sz := 2) (by_ := 24) (z := .agg #[.int .i64 0, S []]) hS10 at3 Try.underlying31 (by kernel_rfl) (by kernel_rfl) (by kernel_rfl) rfl (by kernel_rfl) rfl rfl (src_vec (hS10.vec at0) (fun u hu => recC_one ⟨tkN body, tkR body⟩ u hu)) (by first | (with_reducible assumption) | omega | (unfold maxLen; omega) | (simp only [nums_length, List.length_set, List.length_replicate, List.length_take, List.length_drop, List.length_append, List.length_cons, List.length_nil, ofB_length, toB_length]; omega) | (simp only [nums_length, List.length_set, List.length_replicate, List.length_take, List.length_drop, List.length_append, List.length_cons, List.length_nil, ofB_length, toB_length]; unfold maxLen; omega) | (simp; done) | (simp; omega) | rfl | decide) (by first | (with_reducible assumption) | omega | (unfold maxLen; omega) | (simp only [nums_length, List.length_set, List.length_replicate, List.length_take, List.length_drop, List.length_append, List.length_cons, List.length_nil, ofB_length, toB_length]; omega) | (simp only [nums_length, List.length_set, List.length_replicate, List.length_take, List.length_drop, List.length_append, List.length_cons, List.length_nil, ofB_length, toB_length]; unfold maxLen; omega) | (simp; done) | (simp; omega) | rfl | decide)) ?_
        rintro v50 H11 hS11
        clear hS10
        replace hS11 := hS11.del del0
        refine AnyW.onlyQ 10 rfl (by kernel_rfl) rfl (dst_lt rfl) (q_nilCheck rfl) ?_
        refine AnyW.onlyQ 11 rfl (by kernel_rfl) rfl (dst_lt rfl) (q_fieldAddr (sz := 0) Try.underlying54 rfl (by kernel_rfl) rfl) ?_
        refine AnyW.only 12 rfl (by kernel_rfl) rfl rfl (s_storeC (v := v50) hS11 at1 (by kernel_rfl) rfl rfl (hS11.vec at2).one (by first | (with_reducible assumption) | omega | (unfold maxLen; omega) | (simp only [nums_length, List.length_set, List.length_replicate, List.length_take, List.length_drop, List.length_append, List.length_cons, List.length_nil, ofB_length, toB_length]; omega) | (simp only [nums_length, List.length_set, List.length_replicate, List.length_take, List.length_drop, List.length_append, List.length_cons, List.length_nil, ofB_length, toB_length]; unfold maxLen; omega) | (simp; done) | (simp; omega) | rfl | decide)) ?_
        rintro _ H12 ⟨rfl, hS12⟩
        clear hS11
        refine AnyW.done (by kernel_rfl) ?_
        refine SeqP.go ?_
        refine AW.seq ?_
        refine AW.region ?_
        refine OpsW.q rfl (q_assign (v := .bool _) rfl) ?_
        refine OpsW.nil ?_
        refine SeqP.go ?_
        refine AW.ret ?_
        refine BlockP.ret ?_
        refine SeqP.ret ?_
        refine RetP.mk1 (H' := _) (v1 := .bool _) rfl rfl  (Hp.le_refl _) ?_
        rw [take_msg (by omega) hmsg]
        refine ⟨v50, rfl, ?_⟩
        show Sep H0 [.blk b ⟨[_, .int .i64 s.ak, .int .i64 (tkN body), tp, .int .i64 rm, .bool dd], 6, _⟩, .vec _ _ 2 (s.l ++ ([⟨tkN body, tkR body⟩] : RecL)).length (rowsV recC (s.l ++ ([⟨tkN body, tkR body⟩] : RecL)))] _
        rw [List.length_append, rowsV_append, rowsV_one]
        first | exact hS12 | exact hS12.tail | exact hS12.tail.tail
      ·
        rintro v49 H13 hS13
        clear hS6
        refine AnyW.onlyQ 4 rfl (by kernel_rfl) rfl (dst_lt rfl) (q_load (v := lv) (by kernel_rfl) rfl (hS13.blk at2) rfl) ?_
        refine AnyW.only 9 rfl (by kernel_rfl) rfl (dst_lt rfl) (s_append (sz := 2) (by_ := 24) (z := .agg #[.int .i64 0, S []]) hS13 at3 Try.underlying31 (by kernel_rfl) (by kernel_rfl) (by kernel_rfl) rfl (by kernel_rfl) rfl rfl (src_vec (hS13.vec at0) (fun u hu => recC_one ⟨tkN body, tkR body⟩ u hu)) (by first | (with_reducible assumption) | omega | (unfold maxLen; omega) | (simp only [nums_length, List.length_set, List.length_replicate, List.length_take, List.length_drop, List.length_append, List.length_cons, List.length_nil, ofB_length, toB_length]; omega) | (simp only [nums_length, List.length_set, List.length_replicate, List.length_take, List.length_drop, List.length_append, List.length_cons, List.length_nil, ofB_length, toB_length]; unfold maxLen; omega) | (simp; done) | (simp; omega) | rfl | decide) (by first | (with_reducible assumption) | omega | (unfold maxLen; omega) | (simp only [nums_length, List.length_set, List.length_replicate, List.length_take, List.length_drop, List.length_append, List.length_cons, List.length_nil, ofB_length, toB_length]; omega) | (simp only [nums_length, List.length_set, List.length_replicate, List.length_take, List.length_drop, List.length_append, List.length_cons, List.length_nil, ofB_length, toB_length]; unfold maxLen; omega) | (simp; done) | (simp; omega) | rfl | decide)) ?_
        rintro v50 H14 hS14
        clear hS13
        replace hS14 := hS14.del del0
        refine AnyW.onlyQ 10 rfl (by kernel_rfl) rfl (dst_lt rfl) (q_nilCheck rfl) ?_
        refine AnyW.onlyQ 11 rfl (by kernel_rfl) rfl (dst_lt rfl) (q_fieldAddr (sz := 0) Try.underlying54 rfl (by kernel_rfl) rfl) ?_
        refine AnyW.only 12 rfl (by kernel_rfl) rfl rfl (s_storeC (v := v50) hS14 at1 (by kernel_rfl) rfl rfl (hS14.vec at2).one (by first | (with_reducible assumption) | omega | (unfold maxLen; omega) | (simp only [nums_length, List.length_set, List.length_replicate, List.length_take, List.length_drop, List.length_append, List.length_cons, List.length_nil, ofB_length, toB_length]; omega) | (simp only [nums_length, List.length_set, List.length_replicate, List.length_take, List.length_drop, List.length_append, List.length_cons, List.length_nil, ofB_length, toB_length]; unfold maxLen; omega) | (simp; done) | (simp; omega) | rfl | decide)) ?_
        rintro _ H15 ⟨rfl, hS15⟩
        clear hS14
        refine AnyW.done (by kernel_rfl) ?_
        refine SeqP.go ?_
        refine AW.seq ?_
        refine AW.region ?_
        refine OpsW.q rfl (q_assign (v := .bool _) rfl) ?_
        refine OpsW.nil ?_
        refine SeqP.go ?_
        refine AW.ret ?_
        refine BlockP.ret ?_
        refine SeqP.ret ?_
        refine RetP.mk1 (H' := _) (v1 := .bool _) rfl rfl  (Hp.le_refl _) ?_
        rw [take_msg (by omega) hmsg]
        refine ⟨v50, rfl, ?_⟩
        show Sep H0 [.blk b ⟨[_, .int .i64 s.ak, .int .i64 (tkN body), tp, .int .i64 rm, .bool dd], 6, _⟩, .vec _ _ 2 (s.l ++ ([⟨tkN body, tkR body⟩] : RecL)).length (rowsV recC (s.l ++ ([⟨tkN body, tkR body⟩] : RecL)))] _
        rw [List.length_append, rowsV_append, rowsV_one]
        first | exact hS15 | exact hS15.tail | exact hS15.tail.tail
  try simp only [eb19, eb28, eb32, decide_eq_true_eq, decide_eq_false_iff_not, Bool.or_eq_true, Bool.and_eq_true, Bool.or_eq_false_iff, Bool.and_eq_false_imp, Bool.not_eq_true', Bool.not_eq_false', ne_eq, Decidable.not_not, Int.not_lt, Int.not_le, Bool.not_eq_true, Bool.not_eq_false] at h1
  have hnm : ¬ tkMsg s body := by unfold tkMsg; simp_all <;> omega
  refine AW.seq ?_
  refine AW.drawK [] 21 rfl (by kernel_rfl) ?_
  refine SeqK.q rfl (q_move (v := S _) rfl) ?_
  refine SeqK.q rfl (q_indexS Try.underlying9 rfl rfl (by first | omega | decide) (by first | omega | decide)) ?_
  refine SeqK.q rfl (q_eql rfl rfl) ?_
  refine SeqK.qb rfl (q_move (v := .bool _) rfl) ?_
  intro b57 eb57
  refine SeqK.g rfl rfl rfl (fun hB => by simp only [Bool.and_eq_true, beq_iff_eq] at hB; obtain rfl := hB; exact (q_move (v := S _) rfl)) ?_
  refine SeqK.g rfl rfl rfl (fun hB => by simp only [Bool.and_eq_true, beq_iff_eq] at hB; obtain rfl := hB; exact (q_eqS rfl rfl)) ?_
  refine SeqK.q rfl (q_and2 rfl rfl rfl) ?_
  refine SeqK.qb rfl (q_move (v := .bool _) rfl) ?_
  intro b61 eb61
  refine SeqK.g rfl rfl rfl (fun hB => by simp only [Bool.and_eq_true, beq_iff_eq] at hB; obtain rfl := hB; exact (q_load (v := .int _ _) (by kernel_rfl) rfl (hSc5.blk at0) rfl)) ?_
  refine SeqK.g rfl rfl rfl (fun hB => by simp only [Bool.and_eq_true, beq_iff_eq] at hB; obtain rfl := hB; exact (q_move (v := .pointer _) rfl)) ?_
  refine SeqK.g rfl rfl rfl (fun hB => by simp only [Bool.and_eq_true, beq_iff_eq] at hB; obtain rfl := hB; exact (q_nilCheck rfl)) ?_
  refine SeqK.g rfl rfl rfl (fun hB => by simp only [Bool.and_eq_true, beq_iff_eq] at hB; obtain rfl := hB; exact (q_fieldAddr (sz := 0) Try.underlying54 rfl (by kernel_rfl) rfl)) ?_
  refine SeqK.g rfl rfl rfl (fun hB => by simp only [Bool.and_eq_true, beq_iff_eq] at hB; obtain rfl := hB; exact (q_load (v := .int _ _) (by kernel_rfl) rfl (hSc5.blk at1) rfl)) ?_
  refine SeqK.g rfl rfl rfl (fun hB => by simp only [Bool.and_eq_true, beq_iff_eq] at hB; obtain rfl := hB; exact (q_gtr rfl rfl)) ?_
  refine SeqK.q rfl (q_and2 rfl rfl rfl) ?_
  refine SeqK.qb rfl (q_move (v := .bool _) rfl) ?_
  intro b69 eb69
  refine SeqK.g rfl rfl rfl (fun hB => by simp only [Bool.and_eq_true, beq_iff_eq] at hB; obtain rfl := hB; exact (q_load (v := .int _ _) (by kernel_rfl) rfl (hSc5.blk at0) rfl)) ?_
  refine SeqK.g rfl rfl rfl (fun hB => by simp only [Bool.and_eq_true, beq_iff_eq] at hB; obtain rfl := hB; exact (q_move (v := .pointer _) rfl)) ?_
  refine SeqK.g rfl rfl rfl (fun hB => by simp only [Bool.and_eq_true, beq_iff_eq] at hB; obtain rfl := hB; exact (q_nilCheck rfl)) ?_
  refine SeqK.g rfl rfl rfl (fun hB => by simp only [Bool.and_eq_true, beq_iff_eq] at hB; obtain rfl := hB; exact (q_fieldAddr (sz := 0) Try.underlying54 rfl (by kernel_rfl) rfl)) ?_
  refine SeqK.g rfl rfl rfl (fun hB => by simp only [Bool.and_eq_true, beq_iff_eq] at hB; obtain rfl := hB; exact (q_load (v := .int _ _) (by kernel_rfl) rfl (hSc5.blk at1) rfl)) ?_
  refine SeqK.done ?_
  refine OpsW.g rfl rfl rfl (fun hB => by simp only [Bool.and_eq_true, beq_iff_eq] at hB; obtain rfl := hB; exact (q_leq rfl rfl)) ?_
  refine OpsW.q rfl (q_and2 rfl rfl rfl) ?_
  refine OpsW.q rfl (q_assign (v := .bool _) rfl) ?_
  refine OpsW.nil ?_
  refine SeqP.go ?_
  refine AW.cond rfl (fun h2 => ?_) (fun h2 => ?_)
  ·
    try simp only [eb19, eb28, eb32, eb57, eb61, eb69, decide_eq_true_eq, decide_eq_false_iff_not, Bool.or_eq_true, Bool.and_eq_true, Bool.or_eq_false_iff, Bool.and_eq_false_imp, Bool.not_eq_true', Bool.not_eq_false', ne_eq, Decidable.not_not, Int.not_lt, Int.not_le, Bool.not_eq_true, Bool.not_eq_false] at h2
    have hmark : tkMark s body := by unfold tkMark; simp_all
    obtain ⟨fr, hfr, hfn⟩ := mark_first hok hmark
    have hlp : 0 < s.l.length := (List.getElem?_eq_some_iff.1 hfr).1
    refine AW.seq ?_
    refine AW.region ?_
    refine OpsW.q rfl (q_move (v := .pointer _) rfl) ?_
    refine OpsW.q rfl (q_load (v := .int _ _) (by kernel_rfl) rfl (hSc5.blk at0) rfl) ?_
    refine OpsW.q rfl (q_nilCheck rfl) ?_
    refine OpsW.q rfl (q_fieldAddr (sz := 0) Try.underlying54 rfl (by kernel_rfl) rfl) ?_
    refine OpsW.ms (s_storeC (v := .int _ _) hSc5 at1 (by kernel_rfl) rfl rfl rfl (by first | (with_reducible assumption) | omega | (unfold maxLen; omega) | (simp only [nums_length, List.length_set, List.length_replicate, List.length_take, List.length_drop, List.length_append, List.length_cons, List.length_nil, ofB_length, toB_length]; omega) | (simp only [nums_length, List.length_set, List.length_replicate, List.length_take, List.length_drop, List.length_append, List.length_cons, List.length_nil, ofB_length, toB_length]; unfold maxLen; omega) | (simp; done) | (simp; omega) | rfl | decide)) ?_
    rintro _ H16 ⟨rfl, hS16⟩
    clear hSc5
    refine OpsW.nil ?_
    refine SeqP.go ?_
    refine AW.seq ?_
    refine AW.region ?_
    refine OpsW.q rfl (q_move (v := .pointer _) rfl) ?_
    refine OpsW.q rfl (q_move (v := .pointer _) rfl) ?_
    refine OpsW.q rfl (q_nilCheck rfl) ?_
    refine OpsW.q rfl (q_fieldAddr (sz := 0) Try.underlying54 rfl (by kernel_rfl) rfl) ?_
    refine OpsW.q rfl (q_load (v := lv) (by kernel_rfl) rfl (hS16.blk at1) rfl) ?_
    refine OpsW.m rfl (o_call rfl Try.func28 rfl rfl (Clone_con (hS16.vec at2) hlp (by omega))) ?_
    rintro v86 H17 hR17
    have hS17 := hS16.join hR17
    simp only [List.cons_append, List.nil_append] at hS17
    clear hR17 hS16
    refine OpsW.q rfl (q_func rfl rfl) ?_
    obtain ⟨Hf18, le18, hA18, hB18⟩ := hS17.framed0
    refine OpsW.m rfl (o_call rfl Try.func27 rfl rfl (DeleteFunc_con hA18 (Sep.blk le18 at0) hfr hfn (by omega))) ?_
    rintro v88 H18 hR18
    have hS18 := hB18 _ _ hR18
    clear hR18 hB18 hA18
    clear hS17
    refine OpsW.q rfl (q_nilCheck rfl) ?_
    refine OpsW.q rfl (q_fieldAddr (sz := 0) Try.underlying54 rfl (by kernel_rfl) rfl) ?_
    refine OpsW.ms (s_storeC (v := v88) hS18 at2 (by kernel_rfl) rfl rfl (hS18.vec at0).one (by first | (with_reducible assumption) | omega | (unfold maxLen; omega) | (simp only [nums_length, List.length_set, List.length_replicate, List.length_take, List.length_drop, List.length_append, List.length_cons, List.length_nil, ofB_length, toB_length]; omega) | (simp only [nums_length, List.length_set, List.length_replicate, List.length_take, List.length_drop, List.length_append, List.length_cons, List.length_nil, ofB_length, toB_length]; unfold maxLen; omega) | (simp; done) | (simp; omega) | rfl | decide)) ?_
    rintro _ H19 ⟨rfl, hS19⟩
    clear hS18
    refine OpsW.nil ?_
    refine SeqP.go ?_
    refine AW.seq ?_
    refine AW.region ?_
    refine OpsW.q rfl (q_assign (v := .bool _) rfl) ?_
    refine OpsW.nil ?_
    refine SeqP.go ?_
    refine AW.ret ?_
    refine BlockP.ret ?_
    refine SeqP.ret ?_
    refine RetP.mk1 (H' := _) (v1 := .bool _) rfl rfl  (Hp.le_refl _) ?_
    rw [take_mark (by omega) hnm hmark]
    refine ⟨v88, rfl, ?_⟩
    exact Sep.bring del1 ((hS19.del del1).del del2)
  try simp only [eb19, eb28, eb32, eb57, eb61, eb69, decide_eq_true_eq, decide_eq_false_iff_not, Bool.or_eq_true, Bool.and_eq_true, Bool.or_eq_false_iff, Bool.and_eq_false_imp, Bool.not_eq_true', Bool.not_eq_false', ne_eq, Decidable.not_not, Int.not_lt, Int.not_le, Bool.not_eq_true, Bool.not_eq_false] at h2
  have hnk : ¬ tkMark s body := by unfold tkMark; simp_all <;> omega
  refine AW.skip ?_
  refine BlockP.go ?_
  refine SeqP.go ?_
  refine AW.seq ?_
  refine AW.region ?_
  refine OpsW.q rfl (q_assign (v := .bool _) rfl) ?_
  refine OpsW.nil ?_
  refine SeqP.go ?_
  refine AW.ret ?_
  refine RetP.mk1 (H' := _) (v1 := .bool _) rfl rfl  (Hp.le_refl _) ?_
  rw [take_none (by omega) hnm hnk]
  refine ⟨lv, rfl, ?_⟩
  exact hSc5.tail
end
end Go.Proofs.Ytpaombkodoofgaa

