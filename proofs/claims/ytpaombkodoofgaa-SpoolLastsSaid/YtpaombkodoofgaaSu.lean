/-
  The walks of package spool.
-/
import Derived.Test.YtpaombkodoofgaaDQ
import Derived.Test.YtpaombkodoofgaaProg
import Derived.Test.YtpaombkodoofgaaSv
import Derived.Test.YtpaombkodoofgaaSk
import Derived.Test.YtpaombkodoofgaaDK
import Derived.Test.YtpaombkodoofgaaDP
namespace Go.Proofs.Ytpaombkodoofgaa
open Go Go.RowKit D
set_option linter.unusedVariables false
set_option linter.unusedSimpArgs false
set_option maxRecDepth 100000
set_option maxHeartbeats 2000000
section
variable {w0 : World} {H : Hp} {H0 : Hp}

theorem wrongS_con {lv : Value} {b tb : Nat} {x : SpF} (hb : H b = some (spBlk tb x lv)) : Con Try.prog w0 21 #[.pointer (some ⟨b, 0, none⟩)] H (fun v H' => v = .int .i64 (wrP x) ∧ H' = H) := by
  have hS0 : Sep H [] H := Sep.refl
  refine Con.intro Try.func21 rfl rfl ?_
  refine AW.seq ?_
  refine AW.region ?_
  refine OpsW.q rfl (q_assign (v := .int _ _) rfl) ?_
  refine OpsW.nil ?_
  refine SeqP.go ?_
  refine AW.seq ?_
  refine AW.block ?_
  refine AW.seq ?_
  refine AW.region ?_
  refine OpsW.q rfl (q_move (v := .pointer _) rfl) ?_
  refine OpsW.q rfl (q_eqlP Try.underlying22 rfl rfl) ?_
  refine OpsW.q rfl (q_assign (v := .bool _) rfl) ?_
  refine OpsW.nil ?_
  refine SeqP.go ?_
  refine AW.cond rfl (fun h0 => ?_) (fun h0 => ?_)
  ·
    exfalso
    try simp only [decide_eq_true_eq, decide_eq_false_iff_not, Bool.or_eq_true, Bool.and_eq_true, Bool.or_eq_false_iff, Bool.and_eq_false_imp, Bool.not_eq_true', Bool.not_eq_false', ne_eq, Decidable.not_not, Int.not_lt, Int.not_le, Bool.not_eq_true, Bool.not_eq_false] at h0
    first | contradiction | (simp at *; done) | simp_all
  try simp only [decide_eq_true_eq, decide_eq_false_iff_not, Bool.or_eq_true, Bool.and_eq_true, Bool.or_eq_false_iff, Bool.and_eq_false_imp, Bool.not_eq_true', Bool.not_eq_false', ne_eq, Decidable.not_not, Int.not_lt, Int.not_le, Bool.not_eq_true, Bool.not_eq_false] at h0
  refine AW.seq ?_
  refine AW.region ?_
  refine OpsW.q rfl (q_move (v := .pointer _) rfl) ?_
  refine OpsW.q rfl (q_nilCheck rfl) ?_
  refine OpsW.q rfl (q_fieldAddr (sz := 0) Try.underlying56 rfl (by kernel_rfl) rfl) ?_
  refine OpsW.q rfl (q_load (v := .bool _) (by kernel_rfl) rfl (hS0.old hb) rfl) ?_
  refine OpsW.q rfl (q_assign (v := .bool _) rfl) ?_
  refine OpsW.nil ?_
  refine SeqP.go ?_
  refine AW.cond rfl (fun h1 => ?_) (fun h1 => ?_)
  ·
    try simp only [decide_eq_true_eq, decide_eq_false_iff_not, Bool.or_eq_true, Bool.and_eq_true, Bool.or_eq_false_iff, Bool.and_eq_false_imp, Bool.not_eq_true', Bool.not_eq_false', ne_eq, Decidable.not_not, Int.not_lt, Int.not_le, Bool.not_eq_true, Bool.not_eq_false] at h1
    rw [wr_dead (by simp_all)]
    refine AW.seq ?_
    refine AW.region ?_
    refine OpsW.q rfl (q_assign (v := .int _ _) rfl) ?_
    refine OpsW.nil ?_
    refine SeqP.go ?_
    refine AW.ret ?_
    refine BlockP.ret ?_
    refine SeqP.ret ?_
    refine RetP.mk1 (H' := H) (v1 := .int _ _) rfl rfl  hS0.le ?_
    exact ⟨rfl, rfl⟩
  try simp only [decide_eq_true_eq, decide_eq_false_iff_not, Bool.or_eq_true, Bool.and_eq_true, Bool.or_eq_false_iff, Bool.and_eq_false_imp, Bool.not_eq_true', Bool.not_eq_false', ne_eq, Decidable.not_not, Int.not_lt, Int.not_le, Bool.not_eq_true, Bool.not_eq_false] at h1
  rw [wr_ok (by simp_all)]
  refine AW.skip ?_
  refine BlockP.go ?_
  refine SeqP.go ?_
  refine AW.seq ?_
  refine AW.region ?_
  refine OpsW.q rfl (q_assign (v := .int _ _) rfl) ?_
  refine OpsW.nil ?_
  refine SeqP.go ?_
  refine AW.ret ?_
  refine RetP.mk1 (H' := H) (v1 := .int _ _) rfl rfl  hS0.le ?_
  exact ⟨rfl, rfl⟩
theorem Marks_con {lv : Value} {b tb : Nat} {x : SpF} (hb : H b = some (spBlk tb x lv)) : Con Try.prog w0 8 #[.pointer (some ⟨b, 0, none⟩)] H (fun v H' => v = .tuple #[.int .i64 x.st.ak, .int .i64 x.st.la] ∧ H' = H) := by
  have hS0 : Sep H [] H := Sep.refl
  refine Con.intro Try.func8 rfl rfl ?_
  refine AW.seq ?_
  refine AW.region ?_
  refine OpsW.q rfl (q_assign (v := .int _ _) rfl) ?_
  refine OpsW.q rfl (q_assign (v := .int _ _) rfl) ?_
  refine OpsW.nil ?_
  refine SeqP.go ?_
  refine AW.seq ?_
  refine AW.seq ?_
  refine AW.region ?_
  refine OpsW.q rfl (q_move (v := .pointer _) rfl) ?_
  refine OpsW.q rfl (q_eqlP Try.underlying22 rfl rfl) ?_
  refine OpsW.nil ?_
  refine SeqP.go ?_
  refine AW.cond rfl (fun h0 => ?_) (fun h0 => ?_)
  ·
    exfalso
    try simp only [decide_eq_true_eq, decide_eq_false_iff_not, Bool.or_eq_true, Bool.and_eq_true, Bool.or_eq_false_iff, Bool.and_eq_false_imp, Bool.not_eq_true', Bool.not_eq_false', ne_eq, Decidable.not_not, Int.not_lt, Int.not_le, Bool.not_eq_true, Bool.not_eq_false] at h0
    first | contradiction | (simp at *; done) | simp_all
  try simp only [decide_eq_true_eq, decide_eq_false_iff_not, Bool.or_eq_true, Bool.and_eq_true, Bool.or_eq_false_iff, Bool.and_eq_false_imp, Bool.not_eq_true', Bool.not_eq_false', ne_eq, Decidable.not_not, Int.not_lt, Int.not_le, Bool.not_eq_true, Bool.not_eq_false] at h0
  refine AW.skip ?_
  refine SeqP.go ?_
  refine AW.seq ?_
  refine AW.drawK [] 11 rfl (by kernel_rfl) ?_
  refine SeqK.q rfl (q_move (v := .pointer _) rfl) ?_
  refine SeqK.q rfl (q_nilCheck rfl) ?_
  refine SeqK.q rfl (q_fieldAddr (sz := 2) Try.underlying56 rfl (by kernel_rfl) rfl) ?_
  refine SeqK.q rfl (q_fieldAddr (sz := 0) Try.underlying54 rfl (by kernel_rfl) rfl) ?_
  refine SeqK.q rfl (q_load (v := .int _ _) (by kernel_rfl) rfl (hS0.old hb) rfl) ?_
  refine SeqK.q rfl (q_move (v := .pointer _) rfl) ?_
  refine SeqK.q rfl (q_nilCheck rfl) ?_
  refine SeqK.q rfl (q_fieldAddr (sz := 2) Try.underlying56 rfl (by kernel_rfl) rfl) ?_
  refine SeqK.q rfl (q_fieldAddr (sz := 0) Try.underlying54 rfl (by kernel_rfl) rfl) ?_
  refine SeqK.q rfl (q_load (v := .int _ _) (by kernel_rfl) rfl (hS0.old hb) rfl) ?_
  refine SeqK.q rfl (q_assign (v := .int _ _) rfl) ?_
  refine SeqK.done ?_
  refine OpsW.q rfl (q_assign (v := .int _ _) rfl) ?_
  refine OpsW.nil ?_
  refine SeqP.go ?_
  refine AW.ret ?_
  refine RetP.mk2 (H' := H) (v1 := .int _ _) (v2 := .int _ _) rfl rfl rfl  hS0.le ?_
  exact ⟨rfl, rfl⟩
theorem lay_w {lv : Value} {b tb : Nat} {x : SpF} {t : TapeS} (hS0 : Sep H0 [.blk b (spBlk tb x lv), .vec lv 46 2 x.st.l.length (rowsV recC x.st.l), tapeC tb t] H) (hok : SpOk x.st) (htk : TapeOk t) {body : List UInt8} (hbl : body.length ≤ 100000) : Con Try.prog w0 22 #[.pointer (some ⟨b, 0, none⟩), S body] H (fun v H' => v = .int .i64 (layP t x body).1 ∧ ∃ lv', Sep H0 [.blk b (spBlk tb ((layP t x body).2.1) lv'), .vec lv' 46 2 ((layP t x body).2.1).st.l.length (rowsV recC ((layP t x body).2.1).st.l), tapeC tb ((layP t x body).2.2)] H') := by
  replace hS0 : Sep H0 [.blk b ⟨[lv, .int .i64 x.st.ak, .int .i64 x.st.la, .pointer (some ⟨tb, 0, none⟩), .int .i64 x.rm, .bool x.dd], 6, 56⟩, .vec lv 46 2 x.st.l.length (rowsV recC x.st.l), tapeC tb t] H := hS0
  obtain ⟨k1, k2, k3, k4⟩ := id hok
  have hf4 := fourB_length (body.length : Int)
  have hs8 := sumB_length body
  refine Con.intro Try.func22 rfl rfl ?_
  refine AW.seq ?_
  refine AW.region ?_
  refine OpsW.q rfl (q_assign (v := .int _ _) rfl) ?_
  refine OpsW.nil ?_
  refine SeqP.go ?_
  refine AW.seq ?_
  refine AW.drawK [] 12 rfl (by kernel_rfl) ?_
  refine SeqK.q rfl (q_move (v := .pointer _) rfl) ?_
  refine SeqK.q rfl (q_nilCheck rfl) ?_
  refine SeqK.q rfl (q_fieldAddr (sz := 0) Try.underlying56 rfl (by kernel_rfl) rfl) ?_
  refine SeqK.q rfl (q_load (v := .pointer _) (by kernel_rfl) rfl (hS0.blk at0) rfl) ?_
  refine SeqK.q rfl (q_move (v := S _) rfl) ?_
  refine SeqK.q rfl (q_lenS Try.underlying9 rfl) ?_
  refine SeqK.q rfl (o_call rfl Try.func23 rfl rfl (four_con _)) ?_
  refine SeqK.q rfl (q_move (v := S _) rfl) ?_
  refine SeqK.q rfl (q_cat rfl rfl (by first | (with_reducible assumption) | omega | (unfold maxLen; omega) | (simp only [nums_length, List.length_set, List.length_replicate, List.length_take, List.length_drop, List.length_append, List.length_cons, List.length_nil, ofB_length, toB_length]; omega) | (simp only [nums_length, List.length_set, List.length_replicate, List.length_take, List.length_drop, List.length_append, List.length_cons, List.length_nil, ofB_length, toB_length]; unfold maxLen; omega) | (simp; done) | (simp; omega) | rfl | decide)) ?_
  refine SeqK.q rfl (q_move (v := S _) rfl) ?_
  refine SeqK.q rfl (o_call rfl Try.func26 rfl rfl (sum_con (by omega))) ?_
  refine SeqK.q rfl (q_cat rfl rfl (by first | (with_reducible assumption) | omega | (unfold maxLen; omega) | (simp only [nums_length, List.length_set, List.length_replicate, List.length_take, List.length_drop, List.length_append, List.length_cons, List.length_nil, ofB_length, toB_length]; omega) | (simp only [nums_length, List.length_set, List.length_replicate, List.length_take, List.length_drop, List.length_append, List.length_cons, List.length_nil, ofB_length, toB_length]; unfold maxLen; omega) | (simp; done) | (simp; omega) | rfl | decide)) ?_
  rw [← frB_def]
  refine SeqK.done ?_
  obtain ⟨Hf1, le1, hA1, hB1⟩ := hS0.framed at2
  refine OpsW.m rfl (o_call rfl Try.func31 rfl rfl (Append_s hA1 htk _ (by rw [frB_len]; omega))) ?_
  rintro _ H1 ⟨rfl, hR1⟩
  have hS1 := hB1 _ _ hR1
  clear hR1 hB1 hA1
  clear hS0
  refine OpsW.q rfl (q_assign (v := .int _ _) rfl) ?_
  refine OpsW.nil ?_
  refine SeqP.go ?_
  refine AW.seq ?_
  refine AW.seq ?_
  refine AW.region ?_
  refine OpsW.q rfl (q_move (v := .int _ _) rfl) ?_
  refine OpsW.q rfl (q_eql rfl rfl) ?_
  refine OpsW.nil ?_
  refine SeqP.go ?_
  refine AW.cond rfl (fun h0 => ?_) (fun h0 => ?_)
  ·
    try simp only [decide_eq_true_eq, decide_eq_false_iff_not, Bool.or_eq_true, Bool.and_eq_true, Bool.or_eq_false_iff, Bool.and_eq_false_imp, Bool.not_eq_true', Bool.not_eq_false', ne_eq, Decidable.not_not, Int.not_lt, Int.not_le, Bool.not_eq_true, Bool.not_eq_false] at h0
    refine AW.region ?_
    refine OpsW.q rfl (q_move (v := .pointer _) rfl) ?_
    refine OpsW.q rfl (q_nilCheck rfl) ?_
    refine OpsW.q rfl (q_fieldAddr (sz := 0) Try.underlying56 rfl (by kernel_rfl) rfl) ?_
    refine OpsW.q rfl (q_load (v := .pointer _) (by kernel_rfl) rfl (hS1.blk at0) rfl) ?_
    obtain ⟨Hf2, le2, hA2, hB2⟩ := hS1.framed at2
    refine OpsW.m rfl (o_call rfl Try.func20 rfl rfl (Sync_s hA2 (tk_append htk _))) ?_
    rintro _ H2 ⟨rfl, hR2⟩
    have hS2 := hB2 _ _ hR2
    clear hR2 hB2 hA2
    clear hS1
    refine OpsW.q rfl (q_assign (v := .int _ _) rfl) ?_
    refine OpsW.nil ?_
    refine SeqP.go ?_
    refine AW.seq ?_
    refine AW.seq ?_
    refine AW.region ?_
    refine OpsW.q rfl (q_move (v := .int _ _) rfl) ?_
    refine OpsW.q rfl (q_neq rfl rfl) ?_
    refine OpsW.nil ?_
    refine SeqP.go ?_
    refine AW.cond rfl (fun h1 => ?_) (fun h1 => ?_)
    ·
      try simp only [decide_eq_true_eq, decide_eq_false_iff_not, Bool.or_eq_true, Bool.and_eq_true, Bool.or_eq_false_iff, Bool.and_eq_false_imp, Bool.not_eq_true', Bool.not_eq_false', ne_eq, Decidable.not_not, Int.not_lt, Int.not_le, Bool.not_eq_true, Bool.not_eq_false] at h1
      rw [lay_syn h0 (by simpa using h1)]
      refine AW.seq ?_
      refine AW.region ?_
      refine OpsW.q rfl (q_move (v := .pointer _) rfl) ?_
      refine OpsW.q rfl (q_nilCheck rfl) ?_
      refine OpsW.q rfl (q_fieldAddr (sz := 0) Try.underlying56 rfl (by kernel_rfl) rfl) ?_
      refine OpsW.ms (s_storeC (v := .bool _) hS2 at0 (by kernel_rfl) rfl rfl rfl (by first | (with_reducible assumption) | omega | (unfold maxLen; omega) | (simp only [nums_length, List.length_set, List.length_replicate, List.length_take, List.length_drop, List.length_append, List.length_cons, List.length_nil, ofB_length, toB_length]; omega) | (simp only [nums_length, List.length_set, List.length_replicate, List.length_take, List.length_drop, List.length_append, List.length_cons, List.length_nil, ofB_length, toB_length]; unfold maxLen; omega) | (simp; done) | (simp; omega) | rfl | decide)) ?_
      rintro _ H3 ⟨rfl, hS3⟩
      clear hS2
      refine OpsW.nil ?_
      refine SeqP.go ?_
      refine AW.seq ?_
      refine AW.region ?_
      refine OpsW.q rfl (q_move (v := .int _ _) rfl) ?_
      refine OpsW.q rfl (q_assign (v := .int _ _) rfl) ?_
      refine OpsW.nil ?_
      refine SeqP.go ?_
      refine AW.ret ?_
      refine SeqP.ret ?_
      refine RetP.mk1 (H' := H3) (v1 := .int _ _) rfl rfl  (Hp.le_refl _) ?_
      exact ⟨rfl, _, hS3⟩
    try simp only [decide_eq_true_eq, decide_eq_false_iff_not, Bool.or_eq_true, Bool.and_eq_true, Bool.or_eq_false_iff, Bool.and_eq_false_imp, Bool.not_eq_true', Bool.not_eq_false', ne_eq, Decidable.not_not, Int.not_lt, Int.not_le, Bool.not_eq_true, Bool.not_eq_false] at h1
    rw [lay_ok h0 h1]
    refine AW.skip ?_
    refine SeqP.go ?_
    refine AW.seq ?_
    refine AW.region ?_
    refine OpsW.q rfl (q_move (v := .pointer _) rfl) ?_
    refine OpsW.q rfl (q_nilCheck rfl) ?_
    refine OpsW.q rfl (q_fieldAddr (sz := 2) Try.underlying56 rfl (by kernel_rfl) rfl) ?_
    refine OpsW.q rfl (q_move (v := S _) rfl) ?_
    replace hS2 := Sep.bring del1 hS2
    replace hS2 := Sep.bring del1 hS2
    obtain ⟨Hf4, le4, hA4, hL4, hB4⟩ := hS2.part2
    refine OpsW.m rfl (o_call rfl Try.func18 rfl rfl (take_s hA4 hok)) ?_
    rintro v36 H4 ⟨lv36, rfl, hR4⟩
    have hS4 := hB4 _ _ hR4
    simp only [List.cons_append, List.nil_append] at hS4
    clear hR4 hB4 hA4
    clear hS2
    refine OpsW.nil ?_
    refine SeqP.go ?_
    refine AW.seq ?_
    refine AW.region ?_
    refine OpsW.q rfl (q_assign (v := .int _ _) rfl) ?_
    refine OpsW.nil ?_
    refine SeqP.go ?_
    refine AW.ret ?_
    refine RetP.mk1 (H' := H4) (v1 := .int _ _) rfl rfl  (Hp.le_refl _) ?_
    exact ⟨rfl, _, hS4⟩
  try simp only [decide_eq_true_eq, decide_eq_false_iff_not, Bool.or_eq_true, Bool.and_eq_true, Bool.or_eq_false_iff, Bool.and_eq_false_imp, Bool.not_eq_true', Bool.not_eq_false', ne_eq, Decidable.not_not, Int.not_lt, Int.not_le, Bool.not_eq_true, Bool.not_eq_false] at h0
  refine AW.skip ?_
  refine SeqP.go ?_
  refine AW.seq ?_
  refine AW.seq ?_
  refine AW.region ?_
  refine OpsW.q rfl (q_move (v := .int _ _) rfl) ?_
  refine OpsW.q rfl (q_neq rfl rfl) ?_
  refine OpsW.nil ?_
  refine SeqP.go ?_
  refine AW.cond rfl (fun h1 => ?_) (fun h1 => ?_)
  ·
    try simp only [decide_eq_true_eq, decide_eq_false_iff_not, Bool.or_eq_true, Bool.and_eq_true, Bool.or_eq_false_iff, Bool.and_eq_false_imp, Bool.not_eq_true', Bool.not_eq_false', ne_eq, Decidable.not_not, Int.not_lt, Int.not_le, Bool.not_eq_true, Bool.not_eq_false] at h1
    rw [lay_app (by simpa using h0)]
    refine AW.seq ?_
    refine AW.region ?_
    refine OpsW.q rfl (q_move (v := .pointer _) rfl) ?_
    refine OpsW.q rfl (q_nilCheck rfl) ?_
    refine OpsW.q rfl (q_fieldAddr (sz := 0) Try.underlying56 rfl (by kernel_rfl) rfl) ?_
    refine OpsW.ms (s_storeC (v := .bool _) hS1 at0 (by kernel_rfl) rfl rfl rfl (by first | (with_reducible assumption) | omega | (unfold maxLen; omega) | (simp only [nums_length, List.length_set, List.length_replicate, List.length_take, List.length_drop, List.length_append, List.length_cons, List.length_nil, ofB_length, toB_length]; omega) | (simp only [nums_length, List.length_set, List.length_replicate, List.length_take, List.length_drop, List.length_append, List.length_cons, List.length_nil, ofB_length, toB_length]; unfold maxLen; omega) | (simp; done) | (simp; omega) | rfl | decide)) ?_
    rintro _ H5 ⟨rfl, hS5⟩
    clear hS1
    refine OpsW.nil ?_
    refine SeqP.go ?_
    refine AW.seq ?_
    refine AW.region ?_
    refine OpsW.q rfl (q_move (v := .int _ _) rfl) ?_
    refine OpsW.q rfl (q_assign (v := .int _ _) rfl) ?_
    refine OpsW.nil ?_
    refine SeqP.go ?_
    refine AW.ret ?_
    refine SeqP.ret ?_
    refine RetP.mk1 (H' := H5) (v1 := .int _ _) rfl rfl  (Hp.le_refl _) ?_
    exact ⟨rfl, _, hS5⟩
  exfalso
  try simp only [decide_eq_true_eq, decide_eq_false_iff_not, Bool.or_eq_true, Bool.and_eq_true, Bool.or_eq_false_iff, Bool.and_eq_false_imp, Bool.not_eq_true', Bool.not_eq_false', ne_eq, Decidable.not_not, Int.not_lt, Int.not_le, Bool.not_eq_true, Bool.not_eq_false] at h1
  first | contradiction | (simp at *; done) | simp_all
theorem Put_w {lv : Value} {b tb : Nat} {x : SpF} {t : TapeS} (hS0 : Sep H0 [.blk b (spBlk tb x lv), .vec lv 46 2 x.st.l.length (rowsV recC x.st.l), tapeC tb t] H) (hok : SpOk x.st) (htk : TapeOk t) {d : List UInt8} (hd : d.length ≤ 1099511627776) : Con Try.prog w0 7 #[.pointer (some ⟨b, 0, none⟩), S d] H (fun v H' => v = .tuple #[.int .i64 (putP t x d).1, .int .i64 (putP t x d).2.1] ∧ ∃ lv', Sep H0 [.blk b (spBlk tb ((putP t x d).2.2.1) lv'), .vec lv' 46 2 ((putP t x d).2.2.1).st.l.length (rowsV recC ((putP t x d).2.2.1).st.l), tapeC tb ((putP t x d).2.2.2)] H') := by
  replace hS0 : Sep H0 [.blk b ⟨[lv, .int .i64 x.st.ak, .int .i64 x.st.la, .pointer (some ⟨tb, 0, none⟩), .int .i64 x.rm, .bool x.dd], 6, 56⟩, .vec lv 46 2 x.st.l.length (rowsV recC x.st.l), tapeC tb t] H := hS0
  obtain ⟨k1, k2, k3, k4⟩ := id hok
  have hf4 := fourB_length (x.st.la + 1)
  refine Con.intro Try.func7 rfl rfl ?_
  refine AW.seq ?_
  refine AW.region ?_
  refine OpsW.q rfl (q_assign (v := .int _ _) rfl) ?_
  refine OpsW.q rfl (q_assign (v := .int _ _) rfl) ?_
  refine OpsW.nil ?_
  refine SeqP.go ?_
  refine AW.seq ?_
  refine AW.seq ?_
  refine AW.region ?_
  refine OpsW.q rfl (q_move (v := .pointer _) rfl) ?_
  refine OpsW.q rfl (o_call rfl Try.func21 rfl rfl (wrongS_con (hS0.blk at0))) ?_
  refine OpsW.q rfl (q_assign (v := .int _ _) rfl) ?_
  refine OpsW.nil ?_
  refine SeqP.go ?_
  refine AW.seq ?_
  refine AW.region ?_
  refine OpsW.q rfl (q_move (v := .int _ _) rfl) ?_
  refine OpsW.q rfl (q_neq rfl rfl) ?_
  refine OpsW.nil ?_
  refine SeqP.go ?_
  refine AW.cond rfl (fun h0 => ?_) (fun h0 => ?_)
  ·
    try simp only [decide_eq_true_eq, decide_eq_false_iff_not, Bool.or_eq_true, Bool.and_eq_true, Bool.or_eq_false_iff, Bool.and_eq_false_imp, Bool.not_eq_true', Bool.not_eq_false', ne_eq, Decidable.not_not, Int.not_lt, Int.not_le, Bool.not_eq_true, Bool.not_eq_false] at h0
    have hdd : x.dd = true := by rcases hq : x.dd with _ | _; (rw [wr_ok hq] at h0; simp at h0); rfl
    rw [put_dead hdd, wr_dead hdd]
    refine AW.seq ?_
    refine AW.region ?_
    refine OpsW.q rfl (q_move (v := .int _ _) rfl) ?_
    refine OpsW.q rfl (q_assign (v := .int _ _) rfl) ?_
    refine OpsW.q rfl (q_assign (v := .int _ _) rfl) ?_
    refine OpsW.nil ?_
    refine SeqP.go ?_
    refine AW.ret ?_
    refine SeqP.ret ?_
    refine RetP.mk2 (H' := H) (v1 := .int _ _) (v2 := .int _ _) rfl rfl rfl  (Hp.le_refl _) ?_
    exact ⟨rfl, _, hS0⟩
  try simp only [decide_eq_true_eq, decide_eq_false_iff_not, Bool.or_eq_true, Bool.and_eq_true, Bool.or_eq_false_iff, Bool.and_eq_false_imp, Bool.not_eq_true', Bool.not_eq_false', ne_eq, Decidable.not_not, Int.not_lt, Int.not_le, Bool.not_eq_true, Bool.not_eq_false] at h0
  have hdd : x.dd = false := by rcases hq : x.dd with _ | _; rfl; (rw [wr_dead hq] at h0; simp at h0)
  refine AW.skip ?_
  refine SeqP.go ?_
  refine AW.seq ?_
  refine AW.block ?_
  refine AW.seq ?_
  refine AW.region ?_
  refine OpsW.q rfl (q_move (v := S _) rfl) ?_
  refine OpsW.q rfl (q_eqS rfl rfl) ?_
  refine OpsW.qb rfl (q_move (v := .bool _) rfl) ?_
  intro b16 eb16
  refine OpsW.g rfl rfl rfl (fun hB => by simp only [Bool.and_eq_true, beq_iff_eq] at hB; obtain rfl := hB; exact (q_move (v := S _) rfl)) ?_
  refine OpsW.g rfl rfl rfl (fun hB => by simp only [Bool.and_eq_true, beq_iff_eq] at hB; obtain rfl := hB; exact (q_lenS Try.underlying9 rfl)) ?_
  refine OpsW.g rfl rfl rfl (fun hB => by simp only [Bool.and_eq_true, beq_iff_eq] at hB; obtain rfl := hB; exact (q_gtr rfl rfl)) ?_
  refine OpsW.q rfl (q_or2 rfl rfl rfl) ?_
  refine OpsW.q rfl (q_assign (v := .bool _) rfl) ?_
  refine OpsW.nil ?_
  refine SeqP.go ?_
  refine AW.cond rfl (fun h1 => ?_) (fun h1 => ?_)
  ·
    try simp only [eb16, decide_eq_true_eq, decide_eq_false_iff_not, Bool.or_eq_true, Bool.and_eq_true, Bool.or_eq_false_iff, Bool.and_eq_false_imp, Bool.not_eq_true', Bool.not_eq_false', ne_eq, Decidable.not_not, Int.not_lt, Int.not_le, Bool.not_eq_true, Bool.not_eq_false] at h1
    rw [put_arg hdd (by rcases h1 with h | h; exact .inl h; exact .inr (by omega))]
    refine AW.seq ?_
    refine AW.region ?_
    refine OpsW.q rfl (q_assign (v := .int _ _) rfl) ?_
    refine OpsW.q rfl (q_assign (v := .int _ _) rfl) ?_
    refine OpsW.nil ?_
    refine SeqP.go ?_
    refine AW.ret ?_
    refine BlockP.ret ?_
    refine SeqP.ret ?_
    refine RetP.mk2 (H' := H) (v1 := .int _ _) (v2 := .int _ _) rfl rfl rfl  (Hp.le_refl _) ?_
    exact ⟨rfl, _, hS0⟩
  try simp only [eb16, decide_eq_true_eq, decide_eq_false_iff_not, Bool.or_eq_true, Bool.and_eq_true, Bool.or_eq_false_iff, Bool.and_eq_false_imp, Bool.not_eq_true', Bool.not_eq_false', ne_eq, Decidable.not_not, Int.not_lt, Int.not_le, Bool.not_eq_true, Bool.not_eq_false] at h1
  have h1b : ¬ (d = [] ∨ 8192 < d.length) := fun e => by rcases e with e | e; exact h1.1 e; omega
  refine AW.seq ?_
  refine AW.drawK [] 10 rfl (by kernel_rfl) ?_
  refine SeqK.q rfl (q_move (v := .pointer _) rfl) ?_
  refine SeqK.q rfl (q_nilCheck rfl) ?_
  refine SeqK.q rfl (q_fieldAddr (sz := 2) Try.underlying56 rfl (by kernel_rfl) rfl) ?_
  refine SeqK.q rfl (q_fieldAddr (sz := 0) Try.underlying54 rfl (by kernel_rfl) rfl) ?_
  refine SeqK.q rfl (q_load (v := lv) (by kernel_rfl) rfl (hS0.blk at0) rfl) ?_
  refine SeqK.q rfl (q_lenVec Try.underlying31 rfl (hS0.vec at1)) ?_
  refine SeqK.q rfl (q_move (v := .pointer _) rfl) ?_
  refine SeqK.q rfl (q_nilCheck rfl) ?_
  refine SeqK.q rfl (q_fieldAddr (sz := 0) Try.underlying56 rfl (by kernel_rfl) rfl) ?_
  refine SeqK.q rfl (q_load (v := .int _ _) (by kernel_rfl) rfl (hS0.blk at0) rfl) ?_
  refine SeqK.done ?_
  refine OpsW.q rfl (q_geq rfl rfl) ?_
  refine OpsW.qb rfl (q_move (v := .bool _) rfl) ?_
  intro b33 eb33
  refine OpsW.g rfl rfl rfl (fun hB => by simp only [Bool.and_eq_true, beq_iff_eq] at hB; obtain rfl := hB; exact (q_move (v := .pointer _) rfl)) ?_
  refine OpsW.g rfl rfl rfl (fun hB => by simp only [Bool.and_eq_true, beq_iff_eq] at hB; obtain rfl := hB; exact (q_nilCheck rfl)) ?_
  refine OpsW.g rfl rfl rfl (fun hB => by simp only [Bool.and_eq_true, beq_iff_eq] at hB; obtain rfl := hB; exact (q_fieldAddr (sz := 2) Try.underlying56 rfl (by kernel_rfl) rfl)) ?_
  refine OpsW.g rfl rfl rfl (fun hB => by simp only [Bool.and_eq_true, beq_iff_eq] at hB; obtain rfl := hB; exact (q_fieldAddr (sz := 0) Try.underlying54 rfl (by kernel_rfl) rfl)) ?_
  refine OpsW.g rfl rfl rfl (fun hB => by simp only [Bool.and_eq_true, beq_iff_eq] at hB; obtain rfl := hB; exact (q_load (v := .int _ _) (by kernel_rfl) rfl (hS0.blk at0) rfl)) ?_
  refine OpsW.g rfl rfl rfl (fun hB => by simp only [Bool.and_eq_true, beq_iff_eq] at hB; obtain rfl := hB; exact (q_geq rfl rfl)) ?_
  refine OpsW.q rfl (q_or2 rfl rfl rfl) ?_
  refine OpsW.q rfl (q_assign (v := .bool _) rfl) ?_
  refine OpsW.nil ?_
  refine SeqP.go ?_
  refine AW.cond rfl (fun h2 => ?_) (fun h2 => ?_)
  ·
    try simp only [eb16, eb33, decide_eq_true_eq, decide_eq_false_iff_not, Bool.or_eq_true, Bool.and_eq_true, Bool.or_eq_false_iff, Bool.and_eq_false_imp, Bool.not_eq_true', Bool.not_eq_false', ne_eq, Decidable.not_not, Int.not_lt, Int.not_le, Bool.not_eq_true, Bool.not_eq_false] at h2
    rw [put_full hdd h1b (by simp_all)]
    refine AW.seq ?_
    refine AW.region ?_
    refine OpsW.q rfl (q_assign (v := .int _ _) rfl) ?_
    refine OpsW.q rfl (q_assign (v := .int _ _) rfl) ?_
    refine OpsW.nil ?_
    refine SeqP.go ?_
    refine AW.ret ?_
    refine BlockP.ret ?_
    refine SeqP.ret ?_
    refine RetP.mk2 (H' := H) (v1 := .int _ _) (v2 := .int _ _) rfl rfl rfl  (Hp.le_refl _) ?_
    exact ⟨rfl, _, hS0⟩
  try simp only [eb16, eb33, decide_eq_true_eq, decide_eq_false_iff_not, Bool.or_eq_true, Bool.and_eq_true, Bool.or_eq_false_iff, Bool.and_eq_false_imp, Bool.not_eq_true', Bool.not_eq_false', ne_eq, Decidable.not_not, Int.not_lt, Int.not_le, Bool.not_eq_true, Bool.not_eq_false] at h2
  have h2b : ¬ (x.rm ≤ x.st.l.length ∨ 1000000000 ≤ x.st.la) := by simp_all <;> omega
  refine AW.skip ?_
  refine BlockP.go ?_
  refine SeqP.go ?_
  refine AW.seq ?_
  refine AW.seq ?_
  refine AW.region ?_
  refine OpsW.q rfl (q_move (v := .pointer _) rfl) ?_
  refine OpsW.q rfl (q_move (v := .pointer _) rfl) ?_
  refine OpsW.q rfl (q_nilCheck rfl) ?_
  refine OpsW.q rfl (q_fieldAddr (sz := 2) Try.underlying56 rfl (by kernel_rfl) rfl) ?_
  refine OpsW.q rfl (q_fieldAddr (sz := 0) Try.underlying54 rfl (by kernel_rfl) rfl) ?_
  refine OpsW.q rfl (q_load (v := .int _ _) (by kernel_rfl) rfl (hS0.blk at0) rfl) ?_
  refine OpsW.q rfl (q_addI rfl rfl (by omega)) ?_
  refine OpsW.q rfl (o_call rfl Try.func23 rfl rfl (four_con _)) ?_
  refine OpsW.q rfl (q_cat rfl rfl (by first | (with_reducible assumption) | omega | (unfold maxLen; omega) | (simp only [nums_length, List.length_set, List.length_replicate, List.length_take, List.length_drop, List.length_append, List.length_cons, List.length_nil, ofB_length, toB_length]; omega) | (simp only [nums_length, List.length_set, List.length_replicate, List.length_take, List.length_drop, List.length_append, List.length_cons, List.length_nil, ofB_length, toB_length]; unfold maxLen; omega) | (simp; done) | (simp; omega) | rfl | decide)) ?_
  refine OpsW.q rfl (q_move (v := S _) rfl) ?_
  refine OpsW.q rfl (q_cat rfl rfl (by first | (with_reducible assumption) | omega | (unfold maxLen; omega) | (simp only [nums_length, List.length_set, List.length_replicate, List.length_take, List.length_drop, List.length_append, List.length_cons, List.length_nil, ofB_length, toB_length]; omega) | (simp only [nums_length, List.length_set, List.length_replicate, List.length_take, List.length_drop, List.length_append, List.length_cons, List.length_nil, ofB_length, toB_length]; unfold maxLen; omega) | (simp; done) | (simp; omega) | rfl | decide)) ?_
  rw [← msgB_def]
  refine OpsW.m rfl (o_call rfl Try.func22 rfl rfl (lay_w hS0 hok htk (by rw [msgB_def]; simp [fourB_length]; omega))) ?_
  rintro _ H1 ⟨rfl, lv52, hS1⟩
  clear hS0
  refine OpsW.q rfl (q_assign (v := .int _ _) rfl) ?_
  refine OpsW.nil ?_
  refine SeqP.go ?_
  refine AW.seq ?_
  refine AW.region ?_
  refine OpsW.q rfl (q_move (v := .int _ _) rfl) ?_
  refine OpsW.q rfl (q_neq rfl rfl) ?_
  refine OpsW.nil ?_
  refine SeqP.go ?_
  refine AW.cond rfl (fun h3 => ?_) (fun h3 => ?_)
  ·
    try simp only [eb16, eb33, decide_eq_true_eq, decide_eq_false_iff_not, Bool.or_eq_true, Bool.and_eq_true, Bool.or_eq_false_iff, Bool.and_eq_false_imp, Bool.not_eq_true', Bool.not_eq_false', ne_eq, Decidable.not_not, Int.not_lt, Int.not_le, Bool.not_eq_true, Bool.not_eq_false] at h3
    rw [put_bad hdd h1b h2b (by simpa using h3)]
    refine AW.seq ?_
    refine AW.region ?_
    refine OpsW.q rfl (q_move (v := .int _ _) rfl) ?_
    refine OpsW.q rfl (q_assign (v := .int _ _) rfl) ?_
    refine OpsW.q rfl (q_assign (v := .int _ _) rfl) ?_
    refine OpsW.nil ?_
    refine SeqP.go ?_
    refine AW.ret ?_
    refine SeqP.ret ?_
    refine RetP.mk2 (H' := H1) (v1 := .int _ _) (v2 := .int _ _) rfl rfl rfl  (Hp.le_refl _) ?_
    exact ⟨rfl, _, hS1⟩
  try simp only [eb16, eb33, decide_eq_true_eq, decide_eq_false_iff_not, Bool.or_eq_true, Bool.and_eq_true, Bool.or_eq_false_iff, Bool.and_eq_false_imp, Bool.not_eq_true', Bool.not_eq_false', ne_eq, Decidable.not_not, Int.not_lt, Int.not_le, Bool.not_eq_true, Bool.not_eq_false] at h3
  rw [put_ok hdd h1b h2b h3]
  refine AW.skip ?_
  refine SeqP.go ?_
  refine AW.seq ?_
  refine AW.region ?_
  refine OpsW.q rfl (q_move (v := .pointer _) rfl) ?_
  refine OpsW.q rfl (q_nilCheck rfl) ?_
  refine OpsW.q rfl (q_fieldAddr (sz := 2) Try.underlying56 rfl (by kernel_rfl) rfl) ?_
  refine OpsW.q rfl (q_fieldAddr (sz := 0) Try.underlying54 rfl (by kernel_rfl) rfl) ?_
  refine OpsW.q rfl (q_load (v := .int _ _) (by kernel_rfl) rfl (hS1.blk at0) rfl) ?_
  refine OpsW.q rfl (q_assign (v := .int _ _) rfl) ?_
  refine OpsW.q rfl (q_assign (v := .int _ _) rfl) ?_
  refine OpsW.nil ?_
  refine SeqP.go ?_
  refine AW.ret ?_
  refine RetP.mk2 (H' := H1) (v1 := .int _ _) (v2 := .int _ _) rfl rfl rfl  (Hp.le_refl _) ?_
  refine ⟨by rw [h3], _, hS1⟩
theorem Ack_w {lv : Value} {b tb : Nat} {x : SpF} {t : TapeS} (hS0 : Sep H0 [.blk b (spBlk tb x lv), .vec lv 46 2 x.st.l.length (rowsV recC x.st.l), tapeC tb t] H) (hok : SpOk x.st) (htk : TapeOk t) {n : Int} : Con Try.prog w0 9 #[.pointer (some ⟨b, 0, none⟩), .int .i64 n] H (fun v H' => v = .int .i64 (ackP t x n).1 ∧ ∃ lv', Sep H0 [.blk b (spBlk tb ((ackP t x n).2.1) lv'), .vec lv' 46 2 ((ackP t x n).2.1).st.l.length (rowsV recC ((ackP t x n).2.1).st.l), tapeC tb ((ackP t x n).2.2)] H') := by
  replace hS0 : Sep H0 [.blk b ⟨[lv, .int .i64 x.st.ak, .int .i64 x.st.la, .pointer (some ⟨tb, 0, none⟩), .int .i64 x.rm, .bool x.dd], 6, 56⟩, .vec lv 46 2 x.st.l.length (rowsV recC x.st.l), tapeC tb t] H := hS0
  obtain ⟨k1, k2, k3, k4⟩ := id hok
  have hf4 := fourB_length n
  refine Con.intro Try.func9 rfl rfl ?_
  refine AW.seq ?_
  refine AW.region ?_
  refine OpsW.q rfl (q_assign (v := .int _ _) rfl) ?_
  refine OpsW.nil ?_
  refine SeqP.go ?_
  refine AW.seq ?_
  refine AW.region ?_
  refine OpsW.q rfl (q_move (v := .pointer _) rfl) ?_
  refine OpsW.q rfl (o_call rfl Try.func21 rfl rfl (wrongS_con (hS0.blk at0))) ?_
  refine OpsW.q rfl (q_assign (v := .int _ _) rfl) ?_
  refine OpsW.nil ?_
  refine SeqP.go ?_
  refine AW.seq ?_
  refine AW.block ?_
  refine AW.seq ?_
  refine AW.region ?_
  refine OpsW.q rfl (q_move (v := .int _ _) rfl) ?_
  refine OpsW.q rfl (q_neq rfl rfl) ?_
  refine OpsW.q rfl (q_assign (v := .bool _) rfl) ?_
  refine OpsW.nil ?_
  refine SeqP.go ?_
  refine AW.cond rfl (fun h0 => ?_) (fun h0 => ?_)
  ·
    try simp only [decide_eq_true_eq, decide_eq_false_iff_not, Bool.or_eq_true, Bool.and_eq_true, Bool.or_eq_false_iff, Bool.and_eq_false_imp, Bool.not_eq_true', Bool.not_eq_false', ne_eq, Decidable.not_not, Int.not_lt, Int.not_le, Bool.not_eq_true, Bool.not_eq_false] at h0
    have hdd : x.dd = true := by rcases hq : x.dd with _ | _; (rw [wr_ok hq] at h0; simp at h0); rfl
    rw [ack_dead hdd, wr_dead hdd]
    refine AW.seq ?_
    refine AW.region ?_
    refine OpsW.q rfl (q_move (v := .int _ _) rfl) ?_
    refine OpsW.q rfl (q_assign (v := .int _ _) rfl) ?_
    refine OpsW.nil ?_
    refine SeqP.go ?_
    refine AW.ret ?_
    refine BlockP.ret ?_
    refine SeqP.ret ?_
    refine RetP.mk1 (H' := H) (v1 := .int _ _) rfl rfl  (Hp.le_refl _) ?_
    exact ⟨rfl, _, hS0⟩
  try simp only [decide_eq_true_eq, decide_eq_false_iff_not, Bool.or_eq_true, Bool.and_eq_true, Bool.or_eq_false_iff, Bool.and_eq_false_imp, Bool.not_eq_true', Bool.not_eq_false', ne_eq, Decidable.not_not, Int.not_lt, Int.not_le, Bool.not_eq_true, Bool.not_eq_false] at h0
  have hdd : x.dd = false := by rcases hq : x.dd with _ | _; rfl; (rw [wr_dead hq] at h0; simp at h0)
  refine AW.seq ?_
  refine AW.region ?_
  refine OpsW.q rfl (q_move (v := .int _ _) rfl) ?_
  refine OpsW.q rfl (q_move (v := .pointer _) rfl) ?_
  refine OpsW.q rfl (q_nilCheck rfl) ?_
  refine OpsW.q rfl (q_fieldAddr (sz := 2) Try.underlying56 rfl (by kernel_rfl) rfl) ?_
  refine OpsW.q rfl (q_fieldAddr (sz := 0) Try.underlying54 rfl (by kernel_rfl) rfl) ?_
  refine OpsW.q rfl (q_load (v := .int _ _) (by kernel_rfl) rfl (hS0.blk at0) rfl) ?_
  refine OpsW.q rfl (q_gtr rfl rfl) ?_
  refine OpsW.q rfl (q_assign (v := .bool _) rfl) ?_
  refine OpsW.nil ?_
  refine SeqP.go ?_
  refine AW.cond rfl (fun h1 => ?_) (fun h1 => ?_)
  ·
    try simp only [decide_eq_true_eq, decide_eq_false_iff_not, Bool.or_eq_true, Bool.and_eq_true, Bool.or_eq_false_iff, Bool.and_eq_false_imp, Bool.not_eq_true', Bool.not_eq_false', ne_eq, Decidable.not_not, Int.not_lt, Int.not_le, Bool.not_eq_true, Bool.not_eq_false] at h1
    rw [ack_seq hdd (by omega)]
    refine AW.seq ?_
    refine AW.region ?_
    refine OpsW.q rfl (q_assign (v := .int _ _) rfl) ?_
    refine OpsW.nil ?_
    refine SeqP.go ?_
    refine AW.ret ?_
    refine BlockP.ret ?_
    refine SeqP.ret ?_
    refine RetP.mk1 (H' := H) (v1 := .int _ _) rfl rfl  (Hp.le_refl _) ?_
    exact ⟨rfl, _, hS0⟩
  try simp only [decide_eq_true_eq, decide_eq_false_iff_not, Bool.or_eq_true, Bool.and_eq_true, Bool.or_eq_false_iff, Bool.and_eq_false_imp, Bool.not_eq_true', Bool.not_eq_false', ne_eq, Decidable.not_not, Int.not_lt, Int.not_le, Bool.not_eq_true, Bool.not_eq_false] at h1
  refine AW.seq ?_
  refine AW.region ?_
  refine OpsW.q rfl (q_move (v := .int _ _) rfl) ?_
  refine OpsW.q rfl (q_move (v := .pointer _) rfl) ?_
  refine OpsW.q rfl (q_nilCheck rfl) ?_
  refine OpsW.q rfl (q_fieldAddr (sz := 2) Try.underlying56 rfl (by kernel_rfl) rfl) ?_
  refine OpsW.q rfl (q_fieldAddr (sz := 0) Try.underlying54 rfl (by kernel_rfl) rfl) ?_
  refine OpsW.q rfl (q_load (v := .int _ _) (by kernel_rfl) rfl (hS0.blk at0) rfl) ?_
  refine OpsW.q rfl (q_leq rfl rfl) ?_
  refine OpsW.q rfl (q_assign (v := .bool _) rfl) ?_
  refine OpsW.nil ?_
  refine SeqP.go ?_
  refine AW.cond rfl (fun h2 => ?_) (fun h2 => ?_)
  ·
    try simp only [decide_eq_true_eq, decide_eq_false_iff_not, Bool.or_eq_true, Bool.and_eq_true, Bool.or_eq_false_iff, Bool.and_eq_false_imp, Bool.not_eq_true', Bool.not_eq_false', ne_eq, Decidable.not_not, Int.not_lt, Int.not_le, Bool.not_eq_true, Bool.not_eq_false] at h2
    rw [ack_old hdd (by omega) (by omega)]
    refine AW.seq ?_
    refine AW.region ?_
    refine OpsW.q rfl (q_assign (v := .int _ _) rfl) ?_
    refine OpsW.nil ?_
    refine SeqP.go ?_
    refine AW.ret ?_
    refine BlockP.ret ?_
    refine SeqP.ret ?_
    refine RetP.mk1 (H' := H) (v1 := .int _ _) rfl rfl  (Hp.le_refl _) ?_
    exact ⟨rfl, _, hS0⟩
  try simp only [decide_eq_true_eq, decide_eq_false_iff_not, Bool.or_eq_true, Bool.and_eq_true, Bool.or_eq_false_iff, Bool.and_eq_false_imp, Bool.not_eq_true', Bool.not_eq_false', ne_eq, Decidable.not_not, Int.not_lt, Int.not_le, Bool.not_eq_true, Bool.not_eq_false] at h2
  rw [ack_go hdd (by omega) (by omega)]
  refine AW.skip ?_
  refine BlockP.go ?_
  refine SeqP.go ?_
  refine AW.seq ?_
  refine AW.region ?_
  refine OpsW.q rfl (q_move (v := .pointer _) rfl) ?_
  refine OpsW.q rfl (q_move (v := .int _ _) rfl) ?_
  refine OpsW.q rfl (o_call rfl Try.func23 rfl rfl (four_con _)) ?_
  refine OpsW.q rfl (q_cat rfl rfl (by first | (with_reducible assumption) | omega | (unfold maxLen; omega) | (simp only [nums_length, List.length_set, List.length_replicate, List.length_take, List.length_drop, List.length_append, List.length_cons, List.length_nil, ofB_length, toB_length]; omega) | (simp only [nums_length, List.length_set, List.length_replicate, List.length_take, List.length_drop, List.length_append, List.length_cons, List.length_nil, ofB_length, toB_length]; unfold maxLen; omega) | (simp; done) | (simp; omega) | rfl | decide)) ?_
  rw [← markB_def]
  refine OpsW.m rfl (o_call rfl Try.func22 rfl rfl (lay_w hS0 hok htk (by rw [markB_def]; simp [fourB_length]))) ?_
  rintro _ H1 ⟨rfl, lv32, hS1⟩
  clear hS0
  refine OpsW.q rfl (q_assign (v := .int _ _) rfl) ?_
  refine OpsW.nil ?_
  refine SeqP.go ?_
  refine AW.ret ?_
  refine RetP.mk1 (H' := H1) (v1 := .int _ _) rfl rfl  (Hp.le_refl _) ?_
  exact ⟨rfl, _, hS1⟩
theorem From_con {lv : Value} {b tb : Nat} {x : SpF} (hb : H b = some (spBlk tb x lv)) (hV : Vec H 46 2 lv x.st.l.length (rowsV recC x.st.l)) (hm : x.st.l.length ≤ 1000000000) {n mo : Int} : Con Try.prog w0 10 #[.pointer (some ⟨b, 0, none⟩), .int .i64 n, .int .i64 mo] H (fun v H' => Sep H [.vec v 46 2 (fromP x.st.l n mo).length (rowsV recC (fromP x.st.l n mo))] H') := by
  have hS0 : Sep H [] H := Sep.refl
  refine Con.intro Try.func10 rfl rfl ?_
  refine AW.seq ?_
  refine AW.region ?_
  refine OpsW.q rfl (q_assign (v := .slice _ _ _) rfl) ?_
  refine OpsW.nil ?_
  refine SeqP.go ?_
  refine AW.seq ?_
  refine AW.region ?_
  refine OpsW.q rfl (q_assign (v := .slice _ _ _) rfl) ?_
  refine OpsW.nil ?_
  refine SeqP.go ?_
  refine AW.seq ?_
  refine AW.seq ?_
  refine AW.region ?_
  refine OpsW.q rfl (q_move (v := .pointer _) rfl) ?_
  refine OpsW.q rfl (q_eqlP Try.underlying22 rfl rfl) ?_
  refine OpsW.nil ?_
  refine SeqP.go ?_
  refine AW.cond rfl (fun h0 => ?_) (fun h0 => ?_)
  ·
    exfalso
    try simp only [decide_eq_true_eq, decide_eq_false_iff_not, Bool.or_eq_true, Bool.and_eq_true, Bool.or_eq_false_iff, Bool.and_eq_false_imp, Bool.not_eq_true', Bool.not_eq_false', ne_eq, Decidable.not_not, Int.not_lt, Int.not_le, Bool.not_eq_true, Bool.not_eq_false] at h0
    first | contradiction | (simp at *; done) | simp_all
  try simp only [decide_eq_true_eq, decide_eq_false_iff_not, Bool.or_eq_true, Bool.and_eq_true, Bool.or_eq_false_iff, Bool.and_eq_false_imp, Bool.not_eq_true', Bool.not_eq_false', ne_eq, Decidable.not_not, Int.not_lt, Int.not_le, Bool.not_eq_true, Bool.not_eq_false] at h0
  refine AW.skip ?_
  refine SeqP.go ?_
  refine AW.seq ?_
  refine AW.seq ?_
  refine AW.region ?_
  refine OpsW.q rfl (q_move (v := .pointer _) rfl) ?_
  refine OpsW.q rfl (q_nilCheck rfl) ?_
  refine OpsW.q rfl (q_fieldAddr (sz := 2) Try.underlying56 rfl (by kernel_rfl) rfl) ?_
  refine OpsW.q rfl (q_fieldAddr (sz := 0) Try.underlying54 rfl (by kernel_rfl) rfl) ?_
  refine OpsW.q rfl (q_load (v := lv) (by kernel_rfl) rfl (hS0.old hb) rfl) ?_
  refine OpsW.q rfl (q_lenVec Try.underlying31 rfl (hV.le hS0.le)) ?_
  refine OpsW.q rfl (q_move (v := .int _ _) rfl) ?_
  refine OpsW.nil ?_
  refine SeqP.go ?_
  refine AW.block ?_
  replace hS0 := hS0.nil (el := 46) (sz := 2)
  refine AW.loop (fun m_ e_ H_ => ∃ (i : Nat) (ov : Value) (e0 : Env), m_ = x.st.l.length - i ∧ (i ≤ x.st.l.length) ∧ e_ = upds e0 [(1, .int .i64 n), (2, .int .i64 mo), (7, ov), (16, lv), (17, .int .i64 (x.st.l.length : Int)), (18, .int .i64 (i : Int))] ∧ Sep H [.vec ov 46 2 ((fromP (x.st.l.take i) n mo).length) (rowsV recC (fromP (x.st.l.take i) n mo))] H_) _ ⟨0, nilV, _, rfl, (Nat.zero_le _), Slots.eq ⟨(by first | rfl | exact i64_int (by omega) (by omega) (by omega) | assumption), (by first | rfl | exact i64_int (by omega) (by omega) (by omega) | assumption), (by first | rfl | exact i64_int (by omega) (by omega) (by omega) | assumption), (by first | rfl | exact i64_int (by omega) (by omega) (by omega) | assumption), (by first | rfl | exact i64_int (by omega) (by omega) (by omega) | assumption), (by first | rfl | exact i64_int (by omega) (by omega) (by omega) | assumption),  trivial⟩, (by rw [List.take_zero, from_nil]; exact hS0)⟩ ?_
  rintro m_ _ Hl0 ⟨i, ov, e0, rfl, hf, rfl, hSl0⟩
  try clear hS0
  have hfl := from_len (x.st.l.take i) n mo
  rw [List.length_take] at hfl
  refine AW.seq ?_
  refine AW.region ?_
  refine OpsW.q rfl (q_lss rfl rfl) ?_
  refine OpsW.nil ?_
  refine SeqP.go ?_
  refine AW.seq ?_
  refine AW.cond2 rfl (fun h1 => ?_) (fun h1 => ?_)
  ·
    try simp only [decide_eq_true_eq, decide_eq_false_iff_not, Bool.or_eq_true, Bool.and_eq_true, Bool.or_eq_false_iff, Bool.and_eq_false_imp, Bool.not_eq_true', Bool.not_eq_false', ne_eq, Decidable.not_not, Int.not_lt, Int.not_le, Bool.not_eq_true, Bool.not_eq_false] at h1
    refine AW.exit ?_
    refine SeqP.exit ?_
    refine LoopP.exit ?_
    obtain rfl : i = x.st.l.length := by omega
    rw [List.take_length] at hSl0
    refine BlockP.here ?_
    refine SeqP.go ?_
    refine AW.seq ?_
    refine AW.region ?_
    refine OpsW.q rfl (q_move (v := ov) rfl) ?_
    refine OpsW.q rfl (q_assign (v := ov) rfl) ?_
    refine OpsW.nil ?_
    refine SeqP.go ?_
    refine AW.ret ?_
    refine RetP.mk1 (H' := Hl0) (v1 := ov) rfl rfl  (Hp.le_refl _) ?_
    exact hSl0
  try simp only [decide_eq_true_eq, decide_eq_false_iff_not, Bool.or_eq_true, Bool.and_eq_true, Bool.or_eq_false_iff, Bool.and_eq_false_imp, Bool.not_eq_true', Bool.not_eq_false', ne_eq, Decidable.not_not, Int.not_lt, Int.not_le, Bool.not_eq_true, Bool.not_eq_false] at h1
  have hil : i < x.st.l.length := by omega
  obtain ⟨r, hr⟩ : ∃ r, x.st.l[i]? = some r := ⟨x.st.l[i], List.getElem?_eq_getElem hil⟩
  have htk : x.st.l.take (i + 1) = x.st.l.take i ++ [r] := take_more hr
  refine AW.skip ?_
  refine SeqP.go ?_
  refine AW.seq ?_
  refine AW.block ?_
  refine AW.seq ?_
  refine AW.region ?_
  refine OpsW.q rfl (q_indexV (Vec.le hV hSl0.le) Try.underlying31 (by kernel_rfl) rfl rfl (by omega) (by omega)) ?_
  refine OpsW.q rfl (q_loadVR (Vec.le hV hSl0.le) recC_len (by kernel_rfl) rfl hr (by omega)) ?_
  refine OpsW.m rfl (s_alloc (z := .agg #[.int .i64 0, S []]) (cs := [.int .i64 0, S []]) hSl0 (by kernel_rfl) rfl) ?_
  rintro _ H1 ⟨b9, rfl, hS1⟩
  clear hSl0
  refine OpsW.ms (s_storeS (n := 2) hS1 at0 (by kernel_rfl) rfl rfl rfl (ones_all rfl) rfl) ?_
  rintro _ H2 ⟨rfl, hS2⟩
  clear hS1
  refine OpsW.nil ?_
  refine SeqP.go ?_
  refine AW.seq ?_
  refine AW.region ?_
  refine OpsW.q rfl (q_fieldAddr (sz := 0) Try.underlying46 rfl (by kernel_rfl) rfl) ?_
  refine OpsW.q rfl (q_load (v := .int _ _) (by kernel_rfl) rfl (hS2.blk at0) rfl) ?_
  refine OpsW.q rfl (q_move (v := .int _ _) rfl) ?_
  refine OpsW.q rfl (q_geq rfl rfl) ?_
  refine OpsW.qb rfl (q_move (v := .bool _) rfl) ?_
  intro b26 eb26
  refine OpsW.g rfl rfl rfl (fun hB => by simp only [Bool.and_eq_true, beq_iff_eq] at hB; obtain rfl := hB; exact (q_move (v := ov) rfl)) ?_
  refine OpsW.g rfl rfl rfl (fun hB => by simp only [Bool.and_eq_true, beq_iff_eq] at hB; obtain rfl := hB; exact (q_lenVec Try.underlying31 rfl (hS2.vec at1))) ?_
  refine OpsW.g rfl rfl rfl (fun hB => by simp only [Bool.and_eq_true, beq_iff_eq] at hB; obtain rfl := hB; exact (q_move (v := .int _ _) rfl)) ?_
  refine OpsW.g rfl rfl rfl (fun hB => by simp only [Bool.and_eq_true, beq_iff_eq] at hB; obtain rfl := hB; exact (q_lss rfl rfl)) ?_
  refine OpsW.q rfl (q_and2 rfl rfl rfl) ?_
  refine OpsW.nil ?_
  refine SeqP.go ?_
  refine AW.cond rfl (fun h2 => ?_) (fun h2 => ?_)
  ·
    try simp only [eb26, decide_eq_true_eq, decide_eq_false_iff_not, Bool.or_eq_true, Bool.and_eq_true, Bool.or_eq_false_iff, Bool.and_eq_false_imp, Bool.not_eq_true', Bool.not_eq_false', ne_eq, Decidable.not_not, Int.not_lt, Int.not_le, Bool.not_eq_true, Bool.not_eq_false] at h2
    have hyes : n ≤ r.seq ∧ ((fromP (x.st.l.take i) n mo).length : Int) < mo := by simp_all
    have hnx := from_yes (r := r) hyes.1 hyes.2
    refine AW.region ?_
    refine OpsW.q rfl (q_move (v := ov) rfl) ?_
    refine OpsW.q rfl (q_loadA0 (n := 2) (by kernel_rfl) rfl (hS2.blk at0) (by first | (with_reducible assumption) | omega | (unfold maxLen; omega) | (simp only [nums_length, List.length_set, List.length_replicate, List.length_take, List.length_drop, List.length_append, List.length_cons, List.length_nil, ofB_length, toB_length]; omega) | (simp only [nums_length, List.length_set, List.length_replicate, List.length_take, List.length_drop, List.length_append, List.length_cons, List.length_nil, ofB_length, toB_length]; unfold maxLen; omega) | (simp; done) | (simp; omega) | rfl | decide)) ?_
    refine OpsW.m rfl (s_buildSlice2 (z := .agg #[.int .i64 0, S []]) hS2 Try.underlying31 (by kernel_rfl) (by kernel_rfl) rfl) ?_
    rintro v34 H3 hS3
    clear hS2
    refine OpsW.m rfl (s_append (sz := 2) (by_ := 24) (z := .agg #[.int .i64 0, S []]) hS3 at2 Try.underlying31 (by kernel_rfl) (by kernel_rfl) (by kernel_rfl) rfl (by kernel_rfl) rfl rfl (src_vec (hS3.vec at0) (fun u hu => recC_one r u hu)) (by first | (with_reducible assumption) | omega | (unfold maxLen; omega) | (simp only [nums_length, List.length_set, List.length_replicate, List.length_take, List.length_drop, List.length_append, List.length_cons, List.length_nil, ofB_length, toB_length]; omega) | (simp only [nums_length, List.length_set, List.length_replicate, List.length_take, List.length_drop, List.length_append, List.length_cons, List.length_nil, ofB_length, toB_length]; unfold maxLen; omega) | (simp; done) | (simp; omega) | rfl | decide) (by first | (with_reducible assumption) | omega | (unfold maxLen; omega) | (simp only [nums_length, List.length_set, List.length_replicate, List.length_take, List.length_drop, List.length_append, List.length_cons, List.length_nil, ofB_length, toB_length]; omega) | (simp only [nums_length, List.length_set, List.length_replicate, List.length_take, List.length_drop, List.length_append, List.length_cons, List.length_nil, ofB_length, toB_length]; unfold maxLen; omega) | (simp; done) | (simp; omega) | rfl | decide)) ?_
    rintro v35 H4 hS4
    clear hS3
    replace hS4 := hS4.del del0
    refine OpsW.q rfl (q_assign (v := v35) rfl) ?_
    refine OpsW.nil ?_
    refine BlockP.go ?_
    refine SeqP.go ?_
    refine AW.region ?_
    refine OpsW.q rfl (q_addI rfl rfl (by omega)) ?_
    refine OpsW.q rfl (q_move (v := .int _ _) rfl) ?_
    refine OpsW.nil ?_
    replace hS4 := hS4.del del0
    exact LoopP.go _ (by omega) ⟨i + 1, v35, _, rfl, (by omega), Slots.eq ⟨(by first | rfl | exact i64_int (by omega) (by omega) (by omega) | assumption), (by first | rfl | exact i64_int (by omega) (by omega) (by omega) | assumption), (by first | rfl | exact i64_int (by omega) (by omega) (by omega) | assumption), (by first | rfl | exact i64_int (by omega) (by omega) (by omega) | assumption), (by first | rfl | exact i64_int (by omega) (by omega) (by omega) | assumption), (by first | rfl | exact i64_int (by omega) (by omega) (by omega) | assumption),  trivial⟩, (by rw [htk, hnx, List.length_append, rowsV_append, rowsV_one]; exact hS4)⟩
  try simp only [eb26, decide_eq_true_eq, decide_eq_false_iff_not, Bool.or_eq_true, Bool.and_eq_true, Bool.or_eq_false_iff, Bool.and_eq_false_imp, Bool.not_eq_true', Bool.not_eq_false', ne_eq, Decidable.not_not, Int.not_lt, Int.not_le, Bool.not_eq_true, Bool.not_eq_false] at h2
  have hnx := from_no (l := x.st.l.take i) (r := r) (n := n) (most := mo) (by simp_all <;> omega)
  refine AW.skip ?_
  refine BlockP.go ?_
  refine SeqP.go ?_
  refine AW.region ?_
  refine OpsW.q rfl (q_addI rfl rfl (by omega)) ?_
  refine OpsW.q rfl (q_move (v := .int _ _) rfl) ?_
  refine OpsW.nil ?_
  replace hS2 := hS2.del del0
  exact LoopP.go _ (by omega) ⟨i + 1, ov, _, rfl, (by omega), Slots.eq ⟨(by first | rfl | exact i64_int (by omega) (by omega) (by omega) | assumption), (by first | rfl | exact i64_int (by omega) (by omega) (by omega) | assumption), (by first | rfl | exact i64_int (by omega) (by omega) (by omega) | assumption), (by first | rfl | exact i64_int (by omega) (by omega) (by omega) | assumption), (by first | rfl | exact i64_int (by omega) (by omega) (by omega) | assumption), (by first | rfl | exact i64_int (by omega) (by omega) (by omega) | assumption),  trivial⟩, (by rw [htk, hnx]; exact hS2)⟩
theorem Open_w {tb : Nat} {t : TapeS} {rm : Int} (hS0 : Sep H0 [tapeC tb t] H) (htk : TapeOk t) : Con Try.prog w0 6 #[.pointer (some ⟨tb, 0, none⟩), .int .i64 rm] H (fun v H' => (¬ (openP t rm).1 = 0 ∧ v = .tuple #[.pointer none, .int .i64 (openP t rm).1] ∧ Sep H0 [tapeC tb (openP t rm).2] H') ∨ ((openP t rm).1 = 0 ∧ ∃ b, v = .tuple #[.pointer (some ⟨b, 0, none⟩), .int .i64 0] ∧ Sep H0 [spC b tb ⟨(scanP sp0 (t.f ++ t.l)).2, rm, false⟩ (openP t rm).2] H')) := by
  have hal := tk_len htk
  obtain ⟨all, hall⟩ : ∃ all, all = t.f ++ t.l := ⟨_, rfl⟩
  rw [← hall] at hal
  refine Con.intro Try.func6 rfl rfl ?_
  refine AW.seq ?_
  refine AW.region ?_
  refine OpsW.q rfl (q_assign (v := .pointer _) rfl) ?_
  refine OpsW.q rfl (q_assign (v := .int _ _) rfl) ?_
  refine OpsW.nil ?_
  refine SeqP.go ?_
  refine AW.seq ?_
  refine AW.block ?_
  refine AW.seq ?_
  refine AW.region ?_
  refine OpsW.q rfl (q_move (v := .pointer _) rfl) ?_
  refine OpsW.q rfl (q_eqlP Try.underlying36 rfl rfl) ?_
  refine OpsW.q rfl (q_assign (v := .bool _) rfl) ?_
  refine OpsW.nil ?_
  refine SeqP.go ?_
  refine AW.cond rfl (fun h0 => ?_) (fun h0 => ?_)
  ·
    exfalso
    try simp only [decide_eq_true_eq, decide_eq_false_iff_not, Bool.or_eq_true, Bool.and_eq_true, Bool.or_eq_false_iff, Bool.and_eq_false_imp, Bool.not_eq_true', Bool.not_eq_false', ne_eq, Decidable.not_not, Int.not_lt, Int.not_le, Bool.not_eq_true, Bool.not_eq_false] at h0
    first | contradiction | (simp at *; done) | simp_all
  try simp only [decide_eq_true_eq, decide_eq_false_iff_not, Bool.or_eq_true, Bool.and_eq_true, Bool.or_eq_false_iff, Bool.and_eq_false_imp, Bool.not_eq_true', Bool.not_eq_false', ne_eq, Decidable.not_not, Int.not_lt, Int.not_le, Bool.not_eq_true, Bool.not_eq_false] at h0
  refine AW.seq ?_
  refine AW.region ?_
  refine OpsW.q rfl (q_move (v := .int _ _) rfl) ?_
  refine OpsW.q rfl (q_lss rfl rfl) ?_
  refine OpsW.qb rfl (q_move (v := .bool _) rfl) ?_
  intro b18 eb18
  refine OpsW.g rfl rfl rfl (fun hB => by simp only [Bool.and_eq_true, beq_iff_eq] at hB; obtain rfl := hB; exact (q_move (v := .int _ _) rfl)) ?_
  refine OpsW.g rfl rfl rfl (fun hB => by simp only [Bool.and_eq_true, beq_iff_eq] at hB; obtain rfl := hB; exact (q_gtr rfl rfl)) ?_
  refine OpsW.q rfl (q_or2 rfl rfl rfl) ?_
  refine OpsW.q rfl (q_assign (v := .bool _) rfl) ?_
  refine OpsW.nil ?_
  refine SeqP.go ?_
  refine AW.cond rfl (fun h1 => ?_) (fun h1 => ?_)
  ·
    try simp only [eb18, decide_eq_true_eq, decide_eq_false_iff_not, Bool.or_eq_true, Bool.and_eq_true, Bool.or_eq_false_iff, Bool.and_eq_false_imp, Bool.not_eq_true', Bool.not_eq_false', ne_eq, Decidable.not_not, Int.not_lt, Int.not_le, Bool.not_eq_true, Bool.not_eq_false] at h1
    have harg : rm < 1 ∨ 1000 < rm := by simp_all
    refine AW.seq ?_
    refine AW.region ?_
    refine OpsW.q rfl (q_assign (v := .pointer _) rfl) ?_
    refine OpsW.q rfl (q_assign (v := .int _ _) rfl) ?_
    refine OpsW.nil ?_
    refine SeqP.go ?_
    refine AW.ret ?_
    refine BlockP.ret ?_
    refine SeqP.ret ?_
    refine RetP.mk2 (H' := H) (v1 := .pointer _) (v2 := .int _ _) rfl rfl rfl  (Hp.le_refl _) ?_
    exact .inl ⟨by rw [openP_arg harg]; exact (by decide : ¬ (1 : Int) = 0), by rw [openP_arg harg], by rw [openP_arg harg]; exact hS0⟩
  try simp only [eb18, decide_eq_true_eq, decide_eq_false_iff_not, Bool.or_eq_true, Bool.and_eq_true, Bool.or_eq_false_iff, Bool.and_eq_false_imp, Bool.not_eq_true', Bool.not_eq_false', ne_eq, Decidable.not_not, Int.not_lt, Int.not_le, Bool.not_eq_true, Bool.not_eq_false] at h1
  have harg : ¬ (rm < 1 ∨ 1000 < rm) := by simp_all <;> omega
  refine AW.skip ?_
  refine BlockP.go ?_
  refine SeqP.go ?_
  refine AW.seq ?_
  by_cases hd : t.dd = true
  ·
    refine AW.region ?_
    refine OpsW.q rfl (q_move (v := .pointer _) rfl) ?_
    refine OpsW.q rfl (o_call rfl Try.func16 rfl rfl (Read_s hS0 at0 htk)) ?_
    rw [read_dead hd]
    refine OpsW.q rfl (q_move (v := .tuple _) rfl) ?_
    refine OpsW.q rfl (q_extract (v := S _) rfl rfl) ?_
    refine OpsW.q rfl (q_extract (v := .int _ _) rfl rfl) ?_
    refine OpsW.q rfl (q_assign (v := S _) rfl) ?_
    refine OpsW.q rfl (q_assign (v := .int _ _) rfl) ?_
    refine OpsW.nil ?_
    refine SeqP.go ?_
    refine AW.seq ?_
    refine AW.seq ?_
    refine AW.region ?_
    refine OpsW.q rfl (q_move (v := .int _ _) rfl) ?_
    refine OpsW.q rfl (q_neq rfl rfl) ?_
    refine OpsW.nil ?_
    refine SeqP.go ?_
    refine AW.cond rfl (fun h2 => ?_) (fun h2 => ?_)
    ·
      try simp only [eb18, decide_eq_true_eq, decide_eq_false_iff_not, Bool.or_eq_true, Bool.and_eq_true, Bool.or_eq_false_iff, Bool.and_eq_false_imp, Bool.not_eq_true', Bool.not_eq_false', ne_eq, Decidable.not_not, Int.not_lt, Int.not_le, Bool.not_eq_true, Bool.not_eq_false] at h2
      refine AW.seq ?_
      refine AW.region ?_
      refine OpsW.q rfl (q_move (v := .int _ _) rfl) ?_
      refine OpsW.q rfl (q_assign (v := .pointer _) rfl) ?_
      refine OpsW.q rfl (q_assign (v := .int _ _) rfl) ?_
      refine OpsW.nil ?_
      refine SeqP.go ?_
      refine AW.ret ?_
      refine SeqP.ret ?_
      refine RetP.mk2 (H' := H) (v1 := .pointer _) (v2 := .int _ _) rfl rfl rfl  (Hp.le_refl _) ?_
      exact .inl ⟨by rw [openP_dead harg hd]; exact (by decide : ¬ (41 : Int) = 0), by rw [openP_dead harg hd], by rw [openP_dead harg hd]; exact hS0⟩
    exfalso
    try simp only [eb18, decide_eq_true_eq, decide_eq_false_iff_not, Bool.or_eq_true, Bool.and_eq_true, Bool.or_eq_false_iff, Bool.and_eq_false_imp, Bool.not_eq_true', Bool.not_eq_false', ne_eq, Decidable.not_not, Int.not_lt, Int.not_le, Bool.not_eq_true, Bool.not_eq_false] at h2
    simp at h2
  ·
    have hd2 : t.dd = false := by simpa using hd
    refine AW.region ?_
    refine OpsW.q rfl (q_move (v := .pointer _) rfl) ?_
    refine OpsW.q rfl (o_call rfl Try.func16 rfl rfl (Read_s hS0 at0 htk)) ?_
    rw [read_ok hd2, ← hall]
    refine OpsW.q rfl (q_move (v := .tuple _) rfl) ?_
    refine OpsW.q rfl (q_extract (v := S _) rfl rfl) ?_
    refine OpsW.q rfl (q_extract (v := .int _ _) rfl rfl) ?_
    refine OpsW.q rfl (q_assign (v := S _) rfl) ?_
    refine OpsW.q rfl (q_assign (v := .int _ _) rfl) ?_
    refine OpsW.nil ?_
    refine SeqP.go ?_
    refine AW.seq ?_
    refine AW.seq ?_
    refine AW.region ?_
    refine OpsW.q rfl (q_move (v := .int _ _) rfl) ?_
    refine OpsW.q rfl (q_neq rfl rfl) ?_
    refine OpsW.nil ?_
    refine SeqP.go ?_
    refine AW.cond rfl (fun h2 => ?_) (fun h2 => ?_)
    ·
      exfalso
      try simp only [eb18, decide_eq_true_eq, decide_eq_false_iff_not, Bool.or_eq_true, Bool.and_eq_true, Bool.or_eq_false_iff, Bool.and_eq_false_imp, Bool.not_eq_true', Bool.not_eq_false', ne_eq, Decidable.not_not, Int.not_lt, Int.not_le, Bool.not_eq_true, Bool.not_eq_false] at h2
      simp at h2
    try simp only [eb18, decide_eq_true_eq, decide_eq_false_iff_not, Bool.or_eq_true, Bool.and_eq_true, Bool.or_eq_false_iff, Bool.and_eq_false_imp, Bool.not_eq_true', Bool.not_eq_false', ne_eq, Decidable.not_not, Int.not_lt, Int.not_le, Bool.not_eq_true, Bool.not_eq_false] at h2
    refine AW.skip ?_
    refine SeqP.go ?_
    refine AW.seq ?_
    refine AW.region ?_
    refine OpsW.q rfl (q_move (v := .pointer _) rfl) ?_
    refine OpsW.q rfl (q_move (v := .int _ _) rfl) ?_
    refine OpsW.q rfl (q_build (cells := #[nilV, .int .i64 0, .int .i64 0, .pointer (some ⟨tb, 0, none⟩), .int .i64 rm, .bool false]) rfl (by kernel_rfl)) ?_
    refine OpsW.m rfl (s_box (v := .agg _) hS0 rfl rfl) ?_
    rintro _ H1 ⟨b33, rfl, hS1⟩
    clear hS0
    refine OpsW.q rfl (q_assign (v := .pointer _) rfl) ?_
    refine OpsW.nil ?_
    refine SeqP.go ?_
    refine AW.seq ?_
    refine AW.region ?_
    refine OpsW.q rfl (q_assign (v := .int _ _) rfl) ?_
    refine OpsW.nil ?_
    refine SeqP.go ?_
    refine AW.seq ?_
    refine AW.block ?_
    replace hS1 := hS1.nil (el := 46) (sz := 2)
    refine AW.loop (fun m_ e_ H_ => ∃ (a : Nat) (s : SpS) (lv : Value) (e0 : Env), m_ = all.length - a ∧ (SpOk s ∧ a ≤ all.length ∧ s.la ≤ a ∧ a + (scanP s (all.drop a)).1 = (scanP sp0 all).1 ∧ (scanP s (all.drop a)).2 = (scanP sp0 all).2) ∧ e_ = upds e0 [(0, .pointer (some ⟨tb, 0, none⟩)), (6, S all), (8, .pointer (some ⟨b33, 0, none⟩)), (9, .int .i64 (a : Int)), (1, .int .i64 rm)] ∧ Sep H0 [.vec lv 46 2 s.l.length (rowsV recC s.l), .blk b33 ⟨[lv, .int .i64 s.ak, .int .i64 s.la, .pointer (some ⟨tb, 0, none⟩), .int .i64 rm, .bool false], 6, 56⟩, tapeC tb t] H_) _ ⟨0, sp0, nilV, _, rfl, ⟨spok0, Nat.zero_le _, by show (0 : Int) ≤ _; omega, by rw [List.drop_zero, Nat.zero_add], by rw [List.drop_zero]⟩, Slots.eq ⟨(by first | rfl | exact i64_int (by omega) (by omega) (by omega) | assumption), (by first | rfl | exact i64_int (by omega) (by omega) (by omega) | assumption), (by first | rfl | exact i64_int (by omega) (by omega) (by omega) | assumption), (by first | rfl | exact i64_int (by omega) (by omega) (by omega) | assumption), (by first | rfl | exact i64_int (by omega) (by omega) (by omega) | assumption),  trivial⟩, hS1⟩ ?_
    rintro m_ _ Hl0 ⟨a, s, lv, e0, rfl, ⟨hI, hI2, hI3, hI4, hI5⟩, rfl, hSl0⟩
    try clear hS1
    refine AW.block ?_
    refine AW.seq ?_
    refine AW.region ?_
    refine OpsW.q rfl (q_move (v := S _) rfl) ?_
    refine OpsW.q rfl (q_move (v := .int _ _) rfl) ?_
    refine OpsW.q rfl (q_sliceS_lo Try.underlying9 rfl rfl (by first | omega | decide) (by first | omega | decide)) ?_
    rw [Int.toNat_natCast]
    refine OpsW.q rfl (o_call rfl Try.func17 rfl rfl (first_con (by rw [List.length_drop]; omega))) ?_
    refine OpsW.q rfl (q_move (v := .tuple _) rfl) ?_
    refine OpsW.q rfl (q_extract (v := S _) rfl rfl) ?_
    refine OpsW.q rfl (q_extract (v := .bool _) rfl rfl) ?_
    refine OpsW.q rfl (q_assign (v := S _) rfl) ?_
    refine OpsW.q rfl (q_assign (v := .bool _) rfl) ?_
    refine OpsW.nil ?_
    refine SeqP.go ?_
    refine AW.seq ?_
    refine AW.seq ?_
    by_cases hw : (firstP (all.drop a)).2 = true
    ·
      rw [hw]
      refine AW.region ?_
      refine OpsW.q rfl (q_move (v := .bool _) rfl) ?_
      refine OpsW.q rfl (q_not rfl) ?_
      refine OpsW.q rfl (q_move (v := .bool false) rfl) ?_
      refine OpsW.qw rfl rfl (q_move (v := .pointer _) rfl) ?_
      refine OpsW.qw rfl rfl (q_nilCheck rfl) ?_
      refine OpsW.qw rfl rfl (q_fieldAddr (sz := 2) Try.underlying56 rfl (by kernel_rfl) rfl) ?_
      refine OpsW.qw rfl rfl (q_move (v := S _) rfl) ?_
      replace hSl0 := Sep.bring del0 hSl0
      replace hSl0 := Sep.bring del1 hSl0
      obtain ⟨Hf2, le2, hA2, hL2, hB2⟩ := hSl0.part2
      refine OpsW.mw rfl rfl (o_call rfl Try.func18 rfl rfl (take_s hA2 hI)) ?_
      rintro v48 H2 ⟨lv48, rfl, hR2⟩
      have hS2 := hB2 _ _ hR2
      simp only [List.cons_append, List.nil_append] at hS2
      clear hR2 hB2 hA2
      clear hSl0
      refine OpsW.qw rfl rfl (q_not rfl) ?_
      refine OpsW.q rfl (q_or2 rfl rfl rfl) ?_
      refine OpsW.nil ?_
      refine SeqP.go ?_
      refine AW.cond rfl (fun h3 => ?_) (fun h3 => ?_)
      ·
        try simp only [eb18, decide_eq_true_eq, decide_eq_false_iff_not, Bool.or_eq_true, Bool.and_eq_true, Bool.or_eq_false_iff, Bool.and_eq_false_imp, Bool.not_eq_true', Bool.not_eq_false', ne_eq, Decidable.not_not, Int.not_lt, Int.not_le, Bool.not_eq_true, Bool.not_eq_false] at h3
        have hend : ¬ goesOn s (all.drop a) := fun g => by have := g.2; simp_all
        refine AW.exit ?_
        refine SeqP.exit ?_
        refine BlockP.far rfl ?_
        refine LoopP.exit ?_
        rw [scan_end hend] at hI4 hI5
        have hN1 : (scanP sp0 all).1 = a := hI4.symm
        have hN2 : (scanP sp0 all).2 = s := hI5.symm
        refine BlockP.here ?_
        refine SeqP.go ?_
        refine AW.seq ?_
        refine AW.seq ?_
        refine AW.region ?_
        refine OpsW.q rfl (q_move (v := .int _ _) rfl) ?_
        refine OpsW.q rfl (q_move (v := S _) rfl) ?_
        refine OpsW.q rfl (q_lenS Try.underlying9 rfl) ?_
        refine OpsW.q rfl (q_lss rfl rfl) ?_
        refine OpsW.nil ?_
        refine SeqP.go ?_
        refine AW.cond rfl (fun h4 => ?_) (fun h4 => ?_)
        ·
          try simp only [eb18, decide_eq_true_eq, decide_eq_false_iff_not, Bool.or_eq_true, Bool.and_eq_true, Bool.or_eq_false_iff, Bool.and_eq_false_imp, Bool.not_eq_true', Bool.not_eq_false', ne_eq, Decidable.not_not, Int.not_lt, Int.not_le, Bool.not_eq_true, Bool.not_eq_false] at h4
          have hoc : openP t rm = cutP t (a : Int) := by rw [openP_go harg hd2, openC_cut (by rw [← hall, hN1]; omega), ← hall, hN1]
          refine AW.region ?_
          refine OpsW.q rfl (q_move (v := .pointer _) rfl) ?_
          refine OpsW.q rfl (q_move (v := .int _ _) rfl) ?_
          obtain ⟨Hf3, le3, hA3, hB3⟩ := hS2.framed at2
          refine OpsW.m rfl (o_call rfl Try.func19 rfl rfl (Cut_s hA3 htk _)) ?_
          rintro _ H3 ⟨rfl, hR3⟩
          have hS3 := hB3 _ _ hR3
          clear hR3 hB3 hA3
          clear hS2
          refine OpsW.q rfl (q_assign (v := .int _ _) rfl) ?_
          refine OpsW.nil ?_
          refine SeqP.go ?_
          refine AW.seq ?_
          refine AW.seq ?_
          refine AW.region ?_
          refine OpsW.q rfl (q_move (v := .int _ _) rfl) ?_
          refine OpsW.q rfl (q_neq rfl rfl) ?_
          refine OpsW.nil ?_
          refine SeqP.go ?_
          refine AW.cond rfl (fun h5 => ?_) (fun h5 => ?_)
          ·
            try simp only [eb18, decide_eq_true_eq, decide_eq_false_iff_not, Bool.or_eq_true, Bool.and_eq_true, Bool.or_eq_false_iff, Bool.and_eq_false_imp, Bool.not_eq_true', Bool.not_eq_false', ne_eq, Decidable.not_not, Int.not_lt, Int.not_le, Bool.not_eq_true, Bool.not_eq_false] at h5
            refine AW.seq ?_
            refine AW.region ?_
            refine OpsW.q rfl (q_move (v := .int _ _) rfl) ?_
            refine OpsW.q rfl (q_assign (v := .pointer _) rfl) ?_
            refine OpsW.q rfl (q_assign (v := .int _ _) rfl) ?_
            refine OpsW.nil ?_
            refine SeqP.go ?_
            refine AW.ret ?_
            refine SeqP.ret ?_
            refine RetP.mk2 (H' := H3) (v1 := .pointer _) (v2 := .int _ _) rfl rfl rfl  (Hp.le_refl _) ?_
            exact .inl ⟨by rw [hoc]; simpa using h5, by rw [hoc], by rw [hoc]; exact hS3.tail.tail⟩
          try simp only [eb18, decide_eq_true_eq, decide_eq_false_iff_not, Bool.or_eq_true, Bool.and_eq_true, Bool.or_eq_false_iff, Bool.and_eq_false_imp, Bool.not_eq_true', Bool.not_eq_false', ne_eq, Decidable.not_not, Int.not_lt, Int.not_le, Bool.not_eq_true, Bool.not_eq_false] at h5
          refine AW.skip ?_
          refine SeqP.go ?_
          refine AW.seq ?_
          refine AW.region ?_
          refine OpsW.q rfl (q_move (v := .pointer _) rfl) ?_
          refine OpsW.q rfl (q_assign (v := .pointer _) rfl) ?_
          refine OpsW.q rfl (q_assign (v := .int _ _) rfl) ?_
          refine OpsW.nil ?_
          refine SeqP.go ?_
          refine AW.ret ?_
          refine RetP.mk2 (H' := H3) (v1 := .pointer _) (v2 := .int _ _) rfl rfl rfl  (Hp.le_refl _) ?_
          refine .inr ⟨by rw [hoc]; simpa using h5, b33, rfl, ?_⟩
          rw [hoc, hN2]
          rw [take_false (by simpa using h3)] at hS3
          exact sp_close hS3
        try simp only [eb18, decide_eq_true_eq, decide_eq_false_iff_not, Bool.or_eq_true, Bool.and_eq_true, Bool.or_eq_false_iff, Bool.and_eq_false_imp, Bool.not_eq_true', Bool.not_eq_false', ne_eq, Decidable.not_not, Int.not_lt, Int.not_le, Bool.not_eq_true, Bool.not_eq_false] at h4
        have hoc : openP t rm = syncP t := by rw [openP_go harg hd2, openC_sync (by rw [← hall, hN1]; omega)]
        refine AW.region ?_
        refine OpsW.q rfl (q_move (v := .pointer _) rfl) ?_
        obtain ⟨Hf4, le4, hA4, hB4⟩ := hS2.framed at2
        refine OpsW.m rfl (o_call rfl Try.func20 rfl rfl (Sync_s hA4 htk)) ?_
        rintro _ H4 ⟨rfl, hR4⟩
        have hS4 := hB4 _ _ hR4
        clear hR4 hB4 hA4
        clear hS2
        refine OpsW.q rfl (q_assign (v := .int _ _) rfl) ?_
        refine OpsW.nil ?_
        refine SeqP.go ?_
        refine AW.seq ?_
        refine AW.seq ?_
        refine AW.region ?_
        refine OpsW.q rfl (q_move (v := .int _ _) rfl) ?_
        refine OpsW.q rfl (q_neq rfl rfl) ?_
        refine OpsW.nil ?_
        refine SeqP.go ?_
        refine AW.cond rfl (fun h5 => ?_) (fun h5 => ?_)
        ·
          try simp only [eb18, decide_eq_true_eq, decide_eq_false_iff_not, Bool.or_eq_true, Bool.and_eq_true, Bool.or_eq_false_iff, Bool.and_eq_false_imp, Bool.not_eq_true', Bool.not_eq_false', ne_eq, Decidable.not_not, Int.not_lt, Int.not_le, Bool.not_eq_true, Bool.not_eq_false] at h5
          refine AW.seq ?_
          refine AW.region ?_
          refine OpsW.q rfl (q_move (v := .int _ _) rfl) ?_
          refine OpsW.q rfl (q_assign (v := .pointer _) rfl) ?_
          refine OpsW.q rfl (q_assign (v := .int _ _) rfl) ?_
          refine OpsW.nil ?_
          refine SeqP.go ?_
          refine AW.ret ?_
          refine SeqP.ret ?_
          refine RetP.mk2 (H' := H4) (v1 := .pointer _) (v2 := .int _ _) rfl rfl rfl  (Hp.le_refl _) ?_
          exact .inl ⟨by rw [hoc]; simpa using h5, by rw [hoc], by rw [hoc]; exact hS4.tail.tail⟩
        try simp only [eb18, decide_eq_true_eq, decide_eq_false_iff_not, Bool.or_eq_true, Bool.and_eq_true, Bool.or_eq_false_iff, Bool.and_eq_false_imp, Bool.not_eq_true', Bool.not_eq_false', ne_eq, Decidable.not_not, Int.not_lt, Int.not_le, Bool.not_eq_true, Bool.not_eq_false] at h5
        refine AW.skip ?_
        refine SeqP.go ?_
        refine AW.seq ?_
        refine AW.region ?_
        refine OpsW.q rfl (q_move (v := .pointer _) rfl) ?_
        refine OpsW.q rfl (q_assign (v := .pointer _) rfl) ?_
        refine OpsW.q rfl (q_assign (v := .int _ _) rfl) ?_
        refine OpsW.nil ?_
        refine SeqP.go ?_
        refine AW.ret ?_
        refine RetP.mk2 (H' := H4) (v1 := .pointer _) (v2 := .int _ _) rfl rfl rfl  (Hp.le_refl _) ?_
        refine .inr ⟨by rw [hoc]; simpa using h5, b33, rfl, ?_⟩
        rw [hoc, hN2]
        rw [take_false (by simpa using h3)] at hS4
        exact sp_close hS4
      try simp only [eb18, decide_eq_true_eq, decide_eq_false_iff_not, Bool.or_eq_true, Bool.and_eq_true, Bool.or_eq_false_iff, Bool.and_eq_false_imp, Bool.not_eq_true', Bool.not_eq_false', ne_eq, Decidable.not_not, Int.not_lt, Int.not_le, Bool.not_eq_true, Bool.not_eq_false] at h3
      have hgo : goesOn s (all.drop a) := ⟨hw, by simpa using h3⟩
      have hfl := firstP_len hw
      rw [List.length_drop] at hfl
      have hsc := scan_go hgo
      have htg := take_good (body := (firstP (all.drop a)).1) hI (.inl (by omega))
      rw [hsc] at hI4 hI5
      rw [List.drop_drop] at hI4 hI5
      dsimp only at hI4 hI5
      refine AW.skip ?_
      refine SeqP.go ?_
      refine AW.region ?_
      refine OpsW.q rfl (q_move (v := .int _ _) rfl) ?_
      refine OpsW.q rfl (q_move (v := S _) rfl) ?_
      refine OpsW.q rfl (q_lenS Try.underlying9 rfl) ?_
      refine OpsW.q rfl (q_addI rfl rfl (by omega)) ?_
      refine OpsW.q rfl (q_addI rfl rfl (by omega)) ?_
      refine OpsW.q rfl (q_assign (v := .int _ _) rfl) ?_
      refine OpsW.nil ?_
      refine BlockP.go ?_
      replace hS2 := Sep.bring del2 hS2
      replace hS2 := Sep.bring del1 hS2
      replace hS2 := Sep.bring del2 hS2
      exact LoopP.go _ (by omega) ⟨a + (12 + (firstP (all.drop a)).1.length), (takeP s (firstP (all.drop a)).1).2, lv48, _, rfl, ⟨htg.1, by omega, by have := htg.2.1; omega, by omega, hI5⟩, Slots.eq ⟨(by first | rfl | exact i64_int (by omega) (by omega) (by omega) | assumption), (by first | rfl | exact i64_int (by omega) (by omega) (by omega) | assumption), (by first | rfl | exact i64_int (by omega) (by omega) (by omega) | assumption), (by first | rfl | exact i64_int (by omega) (by omega) (by omega) | assumption), (by first | rfl | exact i64_int (by omega) (by omega) (by omega) | assumption),  trivial⟩, hS2⟩
    ·
      have hw2 : (firstP (all.drop a)).2 = false := by simpa using hw
      rw [hw2]
      refine AW.region ?_
      refine OpsW.q rfl (q_move (v := .bool _) rfl) ?_
      refine OpsW.q rfl (q_not rfl) ?_
      refine OpsW.q rfl (q_move (v := .bool true) rfl) ?_
      refine OpsW.p rfl rfl ?_
      refine OpsW.p rfl rfl ?_
      refine OpsW.p rfl rfl ?_
      refine OpsW.p rfl rfl ?_
      refine OpsW.p rfl rfl ?_
      refine OpsW.p rfl rfl ?_
      refine OpsW.q rfl (q_or2 (B := false) rfl rfl rfl) ?_
      refine OpsW.nil ?_
      refine SeqP.go ?_
      refine AW.cond rfl (fun h3 => ?_) (fun h3 => ?_)
      ·
        try simp only [eb18, decide_eq_true_eq, decide_eq_false_iff_not, Bool.or_eq_true, Bool.and_eq_true, Bool.or_eq_false_iff, Bool.and_eq_false_imp, Bool.not_eq_true', Bool.not_eq_false', ne_eq, Decidable.not_not, Int.not_lt, Int.not_le, Bool.not_eq_true, Bool.not_eq_false] at h3
        have hend : ¬ goesOn s (all.drop a) := fun g => hw g.1
        refine AW.exit ?_
        refine SeqP.exit ?_
        refine BlockP.far rfl ?_
        refine LoopP.exit ?_
        rw [scan_end hend] at hI4 hI5
        have hN1 : (scanP sp0 all).1 = a := hI4.symm
        have hN2 : (scanP sp0 all).2 = s := hI5.symm
        refine BlockP.here ?_
        refine SeqP.go ?_
        refine AW.seq ?_
        refine AW.seq ?_
        refine AW.region ?_
        refine OpsW.q rfl (q_move (v := .int _ _) rfl) ?_
        refine OpsW.q rfl (q_move (v := S _) rfl) ?_
        refine OpsW.q rfl (q_lenS Try.underlying9 rfl) ?_
        refine OpsW.q rfl (q_lss rfl rfl) ?_
        refine OpsW.nil ?_
        refine SeqP.go ?_
        refine AW.cond rfl (fun h4 => ?_) (fun h4 => ?_)
        ·
          try simp only [eb18, decide_eq_true_eq, decide_eq_false_iff_not, Bool.or_eq_true, Bool.and_eq_true, Bool.or_eq_false_iff, Bool.and_eq_false_imp, Bool.not_eq_true', Bool.not_eq_false', ne_eq, Decidable.not_not, Int.not_lt, Int.not_le, Bool.not_eq_true, Bool.not_eq_false] at h4
          have hoc : openP t rm = cutP t (a : Int) := by rw [openP_go harg hd2, openC_cut (by rw [← hall, hN1]; omega), ← hall, hN1]
          refine AW.region ?_
          refine OpsW.q rfl (q_move (v := .pointer _) rfl) ?_
          refine OpsW.q rfl (q_move (v := .int _ _) rfl) ?_
          obtain ⟨Hf5, le5, hA5, hB5⟩ := hSl0.framed at2
          refine OpsW.m rfl (o_call rfl Try.func19 rfl rfl (Cut_s hA5 htk _)) ?_
          rintro _ H5 ⟨rfl, hR5⟩
          have hS5 := hB5 _ _ hR5
          clear hR5 hB5 hA5
          clear hSl0
          refine OpsW.q rfl (q_assign (v := .int _ _) rfl) ?_
          refine OpsW.nil ?_
          refine SeqP.go ?_
          refine AW.seq ?_
          refine AW.seq ?_
          refine AW.region ?_
          refine OpsW.q rfl (q_move (v := .int _ _) rfl) ?_
          refine OpsW.q rfl (q_neq rfl rfl) ?_
          refine OpsW.nil ?_
          refine SeqP.go ?_
          refine AW.cond rfl (fun h5 => ?_) (fun h5 => ?_)
          ·
            try simp only [eb18, decide_eq_true_eq, decide_eq_false_iff_not, Bool.or_eq_true, Bool.and_eq_true, Bool.or_eq_false_iff, Bool.and_eq_false_imp, Bool.not_eq_true', Bool.not_eq_false', ne_eq, Decidable.not_not, Int.not_lt, Int.not_le, Bool.not_eq_true, Bool.not_eq_false] at h5
            refine AW.seq ?_
            refine AW.region ?_
            refine OpsW.q rfl (q_move (v := .int _ _) rfl) ?_
            refine OpsW.q rfl (q_assign (v := .pointer _) rfl) ?_
            refine OpsW.q rfl (q_assign (v := .int _ _) rfl) ?_
            refine OpsW.nil ?_
            refine SeqP.go ?_
            refine AW.ret ?_
            refine SeqP.ret ?_
            refine RetP.mk2 (H' := H5) (v1 := .pointer _) (v2 := .int _ _) rfl rfl rfl  (Hp.le_refl _) ?_
            exact .inl ⟨by rw [hoc]; simpa using h5, by rw [hoc], by rw [hoc]; exact hS5.tail.tail⟩
          try simp only [eb18, decide_eq_true_eq, decide_eq_false_iff_not, Bool.or_eq_true, Bool.and_eq_true, Bool.or_eq_false_iff, Bool.and_eq_false_imp, Bool.not_eq_true', Bool.not_eq_false', ne_eq, Decidable.not_not, Int.not_lt, Int.not_le, Bool.not_eq_true, Bool.not_eq_false] at h5
          refine AW.skip ?_
          refine SeqP.go ?_
          refine AW.seq ?_
          refine AW.region ?_
          refine OpsW.q rfl (q_move (v := .pointer _) rfl) ?_
          refine OpsW.q rfl (q_assign (v := .pointer _) rfl) ?_
          refine OpsW.q rfl (q_assign (v := .int _ _) rfl) ?_
          refine OpsW.nil ?_
          refine SeqP.go ?_
          refine AW.ret ?_
          refine RetP.mk2 (H' := H5) (v1 := .pointer _) (v2 := .int _ _) rfl rfl rfl  (Hp.le_refl _) ?_
          refine .inr ⟨by rw [hoc]; simpa using h5, b33, rfl, ?_⟩
          rw [hoc, hN2]
          exact sp_close (Sep.bring del1 hS5)
        try simp only [eb18, decide_eq_true_eq, decide_eq_false_iff_not, Bool.or_eq_true, Bool.and_eq_true, Bool.or_eq_false_iff, Bool.and_eq_false_imp, Bool.not_eq_true', Bool.not_eq_false', ne_eq, Decidable.not_not, Int.not_lt, Int.not_le, Bool.not_eq_true, Bool.not_eq_false] at h4
        have hoc : openP t rm = syncP t := by rw [openP_go harg hd2, openC_sync (by rw [← hall, hN1]; omega)]
        refine AW.region ?_
        refine OpsW.q rfl (q_move (v := .pointer _) rfl) ?_
        obtain ⟨Hf6, le6, hA6, hB6⟩ := hSl0.framed at2
        refine OpsW.m rfl (o_call rfl Try.func20 rfl rfl (Sync_s hA6 htk)) ?_
        rintro _ H6 ⟨rfl, hR6⟩
        have hS6 := hB6 _ _ hR6
        clear hR6 hB6 hA6
        clear hSl0
        refine OpsW.q rfl (q_assign (v := .int _ _) rfl) ?_
        refine OpsW.nil ?_
        refine SeqP.go ?_
        refine AW.seq ?_
        refine AW.seq ?_
        refine AW.region ?_
        refine OpsW.q rfl (q_move (v := .int _ _) rfl) ?_
        refine OpsW.q rfl (q_neq rfl rfl) ?_
        refine OpsW.nil ?_
        refine SeqP.go ?_
        refine AW.cond rfl (fun h5 => ?_) (fun h5 => ?_)
        ·
          try simp only [eb18, decide_eq_true_eq, decide_eq_false_iff_not, Bool.or_eq_true, Bool.and_eq_true, Bool.or_eq_false_iff, Bool.and_eq_false_imp, Bool.not_eq_true', Bool.not_eq_false', ne_eq, Decidable.not_not, Int.not_lt, Int.not_le, Bool.not_eq_true, Bool.not_eq_false] at h5
          refine AW.seq ?_
          refine AW.region ?_
          refine OpsW.q rfl (q_move (v := .int _ _) rfl) ?_
          refine OpsW.q rfl (q_assign (v := .pointer _) rfl) ?_
          refine OpsW.q rfl (q_assign (v := .int _ _) rfl) ?_
          refine OpsW.nil ?_
          refine SeqP.go ?_
          refine AW.ret ?_
          refine SeqP.ret ?_
          refine RetP.mk2 (H' := H6) (v1 := .pointer _) (v2 := .int _ _) rfl rfl rfl  (Hp.le_refl _) ?_
          exact .inl ⟨by rw [hoc]; simpa using h5, by rw [hoc], by rw [hoc]; exact hS6.tail.tail⟩
        try simp only [eb18, decide_eq_true_eq, decide_eq_false_iff_not, Bool.or_eq_true, Bool.and_eq_true, Bool.or_eq_false_iff, Bool.and_eq_false_imp, Bool.not_eq_true', Bool.not_eq_false', ne_eq, Decidable.not_not, Int.not_lt, Int.not_le, Bool.not_eq_true, Bool.not_eq_false] at h5
        refine AW.skip ?_
        refine SeqP.go ?_
        refine AW.seq ?_
        refine AW.region ?_
        refine OpsW.q rfl (q_move (v := .pointer _) rfl) ?_
        refine OpsW.q rfl (q_assign (v := .pointer _) rfl) ?_
        refine OpsW.q rfl (q_assign (v := .int _ _) rfl) ?_
        refine OpsW.nil ?_
        refine SeqP.go ?_
        refine AW.ret ?_
        refine RetP.mk2 (H' := H6) (v1 := .pointer _) (v2 := .int _ _) rfl rfl rfl  (Hp.le_refl _) ?_
        refine .inr ⟨by rw [hoc]; simpa using h5, b33, rfl, ?_⟩
        rw [hoc, hN2]
        exact sp_close (Sep.bring del1 hS6)
      exfalso
      try simp only [eb18, decide_eq_true_eq, decide_eq_false_iff_not, Bool.or_eq_true, Bool.and_eq_true, Bool.or_eq_false_iff, Bool.and_eq_false_imp, Bool.not_eq_true', Bool.not_eq_false', ne_eq, Decidable.not_not, Int.not_lt, Int.not_le, Bool.not_eq_true, Bool.not_eq_false] at h3
      simp at h3
theorem wrongS_nil : Con Try.prog w0 21 #[.pointer none] H (fun v H' => v = .int .i64 2 ∧ H' = H) := by
  have hS0 : Sep H [] H := Sep.refl
  refine Con.intro Try.func21 rfl rfl ?_
  refine AW.seq ?_
  refine AW.region ?_
  refine OpsW.q rfl (q_assign (v := .int _ _) rfl) ?_
  refine OpsW.nil ?_
  refine SeqP.go ?_
  refine AW.seq ?_
  refine AW.block ?_
  refine AW.seq ?_
  refine AW.region ?_
  refine OpsW.q rfl (q_move (v := .pointer _) rfl) ?_
  refine OpsW.q rfl (q_eqlP Try.underlying22 rfl rfl) ?_
  refine OpsW.q rfl (q_assign (v := .bool _) rfl) ?_
  refine OpsW.nil ?_
  refine SeqP.go ?_
  refine AW.cond rfl (fun h0 => ?_) (fun h0 => ?_)
  ·
    try simp only [decide_eq_true_eq, decide_eq_false_iff_not, Bool.or_eq_true, Bool.and_eq_true, Bool.or_eq_false_iff, Bool.and_eq_false_imp, Bool.not_eq_true', Bool.not_eq_false', ne_eq, Decidable.not_not, Int.not_lt, Int.not_le, Bool.not_eq_true, Bool.not_eq_false] at h0
    refine AW.seq ?_
    refine AW.region ?_
    refine OpsW.q rfl (q_assign (v := .int _ _) rfl) ?_
    refine OpsW.nil ?_
    refine SeqP.go ?_
    refine AW.ret ?_
    refine BlockP.ret ?_
    refine SeqP.ret ?_
    refine RetP.mk1 (H' := H) (v1 := .int _ _) rfl rfl  hS0.le ?_
    exact ⟨rfl, rfl⟩
  exfalso
  try simp only [decide_eq_true_eq, decide_eq_false_iff_not, Bool.or_eq_true, Bool.and_eq_true, Bool.or_eq_false_iff, Bool.and_eq_false_imp, Bool.not_eq_true', Bool.not_eq_false', ne_eq, Decidable.not_not, Int.not_lt, Int.not_le, Bool.not_eq_true, Bool.not_eq_false] at h0
  first | contradiction | (simp at *; done) | simp_all
theorem Put_nil {d : List UInt8} : Con Try.prog w0 7 #[.pointer none, S d] H (fun v H' => v = .tuple #[.int .i64 0, .int .i64 2] ∧ H' = H) := by
  have hS0 : Sep H [] H := Sep.refl
  refine Con.intro Try.func7 rfl rfl ?_
  refine AW.seq ?_
  refine AW.region ?_
  refine OpsW.q rfl (q_assign (v := .int _ _) rfl) ?_
  refine OpsW.q rfl (q_assign (v := .int _ _) rfl) ?_
  refine OpsW.nil ?_
  refine SeqP.go ?_
  refine AW.seq ?_
  refine AW.seq ?_
  refine AW.region ?_
  refine OpsW.q rfl (q_move (v := .pointer _) rfl) ?_
  refine OpsW.q rfl (o_call rfl Try.func21 rfl rfl (wrongS_nil)) ?_
  refine OpsW.q rfl (q_assign (v := .int _ _) rfl) ?_
  refine OpsW.nil ?_
  refine SeqP.go ?_
  refine AW.seq ?_
  refine AW.region ?_
  refine OpsW.q rfl (q_move (v := .int _ _) rfl) ?_
  refine OpsW.q rfl (q_neq rfl rfl) ?_
  refine OpsW.nil ?_
  refine SeqP.go ?_
  refine AW.cond rfl (fun h0 => ?_) (fun h0 => ?_)
  ·
    try simp only [decide_eq_true_eq, decide_eq_false_iff_not, Bool.or_eq_true, Bool.and_eq_true, Bool.or_eq_false_iff, Bool.and_eq_false_imp, Bool.not_eq_true', Bool.not_eq_false', ne_eq, Decidable.not_not, Int.not_lt, Int.not_le, Bool.not_eq_true, Bool.not_eq_false] at h0
    refine AW.seq ?_
    refine AW.region ?_
    refine OpsW.q rfl (q_move (v := .int _ _) rfl) ?_
    refine OpsW.q rfl (q_assign (v := .int _ _) rfl) ?_
    refine OpsW.q rfl (q_assign (v := .int _ _) rfl) ?_
    refine OpsW.nil ?_
    refine SeqP.go ?_
    refine AW.ret ?_
    refine SeqP.ret ?_
    refine RetP.mk2 (H' := H) (v1 := .int _ _) (v2 := .int _ _) rfl rfl rfl  hS0.le ?_
    exact ⟨rfl, rfl⟩
  exfalso
  try simp only [decide_eq_true_eq, decide_eq_false_iff_not, Bool.or_eq_true, Bool.and_eq_true, Bool.or_eq_false_iff, Bool.and_eq_false_imp, Bool.not_eq_true', Bool.not_eq_false', ne_eq, Decidable.not_not, Int.not_lt, Int.not_le, Bool.not_eq_true, Bool.not_eq_false] at h0
  first | contradiction | (simp at *; done) | simp_all
theorem Ack_nil {n : Int} : Con Try.prog w0 9 #[.pointer none, .int .i64 n] H (fun v H' => v = .int .i64 2 ∧ H' = H) := by
  have hS0 : Sep H [] H := Sep.refl
  refine Con.intro Try.func9 rfl rfl ?_
  refine AW.seq ?_
  refine AW.region ?_
  refine OpsW.q rfl (q_assign (v := .int _ _) rfl) ?_
  refine OpsW.nil ?_
  refine SeqP.go ?_
  refine AW.seq ?_
  refine AW.region ?_
  refine OpsW.q rfl (q_move (v := .pointer _) rfl) ?_
  refine OpsW.q rfl (o_call rfl Try.func21 rfl rfl (wrongS_nil)) ?_
  refine OpsW.q rfl (q_assign (v := .int _ _) rfl) ?_
  refine OpsW.nil ?_
  refine SeqP.go ?_
  refine AW.seq ?_
  refine AW.block ?_
  refine AW.seq ?_
  refine AW.region ?_
  refine OpsW.q rfl (q_move (v := .int _ _) rfl) ?_
  refine OpsW.q rfl (q_neq rfl rfl) ?_
  refine OpsW.q rfl (q_assign (v := .bool _) rfl) ?_
  refine OpsW.nil ?_
  refine SeqP.go ?_
  refine AW.cond rfl (fun h0 => ?_) (fun h0 => ?_)
  ·
    try simp only [decide_eq_true_eq, decide_eq_false_iff_not, Bool.or_eq_true, Bool.and_eq_true, Bool.or_eq_false_iff, Bool.and_eq_false_imp, Bool.not_eq_true', Bool.not_eq_false', ne_eq, Decidable.not_not, Int.not_lt, Int.not_le, Bool.not_eq_true, Bool.not_eq_false] at h0
    refine AW.seq ?_
    refine AW.region ?_
    refine OpsW.q rfl (q_move (v := .int _ _) rfl) ?_
    refine OpsW.q rfl (q_assign (v := .int _ _) rfl) ?_
    refine OpsW.nil ?_
    refine SeqP.go ?_
    refine AW.ret ?_
    refine BlockP.ret ?_
    refine SeqP.ret ?_
    refine RetP.mk1 (H' := H) (v1 := .int _ _) rfl rfl  hS0.le ?_
    exact ⟨rfl, rfl⟩
  exfalso
  try simp only [decide_eq_true_eq, decide_eq_false_iff_not, Bool.or_eq_true, Bool.and_eq_true, Bool.or_eq_false_iff, Bool.and_eq_false_imp, Bool.not_eq_true', Bool.not_eq_false', ne_eq, Decidable.not_not, Int.not_lt, Int.not_le, Bool.not_eq_true, Bool.not_eq_false] at h0
  first | contradiction | (simp at *; done) | simp_all
theorem From_nil {n m : Int} : Con Try.prog w0 10 #[.pointer none, .int .i64 n, .int .i64 m] H (fun v H' => v = .slice none 0 0 ∧ H' = H) := by
  have hS0 : Sep H [] H := Sep.refl
  refine Con.intro Try.func10 rfl rfl ?_
  refine AW.seq ?_
  refine AW.region ?_
  refine OpsW.q rfl (q_assign (v := .slice _ _ _) rfl) ?_
  refine OpsW.nil ?_
  refine SeqP.go ?_
  refine AW.seq ?_
  refine AW.region ?_
  refine OpsW.q rfl (q_assign (v := .slice _ _ _) rfl) ?_
  refine OpsW.nil ?_
  refine SeqP.go ?_
  refine AW.seq ?_
  refine AW.seq ?_
  refine AW.region ?_
  refine OpsW.q rfl (q_move (v := .pointer _) rfl) ?_
  refine OpsW.q rfl (q_eqlP Try.underlying22 rfl rfl) ?_
  refine OpsW.nil ?_
  refine SeqP.go ?_
  refine AW.cond rfl (fun h0 => ?_) (fun h0 => ?_)
  ·
    try simp only [decide_eq_true_eq, decide_eq_false_iff_not, Bool.or_eq_true, Bool.and_eq_true, Bool.or_eq_false_iff, Bool.and_eq_false_imp, Bool.not_eq_true', Bool.not_eq_false', ne_eq, Decidable.not_not, Int.not_lt, Int.not_le, Bool.not_eq_true, Bool.not_eq_false] at h0
    refine AW.seq ?_
    refine AW.region ?_
    refine OpsW.q rfl (q_assign (v := .slice _ _ _) rfl) ?_
    refine OpsW.nil ?_
    refine SeqP.go ?_
    refine AW.ret ?_
    refine SeqP.ret ?_
    refine RetP.mk1 (H' := H) (v1 := .slice _ _ _) rfl rfl  hS0.le ?_
    exact ⟨rfl, rfl⟩
  exfalso
  try simp only [decide_eq_true_eq, decide_eq_false_iff_not, Bool.or_eq_true, Bool.and_eq_true, Bool.or_eq_false_iff, Bool.and_eq_false_imp, Bool.not_eq_true', Bool.not_eq_false', ne_eq, Decidable.not_not, Int.not_lt, Int.not_le, Bool.not_eq_true, Bool.not_eq_false] at h0
  first | contradiction | (simp at *; done) | simp_all
theorem Marks_nil : Con Try.prog w0 8 #[.pointer none] H (fun v H' => v = .tuple #[.int .i64 0, .int .i64 0] ∧ H' = H) := by
  have hS0 : Sep H [] H := Sep.refl
  refine Con.intro Try.func8 rfl rfl ?_
  refine AW.seq ?_
  refine AW.region ?_
  refine OpsW.q rfl (q_assign (v := .int _ _) rfl) ?_
  refine OpsW.q rfl (q_assign (v := .int _ _) rfl) ?_
  refine OpsW.nil ?_
  refine SeqP.go ?_
  refine AW.seq ?_
  refine AW.seq ?_
  refine AW.region ?_
  refine OpsW.q rfl (q_move (v := .pointer _) rfl) ?_
  refine OpsW.q rfl (q_eqlP Try.underlying22 rfl rfl) ?_
  refine OpsW.nil ?_
  refine SeqP.go ?_
  refine AW.cond rfl (fun h0 => ?_) (fun h0 => ?_)
  ·
    try simp only [decide_eq_true_eq, decide_eq_false_iff_not, Bool.or_eq_true, Bool.and_eq_true, Bool.or_eq_false_iff, Bool.and_eq_false_imp, Bool.not_eq_true', Bool.not_eq_false', ne_eq, Decidable.not_not, Int.not_lt, Int.not_le, Bool.not_eq_true, Bool.not_eq_false] at h0
    refine AW.seq ?_
    refine AW.region ?_
    refine OpsW.q rfl (q_assign (v := .int _ _) rfl) ?_
    refine OpsW.q rfl (q_assign (v := .int _ _) rfl) ?_
    refine OpsW.nil ?_
    refine SeqP.go ?_
    refine AW.ret ?_
    refine SeqP.ret ?_
    refine RetP.mk2 (H' := H) (v1 := .int _ _) (v2 := .int _ _) rfl rfl rfl  hS0.le ?_
    exact ⟨rfl, rfl⟩
  exfalso
  try simp only [decide_eq_true_eq, decide_eq_false_iff_not, Bool.or_eq_true, Bool.and_eq_true, Bool.or_eq_false_iff, Bool.and_eq_false_imp, Bool.not_eq_true', Bool.not_eq_false', ne_eq, Decidable.not_not, Int.not_lt, Int.not_le, Bool.not_eq_true, Bool.not_eq_false] at h0
  first | contradiction | (simp at *; done) | simp_all
theorem Open_nil {n : Int} : Con Try.prog w0 6 #[.pointer none, .int .i64 n] H (fun v H' => v = .tuple #[.pointer none, .int .i64 2] ∧ H' = H) := by
  have hS0 : Sep H [] H := Sep.refl
  refine Con.intro Try.func6 rfl rfl ?_
  refine AW.seq ?_
  refine AW.region ?_
  refine OpsW.q rfl (q_assign (v := .pointer _) rfl) ?_
  refine OpsW.q rfl (q_assign (v := .int _ _) rfl) ?_
  refine OpsW.nil ?_
  refine SeqP.go ?_
  refine AW.seq ?_
  refine AW.block ?_
  refine AW.seq ?_
  refine AW.region ?_
  refine OpsW.q rfl (q_move (v := .pointer _) rfl) ?_
  refine OpsW.q rfl (q_eqlP Try.underlying36 rfl rfl) ?_
  refine OpsW.q rfl (q_assign (v := .bool _) rfl) ?_
  refine OpsW.nil ?_
  refine SeqP.go ?_
  refine AW.cond rfl (fun h0 => ?_) (fun h0 => ?_)
  ·
    try simp only [decide_eq_true_eq, decide_eq_false_iff_not, Bool.or_eq_true, Bool.and_eq_true, Bool.or_eq_false_iff, Bool.and_eq_false_imp, Bool.not_eq_true', Bool.not_eq_false', ne_eq, Decidable.not_not, Int.not_lt, Int.not_le, Bool.not_eq_true, Bool.not_eq_false] at h0
    refine AW.seq ?_
    refine AW.region ?_
    refine OpsW.q rfl (q_assign (v := .pointer _) rfl) ?_
    refine OpsW.q rfl (q_assign (v := .int _ _) rfl) ?_
    refine OpsW.nil ?_
    refine SeqP.go ?_
    refine AW.ret ?_
    refine BlockP.ret ?_
    refine SeqP.ret ?_
    refine RetP.mk2 (H' := H) (v1 := .pointer _) (v2 := .int _ _) rfl rfl rfl  hS0.le ?_
    exact ⟨rfl, rfl⟩
  exfalso
  try simp only [decide_eq_true_eq, decide_eq_false_iff_not, Bool.or_eq_true, Bool.and_eq_true, Bool.or_eq_false_iff, Bool.and_eq_false_imp, Bool.not_eq_true', Bool.not_eq_false', ne_eq, Decidable.not_not, Int.not_lt, Int.not_le, Bool.not_eq_true, Bool.not_eq_false] at h0
  first | contradiction | (simp at *; done) | simp_all
theorem Same_con {va vb : Value} {l m : RecL} (hVa : Vec H 46 2 va l.length (rowsV recC l)) (hVb : Vec H 46 2 vb m.length (rowsV recC m)) (hl : l.length ≤ 1000000000) (hm : m.length ≤ 1000000000) : Con Try.prog w0 15 #[va, vb] H (fun v H' => v = .bool (decide (l = m)) ∧ H' = H) := by
  have hS0 : Sep H [] H := Sep.refl
  refine Con.intro Try.func15 rfl rfl ?_
  refine AW.seq ?_
  refine AW.region ?_
  refine OpsW.q rfl (q_assign (v := .bool _) rfl) ?_
  refine OpsW.nil ?_
  refine SeqP.go ?_
  refine AW.seq ?_
  refine AW.seq ?_
  refine AW.region ?_
  refine OpsW.q rfl (q_move (v := va) rfl) ?_
  refine OpsW.q rfl (q_lenVec Try.underlying31 rfl (hVa.le hS0.le)) ?_
  refine OpsW.q rfl (q_move (v := vb) rfl) ?_
  refine OpsW.q rfl (q_lenVec Try.underlying31 rfl (hVb.le hS0.le)) ?_
  refine OpsW.q rfl (q_neq rfl rfl) ?_
  refine OpsW.nil ?_
  refine SeqP.go ?_
  refine AW.cond rfl (fun h0 => ?_) (fun h0 => ?_)
  ·
    try simp only [decide_eq_true_eq, decide_eq_false_iff_not, Bool.or_eq_true, Bool.and_eq_true, Bool.or_eq_false_iff, Bool.and_eq_false_imp, Bool.not_eq_true', Bool.not_eq_false', ne_eq, Decidable.not_not, Int.not_lt, Int.not_le, Bool.not_eq_true, Bool.not_eq_false] at h0
    have hne : l ≠ m := fun e => by rw [e] at h0; simp at h0
    refine AW.seq ?_
    refine AW.region ?_
    refine OpsW.q rfl (q_assign (v := .bool _) rfl) ?_
    refine OpsW.nil ?_
    refine SeqP.go ?_
    refine AW.ret ?_
    refine SeqP.ret ?_
    refine RetP.mk1 (H' := H) (v1 := .bool _) rfl rfl  hS0.le ?_
    exact ⟨by rw [decide_eq_false hne], rfl⟩
  try simp only [decide_eq_true_eq, decide_eq_false_iff_not, Bool.or_eq_true, Bool.and_eq_true, Bool.or_eq_false_iff, Bool.and_eq_false_imp, Bool.not_eq_true', Bool.not_eq_false', ne_eq, Decidable.not_not, Int.not_lt, Int.not_le, Bool.not_eq_true, Bool.not_eq_false] at h0
  have hlm : l.length = m.length := by omega
  refine AW.skip ?_
  refine SeqP.go ?_
  refine AW.seq ?_
  refine AW.seq ?_
  refine AW.region ?_
  refine OpsW.q rfl (q_assign (v := .int _ _) rfl) ?_
  refine OpsW.nil ?_
  refine SeqP.go ?_
  refine AW.block ?_
  refine AW.loop (fun m_ e_ H_ => ∃ (i : Nat) (e0 : Env), m_ = l.length - i ∧ (i ≤ l.length ∧ ∀ j, j < i → l[j]? = m[j]?) ∧ e_ = upds e0 [(0, va), (1, vb), (5, .int .i64 (i : Int))] ∧ Sep H [] H_) _ ⟨0, _, rfl, ⟨Nat.zero_le _, fun j hj => by omega⟩, Slots.eq ⟨(by first | rfl | exact i64_int (by omega) (by omega) (by omega) | assumption), (by first | rfl | exact i64_int (by omega) (by omega) (by omega) | assumption), (by first | rfl | exact i64_int (by omega) (by omega) (by omega) | assumption),  trivial⟩, hS0⟩ ?_
  rintro m_ _ Hl0 ⟨i, e0, rfl, ⟨hi, hf⟩, rfl, hSl0⟩
  try clear hS0
  refine AW.seq ?_
  refine AW.seq ?_
  refine AW.region ?_
  refine OpsW.q rfl (q_move (v := .int _ _) rfl) ?_
  refine OpsW.q rfl (q_move (v := va) rfl) ?_
  refine OpsW.q rfl (q_lenVec Try.underlying31 rfl (hVa.le hSl0.le)) ?_
  refine OpsW.q rfl (q_lss rfl rfl) ?_
  refine OpsW.nil ?_
  refine SeqP.go ?_
  refine AW.cond2 rfl (fun h1 => ?_) (fun h1 => ?_)
  ·
    try simp only [decide_eq_true_eq, decide_eq_false_iff_not, Bool.or_eq_true, Bool.and_eq_true, Bool.or_eq_false_iff, Bool.and_eq_false_imp, Bool.not_eq_true', Bool.not_eq_false', ne_eq, Decidable.not_not, Int.not_lt, Int.not_le, Bool.not_eq_true, Bool.not_eq_false] at h1
    refine AW.exit ?_
    refine SeqP.exit ?_
    refine LoopP.exit ?_
    have heq : l = m := List.ext_getElem? fun j => (Nat.lt_or_ge j l.length).elim (fun g => hf j (by omega)) (fun g => by rw [List.getElem?_eq_none g, List.getElem?_eq_none (by omega)])
    refine BlockP.here ?_
    refine SeqP.go ?_
    refine AW.seq ?_
    refine AW.region ?_
    refine OpsW.q rfl (q_assign (v := .bool _) rfl) ?_
    refine OpsW.nil ?_
    refine SeqP.go ?_
    refine AW.ret ?_
    refine RetP.mk1 (H' := H) (v1 := .bool _) rfl rfl  hSl0.le ?_
    exact ⟨by rw [decide_eq_true heq], rfl⟩
  try simp only [decide_eq_true_eq, decide_eq_false_iff_not, Bool.or_eq_true, Bool.and_eq_true, Bool.or_eq_false_iff, Bool.and_eq_false_imp, Bool.not_eq_true', Bool.not_eq_false', ne_eq, Decidable.not_not, Int.not_lt, Int.not_le, Bool.not_eq_true, Bool.not_eq_false] at h1
  have hil : i < l.length := by omega
  obtain ⟨r, hr⟩ : ∃ r, l[i]? = some r := ⟨l[i], List.getElem?_eq_getElem hil⟩
  obtain ⟨q, hq⟩ : ∃ q, m[i]? = some q := ⟨m[i], List.getElem?_eq_getElem (by omega)⟩
  refine AW.skip ?_
  refine SeqP.go ?_
  refine AW.seq ?_
  refine AW.block ?_
  refine AW.seq ?_
  refine AW.drawK [] 8 rfl (by kernel_rfl) ?_
  refine SeqK.q rfl (q_move (v := va) rfl) ?_
  refine SeqK.q rfl (q_move (v := .int _ _) rfl) ?_
  refine SeqK.q rfl (q_indexV (Vec.le hVa hSl0.le) Try.underlying31 (by kernel_rfl) rfl rfl (by omega) (by omega)) ?_
  refine SeqK.q rfl (q_loadVR (Vec.le hVa hSl0.le) recC_len (by kernel_rfl) rfl hr (by omega)) ?_
  refine SeqK.q rfl (q_move (v := vb) rfl) ?_
  refine SeqK.q rfl (q_move (v := .int _ _) rfl) ?_
  refine SeqK.q rfl (q_indexV (Vec.le hVb hSl0.le) Try.underlying31 (by kernel_rfl) rfl rfl (by omega) (by omega)) ?_
  refine SeqK.q rfl (q_loadVR (Vec.le hVb hSl0.le) recC_len (by kernel_rfl) rfl hq (by omega)) ?_
  refine SeqK.done ?_
  refine OpsW.q rfl (q_neqRecord rfl rfl) ?_
  refine OpsW.nil ?_
  refine SeqP.go ?_
  refine AW.cond rfl (fun h2 => ?_) (fun h2 => ?_)
  ·
    try simp only [decide_eq_true_eq, decide_eq_false_iff_not, Bool.or_eq_true, Bool.and_eq_true, Bool.or_eq_false_iff, Bool.and_eq_false_imp, Bool.not_eq_true', Bool.not_eq_false', ne_eq, Decidable.not_not, Int.not_lt, Int.not_le, Bool.not_eq_true, Bool.not_eq_false] at h2
    have hne : l ≠ m := fun e => by subst e; rw [hr] at hq; cases hq; simp at h2
    refine AW.seq ?_
    refine AW.region ?_
    refine OpsW.q rfl (q_assign (v := .bool _) rfl) ?_
    refine OpsW.nil ?_
    refine SeqP.go ?_
    refine AW.ret ?_
    refine BlockP.ret ?_
    refine SeqP.ret ?_
    refine LoopP.ret ?_
    refine BlockP.ret ?_
    refine SeqP.ret ?_
    refine RetP.mk1 (H' := H) (v1 := .bool _) rfl rfl  hSl0.le ?_
    exact ⟨by rw [decide_eq_false hne], rfl⟩
  try simp only [decide_eq_true_eq, decide_eq_false_iff_not, Bool.or_eq_true, Bool.and_eq_true, Bool.or_eq_false_iff, Bool.and_eq_false_imp, Bool.not_eq_true', Bool.not_eq_false', ne_eq, Decidable.not_not, Int.not_lt, Int.not_le, Bool.not_eq_true, Bool.not_eq_false] at h2
  have hrq : r = q := by cases r; cases q; simp_all
  refine AW.skip ?_
  refine BlockP.go ?_
  refine SeqP.go ?_
  refine AW.region ?_
  refine OpsW.q rfl (q_move (v := .int _ _) rfl) ?_
  refine OpsW.q rfl (q_addI rfl rfl (by omega)) ?_
  refine OpsW.q rfl (q_assign (v := .int _ _) rfl) ?_
  refine OpsW.nil ?_
  exact LoopP.go _ (by omega) ⟨i + 1, _, rfl, ⟨by omega, fun j hj => (Nat.lt_or_ge j i).elim (hf j) (fun g => by rw [show j = i from by omega, hr, hq, hrq])⟩, Slots.eq ⟨(by first | rfl | exact i64_int (by omega) (by omega) (by omega) | assumption), (by first | rfl | exact i64_int (by omega) (by omega) (by omega) | assumption), (by first | rfl | exact i64_int (by omega) (by omega) (by omega) | assumption),  trivial⟩, hSl0⟩
end
end Go.Proofs.Ytpaombkodoofgaa

