/-
  The walks of package store: the store.
-/
import Derived.Test.YtfiojlmccflplaaDQ
import Derived.Test.YtfiojlmccflplaaProg
import Derived.Test.YtfiojlmccflplaaSr
import Derived.Test.YtfiojlmccflplaaDP
import Derived.Test.YtfiojlmccflplaaSi
import Derived.Test.YtfiojlmccflplaaDK
namespace Go.Proofs.Ytfiojlmccflplaa
open Go Go.RowKit D
set_option linter.unusedVariables false
set_option linter.unusedSimpArgs false
set_option maxRecDepth 100000
set_option maxHeartbeats 2000000
section
variable {w0 : World} {H : Hp} {H0 : Hp}

theorem bodyS_parts {who dat : List UInt8} {seq : Int} (hw : who.length = 32) (h0 : 0 ≤ seq) (h1 : seq < 4294967296) : tWho (bodyS who seq dat) = who ∧ tSeq (bodyS who seq dat) = seq ∧ tDat (bodyS who seq dat) = dat := by
  refine ⟨?_, ?_, ?_⟩
  · unfold tWho; rw [bodyS_def, List.append_assoc, show Int.toNat 32 = who.length from hw.symm, List.take_left]
  · unfold tSeq; rw [bodyS_def, List.append_assoc, show Int.toNat 32 = who.length from hw.symm, List.drop_left]; exact numB_fourS h0 h1 dat
  · unfold tDat; rw [bodyS_def, show Int.toNat 36 = (who ++ fourB seq).length from by rw [List.length_append, fourB_length, hw]; rfl, List.drop_left]
theorem takeS_lay {x : StS} {who dat : List UInt8} {seq : Int} (hw : who.length = 32) (h1 : seq < 4294967296) (hs : seq = mkP x.L who + 1) (nx : List UInt8) : takeS x (bodyS who seq dat) nx = (true, ⟨x.L ++ [⟨who, seq, dat⟩], nx⟩) := by
  have h0 : 0 ≤ seq := by rw [hs]; unfold mkP; omega
  obtain ⟨e1, e2, e3⟩ := bodyS_parts (dat := dat) hw h0 h1
  rw [takeS_yes (by rw [e1, e2]; exact hs), e1, e2, e3]

theorem layS_w {b tb mb : Nat} {x : StF} {t : TapeS} (hS0 : Sep H0 [.blk b (stBlk tb mb x), .pred (stM mb x.st.L), tapeC tb t] H) (hok : StOk x.st.L) (htk : TapeOk t) (hl : x.st.L.length ≤ 1000000) (hhl : x.st.h.length = 32) {who dat : List UInt8} {seq : Int} (hw : who.length = 32) (hs : seq = mkP x.st.L who + 1) (hd : dat.length ≤ 100000) : Con Try.prog w0 47 #[.pointer (some ⟨b, 0, none⟩), S who, .agg #[.int .i64 seq, S dat]] H (fun v H' => v = .int .i64 (layS t x who seq dat).1 ∧ Sep H0 [.blk b (stBlk tb mb ((layS t x who seq dat).2.1)), .pred (stM mb ((layS t x who seq dat).2.1).st.L), tapeC tb ((layS t x who seq dat).2.2)] H') := by
  replace hS0 : Sep H0 [.blk b ⟨[.pointer (some ⟨tb, 0, none⟩), S x.st.h, .map (some mb), .bool x.dd], 4, 85⟩, .pred (stM mb x.st.L), tapeC tb t] H := hS0
  have hf4 := fourB_length seq
  have hmk : 0 ≤ mkP x.st.L who ∧ mkP x.st.L who ≤ 1000000 := by have := ofP_len x.st.L who; unfold mkP; omega
  have hbl := bodyS_len (who := who) (seq := seq) (dat := dat)
  have hnl := nxS_len x.st.h (bodyS who seq dat)
  have hf5 := fourB_length ((bodyS who seq dat).length : Int)
  refine Con.intro Try.func47 rfl rfl ?_
  refine AW.seq ?_
  refine AW.region ?_
  refine OpsW.m rfl (s_box (v := .agg _) hS0 rfl rfl) ?_
  rintro _ H1 ⟨b5, rfl, hS1⟩
  clear hS0
  refine OpsW.q rfl (q_assign (v := .int _ _) rfl) ?_
  refine OpsW.nil ?_
  refine SeqP.go ?_
  refine AW.seq ?_
  refine AW.drawK [] 7 rfl (by kernel_rfl) ?_
  refine SeqK.q rfl (q_move (v := S _) rfl) ?_
  refine SeqK.q rfl (q_fieldAddr (sz := 0) Try.underlying44 rfl (by kernel_rfl) rfl) ?_
  refine SeqK.q rfl (q_load (v := .int _ _) (by kernel_rfl) rfl (hS1.blk at0) rfl) ?_
  refine SeqK.q rfl (o_call rfl Try.func57 rfl rfl (fourS_con _)) ?_
  refine SeqK.q rfl (q_cat rfl rfl (by first | (with_reducible assumption) | omega | (unfold maxLen; omega) | (simp only [nums_length, List.length_set, List.length_replicate, List.length_take, List.length_drop, List.length_append, List.length_cons, List.length_nil, ofB_length, toB_length]; omega) | (simp only [nums_length, List.length_set, List.length_replicate, List.length_take, List.length_drop, List.length_append, List.length_cons, List.length_nil, ofB_length, toB_length]; unfold maxLen; omega) | (simp; done) | (simp; omega) | rfl | decide)) ?_
  refine SeqK.q rfl (q_fieldAddr (sz := 0) Try.underlying44 rfl (by kernel_rfl) rfl) ?_
  refine SeqK.q rfl (q_load (v := S _) (by kernel_rfl) rfl (hS1.blk at0) rfl) ?_
  refine SeqK.done ?_
  refine OpsW.q rfl (q_cat rfl rfl (by first | (with_reducible assumption) | omega | (unfold maxLen; omega) | (simp only [nums_length, List.length_set, List.length_replicate, List.length_take, List.length_drop, List.length_append, List.length_cons, List.length_nil, ofB_length, toB_length]; omega) | (simp only [nums_length, List.length_set, List.length_replicate, List.length_take, List.length_drop, List.length_append, List.length_cons, List.length_nil, ofB_length, toB_length]; unfold maxLen; omega) | (simp; done) | (simp; omega) | rfl | decide)) ?_
  rw [← bodyS_def]
  refine OpsW.q rfl (q_assign (v := S _) rfl) ?_
  refine OpsW.nil ?_
  refine SeqP.go ?_
  refine AW.seq ?_
  refine AW.region ?_
  refine OpsW.q rfl (q_move (v := .pointer _) rfl) ?_
  refine OpsW.q rfl (q_nilCheck rfl) ?_
  refine OpsW.q rfl (q_fieldAddr (sz := 0) Try.underlying85 rfl (by kernel_rfl) rfl) ?_
  refine OpsW.q rfl (q_load (v := S _) (by kernel_rfl) rfl (hS1.blk at1) rfl) ?_
  refine OpsW.q rfl (q_move (v := S _) rfl) ?_
  refine OpsW.q rfl (q_cat rfl rfl (by first | (with_reducible assumption) | omega | (unfold maxLen; omega) | (simp only [nums_length, List.length_set, List.length_replicate, List.length_take, List.length_drop, List.length_append, List.length_cons, List.length_nil, ofB_length, toB_length]; omega) | (simp only [nums_length, List.length_set, List.length_replicate, List.length_take, List.length_drop, List.length_append, List.length_cons, List.length_nil, ofB_length, toB_length]; unfold maxLen; omega) | (simp; done) | (simp; omega) | rfl | decide)) ?_
  refine OpsW.q rfl (o_call rfl Try.func56 rfl rfl (Sum256_con (by rw [List.length_append, bodyS_len]; omega))) ?_
  rw [← nxS_def]
  refine OpsW.q rfl (q_assign (v := S _) rfl) ?_
  refine OpsW.nil ?_
  refine SeqP.go ?_
  refine AW.seq ?_
  refine AW.drawK [] 11 rfl (by kernel_rfl) ?_
  refine SeqK.q rfl (q_move (v := .pointer _) rfl) ?_
  refine SeqK.q rfl (q_nilCheck rfl) ?_
  refine SeqK.q rfl (q_fieldAddr (sz := 0) Try.underlying85 rfl (by kernel_rfl) rfl) ?_
  refine SeqK.q rfl (q_load (v := .pointer _) (by kernel_rfl) rfl (hS1.blk at1) rfl) ?_
  refine SeqK.q rfl (q_move (v := S _) rfl) ?_
  refine SeqK.q rfl (q_lenS Try.underlying9 rfl) ?_
  refine SeqK.q rfl (o_call rfl Try.func57 rfl rfl (fourS_con _)) ?_
  refine SeqK.q rfl (q_move (v := S _) rfl) ?_
  refine SeqK.q rfl (q_cat rfl rfl (by first | (with_reducible assumption) | omega | (unfold maxLen; omega) | (simp only [nums_length, List.length_set, List.length_replicate, List.length_take, List.length_drop, List.length_append, List.length_cons, List.length_nil, ofB_length, toB_length]; omega) | (simp only [nums_length, List.length_set, List.length_replicate, List.length_take, List.length_drop, List.length_append, List.length_cons, List.length_nil, ofB_length, toB_length]; unfold maxLen; omega) | (simp; done) | (simp; omega) | rfl | decide)) ?_
  refine SeqK.q rfl (q_move (v := S _) rfl) ?_
  refine SeqK.q rfl (q_cat rfl rfl (by first | (with_reducible assumption) | omega | (unfold maxLen; omega) | (simp only [nums_length, List.length_set, List.length_replicate, List.length_take, List.length_drop, List.length_append, List.length_cons, List.length_nil, ofB_length, toB_length]; omega) | (simp only [nums_length, List.length_set, List.length_replicate, List.length_take, List.length_drop, List.length_append, List.length_cons, List.length_nil, ofB_length, toB_length]; unfold maxLen; omega) | (simp; done) | (simp; omega) | rfl | decide)) ?_
  rw [← frS_def]
  refine SeqK.done ?_
  obtain ⟨Hf2, le2, hA2, hB2⟩ := hS1.framed at3
  refine OpsW.m rfl (o_call rfl Try.func31 rfl rfl (Append_s hA2 htk _ (by rw [frS_len]; omega))) ?_
  rintro _ H2 ⟨rfl, hR2⟩
  have hS2 := hB2 _ _ hR2
  clear hR2 hB2 hA2
  clear hS1
  refine OpsW.q rfl (q_assign (v := .int _ _) rfl) ?_
  refine OpsW.nil ?_
  refine SeqP.go ?_
  refine AW.seq ?_
  refine AW.seq ?_
  refine AW.region ?_
  refine OpsW.q rfl (q_move (v := .int _ _) rfl) ?_
  refine OpsW.q rfl (q_eql rfl rfl) ?_
  refine OpsW.nil ?_
  refine SeqP.go ?_
  refine AW.cond rfl (fun h0 => ?_) (fun h0 => ?_)
  ·
    try simp only [decide_eq_true_eq, decide_eq_false_iff_not, Bool.or_eq_true, Bool.and_eq_true, Bool.or_eq_false_iff, Bool.and_eq_false_imp, Bool.not_eq_true', Bool.not_eq_false', ne_eq, Decidable.not_not, Int.not_lt, Int.not_le, Bool.not_eq_true, Bool.not_eq_false] at h0
    rw [layS_full h0]
    refine AW.seq ?_
    refine AW.region ?_
    refine OpsW.q rfl (q_move (v := .int _ _) rfl) ?_
    refine OpsW.q rfl (q_assign (v := .int _ _) rfl) ?_
    refine OpsW.nil ?_
    refine SeqP.go ?_
    refine AW.ret ?_
    refine SeqP.ret ?_
    refine RetP.mk1 (H' := H2) (v1 := .int _ _) rfl rfl  (Hp.le_refl _) ?_
    exact ⟨by rw [h0], hS2.tail⟩
  try simp only [decide_eq_true_eq, decide_eq_false_iff_not, Bool.or_eq_true, Bool.and_eq_true, Bool.or_eq_false_iff, Bool.and_eq_false_imp, Bool.not_eq_true', Bool.not_eq_false', ne_eq, Decidable.not_not, Int.not_lt, Int.not_le, Bool.not_eq_true, Bool.not_eq_false] at h0
  refine AW.skip ?_
  refine SeqP.go ?_
  refine AW.seq ?_
  refine AW.seq ?_
  refine AW.region ?_
  refine OpsW.q rfl (q_move (v := .int _ _) rfl) ?_
  refine OpsW.q rfl (q_eql rfl rfl) ?_
  refine OpsW.nil ?_
  refine SeqP.go ?_
  refine AW.cond rfl (fun h1 => ?_) (fun h1 => ?_)
  ·
    try simp only [decide_eq_true_eq, decide_eq_false_iff_not, Bool.or_eq_true, Bool.and_eq_true, Bool.or_eq_false_iff, Bool.and_eq_false_imp, Bool.not_eq_true', Bool.not_eq_false', ne_eq, Decidable.not_not, Int.not_lt, Int.not_le, Bool.not_eq_true, Bool.not_eq_false] at h1
    refine AW.region ?_
    refine OpsW.q rfl (q_move (v := .pointer _) rfl) ?_
    refine OpsW.q rfl (q_nilCheck rfl) ?_
    refine OpsW.q rfl (q_fieldAddr (sz := 0) Try.underlying85 rfl (by kernel_rfl) rfl) ?_
    refine OpsW.q rfl (q_load (v := .pointer _) (by kernel_rfl) rfl (hS2.blk at1) rfl) ?_
    obtain ⟨Hf3, le3, hA3, hB3⟩ := hS2.framed at3
    refine OpsW.m rfl (o_call rfl Try.func46 rfl rfl (Sync_s hA3 (tk_append htk _))) ?_
    rintro _ H3 ⟨rfl, hR3⟩
    have hS3 := hB3 _ _ hR3
    clear hR3 hB3 hA3
    clear hS2
    refine OpsW.q rfl (q_assign (v := .int _ _) rfl) ?_
    refine OpsW.nil ?_
    refine SeqP.go ?_
    refine AW.seq ?_
    refine AW.seq ?_
    refine AW.region ?_
    refine OpsW.q rfl (q_move (v := .int _ _) rfl) ?_
    refine OpsW.q rfl (q_neq rfl rfl) ?_
    refine OpsW.nil ?_
    refine SeqP.go ?_
    refine AW.cond rfl (fun h2 => ?_) (fun h2 => ?_)
    ·
      try simp only [decide_eq_true_eq, decide_eq_false_iff_not, Bool.or_eq_true, Bool.and_eq_true, Bool.or_eq_false_iff, Bool.and_eq_false_imp, Bool.not_eq_true', Bool.not_eq_false', ne_eq, Decidable.not_not, Int.not_lt, Int.not_le, Bool.not_eq_true, Bool.not_eq_false] at h2
      rw [layS_syn h1 (by simpa using h2)]
      refine AW.seq ?_
      refine AW.region ?_
      refine OpsW.q rfl (q_move (v := .pointer _) rfl) ?_
      refine OpsW.q rfl (q_nilCheck rfl) ?_
      refine OpsW.q rfl (q_fieldAddr (sz := 0) Try.underlying85 rfl (by kernel_rfl) rfl) ?_
      refine OpsW.ms (s_storeC (v := .bool _) hS3 at1 (by kernel_rfl) rfl rfl rfl (by first | (with_reducible assumption) | omega | (unfold maxLen; omega) | (simp only [nums_length, List.length_set, List.length_replicate, List.length_take, List.length_drop, List.length_append, List.length_cons, List.length_nil, ofB_length, toB_length]; omega) | (simp only [nums_length, List.length_set, List.length_replicate, List.length_take, List.length_drop, List.length_append, List.length_cons, List.length_nil, ofB_length, toB_length]; unfold maxLen; omega) | (simp; done) | (simp; omega) | rfl | decide)) ?_
      rintro _ H4 ⟨rfl, hS4⟩
      clear hS3
      refine OpsW.nil ?_
      refine SeqP.go ?_
      refine AW.seq ?_
      refine AW.region ?_
      refine OpsW.q rfl (q_move (v := .int _ _) rfl) ?_
      refine OpsW.q rfl (q_assign (v := .int _ _) rfl) ?_
      refine OpsW.nil ?_
      refine SeqP.go ?_
      refine AW.ret ?_
      refine SeqP.ret ?_
      refine RetP.mk1 (H' := H4) (v1 := .int _ _) rfl rfl  (Hp.le_refl _) ?_
      exact ⟨rfl, hS4.tail⟩
    try simp only [decide_eq_true_eq, decide_eq_false_iff_not, Bool.or_eq_true, Bool.and_eq_true, Bool.or_eq_false_iff, Bool.and_eq_false_imp, Bool.not_eq_true', Bool.not_eq_false', ne_eq, Decidable.not_not, Int.not_lt, Int.not_le, Bool.not_eq_true, Bool.not_eq_false] at h2
    rw [layS_ok h1 h2]
    refine AW.skip ?_
    refine SeqP.go ?_
    refine AW.seq ?_
    refine AW.region ?_
    refine OpsW.q rfl (q_move (v := .pointer _) rfl) ?_
    refine OpsW.q rfl (q_move (v := S _) rfl) ?_
    refine OpsW.q rfl (q_move (v := S _) rfl) ?_
    refine OpsW.q rfl (q_build (cells := #[S (bodyS who seq dat), .int .i64 0, S (nxS x.st.h (bodyS who seq dat))]) rfl (by kernel_rfl)) ?_
    replace hS3 := Sep.bring del2 hS3
    replace hS3 := Sep.bring del2 hS3
    obtain ⟨Hf5, le5, hA5, hL5, hB5⟩ := hS3.part2
    refine OpsW.m rfl (o_call rfl Try.func44 rfl rfl (takeS_s hA5 (by omega) (by omega) (by omega))) ?_
    rintro _ H5 ⟨rfl, hR5⟩
    have hS5 := hB5 _ _ hR5
    simp only [List.cons_append, List.nil_append] at hS5
    clear hR5 hB5 hA5
    clear hS3
    refine OpsW.nil ?_
    refine SeqP.go ?_
    refine AW.seq ?_
    refine AW.region ?_
    refine OpsW.q rfl (q_assign (v := .int _ _) rfl) ?_
    refine OpsW.nil ?_
    refine SeqP.go ?_
    refine AW.ret ?_
    refine RetP.mk1 (H' := H5) (v1 := .int _ _) rfl rfl  (Hp.le_refl _) ?_
    refine ⟨rfl, ?_⟩
    rw [takeS_lay hw (by omega) hs] at hS5
    exact hS5.del del2
  try simp only [decide_eq_true_eq, decide_eq_false_iff_not, Bool.or_eq_true, Bool.and_eq_true, Bool.or_eq_false_iff, Bool.and_eq_false_imp, Bool.not_eq_true', Bool.not_eq_false', ne_eq, Decidable.not_not, Int.not_lt, Int.not_le, Bool.not_eq_true, Bool.not_eq_false] at h1
  refine AW.skip ?_
  refine SeqP.go ?_
  refine AW.seq ?_
  refine AW.seq ?_
  refine AW.region ?_
  refine OpsW.q rfl (q_move (v := .int _ _) rfl) ?_
  refine OpsW.q rfl (q_neq rfl rfl) ?_
  refine OpsW.nil ?_
  refine SeqP.go ?_
  refine AW.cond rfl (fun h2 => ?_) (fun h2 => ?_)
  ·
    try simp only [decide_eq_true_eq, decide_eq_false_iff_not, Bool.or_eq_true, Bool.and_eq_true, Bool.or_eq_false_iff, Bool.and_eq_false_imp, Bool.not_eq_true', Bool.not_eq_false', ne_eq, Decidable.not_not, Int.not_lt, Int.not_le, Bool.not_eq_true, Bool.not_eq_false] at h2
    rw [layS_app h0 (by simpa using h1)]
    refine AW.seq ?_
    refine AW.region ?_
    refine OpsW.q rfl (q_move (v := .pointer _) rfl) ?_
    refine OpsW.q rfl (q_nilCheck rfl) ?_
    refine OpsW.q rfl (q_fieldAddr (sz := 0) Try.underlying85 rfl (by kernel_rfl) rfl) ?_
    refine OpsW.ms (s_storeC (v := .bool _) hS2 at1 (by kernel_rfl) rfl rfl rfl (by first | (with_reducible assumption) | omega | (unfold maxLen; omega) | (simp only [nums_length, List.length_set, List.length_replicate, List.length_take, List.length_drop, List.length_append, List.length_cons, List.length_nil, ofB_length, toB_length]; omega) | (simp only [nums_length, List.length_set, List.length_replicate, List.length_take, List.length_drop, List.length_append, List.length_cons, List.length_nil, ofB_length, toB_length]; unfold maxLen; omega) | (simp; done) | (simp; omega) | rfl | decide)) ?_
    rintro _ H6 ⟨rfl, hS6⟩
    clear hS2
    refine OpsW.nil ?_
    refine SeqP.go ?_
    refine AW.seq ?_
    refine AW.region ?_
    refine OpsW.q rfl (q_move (v := .int _ _) rfl) ?_
    refine OpsW.q rfl (q_assign (v := .int _ _) rfl) ?_
    refine OpsW.nil ?_
    refine SeqP.go ?_
    refine AW.ret ?_
    refine SeqP.ret ?_
    refine RetP.mk1 (H' := H6) (v1 := .int _ _) rfl rfl  (Hp.le_refl _) ?_
    exact ⟨rfl, hS6.tail⟩
  exfalso
  try simp only [decide_eq_true_eq, decide_eq_false_iff_not, Bool.or_eq_true, Bool.and_eq_true, Bool.or_eq_false_iff, Bool.and_eq_false_imp, Bool.not_eq_true', Bool.not_eq_false', ne_eq, Decidable.not_not, Int.not_lt, Int.not_le, Bool.not_eq_true, Bool.not_eq_false] at h2
  first | contradiction | (simp at *; done) | simp_all
theorem Add_w {b tb mb : Nat} {x : StF} {t : TapeS} (hS0 : Sep H0 [.blk b (stBlk tb mb x), .pred (stM mb x.st.L), tapeC tb t] H) (hok : StOk x.st.L) (htk : TapeOk t) (hl : x.st.L.length ≤ 1000000) (hhl : x.st.h.length = 32) {who dat : List UInt8} {seq : Int} : Con Try.prog w0 17 #[.pointer (some ⟨b, 0, none⟩), S who, .agg #[.int .i64 seq, S dat]] H (fun v H' => v = .int .i64 (addS t x who seq dat).1 ∧ Sep H0 [.blk b (stBlk tb mb ((addS t x who seq dat).2.1)), .pred (stM mb ((addS t x who seq dat).2.1).st.L), tapeC tb ((addS t x who seq dat).2.2)] H') := by
  replace hS0 : Sep H0 [.blk b ⟨[.pointer (some ⟨tb, 0, none⟩), S x.st.h, .map (some mb), .bool x.dd], 4, 85⟩, .pred (stM mb x.st.L), tapeC tb t] H := hS0
  have hmk : 0 ≤ mkP x.st.L who ∧ mkP x.st.L who ≤ 1000000 := by have := ofP_len x.st.L who; unfold mkP; omega
  obtain ⟨vs, hvs, hvv⟩ := st_look hS0 at1 who
  refine Con.intro Try.func17 rfl rfl ?_
  refine AW.seq ?_
  refine AW.region ?_
  refine OpsW.m rfl (s_box (v := .agg _) hS0 rfl rfl) ?_
  rintro _ H1 ⟨b5, rfl, hS1⟩
  clear hS0
  refine OpsW.q rfl (q_assign (v := .int _ _) rfl) ?_
  refine OpsW.nil ?_
  refine SeqP.go ?_
  refine AW.seq ?_
  refine AW.block ?_
  refine AW.seq ?_
  refine AW.region ?_
  refine OpsW.q rfl (q_move (v := .pointer _) rfl) ?_
  refine OpsW.q rfl (q_eqlP Try.underlying35 rfl rfl) ?_
  refine OpsW.q rfl (q_assign (v := .bool _) rfl) ?_
  refine OpsW.nil ?_
  refine SeqP.go ?_
  refine AW.cond rfl (fun h0 => ?_) (fun h0 => ?_)
  ·
    exfalso
    try simp only [decide_eq_true_eq, decide_eq_false_iff_not, Bool.or_eq_true, Bool.and_eq_true, Bool.or_eq_false_iff, Bool.and_eq_false_imp, Bool.not_eq_true', Bool.not_eq_false', ne_eq, Decidable.not_not, Int.not_lt, Int.not_le, Bool.not_eq_true, Bool.not_eq_false] at h0
    first | contradiction | (simp at *; done) | simp_all
  try simp only [decide_eq_true_eq, decide_eq_false_iff_not, Bool.or_eq_true, Bool.and_eq_true, Bool.or_eq_false_iff, Bool.and_eq_false_imp, Bool.not_eq_true', Bool.not_eq_false', ne_eq, Decidable.not_not, Int.not_lt, Int.not_le, Bool.not_eq_true, Bool.not_eq_false] at h0
  refine AW.seq ?_
  refine AW.region ?_
  refine OpsW.q rfl (q_move (v := .pointer _) rfl) ?_
  refine OpsW.q rfl (q_nilCheck rfl) ?_
  refine OpsW.q rfl (q_fieldAddr (sz := 0) Try.underlying85 rfl (by kernel_rfl) rfl) ?_
  refine OpsW.q rfl (q_load (v := .bool _) (by kernel_rfl) rfl (hS1.blk at1) rfl) ?_
  refine OpsW.q rfl (q_assign (v := .bool _) rfl) ?_
  refine OpsW.nil ?_
  refine SeqP.go ?_
  refine AW.cond rfl (fun h1 => ?_) (fun h1 => ?_)
  ·
    try simp only [decide_eq_true_eq, decide_eq_false_iff_not, Bool.or_eq_true, Bool.and_eq_true, Bool.or_eq_false_iff, Bool.and_eq_false_imp, Bool.not_eq_true', Bool.not_eq_false', ne_eq, Decidable.not_not, Int.not_lt, Int.not_le, Bool.not_eq_true, Bool.not_eq_false] at h1
    have hdd : x.dd = true := by simp_all
    rw [addS_dead hdd]
    refine AW.seq ?_
    refine AW.region ?_
    refine OpsW.q rfl (q_assign (v := .int _ _) rfl) ?_
    refine OpsW.nil ?_
    refine SeqP.go ?_
    refine AW.ret ?_
    refine BlockP.ret ?_
    refine SeqP.ret ?_
    refine RetP.mk1 (H' := H1) (v1 := .int _ _) rfl rfl  (Hp.le_refl _) ?_
    exact ⟨rfl, hS1.tail⟩
  try simp only [decide_eq_true_eq, decide_eq_false_iff_not, Bool.or_eq_true, Bool.and_eq_true, Bool.or_eq_false_iff, Bool.and_eq_false_imp, Bool.not_eq_true', Bool.not_eq_false', ne_eq, Decidable.not_not, Int.not_lt, Int.not_le, Bool.not_eq_true, Bool.not_eq_false] at h1
  have hdd : x.dd = false := by simp_all
  refine AW.seq ?_
  refine AW.region ?_
  refine OpsW.q rfl (q_move (v := S _) rfl) ?_
  refine OpsW.q rfl (q_lenS Try.underlying9 rfl) ?_
  refine OpsW.q rfl (q_neq rfl rfl) ?_
  refine OpsW.qb rfl (q_move (v := .bool _) rfl) ?_
  intro b20 eb20
  refine OpsW.g rfl rfl rfl (fun hB => by simp only [Bool.and_eq_true, beq_iff_eq] at hB; obtain rfl := hB; exact (q_fieldAddr (sz := 0) Try.underlying44 rfl (by kernel_rfl) rfl)) ?_
  refine OpsW.g rfl rfl rfl (fun hB => by simp only [Bool.and_eq_true, beq_iff_eq] at hB; obtain rfl := hB; exact (q_load (v := .int _ _) (by kernel_rfl) rfl (hS1.blk at0) rfl)) ?_
  refine OpsW.g rfl rfl rfl (fun hB => by simp only [Bool.and_eq_true, beq_iff_eq] at hB; obtain rfl := hB; exact (q_lss rfl rfl)) ?_
  refine OpsW.q rfl (q_or2 rfl rfl rfl) ?_
  refine OpsW.qb rfl (q_move (v := .bool _) rfl) ?_
  intro b25 eb25
  refine OpsW.g rfl rfl rfl (fun hB => by simp only [Bool.and_eq_true, beq_iff_eq] at hB; obtain rfl := hB; exact (q_fieldAddr (sz := 0) Try.underlying44 rfl (by kernel_rfl) rfl)) ?_
  refine OpsW.g rfl rfl rfl (fun hB => by simp only [Bool.and_eq_true, beq_iff_eq] at hB; obtain rfl := hB; exact (q_load (v := S _) (by kernel_rfl) rfl (hS1.blk at0) rfl)) ?_
  refine OpsW.g rfl rfl rfl (fun hB => by simp only [Bool.and_eq_true, beq_iff_eq] at hB; obtain rfl := hB; exact (q_eqS rfl rfl)) ?_
  refine OpsW.q rfl (q_or2 rfl rfl rfl) ?_
  refine OpsW.qb rfl (q_move (v := .bool _) rfl) ?_
  intro b30 eb30
  refine OpsW.g rfl rfl rfl (fun hB => by simp only [Bool.and_eq_true, beq_iff_eq] at hB; obtain rfl := hB; exact (q_fieldAddr (sz := 0) Try.underlying44 rfl (by kernel_rfl) rfl)) ?_
  refine OpsW.g rfl rfl rfl (fun hB => by simp only [Bool.and_eq_true, beq_iff_eq] at hB; obtain rfl := hB; exact (q_load (v := S _) (by kernel_rfl) rfl (hS1.blk at0) rfl)) ?_
  refine OpsW.g rfl rfl rfl (fun hB => by simp only [Bool.and_eq_true, beq_iff_eq] at hB; obtain rfl := hB; exact (q_lenS Try.underlying9 rfl)) ?_
  refine OpsW.g rfl rfl rfl (fun hB => by simp only [Bool.and_eq_true, beq_iff_eq] at hB; obtain rfl := hB; exact (q_gtr rfl rfl)) ?_
  refine OpsW.q rfl (q_or2 rfl rfl rfl) ?_
  refine OpsW.q rfl (q_assign (v := .bool _) rfl) ?_
  refine OpsW.nil ?_
  refine SeqP.go ?_
  refine AW.cond rfl (fun h2 => ?_) (fun h2 => ?_)
  ·
    try simp only [eb20, eb25, eb30, decide_eq_true_eq, decide_eq_false_iff_not, Bool.or_eq_true, Bool.and_eq_true, Bool.or_eq_false_iff, Bool.and_eq_false_imp, Bool.not_eq_true', Bool.not_eq_false', ne_eq, Decidable.not_not, Int.not_lt, Int.not_le, Bool.not_eq_true, Bool.not_eq_false] at h2
    have hbad : addBad who seq dat := by unfold addBad; rcases h2 with ((h | h) | h) | h; (left; omega); (right; left; omega); (right; right; left; exact h); (right; right; right; omega)
    rw [addS_arg hdd hbad]
    refine AW.seq ?_
    refine AW.region ?_
    refine OpsW.q rfl (q_assign (v := .int _ _) rfl) ?_
    refine OpsW.nil ?_
    refine SeqP.go ?_
    refine AW.ret ?_
    refine BlockP.ret ?_
    refine SeqP.ret ?_
    refine RetP.mk1 (H' := H1) (v1 := .int _ _) rfl rfl  (Hp.le_refl _) ?_
    exact ⟨rfl, hS1.tail⟩
  try simp only [eb20, eb25, eb30, decide_eq_true_eq, decide_eq_false_iff_not, Bool.or_eq_true, Bool.and_eq_true, Bool.or_eq_false_iff, Bool.and_eq_false_imp, Bool.not_eq_true', Bool.not_eq_false', ne_eq, Decidable.not_not, Int.not_lt, Int.not_le, Bool.not_eq_true, Bool.not_eq_false] at h2
  have hbad : ¬ addBad who seq dat := by unfold addBad; rintro (h | h | h | h); omega; omega; simp_all; omega
  refine AW.skip ?_
  refine BlockP.go ?_
  refine SeqP.go ?_
  refine AW.seq ?_
  refine AW.seq ?_
  obtain ⟨vs2, hvs2, hvv2⟩ := st_look hS1 at2 who
  refine AW.region ?_
  refine OpsW.q rfl (q_move (v := .pointer _) rfl) ?_
  refine OpsW.q rfl (q_move (v := S _) rfl) ?_
  refine OpsW.q rfl (o_call rfl Try.func18 rfl rfl (Mark_con (hS1.blk at1) hvs2 hvv2)) ?_
  refine OpsW.q rfl (q_assign (v := .int _ _) rfl) ?_
  refine OpsW.nil ?_
  refine SeqP.go ?_
  refine AW.block ?_
  refine AW.seq ?_
  refine AW.region ?_
  refine OpsW.q rfl (q_fieldAddr (sz := 0) Try.underlying44 rfl (by kernel_rfl) rfl) ?_
  refine OpsW.q rfl (q_load (v := .int _ _) (by kernel_rfl) rfl (hS1.blk at0) rfl) ?_
  refine OpsW.q rfl (q_move (v := .int _ _) rfl) ?_
  refine OpsW.q rfl (q_leq rfl rfl) ?_
  refine OpsW.q rfl (q_assign (v := .bool _) rfl) ?_
  refine OpsW.nil ?_
  refine SeqP.go ?_
  refine AW.cond rfl (fun h3 => ?_) (fun h3 => ?_)
  ·
    try simp only [eb20, eb25, eb30, decide_eq_true_eq, decide_eq_false_iff_not, Bool.or_eq_true, Bool.and_eq_true, Bool.or_eq_false_iff, Bool.and_eq_false_imp, Bool.not_eq_true', Bool.not_eq_false', ne_eq, Decidable.not_not, Int.not_lt, Int.not_le, Bool.not_eq_true, Bool.not_eq_false] at h3
    rw [addS_old hdd hbad h3]
    refine AW.seq ?_
    refine AW.region ?_
    refine OpsW.q rfl (q_assign (v := .int _ _) rfl) ?_
    refine OpsW.nil ?_
    refine SeqP.go ?_
    refine AW.ret ?_
    refine BlockP.ret ?_
    refine SeqP.ret ?_
    refine RetP.mk1 (H' := H1) (v1 := .int _ _) rfl rfl  (Hp.le_refl _) ?_
    exact ⟨rfl, hS1.tail⟩
  try simp only [eb20, eb25, eb30, decide_eq_true_eq, decide_eq_false_iff_not, Bool.or_eq_true, Bool.and_eq_true, Bool.or_eq_false_iff, Bool.and_eq_false_imp, Bool.not_eq_true', Bool.not_eq_false', ne_eq, Decidable.not_not, Int.not_lt, Int.not_le, Bool.not_eq_true, Bool.not_eq_false] at h3
  refine AW.seq ?_
  refine AW.region ?_
  refine OpsW.q rfl (q_fieldAddr (sz := 0) Try.underlying44 rfl (by kernel_rfl) rfl) ?_
  refine OpsW.q rfl (q_load (v := .int _ _) (by kernel_rfl) rfl (hS1.blk at0) rfl) ?_
  refine OpsW.q rfl (q_move (v := .int _ _) rfl) ?_
  refine OpsW.q rfl (q_addI rfl rfl (by omega)) ?_
  refine OpsW.q rfl (q_gtr rfl rfl) ?_
  refine OpsW.q rfl (q_assign (v := .bool _) rfl) ?_
  refine OpsW.nil ?_
  refine SeqP.go ?_
  refine AW.cond rfl (fun h4 => ?_) (fun h4 => ?_)
  ·
    try simp only [eb20, eb25, eb30, decide_eq_true_eq, decide_eq_false_iff_not, Bool.or_eq_true, Bool.and_eq_true, Bool.or_eq_false_iff, Bool.and_eq_false_imp, Bool.not_eq_true', Bool.not_eq_false', ne_eq, Decidable.not_not, Int.not_lt, Int.not_le, Bool.not_eq_true, Bool.not_eq_false] at h4
    rw [addS_seq hdd hbad (by omega)]
    refine AW.seq ?_
    refine AW.region ?_
    refine OpsW.q rfl (q_assign (v := .int _ _) rfl) ?_
    refine OpsW.nil ?_
    refine SeqP.go ?_
    refine AW.ret ?_
    refine BlockP.ret ?_
    refine SeqP.ret ?_
    refine RetP.mk1 (H' := H1) (v1 := .int _ _) rfl rfl  (Hp.le_refl _) ?_
    exact ⟨rfl, hS1.tail⟩
  try simp only [eb20, eb25, eb30, decide_eq_true_eq, decide_eq_false_iff_not, Bool.or_eq_true, Bool.and_eq_true, Bool.or_eq_false_iff, Bool.and_eq_false_imp, Bool.not_eq_true', Bool.not_eq_false', ne_eq, Decidable.not_not, Int.not_lt, Int.not_le, Bool.not_eq_true, Bool.not_eq_false] at h4
  have hseq : seq = mkP x.st.L who + 1 := by omega
  rw [addS_go hdd hbad hseq]
  refine AW.skip ?_
  refine BlockP.go ?_
  refine SeqP.go ?_
  refine AW.seq ?_
  refine AW.region ?_
  refine OpsW.q rfl (q_move (v := .pointer _) rfl) ?_
  refine OpsW.q rfl (q_move (v := S _) rfl) ?_
  refine OpsW.q rfl (q_loadA0 (n := 2) (by kernel_rfl) rfl (hS1.blk at0) (by first | (with_reducible assumption) | omega | (unfold maxLen; omega) | (simp only [nums_length, List.length_set, List.length_replicate, List.length_take, List.length_drop, List.length_append, List.length_cons, List.length_nil, ofB_length, toB_length]; omega) | (simp only [nums_length, List.length_set, List.length_replicate, List.length_take, List.length_drop, List.length_append, List.length_cons, List.length_nil, ofB_length, toB_length]; unfold maxLen; omega) | (simp; done) | (simp; omega) | rfl | decide)) ?_
  replace hS1 := Sep.bring del3 hS1
  replace hS1 := Sep.bring del3 hS1
  replace hS1 := Sep.bring del3 hS1
  obtain ⟨Hf2, le2, hA2, hL2, hB2⟩ := hS1.part3
  refine OpsW.m rfl (o_call rfl Try.func47 rfl rfl (layS_w hA2 hok htk hl hhl (by unfold addBad at hbad; omega) hseq (by unfold addBad at hbad; omega))) ?_
  rintro _ H2 ⟨rfl, hR2⟩
  have hS2 := hB2 _ _ hR2
  simp only [List.cons_append, List.nil_append] at hS2
  clear hR2 hB2 hA2
  clear hS1
  refine OpsW.q rfl (q_assign (v := .int _ _) rfl) ?_
  refine OpsW.nil ?_
  refine SeqP.go ?_
  refine AW.ret ?_
  refine RetP.mk1 (H' := H2) (v1 := .int _ _) rfl rfl  (Hp.le_refl _) ?_
  exact ⟨rfl, hS2.del del3⟩
theorem OpenS_w {tb : Nat} {t : TapeS} (hS0 : Sep H0 [tapeC tb t] H) (htk : TapeOk t) : Con Try.prog w0 15 #[.pointer (some ⟨tb, 0, none⟩)] H (fun v H' => (¬ (openS t).1 = 0 ∧ v = .tuple #[.pointer none, .int .i64 (openS t).1] ∧ Sep H0 [tapeC tb (openS t).2] H') ∨ ((openS t).1 = 0 ∧ ∃ b, v = .tuple #[.pointer (some ⟨b, 0, none⟩), .int .i64 0] ∧ Sep H0 [stC b tb ⟨(scanS st0 (t.f ++ t.l)).2, false⟩ (openS t).2] H')) := by
  have hal := tk_len htk
  obtain ⟨all, hall⟩ : ∃ all, all = t.f ++ t.l := ⟨_, rfl⟩
  rw [← hall] at hal
  refine Con.intro Try.func15 rfl rfl ?_
  refine AW.seq ?_
  refine AW.region ?_
  refine OpsW.q rfl (q_assign (v := .pointer _) rfl) ?_
  refine OpsW.q rfl (q_assign (v := .int _ _) rfl) ?_
  refine OpsW.nil ?_
  refine SeqP.go ?_
  refine AW.seq ?_
  refine AW.seq ?_
  refine AW.region ?_
  refine OpsW.q rfl (q_move (v := .pointer _) rfl) ?_
  refine OpsW.q rfl (q_eqlP Try.underlying32 rfl rfl) ?_
  refine OpsW.nil ?_
  refine SeqP.go ?_
  refine AW.cond rfl (fun h0 => ?_) (fun h0 => ?_)
  ·
    exfalso
    try simp only [decide_eq_true_eq, decide_eq_false_iff_not, Bool.or_eq_true, Bool.and_eq_true, Bool.or_eq_false_iff, Bool.and_eq_false_imp, Bool.not_eq_true', Bool.not_eq_false', ne_eq, Decidable.not_not, Int.not_lt, Int.not_le, Bool.not_eq_true, Bool.not_eq_false] at h0
    first | contradiction | (simp at *; done) | simp_all
  try simp only [decide_eq_true_eq, decide_eq_false_iff_not, Bool.or_eq_true, Bool.and_eq_true, Bool.or_eq_false_iff, Bool.and_eq_false_imp, Bool.not_eq_true', Bool.not_eq_false', ne_eq, Decidable.not_not, Int.not_lt, Int.not_le, Bool.not_eq_true, Bool.not_eq_false] at h0
  refine AW.skip ?_
  refine SeqP.go ?_
  refine AW.seq ?_
  by_cases hd : t.dd = true
  ·
    refine AW.region ?_
    refine OpsW.q rfl (q_move (v := .pointer _) rfl) ?_
    refine OpsW.q rfl (o_call rfl Try.func24 rfl rfl (Read_s hS0 at0 htk)) ?_
    rw [TREAD_dead hd]
    refine OpsW.q rfl (q_move (v := .tuple _) rfl) ?_
    refine OpsW.q rfl (q_extract (v := S _) rfl rfl) ?_
    refine OpsW.q rfl (q_extract (v := .int _ _) rfl rfl) ?_
    refine OpsW.q rfl (q_assign (v := S _) rfl) ?_
    refine OpsW.q rfl (q_assign (v := .int _ _) rfl) ?_
    refine OpsW.nil ?_
    refine SeqP.go ?_
    refine AW.seq ?_
    refine AW.seq ?_
    refine AW.region ?_
    refine OpsW.q rfl (q_move (v := .int _ _) rfl) ?_
    refine OpsW.q rfl (q_neq rfl rfl) ?_
    refine OpsW.nil ?_
    refine SeqP.go ?_
    refine AW.cond rfl (fun h1 => ?_) (fun h1 => ?_)
    ·
      try simp only [decide_eq_true_eq, decide_eq_false_iff_not, Bool.or_eq_true, Bool.and_eq_true, Bool.or_eq_false_iff, Bool.and_eq_false_imp, Bool.not_eq_true', Bool.not_eq_false', ne_eq, Decidable.not_not, Int.not_lt, Int.not_le, Bool.not_eq_true, Bool.not_eq_false] at h1
      refine AW.seq ?_
      refine AW.region ?_
      refine OpsW.q rfl (q_move (v := .int _ _) rfl) ?_
      refine OpsW.q rfl (q_assign (v := .pointer _) rfl) ?_
      refine OpsW.q rfl (q_assign (v := .int _ _) rfl) ?_
      refine OpsW.nil ?_
      refine SeqP.go ?_
      refine AW.ret ?_
      refine SeqP.ret ?_
      refine RetP.mk2 (H' := _) (v1 := .pointer _) (v2 := .int _ _) rfl rfl rfl  (Hp.le_refl _) ?_
      exact .inl ⟨by rw [openS_dead hd]; exact (by decide : ¬ (41 : Int) = 0), by rw [openS_dead hd], by rw [openS_dead hd]; exact hS0⟩
    exfalso
    try simp only [decide_eq_true_eq, decide_eq_false_iff_not, Bool.or_eq_true, Bool.and_eq_true, Bool.or_eq_false_iff, Bool.and_eq_false_imp, Bool.not_eq_true', Bool.not_eq_false', ne_eq, Decidable.not_not, Int.not_lt, Int.not_le, Bool.not_eq_true, Bool.not_eq_false] at h1
    simp at h1
  ·
    have hd2 : t.dd = false := by simpa using hd
    refine AW.region ?_
    refine OpsW.q rfl (q_move (v := .pointer _) rfl) ?_
    refine OpsW.q rfl (o_call rfl Try.func24 rfl rfl (Read_s hS0 at0 htk)) ?_
    rw [TREAD_ok hd2, ← hall]
    refine OpsW.q rfl (q_move (v := .tuple _) rfl) ?_
    refine OpsW.q rfl (q_extract (v := S _) rfl rfl) ?_
    refine OpsW.q rfl (q_extract (v := .int _ _) rfl rfl) ?_
    refine OpsW.q rfl (q_assign (v := S _) rfl) ?_
    refine OpsW.q rfl (q_assign (v := .int _ _) rfl) ?_
    refine OpsW.nil ?_
    refine SeqP.go ?_
    refine AW.seq ?_
    refine AW.seq ?_
    refine AW.region ?_
    refine OpsW.q rfl (q_move (v := .int _ _) rfl) ?_
    refine OpsW.q rfl (q_neq rfl rfl) ?_
    refine OpsW.nil ?_
    refine SeqP.go ?_
    refine AW.cond rfl (fun h1 => ?_) (fun h1 => ?_)
    ·
      exfalso
      try simp only [decide_eq_true_eq, decide_eq_false_iff_not, Bool.or_eq_true, Bool.and_eq_true, Bool.or_eq_false_iff, Bool.and_eq_false_imp, Bool.not_eq_true', Bool.not_eq_false', ne_eq, Decidable.not_not, Int.not_lt, Int.not_le, Bool.not_eq_true, Bool.not_eq_false] at h1
      simp at h1
    try simp only [decide_eq_true_eq, decide_eq_false_iff_not, Bool.or_eq_true, Bool.and_eq_true, Bool.or_eq_false_iff, Bool.and_eq_false_imp, Bool.not_eq_true', Bool.not_eq_false', ne_eq, Decidable.not_not, Int.not_lt, Int.not_le, Bool.not_eq_true, Bool.not_eq_false] at h1
    refine AW.skip ?_
    refine SeqP.go ?_
    refine AW.seq ?_
    refine AW.region ?_
    refine OpsW.q rfl (q_move (v := .pointer _) rfl) ?_
    refine OpsW.q rfl (o_call rfl Try.func38 rfl rfl (zero_con)) ?_
    refine OpsW.m rfl (s_makeMap hS0) ?_
    rintro _ H1 ⟨b22, rfl, hS1⟩
    clear hS0
    refine OpsW.q rfl (q_build (cells := #[.pointer (some ⟨tb, 0, none⟩), S z32, .map (some b22), .bool false]) rfl (by kernel_rfl)) ?_
    refine OpsW.m rfl (s_box (v := .agg _) hS1 rfl rfl) ?_
    rintro _ H2 ⟨b24, rfl, hS2⟩
    clear hS1
    replace hS2 := Sep.bring del1 (Sep.under hS2 fun hG => st_new hG)
    refine OpsW.q rfl (q_assign (v := .pointer _) rfl) ?_
    refine OpsW.nil ?_
    refine SeqP.go ?_
    refine AW.seq ?_
    refine AW.region ?_
    refine OpsW.q rfl (q_assign (v := .int _ _) rfl) ?_
    refine OpsW.nil ?_
    refine SeqP.go ?_
    refine AW.seq ?_
    refine AW.block ?_
    refine AW.loop (fun m_ e_ H_ => ∃ (a : Nat) (s : StS) (e0 : Env), m_ = all.length - a ∧ (StOk s.L ∧ a ≤ all.length ∧ s.L.length ≤ a ∧ a + (scanS s (all.drop a)).1 = (scanS st0 all).1 ∧ (scanS s (all.drop a)).2 = (scanS st0 all).2 ∧ s.h.length = 32) ∧ e_ = upds e0 [(0, .pointer (some ⟨tb, 0, none⟩)), (4, S all), (6, .pointer (some ⟨b24, 0, none⟩)), (7, .int .i64 (a : Int))] ∧ Sep H0 [.pred (stM b22 s.L), .blk b24 ⟨[.pointer (some ⟨tb, 0, none⟩), S s.h, .map (some b22), .bool false], 4, 85⟩, tapeC tb t] H_) _ ⟨0, st0, _, rfl, ⟨stok0, Nat.zero_le _, Nat.zero_le _, by rw [List.drop_zero, Nat.zero_add], by rw [List.drop_zero], rfl⟩, Slots.eq ⟨(by first | rfl | exact i64_int (by omega) (by omega) (by omega) | assumption), (by first | rfl | exact i64_int (by omega) (by omega) (by omega) | assumption), (by first | rfl | exact i64_int (by omega) (by omega) (by omega) | assumption), (by first | rfl | exact i64_int (by omega) (by omega) (by omega) | assumption),  trivial⟩, hS2⟩ ?_
    rintro m_ _ Hl0 ⟨a, s, e0, rfl, ⟨hI, hI2, hI3, hI4, hI5, hI7⟩, rfl, hSl0⟩
    try clear hS2
    have hI6 : s.L.length ≤ 1000000000 := by omega
    refine AW.block ?_
    refine AW.cut (fun e_ H_ => ∃ (b8 : Nat) (e0 : Env), (True) ∧ e_ = upds e0 [(0, .pointer (some ⟨tb, 0, none⟩)), (4, S all), (6, .pointer (some ⟨b24, 0, none⟩)), (7, .int .i64 (a : Int)), (8, .pointer (some ⟨b8, 0, none⟩)), (9, .bool (firstS (all.drop a) s.h).2)] ∧ Sep H0 [.blk b8 ⟨[S (firstS (all.drop a) s.h).1.body, .int .i64 (firstS (all.drop a) s.h).1.size, S (firstS (all.drop a) s.h).1.next], 3, 74⟩, .pred (stM b22 s.L), .blk b24 ⟨[.pointer (some ⟨tb, 0, none⟩), S s.h, .map (some b22), .bool false], 4, 85⟩, tapeC tb t] H_) ?_ ?_
    ·
      refine AW.steps rfl 14 rfl ?_
      refine AnyW.first 0 rfl (by kernel_rfl) (by kernel_rfl) (by kernel_rfl) rfl (dst_lt rfl) (v_move (v := S _) rfl) ?_
      refine AnyW.first 1 rfl (by kernel_rfl) (by kernel_rfl) (by kernel_rfl) rfl (dst_lt rfl) (v_move (v := .int _ _) rfl) ?_
      refine AnyW.first 2 rfl (by kernel_rfl) (by kernel_rfl) (by kernel_rfl) rfl (dst_lt rfl) (v_sliceS_lo Try.underlying9 rfl rfl (by first | omega | decide) (by first | omega | decide)) ?_
      rw [Int.toNat_natCast]
      refine AnyW.first 3 rfl (by kernel_rfl) (by kernel_rfl) (by kernel_rfl) rfl (dst_lt rfl) (v_move (v := .pointer _) rfl) ?_
      refine AnyW.first 4 rfl (by kernel_rfl) (by kernel_rfl) (by kernel_rfl) rfl (dst_lt rfl) (v_nilCheck rfl) ?_
      refine AnyW.first 5 rfl (by kernel_rfl) (by kernel_rfl) (by kernel_rfl) rfl (dst_lt rfl) (v_fieldAddr (sz := 0) Try.underlying85 rfl (by kernel_rfl) rfl) ?_
      refine AnyW.two 6 11 rfl rfl (by kernel_rfl) rfl rfl (dst_lt rfl) (dst_lt rfl) (q_load (v := S _) (by kernel_rfl) rfl (hSl0.blk at1) rfl) (s_alloc (z := .agg #[S [], .int .i64 0, S []]) (cs := [S [], .int .i64 0, S []]) hSl0 (by kernel_rfl) rfl) ?_ ?_
      ·
        rintro _ _ ⟨rfl, rfl⟩
        refine AnyW.two 7 11 rfl rfl (by kernel_rfl) rfl rfl (dst_lt rfl) (dst_lt rfl) (o_call rfl Try.func39 rfl rfl (firstS_con (by rw [List.length_drop]; omega) (by omega))) (s_alloc (z := .agg #[S [], .int .i64 0, S []]) (cs := [S [], .int .i64 0, S []]) hSl0 (by kernel_rfl) rfl) ?_ ?_
        ·
          rintro _ _ ⟨rfl, rfl⟩
          refine AnyW.first 8 rfl (by kernel_rfl) (by kernel_rfl) (by kernel_rfl) rfl (dst_lt rfl) (v_move (v := .tuple _) rfl) ?_
          refine AnyW.first 9 rfl (by kernel_rfl) (by kernel_rfl) (by kernel_rfl) rfl (dst_lt rfl) (v_extract (v := .agg _) rfl rfl) ?_
          refine AnyW.first 10 rfl (by kernel_rfl) (by kernel_rfl) (by kernel_rfl) rfl (dst_lt rfl) (v_extract (v := .bool _) rfl rfl) ?_
          refine AnyW.only 11 rfl (by kernel_rfl) rfl (dst_lt rfl) (s_alloc (z := .agg #[S [], .int .i64 0, S []]) (cs := [S [], .int .i64 0, S []]) hSl0 (by kernel_rfl) rfl) ?_
          rintro _ H3 ⟨b8, rfl, hS3⟩
          clear hSl0
          refine AnyW.only 12 rfl (by kernel_rfl) rfl rfl (s_storeS (n := 3) hS3 at0 (by kernel_rfl) rfl rfl rfl (ones_all rfl) rfl) ?_
          rintro _ H4 ⟨rfl, hS4⟩
          clear hS3
          refine AnyW.onlyQ 13 rfl (by kernel_rfl) rfl (dst_lt rfl) (q_assign (v := .bool _) rfl) ?_
          refine AnyW.done (by kernel_rfl) ?_
          exact CutP.go ⟨b8, _, trivial, Slots.eq ⟨(by first | rfl | exact i64_int (by omega) (by omega) (by omega) | assumption), (by first | rfl | exact i64_int (by omega) (by omega) (by omega) | assumption), (by first | rfl | exact i64_int (by omega) (by omega) (by omega) | assumption), (by first | rfl | exact i64_int (by omega) (by omega) (by omega) | assumption), (by first | rfl | exact i64_int (by omega) (by omega) (by omega) | assumption), (by first | rfl | exact i64_int (by omega) (by omega) (by omega) | assumption),  trivial⟩, hS4⟩
        ·
          rintro _ H5 ⟨b8, rfl, hS5⟩
          clear hSl0
          refine AnyW.onlyQ 7 rfl (by kernel_rfl) rfl (dst_lt rfl) (o_call rfl Try.func39 rfl rfl (firstS_con (by rw [List.length_drop]; omega) (by omega))) ?_
          refine AnyW.onlyQ 8 rfl (by kernel_rfl) rfl (dst_lt rfl) (q_move (v := .tuple _) rfl) ?_
          refine AnyW.first 9 rfl (by kernel_rfl) (by kernel_rfl) (by kernel_rfl) rfl (dst_lt rfl) (v_extract (v := .agg _) rfl rfl) ?_
          refine AnyW.first 10 rfl (by kernel_rfl) (by kernel_rfl) (by kernel_rfl) rfl (dst_lt rfl) (v_extract (v := .bool _) rfl rfl) ?_
          refine AnyW.only 12 rfl (by kernel_rfl) rfl rfl (s_storeS (n := 3) hS5 at0 (by kernel_rfl) rfl rfl rfl (ones_all rfl) rfl) ?_
          rintro _ H6 ⟨rfl, hS6⟩
          clear hS5
          refine AnyW.onlyQ 13 rfl (by kernel_rfl) rfl (dst_lt rfl) (q_assign (v := .bool _) rfl) ?_
          refine AnyW.done (by kernel_rfl) ?_
          exact CutP.go ⟨b8, _, trivial, Slots.eq ⟨(by first | rfl | exact i64_int (by omega) (by omega) (by omega) | assumption), (by first | rfl | exact i64_int (by omega) (by omega) (by omega) | assumption), (by first | rfl | exact i64_int (by omega) (by omega) (by omega) | assumption), (by first | rfl | exact i64_int (by omega) (by omega) (by omega) | assumption), (by first | rfl | exact i64_int (by omega) (by omega) (by omega) | assumption), (by first | rfl | exact i64_int (by omega) (by omega) (by omega) | assumption),  trivial⟩, hS6⟩
      ·
        rintro _ H7 ⟨b8, rfl, hS7⟩
        clear hSl0
        refine AnyW.onlyQ 6 rfl (by kernel_rfl) rfl (dst_lt rfl) (q_load (v := S _) (by kernel_rfl) rfl (hS7.blk at2) rfl) ?_
        refine AnyW.onlyQ 7 rfl (by kernel_rfl) rfl (dst_lt rfl) (o_call rfl Try.func39 rfl rfl (firstS_con (by rw [List.length_drop]; omega) (by omega))) ?_
        refine AnyW.onlyQ 8 rfl (by kernel_rfl) rfl (dst_lt rfl) (q_move (v := .tuple _) rfl) ?_
        refine AnyW.first 9 rfl (by kernel_rfl) (by kernel_rfl) (by kernel_rfl) rfl (dst_lt rfl) (v_extract (v := .agg _) rfl rfl) ?_
        refine AnyW.first 10 rfl (by kernel_rfl) (by kernel_rfl) (by kernel_rfl) rfl (dst_lt rfl) (v_extract (v := .bool _) rfl rfl) ?_
        refine AnyW.only 12 rfl (by kernel_rfl) rfl rfl (s_storeS (n := 3) hS7 at0 (by kernel_rfl) rfl rfl rfl (ones_all rfl) rfl) ?_
        rintro _ H8 ⟨rfl, hS8⟩
        clear hS7
        refine AnyW.onlyQ 13 rfl (by kernel_rfl) rfl (dst_lt rfl) (q_assign (v := .bool _) rfl) ?_
        refine AnyW.done (by kernel_rfl) ?_
        exact CutP.go ⟨b8, _, trivial, Slots.eq ⟨(by first | rfl | exact i64_int (by omega) (by omega) (by omega) | assumption), (by first | rfl | exact i64_int (by omega) (by omega) (by omega) | assumption), (by first | rfl | exact i64_int (by omega) (by omega) (by omega) | assumption), (by first | rfl | exact i64_int (by omega) (by omega) (by omega) | assumption), (by first | rfl | exact i64_int (by omega) (by omega) (by omega) | assumption), (by first | rfl | exact i64_int (by omega) (by omega) (by omega) | assumption),  trivial⟩, hS8⟩
    rintro _ Hc9 ⟨b8, _, _, rfl, hSc9⟩
    try clear hSl0
    refine AW.seq ?_
    refine AW.seq ?_
    by_cases hw : (firstS (all.drop a) s.h).2 = true
    ·
      rw [hw]
      have hfo := frOk_len (firstS_ok hw).1
      have hbd : 36 ≤ (firstS (all.drop a) s.h).1.body.length ∧ (firstS (all.drop a) s.h).1.body.length ≤ 1099511627776 := by rw [(firstS_ok hw).2.1]; dsimp only; omega
      refine AW.region ?_
      refine OpsW.q rfl (q_move (v := .bool _) rfl) ?_
      refine OpsW.q rfl (q_not rfl) ?_
      refine OpsW.q rfl (q_move (v := .bool false) rfl) ?_
      refine OpsW.qw rfl rfl (q_move (v := .pointer _) rfl) ?_
      refine OpsW.qw rfl rfl (q_loadA0 (n := 3) (by kernel_rfl) rfl (hSc9.blk at0) (by first | (with_reducible assumption) | omega | (unfold maxLen; omega) | (simp only [nums_length, List.length_set, List.length_replicate, List.length_take, List.length_drop, List.length_append, List.length_cons, List.length_nil, ofB_length, toB_length]; omega) | (simp only [nums_length, List.length_set, List.length_replicate, List.length_take, List.length_drop, List.length_append, List.length_cons, List.length_nil, ofB_length, toB_length]; unfold maxLen; omega) | (simp; done) | (simp; omega) | rfl | decide)) ?_
      replace hSc9 := Sep.bring del1 hSc9
      replace hSc9 := Sep.bring del2 hSc9
      obtain ⟨Hf10, le10, hA10, hL10, hB10⟩ := hSc9.part2
      refine OpsW.mw rfl rfl (o_call rfl Try.func44 rfl rfl (takeS_s (x := ⟨s, false⟩) hA10 hbd.1 hbd.2 hI6)) ?_
      rintro _ H10 ⟨rfl, hR10⟩
      have hS10 := hB10 _ _ hR10
      simp only [List.cons_append, List.nil_append] at hS10
      clear hR10 hB10 hA10
      clear hSc9
      refine OpsW.qw rfl rfl (q_not rfl) ?_
      refine OpsW.q rfl (q_or2 rfl rfl rfl) ?_
      refine OpsW.nil ?_
      refine SeqP.go ?_
      refine AW.cond rfl (fun h2 => ?_) (fun h2 => ?_)
      ·
        try simp only [decide_eq_true_eq, decide_eq_false_iff_not, Bool.or_eq_true, Bool.and_eq_true, Bool.or_eq_false_iff, Bool.and_eq_false_imp, Bool.not_eq_true', Bool.not_eq_false', ne_eq, Decidable.not_not, Int.not_lt, Int.not_le, Bool.not_eq_true, Bool.not_eq_false] at h2
        have htf : (takeS s (firstS (all.drop a) s.h).1.body (firstS (all.drop a) s.h).1.next).1 = false := by simpa using h2
        have hend : ¬ goesS s (all.drop a) := fun g => by have := g.2; rw [htf] at this; cases this
        refine AW.exit ?_
        refine SeqP.exit ?_
        refine BlockP.far rfl ?_
        refine LoopP.exit ?_
        rw [scanS_end hend] at hI4 hI5
        have hN1 : (scanS st0 all).1 = a := hI4.symm
        have hN2 : (scanS st0 all).2 = s := hI5.symm
        refine BlockP.here ?_
        refine SeqP.go ?_
        refine AW.seq ?_
        refine AW.seq ?_
        refine AW.region ?_
        refine OpsW.q rfl (q_move (v := .int _ _) rfl) ?_
        refine OpsW.q rfl (q_move (v := S _) rfl) ?_
        refine OpsW.q rfl (q_lenS Try.underlying9 rfl) ?_
        refine OpsW.q rfl (q_lss rfl rfl) ?_
        refine OpsW.nil ?_
        refine SeqP.go ?_
        refine AW.cond rfl (fun h3 => ?_) (fun h3 => ?_)
        ·
          try simp only [decide_eq_true_eq, decide_eq_false_iff_not, Bool.or_eq_true, Bool.and_eq_true, Bool.or_eq_false_iff, Bool.and_eq_false_imp, Bool.not_eq_true', Bool.not_eq_false', ne_eq, Decidable.not_not, Int.not_lt, Int.not_le, Bool.not_eq_true, Bool.not_eq_false] at h3
          have hoc : openS t = cutP t (a : Int) := by rw [openS_go hd2, openSC_cut (by rw [← hall, hN1]; omega), ← hall, hN1]
          refine AW.region ?_
          refine OpsW.q rfl (q_move (v := .pointer _) rfl) ?_
          refine OpsW.q rfl (q_move (v := .int _ _) rfl) ?_
          obtain ⟨Hf11, le11, hA11, hB11⟩ := hS10.framed at3
          refine OpsW.m rfl (o_call rfl Try.func45 rfl rfl (Cut_s hA11 htk _)) ?_
          rintro _ H11 ⟨rfl, hR11⟩
          have hS11 := hB11 _ _ hR11
          clear hR11 hB11 hA11
          clear hS10
          refine OpsW.q rfl (q_assign (v := .int _ _) rfl) ?_
          refine OpsW.nil ?_
          refine SeqP.go ?_
          refine AW.seq ?_
          refine AW.seq ?_
          refine AW.region ?_
          refine OpsW.q rfl (q_move (v := .int _ _) rfl) ?_
          refine OpsW.q rfl (q_neq rfl rfl) ?_
          refine OpsW.nil ?_
          refine SeqP.go ?_
          refine AW.cond rfl (fun h4 => ?_) (fun h4 => ?_)
          ·
            try simp only [decide_eq_true_eq, decide_eq_false_iff_not, Bool.or_eq_true, Bool.and_eq_true, Bool.or_eq_false_iff, Bool.and_eq_false_imp, Bool.not_eq_true', Bool.not_eq_false', ne_eq, Decidable.not_not, Int.not_lt, Int.not_le, Bool.not_eq_true, Bool.not_eq_false] at h4
            refine AW.seq ?_
            refine AW.region ?_
            refine OpsW.q rfl (q_move (v := .int _ _) rfl) ?_
            refine OpsW.q rfl (q_assign (v := .pointer _) rfl) ?_
            refine OpsW.q rfl (q_assign (v := .int _ _) rfl) ?_
            refine OpsW.nil ?_
            refine SeqP.go ?_
            refine AW.ret ?_
            refine SeqP.ret ?_
            refine RetP.mk2 (H' := _) (v1 := .pointer _) (v2 := .int _ _) rfl rfl rfl  (Hp.le_refl _) ?_
            exact .inl ⟨by rw [hoc]; simpa using h4, by rw [hoc], by rw [hoc]; exact hS11.tail.tail.tail⟩
          try simp only [decide_eq_true_eq, decide_eq_false_iff_not, Bool.or_eq_true, Bool.and_eq_true, Bool.or_eq_false_iff, Bool.and_eq_false_imp, Bool.not_eq_true', Bool.not_eq_false', ne_eq, Decidable.not_not, Int.not_lt, Int.not_le, Bool.not_eq_true, Bool.not_eq_false] at h4
          refine AW.skip ?_
          refine SeqP.go ?_
          refine AW.seq ?_
          refine AW.region ?_
          refine OpsW.q rfl (q_move (v := .pointer _) rfl) ?_
          refine OpsW.q rfl (q_assign (v := .pointer _) rfl) ?_
          refine OpsW.q rfl (q_assign (v := .int _ _) rfl) ?_
          refine OpsW.nil ?_
          refine SeqP.go ?_
          refine AW.ret ?_
          refine RetP.mk2 (H' := _) (v1 := .pointer _) (v2 := .int _ _) rfl rfl rfl  (Hp.le_refl _) ?_
          refine .inr ⟨by rw [hoc]; simpa using h4, b24, rfl, ?_⟩
          rw [hoc, hN2]
          rw [takeS_false htf] at hS11
          exact sto_close (hS11.del del2)
        try simp only [decide_eq_true_eq, decide_eq_false_iff_not, Bool.or_eq_true, Bool.and_eq_true, Bool.or_eq_false_iff, Bool.and_eq_false_imp, Bool.not_eq_true', Bool.not_eq_false', ne_eq, Decidable.not_not, Int.not_lt, Int.not_le, Bool.not_eq_true, Bool.not_eq_false] at h3
        have hoc : openS t = syncP t := by rw [openS_go hd2, openSC_sync (by rw [← hall, hN1]; omega)]
        refine AW.region ?_
        refine OpsW.q rfl (q_move (v := .pointer _) rfl) ?_
        obtain ⟨Hf12, le12, hA12, hB12⟩ := hS10.framed at3
        refine OpsW.m rfl (o_call rfl Try.func46 rfl rfl (Sync_s hA12 htk)) ?_
        rintro _ H12 ⟨rfl, hR12⟩
        have hS12 := hB12 _ _ hR12
        clear hR12 hB12 hA12
        clear hS10
        refine OpsW.q rfl (q_assign (v := .int _ _) rfl) ?_
        refine OpsW.nil ?_
        refine SeqP.go ?_
        refine AW.seq ?_
        refine AW.seq ?_
        refine AW.region ?_
        refine OpsW.q rfl (q_move (v := .int _ _) rfl) ?_
        refine OpsW.q rfl (q_neq rfl rfl) ?_
        refine OpsW.nil ?_
        refine SeqP.go ?_
        refine AW.cond rfl (fun h4 => ?_) (fun h4 => ?_)
        ·
          try simp only [decide_eq_true_eq, decide_eq_false_iff_not, Bool.or_eq_true, Bool.and_eq_true, Bool.or_eq_false_iff, Bool.and_eq_false_imp, Bool.not_eq_true', Bool.not_eq_false', ne_eq, Decidable.not_not, Int.not_lt, Int.not_le, Bool.not_eq_true, Bool.not_eq_false] at h4
          refine AW.seq ?_
          refine AW.region ?_
          refine OpsW.q rfl (q_move (v := .int _ _) rfl) ?_
          refine OpsW.q rfl (q_assign (v := .pointer _) rfl) ?_
          refine OpsW.q rfl (q_assign (v := .int _ _) rfl) ?_
          refine OpsW.nil ?_
          refine SeqP.go ?_
          refine AW.ret ?_
          refine SeqP.ret ?_
          refine RetP.mk2 (H' := _) (v1 := .pointer _) (v2 := .int _ _) rfl rfl rfl  (Hp.le_refl _) ?_
          exact .inl ⟨by rw [hoc]; simpa using h4, by rw [hoc], by rw [hoc]; exact hS12.tail.tail.tail⟩
        try simp only [decide_eq_true_eq, decide_eq_false_iff_not, Bool.or_eq_true, Bool.and_eq_true, Bool.or_eq_false_iff, Bool.and_eq_false_imp, Bool.not_eq_true', Bool.not_eq_false', ne_eq, Decidable.not_not, Int.not_lt, Int.not_le, Bool.not_eq_true, Bool.not_eq_false] at h4
        refine AW.skip ?_
        refine SeqP.go ?_
        refine AW.seq ?_
        refine AW.region ?_
        refine OpsW.q rfl (q_move (v := .pointer _) rfl) ?_
        refine OpsW.q rfl (q_assign (v := .pointer _) rfl) ?_
        refine OpsW.q rfl (q_assign (v := .int _ _) rfl) ?_
        refine OpsW.nil ?_
        refine SeqP.go ?_
        refine AW.ret ?_
        refine RetP.mk2 (H' := _) (v1 := .pointer _) (v2 := .int _ _) rfl rfl rfl  (Hp.le_refl _) ?_
        refine .inr ⟨by rw [hoc]; simpa using h4, b24, rfl, ?_⟩
        rw [hoc, hN2]
        rw [takeS_false htf] at hS12
        exact sto_close (hS12.del del2)
      try simp only [decide_eq_true_eq, decide_eq_false_iff_not, Bool.or_eq_true, Bool.and_eq_true, Bool.or_eq_false_iff, Bool.and_eq_false_imp, Bool.not_eq_true', Bool.not_eq_false', ne_eq, Decidable.not_not, Int.not_lt, Int.not_le, Bool.not_eq_true, Bool.not_eq_false] at h2
      have hgo : goesS s (all.drop a) := ⟨hw, by simpa using h2⟩
      have hgl := goes_len hgo
      rw [List.length_drop] at hgl
      have hsc := scanS_go hgo
      rw [hsc] at hI4 hI5
      rw [List.drop_drop] at hI4 hI5
      dsimp only at hI4 hI5
      have hok2 : StOk (nextS s (all.drop a)).L := takeS_ok hI _ _
      have hln2 : (nextS s (all.drop a)).L.length ≤ s.L.length + 1 := takeS_len s _ _
      have hhd2 : (nextS s (all.drop a)).h.length = 32 := nextS_head hgo
      refine AW.skip ?_
      refine SeqP.go ?_
      refine AW.region ?_
      refine OpsW.q rfl (q_move (v := .int _ _) rfl) ?_
      refine OpsW.q rfl (q_fieldAddr (sz := 0) Try.underlying74 rfl (by kernel_rfl) rfl) ?_
      refine OpsW.q rfl (q_load (v := .int _ _) (by kernel_rfl) rfl (hS10.blk at2) rfl) ?_
      refine OpsW.q rfl (q_addI rfl rfl (by omega)) ?_
      refine OpsW.q rfl (q_assign (v := .int _ _) rfl) ?_
      refine OpsW.nil ?_
      refine BlockP.go ?_
      replace hS10 := Sep.bring del3 hS10
      replace hS10 := Sep.bring del1 hS10
      replace hS10 := Sep.bring del2 hS10
      replace hS10 := hS10.del del3
      exact LoopP.go _ (by omega) ⟨a + stepS s (all.drop a), nextS s (all.drop a), _, rfl, ⟨hok2, by omega, by omega, by omega, hI5, hhd2⟩, Slots.eq ⟨(by first | rfl | exact i64_int (by omega) (by omega) (by omega) | assumption), (by first | rfl | exact i64_int (by omega) (by omega) (by omega) | assumption), (by first | rfl | exact i64_int (by omega) (by omega) (by omega) | assumption), (by show Value.int .i64 ((a : Int) + (firstS (all.drop a) s.h).1.size) = Value.int .i64 _; rw [hgl.2.2.1]; rfl),  trivial⟩, hS10⟩
    ·
      have hw2 : (firstS (all.drop a) s.h).2 = false := by simpa using hw
      rw [hw2]
      refine AW.region ?_
      refine OpsW.q rfl (q_move (v := .bool _) rfl) ?_
      refine OpsW.q rfl (q_not rfl) ?_
      refine OpsW.q rfl (q_move (v := .bool true) rfl) ?_
      refine OpsW.p rfl rfl ?_
      refine OpsW.p rfl rfl ?_
      refine OpsW.p rfl rfl ?_
      refine OpsW.p rfl rfl ?_
      refine OpsW.q rfl (q_or2 (B := false) rfl rfl rfl) ?_
      refine OpsW.nil ?_
      refine SeqP.go ?_
      refine AW.cond rfl (fun h2 => ?_) (fun h2 => ?_)
      ·
        try simp only [decide_eq_true_eq, decide_eq_false_iff_not, Bool.or_eq_true, Bool.and_eq_true, Bool.or_eq_false_iff, Bool.and_eq_false_imp, Bool.not_eq_true', Bool.not_eq_false', ne_eq, Decidable.not_not, Int.not_lt, Int.not_le, Bool.not_eq_true, Bool.not_eq_false] at h2
        have hend : ¬ goesS s (all.drop a) := fun g => hw g.1
        refine AW.exit ?_
        refine SeqP.exit ?_
        refine BlockP.far rfl ?_
        refine LoopP.exit ?_
        rw [scanS_end hend] at hI4 hI5
        have hN1 : (scanS st0 all).1 = a := hI4.symm
        have hN2 : (scanS st0 all).2 = s := hI5.symm
        refine BlockP.here ?_
        refine SeqP.go ?_
        refine AW.seq ?_
        refine AW.seq ?_
        refine AW.region ?_
        refine OpsW.q rfl (q_move (v := .int _ _) rfl) ?_
        refine OpsW.q rfl (q_move (v := S _) rfl) ?_
        refine OpsW.q rfl (q_lenS Try.underlying9 rfl) ?_
        refine OpsW.q rfl (q_lss rfl rfl) ?_
        refine OpsW.nil ?_
        refine SeqP.go ?_
        refine AW.cond rfl (fun h3 => ?_) (fun h3 => ?_)
        ·
          try simp only [decide_eq_true_eq, decide_eq_false_iff_not, Bool.or_eq_true, Bool.and_eq_true, Bool.or_eq_false_iff, Bool.and_eq_false_imp, Bool.not_eq_true', Bool.not_eq_false', ne_eq, Decidable.not_not, Int.not_lt, Int.not_le, Bool.not_eq_true, Bool.not_eq_false] at h3
          have hoc : openS t = cutP t (a : Int) := by rw [openS_go hd2, openSC_cut (by rw [← hall, hN1]; omega), ← hall, hN1]
          refine AW.region ?_
          refine OpsW.q rfl (q_move (v := .pointer _) rfl) ?_
          refine OpsW.q rfl (q_move (v := .int _ _) rfl) ?_
          obtain ⟨Hf13, le13, hA13, hB13⟩ := hSc9.framed at3
          refine OpsW.m rfl (o_call rfl Try.func45 rfl rfl (Cut_s hA13 htk _)) ?_
          rintro _ H13 ⟨rfl, hR13⟩
          have hS13 := hB13 _ _ hR13
          clear hR13 hB13 hA13
          clear hSc9
          refine OpsW.q rfl (q_assign (v := .int _ _) rfl) ?_
          refine OpsW.nil ?_
          refine SeqP.go ?_
          refine AW.seq ?_
          refine AW.seq ?_
          refine AW.region ?_
          refine OpsW.q rfl (q_move (v := .int _ _) rfl) ?_
          refine OpsW.q rfl (q_neq rfl rfl) ?_
          refine OpsW.nil ?_
          refine SeqP.go ?_
          refine AW.cond rfl (fun h4 => ?_) (fun h4 => ?_)
          ·
            try simp only [decide_eq_true_eq, decide_eq_false_iff_not, Bool.or_eq_true, Bool.and_eq_true, Bool.or_eq_false_iff, Bool.and_eq_false_imp, Bool.not_eq_true', Bool.not_eq_false', ne_eq, Decidable.not_not, Int.not_lt, Int.not_le, Bool.not_eq_true, Bool.not_eq_false] at h4
            refine AW.seq ?_
            refine AW.region ?_
            refine OpsW.q rfl (q_move (v := .int _ _) rfl) ?_
            refine OpsW.q rfl (q_assign (v := .pointer _) rfl) ?_
            refine OpsW.q rfl (q_assign (v := .int _ _) rfl) ?_
            refine OpsW.nil ?_
            refine SeqP.go ?_
            refine AW.ret ?_
            refine SeqP.ret ?_
            refine RetP.mk2 (H' := _) (v1 := .pointer _) (v2 := .int _ _) rfl rfl rfl  (Hp.le_refl _) ?_
            exact .inl ⟨by rw [hoc]; simpa using h4, by rw [hoc], by rw [hoc]; exact hS13.tail.tail.tail⟩
          try simp only [decide_eq_true_eq, decide_eq_false_iff_not, Bool.or_eq_true, Bool.and_eq_true, Bool.or_eq_false_iff, Bool.and_eq_false_imp, Bool.not_eq_true', Bool.not_eq_false', ne_eq, Decidable.not_not, Int.not_lt, Int.not_le, Bool.not_eq_true, Bool.not_eq_false] at h4
          refine AW.skip ?_
          refine SeqP.go ?_
          refine AW.seq ?_
          refine AW.region ?_
          refine OpsW.q rfl (q_move (v := .pointer _) rfl) ?_
          refine OpsW.q rfl (q_assign (v := .pointer _) rfl) ?_
          refine OpsW.q rfl (q_assign (v := .int _ _) rfl) ?_
          refine OpsW.nil ?_
          refine SeqP.go ?_
          refine AW.ret ?_
          refine RetP.mk2 (H' := _) (v1 := .pointer _) (v2 := .int _ _) rfl rfl rfl  (Hp.le_refl _) ?_
          refine .inr ⟨by rw [hoc]; simpa using h4, b24, rfl, ?_⟩
          rw [hoc, hN2]
          exact sto_close (Sep.bring del1 hS13.tail)
        try simp only [decide_eq_true_eq, decide_eq_false_iff_not, Bool.or_eq_true, Bool.and_eq_true, Bool.or_eq_false_iff, Bool.and_eq_false_imp, Bool.not_eq_true', Bool.not_eq_false', ne_eq, Decidable.not_not, Int.not_lt, Int.not_le, Bool.not_eq_true, Bool.not_eq_false] at h3
        have hoc : openS t = syncP t := by rw [openS_go hd2, openSC_sync (by rw [← hall, hN1]; omega)]
        refine AW.region ?_
        refine OpsW.q rfl (q_move (v := .pointer _) rfl) ?_
        obtain ⟨Hf14, le14, hA14, hB14⟩ := hSc9.framed at3
        refine OpsW.m rfl (o_call rfl Try.func46 rfl rfl (Sync_s hA14 htk)) ?_
        rintro _ H14 ⟨rfl, hR14⟩
        have hS14 := hB14 _ _ hR14
        clear hR14 hB14 hA14
        clear hSc9
        refine OpsW.q rfl (q_assign (v := .int _ _) rfl) ?_
        refine OpsW.nil ?_
        refine SeqP.go ?_
        refine AW.seq ?_
        refine AW.seq ?_
        refine AW.region ?_
        refine OpsW.q rfl (q_move (v := .int _ _) rfl) ?_
        refine OpsW.q rfl (q_neq rfl rfl) ?_
        refine OpsW.nil ?_
        refine SeqP.go ?_
        refine AW.cond rfl (fun h4 => ?_) (fun h4 => ?_)
        ·
          try simp only [decide_eq_true_eq, decide_eq_false_iff_not, Bool.or_eq_true, Bool.and_eq_true, Bool.or_eq_false_iff, Bool.and_eq_false_imp, Bool.not_eq_true', Bool.not_eq_false', ne_eq, Decidable.not_not, Int.not_lt, Int.not_le, Bool.not_eq_true, Bool.not_eq_false] at h4
          refine AW.seq ?_
          refine AW.region ?_
          refine OpsW.q rfl (q_move (v := .int _ _) rfl) ?_
          refine OpsW.q rfl (q_assign (v := .pointer _) rfl) ?_
          refine OpsW.q rfl (q_assign (v := .int _ _) rfl) ?_
          refine OpsW.nil ?_
          refine SeqP.go ?_
          refine AW.ret ?_
          refine SeqP.ret ?_
          refine RetP.mk2 (H' := _) (v1 := .pointer _) (v2 := .int _ _) rfl rfl rfl  (Hp.le_refl _) ?_
          exact .inl ⟨by rw [hoc]; simpa using h4, by rw [hoc], by rw [hoc]; exact hS14.tail.tail.tail⟩
        try simp only [decide_eq_true_eq, decide_eq_false_iff_not, Bool.or_eq_true, Bool.and_eq_true, Bool.or_eq_false_iff, Bool.and_eq_false_imp, Bool.not_eq_true', Bool.not_eq_false', ne_eq, Decidable.not_not, Int.not_lt, Int.not_le, Bool.not_eq_true, Bool.not_eq_false] at h4
        refine AW.skip ?_
        refine SeqP.go ?_
        refine AW.seq ?_
        refine AW.region ?_
        refine OpsW.q rfl (q_move (v := .pointer _) rfl) ?_
        refine OpsW.q rfl (q_assign (v := .pointer _) rfl) ?_
        refine OpsW.q rfl (q_assign (v := .int _ _) rfl) ?_
        refine OpsW.nil ?_
        refine SeqP.go ?_
        refine AW.ret ?_
        refine RetP.mk2 (H' := _) (v1 := .pointer _) (v2 := .int _ _) rfl rfl rfl  (Hp.le_refl _) ?_
        refine .inr ⟨by rw [hoc]; simpa using h4, b24, rfl, ?_⟩
        rw [hoc, hN2]
        exact sto_close (Sep.bring del1 hS14.tail)
      exfalso
      try simp only [decide_eq_true_eq, decide_eq_false_iff_not, Bool.or_eq_true, Bool.and_eq_true, Bool.or_eq_false_iff, Bool.and_eq_false_imp, Bool.not_eq_true', Bool.not_eq_false', ne_eq, Decidable.not_not, Int.not_lt, Int.not_le, Bool.not_eq_true, Bool.not_eq_false] at h2
      simp at h2
end
end Go.Proofs.Ytfiojlmccflplaa

