/-
  The proof's texts, joined, without what the statements do not reach: part 5 of 5. No condition.
-/
import Derived.Test.YtfiojlmccflplaaRows
import Derived.WalkKit
import Derived.KernelRfl
import Derived.Lib.ConvBytes
import Derived.WalkSpells
import Derived.WalkLawsBesides
import Derived.ProofKit
import Derived.ChangeMaps5
import Derived.ChangeSlices
import Derived.Deep.Strs
import Derived.DataElems
import Derived.OpenShut
import Derived.Test.YtfiojlmccflplaaProg
import Derived.MapKept
import Derived.Laws.StructEq
import Derived.Test.YtfiojlmccflplaaLd
section
namespace Go.Proofs.Ytfiojlmccflplaa
open Go Go.RowKit D
set_option linter.unusedVariables false
set_option linter.unusedSimpArgs false
set_option maxRecDepth 100000
set_option maxHeartbeats 2000000
section
variable {w0 : World} {H : Hp} {H0 : Hp}
theorem bodyS_parts {who dat : List UInt8} {seq : Int} (hw : who.length = 32) (h0 : 0 ≤ seq) (h1 : seq < 4294967296) : tWho (bodyS who seq dat) = who ∧ tSeq (bodyS who seq dat) = seq ∧ tDat (bodyS who seq dat) = dat := by
  refine ⟨?_, ?_, ?_⟩
  · unfold tWho; rw [bodyS_def, List.append_assoc, show Int.toNat 32 = who.length from hw.symm, List.take_left]
  · unfold tSeq; rw [bodyS_def, List.append_assoc, show Int.toNat 32 = who.length from hw.symm, List.drop_left]; exact numB_fourS h0 h1 dat
  · unfold tDat; rw [bodyS_def, show Int.toNat 36 = (who ++ fourB seq).length from by rw [List.length_append, fourB_length, hw]; rfl, List.drop_left]
theorem takeS_lay {x : StS} {who dat : List UInt8} {seq : Int} (hw : who.length = 32) (h1 : seq < 4294967296) (hs : seq = mkP x.L who + 1) (nx : List UInt8) : takeS x (bodyS who seq dat) nx = (true, ⟨x.L ++ [⟨who, seq, dat⟩], nx⟩) := by
  have h0 : 0 ≤ seq := by rw [hs]; unfold mkP; omega
  obtain ⟨e1, e2, e3⟩ := bodyS_parts (dat := dat) hw h0 h1
  rw [takeS_yes (by rw [e1, e2]; exact hs), e1, e2, e3]
theorem layS_w {b tb mb : Nat} {x : StF} {t : TapeS} (hS0 : Sep H0 [.blk b (stBlk tb mb x), .pred (stM mb x.st.L), tapeC tb t] H) (hok : StOk x.st.L) (htk : TapeOk t) (hl : x.st.L.length ≤ 1000000) (hhl : x.st.h.length = 32) {who dat : List UInt8} {seq : Int} (hw : who.length = 32) (hs : seq = mkP x.st.L who + 1) (hd : dat.length ≤ 100000) : Con Try.prog w0 47 #[.pointer (some ⟨b, 0, none⟩), S who, .agg #[.int .i64 seq, S dat]] H (fun v H' => v = .int .i64 (layS t x who seq dat).1 ∧ Sep H0 [.blk b (stBlk tb mb ((layS t x who seq dat).2.1)), .pred (stM mb ((layS t x who seq dat).2.1).st.L), tapeC tb ((layS t x who seq dat).2.2)] H') := by
  replace hS0 : Sep H0 [.blk b ⟨[.pointer (some ⟨tb, 0, none⟩), S x.st.h, .map (some mb), .bool x.dd], 4, 85⟩, .pred (stM mb x.st.L), tapeC tb t] H := hS0
  have hf4 := fourB_length seq
  have hmk : 0 ≤ mkP x.st.L who ∧ mkP x.st.L who ≤ 1000000 := by have := ofP_len x.st.L who; unfold mkP; omega
  have hbl := bodyS_len (who := who) (seq := seq) (dat := dat)
  have hnl := nxS_len x.st.h (bodyS who seq dat)
  have hf5 := fourB_length ((bodyS who seq dat).length : Int)
  refine Con.intro Try.func47 rfl rfl ?_
  refine AW.seq ?_
  refine AW.region ?_
  refine OpsW.m rfl (s_box (v := .agg _) hS0 rfl rfl) ?_
  rintro _ H1 ⟨b5, rfl, hS1⟩
  clear hS0
  refine OpsW.q rfl (q_assign (v := .int _ _) rfl) ?_
  refine OpsW.nil ?_
  refine SeqP.go ?_
  refine AW.seq ?_
  refine AW.drawK [] 7 rfl (by kernel_rfl) ?_
  refine SeqK.q rfl (q_move (v := S _) rfl) ?_
  refine SeqK.q rfl (q_fieldAddr (sz := 0) Try.underlying44 rfl (by kernel_rfl) rfl) ?_
  refine SeqK.q rfl (q_load (v := .int _ _) (by kernel_rfl) rfl (hS1.blk at0) rfl) ?_
  refine SeqK.q rfl (o_call rfl Try.func57 rfl rfl (fourS_con _)) ?_
  refine SeqK.q rfl (q_cat rfl rfl (by omega)) ?_
  refine SeqK.q rfl (q_fieldAddr (sz := 0) Try.underlying44 rfl (by kernel_rfl) rfl) ?_
  refine SeqK.q rfl (q_load (v := S _) (by kernel_rfl) rfl (hS1.blk at0) rfl) ?_
  refine SeqK.done ?_
  refine OpsW.q rfl (q_cat rfl rfl (by simp only [nums_length, List.length_set, List.length_replicate, List.length_take, List.length_drop, List.length_append, List.length_cons, List.length_nil, ofB_length, toB_length]; omega)) ?_
  rw [← bodyS_def]
  refine OpsW.q rfl (q_assign (v := S _) rfl) ?_
  refine OpsW.nil ?_
  refine SeqP.go ?_
  refine AW.seq ?_
  refine AW.region ?_
  refine OpsW.q rfl (q_move (v := .pointer _) rfl) ?_
  refine OpsW.q rfl (q_nilCheck rfl) ?_
  refine OpsW.q rfl (q_fieldAddr (sz := 0) Try.underlying85 rfl (by kernel_rfl) rfl) ?_
  refine OpsW.q rfl (q_load (v := S _) (by kernel_rfl) rfl (hS1.blk at1) rfl) ?_
  refine OpsW.q rfl (q_move (v := S _) rfl) ?_
  refine OpsW.q rfl (q_cat rfl rfl (by omega)) ?_
  refine OpsW.q rfl (o_call rfl Try.func56 rfl rfl (Sum256_con (by rw [List.length_append, bodyS_len]; omega))) ?_
  rw [← nxS_def]
  refine OpsW.q rfl (q_assign (v := S _) rfl) ?_
  refine OpsW.nil ?_
  refine SeqP.go ?_
  refine AW.seq ?_
  refine AW.drawK [] 11 rfl (by kernel_rfl) ?_
  refine SeqK.q rfl (q_move (v := .pointer _) rfl) ?_
  refine SeqK.q rfl (q_nilCheck rfl) ?_
  refine SeqK.q rfl (q_fieldAddr (sz := 0) Try.underlying85 rfl (by kernel_rfl) rfl) ?_
  refine SeqK.q rfl (q_load (v := .pointer _) (by kernel_rfl) rfl (hS1.blk at1) rfl) ?_
  refine SeqK.q rfl (q_move (v := S _) rfl) ?_
  refine SeqK.q rfl (q_lenS Try.underlying9 rfl) ?_
  refine SeqK.q rfl (o_call rfl Try.func57 rfl rfl (fourS_con _)) ?_
  refine SeqK.q rfl (q_move (v := S _) rfl) ?_
  refine SeqK.q rfl (q_cat rfl rfl (by omega)) ?_
  refine SeqK.q rfl (q_move (v := S _) rfl) ?_
  refine SeqK.q rfl (q_cat rfl rfl (by simp only [nums_length, List.length_set, List.length_replicate, List.length_take, List.length_drop, List.length_append, List.length_cons, List.length_nil, ofB_length, toB_length]; omega)) ?_
  rw [← frS_def]
  refine SeqK.done ?_
  obtain ⟨Hf2, le2, hA2, hB2⟩ := hS1.framed at3
  refine OpsW.m rfl (o_call rfl Try.func31 rfl rfl (Append_s hA2 htk _ (by rw [frS_len]; omega))) ?_
  rintro _ H2 ⟨rfl, hR2⟩
  have hS2 := hB2 _ _ hR2
  clear hR2 hB2 hA2
  clear hS1
  refine OpsW.q rfl (q_assign (v := .int _ _) rfl) ?_
  refine OpsW.nil ?_
  refine SeqP.go ?_
  refine AW.seq ?_
  refine AW.seq ?_
  refine AW.region ?_
  refine OpsW.q rfl (q_move (v := .int _ _) rfl) ?_
  refine OpsW.q rfl (q_eql rfl rfl) ?_
  refine OpsW.nil ?_
  refine SeqP.go ?_
  refine AW.cond rfl (fun h0 => ?_) (fun h0 => ?_)
  ·
    try simp only [decide_eq_true_eq, decide_eq_false_iff_not, Bool.or_eq_true, Bool.and_eq_true, Bool.or_eq_false_iff, Bool.and_eq_false_imp, Bool.not_eq_true', Bool.not_eq_false', ne_eq, Decidable.not_not, Int.not_lt, Int.not_le, Bool.not_eq_true, Bool.not_eq_false] at h0
    rw [layS_full h0]
    refine AW.seq ?_
    refine AW.region ?_
    refine OpsW.q rfl (q_move (v := .int _ _) rfl) ?_
    refine OpsW.q rfl (q_assign (v := .int _ _) rfl) ?_
    refine OpsW.nil ?_
    refine SeqP.go ?_
    refine AW.ret ?_
    refine SeqP.ret ?_
    refine RetP.mk1 (H' := H2) (v1 := .int _ _) rfl rfl  (Hp.le_refl _) ?_
    exact ⟨by rw [h0], hS2.tail⟩
  try simp only [decide_eq_true_eq, decide_eq_false_iff_not, Bool.or_eq_true, Bool.and_eq_true, Bool.or_eq_false_iff, Bool.and_eq_false_imp, Bool.not_eq_true', Bool.not_eq_false', ne_eq, Decidable.not_not, Int.not_lt, Int.not_le, Bool.not_eq_true, Bool.not_eq_false] at h0
  refine AW.skip ?_
  refine SeqP.go ?_
  refine AW.seq ?_
  refine AW.seq ?_
  refine AW.region ?_
  refine OpsW.q rfl (q_move (v := .int _ _) rfl) ?_
  refine OpsW.q rfl (q_eql rfl rfl) ?_
  refine OpsW.nil ?_
  refine SeqP.go ?_
  refine AW.cond rfl (fun h1 => ?_) (fun h1 => ?_)
  ·
    try simp only [decide_eq_true_eq, decide_eq_false_iff_not, Bool.or_eq_true, Bool.and_eq_true, Bool.or_eq_false_iff, Bool.and_eq_false_imp, Bool.not_eq_true', Bool.not_eq_false', ne_eq, Decidable.not_not, Int.not_lt, Int.not_le, Bool.not_eq_true, Bool.not_eq_false] at h1
    refine AW.region ?_
    refine OpsW.q rfl (q_move (v := .pointer _) rfl) ?_
    refine OpsW.q rfl (q_nilCheck rfl) ?_
    refine OpsW.q rfl (q_fieldAddr (sz := 0) Try.underlying85 rfl (by kernel_rfl) rfl) ?_
    refine OpsW.q rfl (q_load (v := .pointer _) (by kernel_rfl) rfl (hS2.blk at1) rfl) ?_
    obtain ⟨Hf3, le3, hA3, hB3⟩ := hS2.framed at3
    refine OpsW.m rfl (o_call rfl Try.func46 rfl rfl (Sync_s hA3 (tk_append htk _))) ?_
    rintro _ H3 ⟨rfl, hR3⟩
    have hS3 := hB3 _ _ hR3
    clear hR3 hB3 hA3
    clear hS2
    refine OpsW.q rfl (q_assign (v := .int _ _) rfl) ?_
    refine OpsW.nil ?_
    refine SeqP.go ?_
    refine AW.seq ?_
    refine AW.seq ?_
    refine AW.region ?_
    refine OpsW.q rfl (q_move (v := .int _ _) rfl) ?_
    refine OpsW.q rfl (q_neq rfl rfl) ?_
    refine OpsW.nil ?_
    refine SeqP.go ?_
    refine AW.cond rfl (fun h2 => ?_) (fun h2 => ?_)
    ·
      try simp only [decide_eq_true_eq, decide_eq_false_iff_not, Bool.or_eq_true, Bool.and_eq_true, Bool.or_eq_false_iff, Bool.and_eq_false_imp, Bool.not_eq_true', Bool.not_eq_false', ne_eq, Decidable.not_not, Int.not_lt, Int.not_le, Bool.not_eq_true, Bool.not_eq_false] at h2
      rw [layS_syn h1 (by simpa using h2)]
      refine AW.seq ?_
      refine AW.region ?_
      refine OpsW.q rfl (q_move (v := .pointer _) rfl) ?_
      refine OpsW.q rfl (q_nilCheck rfl) ?_
      refine OpsW.q rfl (q_fieldAddr (sz := 0) Try.underlying85 rfl (by kernel_rfl) rfl) ?_
      refine OpsW.ms (s_storeC (v := .bool _) hS3 at1 (by kernel_rfl) rfl rfl rfl (by simp; done)) ?_
      rintro _ H4 ⟨rfl, hS4⟩
      clear hS3
      refine OpsW.nil ?_
      refine SeqP.go ?_
      refine AW.seq ?_
      refine AW.region ?_
      refine OpsW.q rfl (q_move (v := .int _ _) rfl) ?_
      refine OpsW.q rfl (q_assign (v := .int _ _) rfl) ?_
      refine OpsW.nil ?_
      refine SeqP.go ?_
      refine AW.ret ?_
      refine SeqP.ret ?_
      refine RetP.mk1 (H' := H4) (v1 := .int _ _) rfl rfl  (Hp.le_refl _) ?_
      exact ⟨rfl, hS4.tail⟩
    try simp only [decide_eq_true_eq, decide_eq_false_iff_not, Bool.or_eq_true, Bool.and_eq_true, Bool.or_eq_false_iff, Bool.and_eq_false_imp, Bool.not_eq_true', Bool.not_eq_false', ne_eq, Decidable.not_not, Int.not_lt, Int.not_le, Bool.not_eq_true, Bool.not_eq_false] at h2
    rw [layS_ok h1 h2]
    refine AW.skip ?_
    refine SeqP.go ?_
    refine AW.seq ?_
    refine AW.region ?_
    refine OpsW.q rfl (q_move (v := .pointer _) rfl) ?_
    refine OpsW.q rfl (q_move (v := S _) rfl) ?_
    refine OpsW.q rfl (q_move (v := S _) rfl) ?_
    refine OpsW.q rfl (q_build (cells := #[S (bodyS who seq dat), .int .i64 0, S (nxS x.st.h (bodyS who seq dat))]) rfl (by kernel_rfl)) ?_
    replace hS3 := Sep.bring del2 hS3
    replace hS3 := Sep.bring del2 hS3
    obtain ⟨Hf5, le5, hA5, hL5, hB5⟩ := hS3.part2
    refine OpsW.m rfl (o_call rfl Try.func44 rfl rfl (takeS_s hA5 (by omega) (by omega) (by omega))) ?_
    rintro _ H5 ⟨rfl, hR5⟩
    have hS5 := hB5 _ _ hR5
    simp only [List.cons_append, List.nil_append] at hS5
    clear hR5 hB5 hA5
    clear hS3
    refine OpsW.nil ?_
    refine SeqP.go ?_
    refine AW.seq ?_
    refine AW.region ?_
    refine OpsW.q rfl (q_assign (v := .int _ _) rfl) ?_
    refine OpsW.nil ?_
    refine SeqP.go ?_
    refine AW.ret ?_
    refine RetP.mk1 (H' := H5) (v1 := .int _ _) rfl rfl  (Hp.le_refl _) ?_
    refine ⟨rfl, ?_⟩
    rw [takeS_lay hw (by omega) hs] at hS5
    exact hS5.del del2
  try simp only [decide_eq_true_eq, decide_eq_false_iff_not, Bool.or_eq_true, Bool.and_eq_true, Bool.or_eq_false_iff, Bool.and_eq_false_imp, Bool.not_eq_true', Bool.not_eq_false', ne_eq, Decidable.not_not, Int.not_lt, Int.not_le, Bool.not_eq_true, Bool.not_eq_false] at h1
  refine AW.skip ?_
  refine SeqP.go ?_
  refine AW.seq ?_
  refine AW.seq ?_
  refine AW.region ?_
  refine OpsW.q rfl (q_move (v := .int _ _) rfl) ?_
  refine OpsW.q rfl (q_neq rfl rfl) ?_
  refine OpsW.nil ?_
  refine SeqP.go ?_
  refine AW.cond rfl (fun h2 => ?_) (fun h2 => ?_)
  ·
    try simp only [decide_eq_true_eq, decide_eq_false_iff_not, Bool.or_eq_true, Bool.and_eq_true, Bool.or_eq_false_iff, Bool.and_eq_false_imp, Bool.not_eq_true', Bool.not_eq_false', ne_eq, Decidable.not_not, Int.not_lt, Int.not_le, Bool.not_eq_true, Bool.not_eq_false] at h2
    rw [layS_app h0 (by simpa using h1)]
    refine AW.seq ?_
    refine AW.region ?_
    refine OpsW.q rfl (q_move (v := .pointer _) rfl) ?_
    refine OpsW.q rfl (q_nilCheck rfl) ?_
    refine OpsW.q rfl (q_fieldAddr (sz := 0) Try.underlying85 rfl (by kernel_rfl) rfl) ?_
    refine OpsW.ms (s_storeC (v := .bool _) hS2 at1 (by kernel_rfl) rfl rfl rfl (by simp; done)) ?_
    rintro _ H6 ⟨rfl, hS6⟩
    clear hS2
    refine OpsW.nil ?_
    refine SeqP.go ?_
    refine AW.seq ?_
    refine AW.region ?_
    refine OpsW.q rfl (q_move (v := .int _ _) rfl) ?_
    refine OpsW.q rfl (q_assign (v := .int _ _) rfl) ?_
    refine OpsW.nil ?_
    refine SeqP.go ?_
    refine AW.ret ?_
    refine SeqP.ret ?_
    refine RetP.mk1 (H' := H6) (v1 := .int _ _) rfl rfl  (Hp.le_refl _) ?_
    exact ⟨rfl, hS6.tail⟩
  exfalso
  try simp only [decide_eq_true_eq, decide_eq_false_iff_not, Bool.or_eq_true, Bool.and_eq_true, Bool.or_eq_false_iff, Bool.and_eq_false_imp, Bool.not_eq_true', Bool.not_eq_false', ne_eq, Decidable.not_not, Int.not_lt, Int.not_le, Bool.not_eq_true, Bool.not_eq_false] at h2
  first | contradiction | (simp at *; done) | simp_all
theorem Add_w {b tb mb : Nat} {x : StF} {t : TapeS} (hS0 : Sep H0 [.blk b (stBlk tb mb x), .pred (stM mb x.st.L), tapeC tb t] H) (hok : StOk x.st.L) (htk : TapeOk t) (hl : x.st.L.length ≤ 1000000) (hhl : x.st.h.length = 32) {who dat : List UInt8} {seq : Int} : Con Try.prog w0 17 #[.pointer (some ⟨b, 0, none⟩), S who, .agg #[.int .i64 seq, S dat]] H (fun v H' => v = .int .i64 (addS t x who seq dat).1 ∧ Sep H0 [.blk b (stBlk tb mb ((addS t x who seq dat).2.1)), .pred (stM mb ((addS t x who seq dat).2.1).st.L), tapeC tb ((addS t x who seq dat).2.2)] H') := by
  replace hS0 : Sep H0 [.blk b ⟨[.pointer (some ⟨tb, 0, none⟩), S x.st.h, .map (some mb), .bool x.dd], 4, 85⟩, .pred (stM mb x.st.L), tapeC tb t] H := hS0
  have hmk : 0 ≤ mkP x.st.L who ∧ mkP x.st.L who ≤ 1000000 := by have := ofP_len x.st.L who; unfold mkP; omega
  obtain ⟨vs, hvs, hvv⟩ := st_look hS0 at1 who
  refine Con.intro Try.func17 rfl rfl ?_
  refine AW.seq ?_
  refine AW.region ?_
  refine OpsW.m rfl (s_box (v := .agg _) hS0 rfl rfl) ?_
  rintro _ H1 ⟨b5, rfl, hS1⟩
  clear hS0
  refine OpsW.q rfl (q_assign (v := .int _ _) rfl) ?_
  refine OpsW.nil ?_
  refine SeqP.go ?_
  refine AW.seq ?_
  refine AW.block ?_
  refine AW.seq ?_
  refine AW.region ?_
  refine OpsW.q rfl (q_move (v := .pointer _) rfl) ?_
  refine OpsW.q rfl (q_eqlP Try.underlying35 rfl rfl) ?_
  refine OpsW.q rfl (q_assign (v := .bool _) rfl) ?_
  refine OpsW.nil ?_
  refine SeqP.go ?_
  refine AW.cond rfl (fun h0 => ?_) (fun h0 => ?_)
  ·
    exfalso
    try simp only [decide_eq_true_eq, decide_eq_false_iff_not, Bool.or_eq_true, Bool.and_eq_true, Bool.or_eq_false_iff, Bool.and_eq_false_imp, Bool.not_eq_true', Bool.not_eq_false', ne_eq, Decidable.not_not, Int.not_lt, Int.not_le, Bool.not_eq_true, Bool.not_eq_false] at h0
    first | contradiction | (simp at *; done) | simp_all
  try simp only [decide_eq_true_eq, decide_eq_false_iff_not, Bool.or_eq_true, Bool.and_eq_true, Bool.or_eq_false_iff, Bool.and_eq_false_imp, Bool.not_eq_true', Bool.not_eq_false', ne_eq, Decidable.not_not, Int.not_lt, Int.not_le, Bool.not_eq_true, Bool.not_eq_false] at h0
  refine AW.seq ?_
  refine AW.region ?_
  refine OpsW.q rfl (q_move (v := .pointer _) rfl) ?_
  refine OpsW.q rfl (q_nilCheck rfl) ?_
  refine OpsW.q rfl (q_fieldAddr (sz := 0) Try.underlying85 rfl (by kernel_rfl) rfl) ?_
  refine OpsW.q rfl (q_load (v := .bool _) (by kernel_rfl) rfl (hS1.blk at1) rfl) ?_
  refine OpsW.q rfl (q_assign (v := .bool _) rfl) ?_
  refine OpsW.nil ?_
  refine SeqP.go ?_
  refine AW.cond rfl (fun h1 => ?_) (fun h1 => ?_)
  ·
    try simp only [decide_eq_true_eq, decide_eq_false_iff_not, Bool.or_eq_true, Bool.and_eq_true, Bool.or_eq_false_iff, Bool.and_eq_false_imp, Bool.not_eq_true', Bool.not_eq_false', ne_eq, Decidable.not_not, Int.not_lt, Int.not_le, Bool.not_eq_true, Bool.not_eq_false] at h1
    have hdd : x.dd = true := by simp_all
    rw [addS_dead hdd]
    refine AW.seq ?_
    refine AW.region ?_
    refine OpsW.q rfl (q_assign (v := .int _ _) rfl) ?_
    refine OpsW.nil ?_
    refine SeqP.go ?_
    refine AW.ret ?_
    refine BlockP.ret ?_
    refine SeqP.ret ?_
    refine RetP.mk1 (H' := H1) (v1 := .int _ _) rfl rfl  (Hp.le_refl _) ?_
    exact ⟨rfl, hS1.tail⟩
  try simp only [decide_eq_true_eq, decide_eq_false_iff_not, Bool.or_eq_true, Bool.and_eq_true, Bool.or_eq_false_iff, Bool.and_eq_false_imp, Bool.not_eq_true', Bool.not_eq_false', ne_eq, Decidable.not_not, Int.not_lt, Int.not_le, Bool.not_eq_true, Bool.not_eq_false] at h1
  have hdd : x.dd = false := by simp_all
  refine AW.seq ?_
  refine AW.region ?_
  refine OpsW.q rfl (q_move (v := S _) rfl) ?_
  refine OpsW.q rfl (q_lenS Try.underlying9 rfl) ?_
  refine OpsW.q rfl (q_neq rfl rfl) ?_
  refine OpsW.qb rfl (q_move (v := .bool _) rfl) ?_
  intro b20 eb20
  refine OpsW.g rfl rfl rfl (fun hB => by simp only [Bool.and_eq_true, beq_iff_eq] at hB; obtain rfl := hB; exact (q_fieldAddr (sz := 0) Try.underlying44 rfl (by kernel_rfl) rfl)) ?_
  refine OpsW.g rfl rfl rfl (fun hB => by simp only [Bool.and_eq_true, beq_iff_eq] at hB; obtain rfl := hB; exact (q_load (v := .int _ _) (by kernel_rfl) rfl (hS1.blk at0) rfl)) ?_
  refine OpsW.g rfl rfl rfl (fun hB => by simp only [Bool.and_eq_true, beq_iff_eq] at hB; obtain rfl := hB; exact (q_lss rfl rfl)) ?_
  refine OpsW.q rfl (q_or2 rfl rfl rfl) ?_
  refine OpsW.qb rfl (q_move (v := .bool _) rfl) ?_
  intro b25 eb25
  refine OpsW.g rfl rfl rfl (fun hB => by simp only [Bool.and_eq_true, beq_iff_eq] at hB; obtain rfl := hB; exact (q_fieldAddr (sz := 0) Try.underlying44 rfl (by kernel_rfl) rfl)) ?_
  refine OpsW.g rfl rfl rfl (fun hB => by simp only [Bool.and_eq_true, beq_iff_eq] at hB; obtain rfl := hB; exact (q_load (v := S _) (by kernel_rfl) rfl (hS1.blk at0) rfl)) ?_
  refine OpsW.g rfl rfl rfl (fun hB => by simp only [Bool.and_eq_true, beq_iff_eq] at hB; obtain rfl := hB; exact (q_eqS rfl rfl)) ?_
  refine OpsW.q rfl (q_or2 rfl rfl rfl) ?_
  refine OpsW.qb rfl (q_move (v := .bool _) rfl) ?_
  intro b30 eb30
  refine OpsW.g rfl rfl rfl (fun hB => by simp only [Bool.and_eq_true, beq_iff_eq] at hB; obtain rfl := hB; exact (q_fieldAddr (sz := 0) Try.underlying44 rfl (by kernel_rfl) rfl)) ?_
  refine OpsW.g rfl rfl rfl (fun hB => by simp only [Bool.and_eq_true, beq_iff_eq] at hB; obtain rfl := hB; exact (q_load (v := S _) (by kernel_rfl) rfl (hS1.blk at0) rfl)) ?_
  refine OpsW.g rfl rfl rfl (fun hB => by simp only [Bool.and_eq_true, beq_iff_eq] at hB; obtain rfl := hB; exact (q_lenS Try.underlying9 rfl)) ?_
  refine OpsW.g rfl rfl rfl (fun hB => by simp only [Bool.and_eq_true, beq_iff_eq] at hB; obtain rfl := hB; exact (q_gtr rfl rfl)) ?_
  refine OpsW.q rfl (q_or2 rfl rfl rfl) ?_
  refine OpsW.q rfl (q_assign (v := .bool _) rfl) ?_
  refine OpsW.nil ?_
  refine SeqP.go ?_
  refine AW.cond rfl (fun h2 => ?_) (fun h2 => ?_)
  ·
    try simp only [eb20, eb25, eb30, decide_eq_true_eq, decide_eq_false_iff_not, Bool.or_eq_true, Bool.and_eq_true, Bool.or_eq_false_iff, Bool.and_eq_false_imp, Bool.not_eq_true', Bool.not_eq_false', ne_eq, Decidable.not_not, Int.not_lt, Int.not_le, Bool.not_eq_true, Bool.not_eq_false] at h2
    have hbad : addBad who seq dat := by unfold addBad; rcases h2 with ((h | h) | h) | h; (left; omega); (right; left; omega); (right; right; left; exact h); (right; right; right; omega)
    rw [addS_arg hdd hbad]
    refine AW.seq ?_
    refine AW.region ?_
    refine OpsW.q rfl (q_assign (v := .int _ _) rfl) ?_
    refine OpsW.nil ?_
    refine SeqP.go ?_
    refine AW.ret ?_
    refine BlockP.ret ?_
    refine SeqP.ret ?_
    refine RetP.mk1 (H' := H1) (v1 := .int _ _) rfl rfl  (Hp.le_refl _) ?_
    exact ⟨rfl, hS1.tail⟩
  try simp only [eb20, eb25, eb30, decide_eq_true_eq, decide_eq_false_iff_not, Bool.or_eq_true, Bool.and_eq_true, Bool.or_eq_false_iff, Bool.and_eq_false_imp, Bool.not_eq_true', Bool.not_eq_false', ne_eq, Decidable.not_not, Int.not_lt, Int.not_le, Bool.not_eq_true, Bool.not_eq_false] at h2
  have hbad : ¬ addBad who seq dat := by unfold addBad; rintro (h | h | h | h); omega; omega; simp_all; omega
  refine AW.skip ?_
  refine BlockP.go ?_
  refine SeqP.go ?_
  refine AW.seq ?_
  refine AW.seq ?_
  obtain ⟨vs2, hvs2, hvv2⟩ := st_look hS1 at2 who
  refine AW.region ?_
  refine OpsW.q rfl (q_move (v := .pointer _) rfl) ?_
  refine OpsW.q rfl (q_move (v := S _) rfl) ?_
  refine OpsW.q rfl (o_call rfl Try.func18 rfl rfl (Mark_con (hS1.blk at1) hvs2 hvv2)) ?_
  refine OpsW.q rfl (q_assign (v := .int _ _) rfl) ?_
  refine OpsW.nil ?_
  refine SeqP.go ?_
  refine AW.block ?_
  refine AW.seq ?_
  refine AW.region ?_
  refine OpsW.q rfl (q_fieldAddr (sz := 0) Try.underlying44 rfl (by kernel_rfl) rfl) ?_
  refine OpsW.q rfl (q_load (v := .int _ _) (by kernel_rfl) rfl (hS1.blk at0) rfl) ?_
  refine OpsW.q rfl (q_move (v := .int _ _) rfl) ?_
  refine OpsW.q rfl (q_leq rfl rfl) ?_
  refine OpsW.q rfl (q_assign (v := .bool _) rfl) ?_
  refine OpsW.nil ?_
  refine SeqP.go ?_
  refine AW.cond rfl (fun h3 => ?_) (fun h3 => ?_)
  ·
    try simp only [eb20, eb25, eb30, decide_eq_true_eq, decide_eq_false_iff_not, Bool.or_eq_true, Bool.and_eq_true, Bool.or_eq_false_iff, Bool.and_eq_false_imp, Bool.not_eq_true', Bool.not_eq_false', ne_eq, Decidable.not_not, Int.not_lt, Int.not_le, Bool.not_eq_true, Bool.not_eq_false] at h3
    rw [addS_old hdd hbad h3]
    refine AW.seq ?_
    refine AW.region ?_
    refine OpsW.q rfl (q_assign (v := .int _ _) rfl) ?_
    refine OpsW.nil ?_
    refine SeqP.go ?_
    refine AW.ret ?_
    refine BlockP.ret ?_
    refine SeqP.ret ?_
    refine RetP.mk1 (H' := H1) (v1 := .int _ _) rfl rfl  (Hp.le_refl _) ?_
    exact ⟨rfl, hS1.tail⟩
  try simp only [eb20, eb25, eb30, decide_eq_true_eq, decide_eq_false_iff_not, Bool.or_eq_true, Bool.and_eq_true, Bool.or_eq_false_iff, Bool.and_eq_false_imp, Bool.not_eq_true', Bool.not_eq_false', ne_eq, Decidable.not_not, Int.not_lt, Int.not_le, Bool.not_eq_true, Bool.not_eq_false] at h3
  refine AW.seq ?_
  refine AW.region ?_
  refine OpsW.q rfl (q_fieldAddr (sz := 0) Try.underlying44 rfl (by kernel_rfl) rfl) ?_
  refine OpsW.q rfl (q_load (v := .int _ _) (by kernel_rfl) rfl (hS1.blk at0) rfl) ?_
  refine OpsW.q rfl (q_move (v := .int _ _) rfl) ?_
  refine OpsW.q rfl (q_addI rfl rfl (by omega)) ?_
  refine OpsW.q rfl (q_gtr rfl rfl) ?_
  refine OpsW.q rfl (q_assign (v := .bool _) rfl) ?_
  refine OpsW.nil ?_
  refine SeqP.go ?_
  refine AW.cond rfl (fun h4 => ?_) (fun h4 => ?_)
  ·
    try simp only [eb20, eb25, eb30, decide_eq_true_eq, decide_eq_false_iff_not, Bool.or_eq_true, Bool.and_eq_true, Bool.or_eq_false_iff, Bool.and_eq_false_imp, Bool.not_eq_true', Bool.not_eq_false', ne_eq, Decidable.not_not, Int.not_lt, Int.not_le, Bool.not_eq_true, Bool.not_eq_false] at h4
    rw [addS_seq hdd hbad (by omega)]
    refine AW.seq ?_
    refine AW.region ?_
    refine OpsW.q rfl (q_assign (v := .int _ _) rfl) ?_
    refine OpsW.nil ?_
    refine SeqP.go ?_
    refine AW.ret ?_
    refine BlockP.ret ?_
    refine SeqP.ret ?_
    refine RetP.mk1 (H' := H1) (v1 := .int _ _) rfl rfl  (Hp.le_refl _) ?_
    exact ⟨rfl, hS1.tail⟩
  try simp only [eb20, eb25, eb30, decide_eq_true_eq, decide_eq_false_iff_not, Bool.or_eq_true, Bool.and_eq_true, Bool.or_eq_false_iff, Bool.and_eq_false_imp, Bool.not_eq_true', Bool.not_eq_false', ne_eq, Decidable.not_not, Int.not_lt, Int.not_le, Bool.not_eq_true, Bool.not_eq_false] at h4
  have hseq : seq = mkP x.st.L who + 1 := by omega
  rw [addS_go hdd hbad hseq]
  refine AW.skip ?_
  refine BlockP.go ?_
  refine SeqP.go ?_
  refine AW.seq ?_
  refine AW.region ?_
  refine OpsW.q rfl (q_move (v := .pointer _) rfl) ?_
  refine OpsW.q rfl (q_move (v := S _) rfl) ?_
  refine OpsW.q rfl (q_loadA0 (n := 2) (by kernel_rfl) rfl (hS1.blk at0) (by rfl)) ?_
  replace hS1 := Sep.bring del3 hS1
  replace hS1 := Sep.bring del3 hS1
  replace hS1 := Sep.bring del3 hS1
  obtain ⟨Hf2, le2, hA2, hL2, hB2⟩ := hS1.part3
  refine OpsW.m rfl (o_call rfl Try.func47 rfl rfl (layS_w hA2 hok htk hl hhl (by unfold addBad at hbad; omega) hseq (by unfold addBad at hbad; omega))) ?_
  rintro _ H2 ⟨rfl, hR2⟩
  have hS2 := hB2 _ _ hR2
  simp only [List.cons_append, List.nil_append] at hS2
  clear hR2 hB2 hA2
  clear hS1
  refine OpsW.q rfl (q_assign (v := .int _ _) rfl) ?_
  refine OpsW.nil ?_
  refine SeqP.go ?_
  refine AW.ret ?_
  refine RetP.mk1 (H' := H2) (v1 := .int _ _) rfl rfl  (Hp.le_refl _) ?_
  exact ⟨rfl, hS2.del del3⟩
theorem OpenS_w {tb : Nat} {t : TapeS} (hS0 : Sep H0 [tapeC tb t] H) (htk : TapeOk t) : Con Try.prog w0 15 #[.pointer (some ⟨tb, 0, none⟩)] H (fun v H' => (¬ (openS t).1 = 0 ∧ v = .tuple #[.pointer none, .int .i64 (openS t).1] ∧ Sep H0 [tapeC tb (openS t).2] H') ∨ ((openS t).1 = 0 ∧ ∃ b, v = .tuple #[.pointer (some ⟨b, 0, none⟩), .int .i64 0] ∧ Sep H0 [stC b tb ⟨(scanS st0 (t.f ++ t.l)).2, false⟩ (openS t).2] H')) := by
  have hal := tk_len htk
  obtain ⟨all, hall⟩ : ∃ all, all = t.f ++ t.l := ⟨_, rfl⟩
  rw [← hall] at hal
  refine Con.intro Try.func15 rfl rfl ?_
  refine AW.seq ?_
  refine AW.region ?_
  refine OpsW.q rfl (q_assign (v := .pointer _) rfl) ?_
  refine OpsW.q rfl (q_assign (v := .int _ _) rfl) ?_
  refine OpsW.nil ?_
  refine SeqP.go ?_
  refine AW.seq ?_
  refine AW.seq ?_
  refine AW.region ?_
  refine OpsW.q rfl (q_move (v := .pointer _) rfl) ?_
  refine OpsW.q rfl (q_eqlP Try.underlying32 rfl rfl) ?_
  refine OpsW.nil ?_
  refine SeqP.go ?_
  refine AW.cond rfl (fun h0 => ?_) (fun h0 => ?_)
  ·
    exfalso
    try simp only [decide_eq_true_eq, decide_eq_false_iff_not, Bool.or_eq_true, Bool.and_eq_true, Bool.or_eq_false_iff, Bool.and_eq_false_imp, Bool.not_eq_true', Bool.not_eq_false', ne_eq, Decidable.not_not, Int.not_lt, Int.not_le, Bool.not_eq_true, Bool.not_eq_false] at h0
    first | contradiction | (simp at *; done) | simp_all
  try simp only [decide_eq_true_eq, decide_eq_false_iff_not, Bool.or_eq_true, Bool.and_eq_true, Bool.or_eq_false_iff, Bool.and_eq_false_imp, Bool.not_eq_true', Bool.not_eq_false', ne_eq, Decidable.not_not, Int.not_lt, Int.not_le, Bool.not_eq_true, Bool.not_eq_false] at h0
  refine AW.skip ?_
  refine SeqP.go ?_
  refine AW.seq ?_
  by_cases hd : t.dd = true
  ·
    refine AW.region ?_
    refine OpsW.q rfl (q_move (v := .pointer _) rfl) ?_
    refine OpsW.q rfl (o_call rfl Try.func24 rfl rfl (Read_s hS0 at0 htk)) ?_
    rw [TREAD_dead hd]
    refine OpsW.q rfl (q_move (v := .tuple _) rfl) ?_
    refine OpsW.q rfl (q_extract (v := S _) rfl rfl) ?_
    refine OpsW.q rfl (q_extract (v := .int _ _) rfl rfl) ?_
    refine OpsW.q rfl (q_assign (v := S _) rfl) ?_
    refine OpsW.q rfl (q_assign (v := .int _ _) rfl) ?_
    refine OpsW.nil ?_
    refine SeqP.go ?_
    refine AW.seq ?_
    refine AW.seq ?_
    refine AW.region ?_
    refine OpsW.q rfl (q_move (v := .int _ _) rfl) ?_
    refine OpsW.q rfl (q_neq rfl rfl) ?_
    refine OpsW.nil ?_
    refine SeqP.go ?_
    refine AW.cond rfl (fun h1 => ?_) (fun h1 => ?_)
    ·
      try simp only [decide_eq_true_eq, decide_eq_false_iff_not, Bool.or_eq_true, Bool.and_eq_true, Bool.or_eq_false_iff, Bool.and_eq_false_imp, Bool.not_eq_true', Bool.not_eq_false', ne_eq, Decidable.not_not, Int.not_lt, Int.not_le, Bool.not_eq_true, Bool.not_eq_false] at h1
      refine AW.seq ?_
      refine AW.region ?_
      refine OpsW.q rfl (q_move (v := .int _ _) rfl) ?_
      refine OpsW.q rfl (q_assign (v := .pointer _) rfl) ?_
      refine OpsW.q rfl (q_assign (v := .int _ _) rfl) ?_
      refine OpsW.nil ?_
      refine SeqP.go ?_
      refine AW.ret ?_
      refine SeqP.ret ?_
      refine RetP.mk2 (H' := _) (v1 := .pointer _) (v2 := .int _ _) rfl rfl rfl  (Hp.le_refl _) ?_
      exact .inl ⟨by rw [openS_dead hd]; exact (by decide : ¬ (41 : Int) = 0), by rw [openS_dead hd], by rw [openS_dead hd]; exact hS0⟩
    exfalso
    try simp only [decide_eq_true_eq, decide_eq_false_iff_not, Bool.or_eq_true, Bool.and_eq_true, Bool.or_eq_false_iff, Bool.and_eq_false_imp, Bool.not_eq_true', Bool.not_eq_false', ne_eq, Decidable.not_not, Int.not_lt, Int.not_le, Bool.not_eq_true, Bool.not_eq_false] at h1
    simp at h1
  ·
    have hd2 : t.dd = false := by simpa using hd
    refine AW.region ?_
    refine OpsW.q rfl (q_move (v := .pointer _) rfl) ?_
    refine OpsW.q rfl (o_call rfl Try.func24 rfl rfl (Read_s hS0 at0 htk)) ?_
    rw [TREAD_ok hd2, ← hall]
    refine OpsW.q rfl (q_move (v := .tuple _) rfl) ?_
    refine OpsW.q rfl (q_extract (v := S _) rfl rfl) ?_
    refine OpsW.q rfl (q_extract (v := .int _ _) rfl rfl) ?_
    refine OpsW.q rfl (q_assign (v := S _) rfl) ?_
    refine OpsW.q rfl (q_assign (v := .int _ _) rfl) ?_
    refine OpsW.nil ?_
    refine SeqP.go ?_
    refine AW.seq ?_
    refine AW.seq ?_
    refine AW.region ?_
    refine OpsW.q rfl (q_move (v := .int _ _) rfl) ?_
    refine OpsW.q rfl (q_neq rfl rfl) ?_
    refine OpsW.nil ?_
    refine SeqP.go ?_
    refine AW.cond rfl (fun h1 => ?_) (fun h1 => ?_)
    ·
      exfalso
      try simp only [decide_eq_true_eq, decide_eq_false_iff_not, Bool.or_eq_true, Bool.and_eq_true, Bool.or_eq_false_iff, Bool.and_eq_false_imp, Bool.not_eq_true', Bool.not_eq_false', ne_eq, Decidable.not_not, Int.not_lt, Int.not_le, Bool.not_eq_true, Bool.not_eq_false] at h1
      simp at h1
    try simp only [decide_eq_true_eq, decide_eq_false_iff_not, Bool.or_eq_true, Bool.and_eq_true, Bool.or_eq_false_iff, Bool.and_eq_false_imp, Bool.not_eq_true', Bool.not_eq_false', ne_eq, Decidable.not_not, Int.not_lt, Int.not_le, Bool.not_eq_true, Bool.not_eq_false] at h1
    refine AW.skip ?_
    refine SeqP.go ?_
    refine AW.seq ?_
    refine AW.region ?_
    refine OpsW.q rfl (q_move (v := .pointer _) rfl) ?_
    refine OpsW.q rfl (o_call rfl Try.func38 rfl rfl (zero_con)) ?_
    refine OpsW.m rfl (s_makeMap hS0) ?_
    rintro _ H1 ⟨b22, rfl, hS1⟩
    clear hS0
    refine OpsW.q rfl (q_build (cells := #[.pointer (some ⟨tb, 0, none⟩), S z32, .map (some b22), .bool false]) rfl (by kernel_rfl)) ?_
    refine OpsW.m rfl (s_box (v := .agg _) hS1 rfl rfl) ?_
    rintro _ H2 ⟨b24, rfl, hS2⟩
    clear hS1
    replace hS2 := Sep.bring del1 (Sep.under hS2 fun hG => st_new hG)
    refine OpsW.q rfl (q_assign (v := .pointer _) rfl) ?_
    refine OpsW.nil ?_
    refine SeqP.go ?_
    refine AW.seq ?_
    refine AW.region ?_
    refine OpsW.q rfl (q_assign (v := .int _ _) rfl) ?_
    refine OpsW.nil ?_
    refine SeqP.go ?_
    refine AW.seq ?_
    refine AW.block ?_
    refine AW.loop (fun m_ e_ H_ => ∃ (a : Nat) (s : StS) (e0 : Env), m_ = all.length - a ∧ (StOk s.L ∧ a ≤ all.length ∧ s.L.length ≤ a ∧ a + (scanS s (all.drop a)).1 = (scanS st0 all).1 ∧ (scanS s (all.drop a)).2 = (scanS st0 all).2 ∧ s.h.length = 32) ∧ e_ = upds e0 [(0, .pointer (some ⟨tb, 0, none⟩)), (4, S all), (6, .pointer (some ⟨b24, 0, none⟩)), (7, .int .i64 (a : Int))] ∧ Sep H0 [.pred (stM b22 s.L), .blk b24 ⟨[.pointer (some ⟨tb, 0, none⟩), S s.h, .map (some b22), .bool false], 4, 85⟩, tapeC tb t] H_) _ ⟨0, st0, _, rfl, ⟨stok0, Nat.zero_le _, Nat.zero_le _, by rw [List.drop_zero, Nat.zero_add], by rw [List.drop_zero], rfl⟩, Slots.eq ⟨(by rfl), (by rfl), (by rfl), (by rfl),  trivial⟩, hS2⟩ ?_
    rintro m_ _ Hl0 ⟨a, s, e0, rfl, ⟨hI, hI2, hI3, hI4, hI5, hI7⟩, rfl, hSl0⟩
    try clear hS2
    have hI6 : s.L.length ≤ 1000000000 := by omega
    refine AW.block ?_
    refine AW.cut (fun e_ H_ => ∃ (b8 : Nat) (e0 : Env), (True) ∧ e_ = upds e0 [(0, .pointer (some ⟨tb, 0, none⟩)), (4, S all), (6, .pointer (some ⟨b24, 0, none⟩)), (7, .int .i64 (a : Int)), (8, .pointer (some ⟨b8, 0, none⟩)), (9, .bool (firstS (all.drop a) s.h).2)] ∧ Sep H0 [.blk b8 ⟨[S (firstS (all.drop a) s.h).1.body, .int .i64 (firstS (all.drop a) s.h).1.size, S (firstS (all.drop a) s.h).1.next], 3, 74⟩, .pred (stM b22 s.L), .blk b24 ⟨[.pointer (some ⟨tb, 0, none⟩), S s.h, .map (some b22), .bool false], 4, 85⟩, tapeC tb t] H_) ?_ ?_
    ·
      refine AW.steps rfl 14 rfl ?_
      refine AnyW.first 0 rfl (by kernel_rfl) (by kernel_rfl) (by kernel_rfl) rfl (dst_lt rfl) (v_move (v := S _) rfl) ?_
      refine AnyW.first 1 rfl (by kernel_rfl) (by kernel_rfl) (by kernel_rfl) rfl (dst_lt rfl) (v_move (v := .int _ _) rfl) ?_
      refine AnyW.first 2 rfl (by kernel_rfl) (by kernel_rfl) (by kernel_rfl) rfl (dst_lt rfl) (v_sliceS_lo Try.underlying9 rfl rfl (by omega) (by omega)) ?_
      rw [Int.toNat_natCast]
      refine AnyW.first 3 rfl (by kernel_rfl) (by kernel_rfl) (by kernel_rfl) rfl (dst_lt rfl) (v_move (v := .pointer _) rfl) ?_
      refine AnyW.first 4 rfl (by kernel_rfl) (by kernel_rfl) (by kernel_rfl) rfl (dst_lt rfl) (v_nilCheck rfl) ?_
      refine AnyW.first 5 rfl (by kernel_rfl) (by kernel_rfl) (by kernel_rfl) rfl (dst_lt rfl) (v_fieldAddr (sz := 0) Try.underlying85 rfl (by kernel_rfl) rfl) ?_
      refine AnyW.two 6 11 rfl rfl (by kernel_rfl) rfl rfl (dst_lt rfl) (dst_lt rfl) (q_load (v := S _) (by kernel_rfl) rfl (hSl0.blk at1) rfl) (s_alloc (z := .agg #[S [], .int .i64 0, S []]) (cs := [S [], .int .i64 0, S []]) hSl0 (by kernel_rfl) rfl) ?_ ?_
      ·
        rintro _ _ ⟨rfl, rfl⟩
        refine AnyW.two 7 11 rfl rfl (by kernel_rfl) rfl rfl (dst_lt rfl) (dst_lt rfl) (o_call rfl Try.func39 rfl rfl (firstS_con (by rw [List.length_drop]; omega) (by omega))) (s_alloc (z := .agg #[S [], .int .i64 0, S []]) (cs := [S [], .int .i64 0, S []]) hSl0 (by kernel_rfl) rfl) ?_ ?_
        ·
          rintro _ _ ⟨rfl, rfl⟩
          refine AnyW.first 8 rfl (by kernel_rfl) (by kernel_rfl) (by kernel_rfl) rfl (dst_lt rfl) (v_move (v := .tuple _) rfl) ?_
          refine AnyW.first 9 rfl (by kernel_rfl) (by kernel_rfl) (by kernel_rfl) rfl (dst_lt rfl) (v_extract (v := .agg _) rfl rfl) ?_
          refine AnyW.first 10 rfl (by kernel_rfl) (by kernel_rfl) (by kernel_rfl) rfl (dst_lt rfl) (v_extract (v := .bool _) rfl rfl) ?_
          refine AnyW.only 11 rfl (by kernel_rfl) rfl (dst_lt rfl) (s_alloc (z := .agg #[S [], .int .i64 0, S []]) (cs := [S [], .int .i64 0, S []]) hSl0 (by kernel_rfl) rfl) ?_
          rintro _ H3 ⟨b8, rfl, hS3⟩
          clear hSl0
          refine AnyW.only 12 rfl (by kernel_rfl) rfl rfl (s_storeS (n := 3) hS3 at0 (by kernel_rfl) rfl rfl rfl (ones_all rfl) rfl) ?_
          rintro _ H4 ⟨rfl, hS4⟩
          clear hS3
          refine AnyW.onlyQ 13 rfl (by kernel_rfl) rfl (dst_lt rfl) (q_assign (v := .bool _) rfl) ?_
          refine AnyW.done (by kernel_rfl) ?_
          exact CutP.go ⟨b8, _, trivial, Slots.eq ⟨(by rfl), (by rfl), (by rfl), (by rfl), (by rfl), (by rfl),  trivial⟩, hS4⟩
        ·
          rintro _ H5 ⟨b8, rfl, hS5⟩
          clear hSl0
          refine AnyW.onlyQ 7 rfl (by kernel_rfl) rfl (dst_lt rfl) (o_call rfl Try.func39 rfl rfl (firstS_con (by rw [List.length_drop]; omega) (by omega))) ?_
          refine AnyW.onlyQ 8 rfl (by kernel_rfl) rfl (dst_lt rfl) (q_move (v := .tuple _) rfl) ?_
          refine AnyW.first 9 rfl (by kernel_rfl) (by kernel_rfl) (by kernel_rfl) rfl (dst_lt rfl) (v_extract (v := .agg _) rfl rfl) ?_
          refine AnyW.first 10 rfl (by kernel_rfl) (by kernel_rfl) (by kernel_rfl) rfl (dst_lt rfl) (v_extract (v := .bool _) rfl rfl) ?_
          refine AnyW.only 12 rfl (by kernel_rfl) rfl rfl (s_storeS (n := 3) hS5 at0 (by kernel_rfl) rfl rfl rfl (ones_all rfl) rfl) ?_
          rintro _ H6 ⟨rfl, hS6⟩
          clear hS5
          refine AnyW.onlyQ 13 rfl (by kernel_rfl) rfl (dst_lt rfl) (q_assign (v := .bool _) rfl) ?_
          refine AnyW.done (by kernel_rfl) ?_
          exact CutP.go ⟨b8, _, trivial, Slots.eq ⟨(by rfl), (by rfl), (by rfl), (by rfl), (by rfl), (by rfl),  trivial⟩, hS6⟩
      ·
        rintro _ H7 ⟨b8, rfl, hS7⟩
        clear hSl0
        refine AnyW.onlyQ 6 rfl (by kernel_rfl) rfl (dst_lt rfl) (q_load (v := S _) (by kernel_rfl) rfl (hS7.blk at2) rfl) ?_
        refine AnyW.onlyQ 7 rfl (by kernel_rfl) rfl (dst_lt rfl) (o_call rfl Try.func39 rfl rfl (firstS_con (by rw [List.length_drop]; omega) (by omega))) ?_
        refine AnyW.onlyQ 8 rfl (by kernel_rfl) rfl (dst_lt rfl) (q_move (v := .tuple _) rfl) ?_
        refine AnyW.first 9 rfl (by kernel_rfl) (by kernel_rfl) (by kernel_rfl) rfl (dst_lt rfl) (v_extract (v := .agg _) rfl rfl) ?_
        refine AnyW.first 10 rfl (by kernel_rfl) (by kernel_rfl) (by kernel_rfl) rfl (dst_lt rfl) (v_extract (v := .bool _) rfl rfl) ?_
        refine AnyW.only 12 rfl (by kernel_rfl) rfl rfl (s_storeS (n := 3) hS7 at0 (by kernel_rfl) rfl rfl rfl (ones_all rfl) rfl) ?_
        rintro _ H8 ⟨rfl, hS8⟩
        clear hS7
        refine AnyW.onlyQ 13 rfl (by kernel_rfl) rfl (dst_lt rfl) (q_assign (v := .bool _) rfl) ?_
        refine AnyW.done (by kernel_rfl) ?_
        exact CutP.go ⟨b8, _, trivial, Slots.eq ⟨(by rfl), (by rfl), (by rfl), (by rfl), (by rfl), (by rfl),  trivial⟩, hS8⟩
    rintro _ Hc9 ⟨b8, _, _, rfl, hSc9⟩
    try clear hSl0
    refine AW.seq ?_
    refine AW.seq ?_
    by_cases hw : (firstS (all.drop a) s.h).2 = true
    ·
      rw [hw]
      have hfo := frOk_len (firstS_ok hw).1
      have hbd : 36 ≤ (firstS (all.drop a) s.h).1.body.length ∧ (firstS (all.drop a) s.h).1.body.length ≤ 1099511627776 := by rw [(firstS_ok hw).2.1]; dsimp only; omega
      refine AW.region ?_
      refine OpsW.q rfl (q_move (v := .bool _) rfl) ?_
      refine OpsW.q rfl (q_not rfl) ?_
      refine OpsW.q rfl (q_move (v := .bool false) rfl) ?_
      refine OpsW.qw rfl rfl (q_move (v := .pointer _) rfl) ?_
      refine OpsW.qw rfl rfl (q_loadA0 (n := 3) (by kernel_rfl) rfl (hSc9.blk at0) (by simp; done)) ?_
      replace hSc9 := Sep.bring del1 hSc9
      replace hSc9 := Sep.bring del2 hSc9
      obtain ⟨Hf10, le10, hA10, hL10, hB10⟩ := hSc9.part2
      refine OpsW.mw rfl rfl (o_call rfl Try.func44 rfl rfl (takeS_s (x := ⟨s, false⟩) hA10 hbd.1 hbd.2 hI6)) ?_
      rintro _ H10 ⟨rfl, hR10⟩
      have hS10 := hB10 _ _ hR10
      simp only [List.cons_append, List.nil_append] at hS10
      clear hR10 hB10 hA10
      clear hSc9
      refine OpsW.qw rfl rfl (q_not rfl) ?_
      refine OpsW.q rfl (q_or2 rfl rfl rfl) ?_
      refine OpsW.nil ?_
      refine SeqP.go ?_
      refine AW.cond rfl (fun h2 => ?_) (fun h2 => ?_)
      ·
        try simp only [decide_eq_true_eq, decide_eq_false_iff_not, Bool.or_eq_true, Bool.and_eq_true, Bool.or_eq_false_iff, Bool.and_eq_false_imp, Bool.not_eq_true', Bool.not_eq_false', ne_eq, Decidable.not_not, Int.not_lt, Int.not_le, Bool.not_eq_true, Bool.not_eq_false] at h2
        have htf : (takeS s (firstS (all.drop a) s.h).1.body (firstS (all.drop a) s.h).1.next).1 = false := by simpa using h2
        have hend : ¬ goesS s (all.drop a) := fun g => by have := g.2; rw [htf] at this; cases this
        refine AW.exit ?_
        refine SeqP.exit ?_
        refine BlockP.far rfl ?_
        refine LoopP.exit ?_
        rw [scanS_end hend] at hI4 hI5
        have hN1 : (scanS st0 all).1 = a := hI4.symm
        have hN2 : (scanS st0 all).2 = s := hI5.symm
        refine BlockP.here ?_
        refine SeqP.go ?_
        refine AW.seq ?_
        refine AW.seq ?_
        refine AW.region ?_
        refine OpsW.q rfl (q_move (v := .int _ _) rfl) ?_
        refine OpsW.q rfl (q_move (v := S _) rfl) ?_
        refine OpsW.q rfl (q_lenS Try.underlying9 rfl) ?_
        refine OpsW.q rfl (q_lss rfl rfl) ?_
        refine OpsW.nil ?_
        refine SeqP.go ?_
        refine AW.cond rfl (fun h3 => ?_) (fun h3 => ?_)
        ·
          try simp only [decide_eq_true_eq, decide_eq_false_iff_not, Bool.or_eq_true, Bool.and_eq_true, Bool.or_eq_false_iff, Bool.and_eq_false_imp, Bool.not_eq_true', Bool.not_eq_false', ne_eq, Decidable.not_not, Int.not_lt, Int.not_le, Bool.not_eq_true, Bool.not_eq_false] at h3
          have hoc : openS t = cutP t (a : Int) := by rw [openS_go hd2, openSC_cut (by rw [← hall, hN1]; omega), ← hall, hN1]
          refine AW.region ?_
          refine OpsW.q rfl (q_move (v := .pointer _) rfl) ?_
          refine OpsW.q rfl (q_move (v := .int _ _) rfl) ?_
          obtain ⟨Hf11, le11, hA11, hB11⟩ := hS10.framed at3
          refine OpsW.m rfl (o_call rfl Try.func45 rfl rfl (Cut_s hA11 htk _)) ?_
          rintro _ H11 ⟨rfl, hR11⟩
          have hS11 := hB11 _ _ hR11
          clear hR11 hB11 hA11
          clear hS10
          refine OpsW.q rfl (q_assign (v := .int _ _) rfl) ?_
          refine OpsW.nil ?_
          refine SeqP.go ?_
          refine AW.seq ?_
          refine AW.seq ?_
          refine AW.region ?_
          refine OpsW.q rfl (q_move (v := .int _ _) rfl) ?_
          refine OpsW.q rfl (q_neq rfl rfl) ?_
          refine OpsW.nil ?_
          refine SeqP.go ?_
          refine AW.cond rfl (fun h4 => ?_) (fun h4 => ?_)
          ·
            try simp only [decide_eq_true_eq, decide_eq_false_iff_not, Bool.or_eq_true, Bool.and_eq_true, Bool.or_eq_false_iff, Bool.and_eq_false_imp, Bool.not_eq_true', Bool.not_eq_false', ne_eq, Decidable.not_not, Int.not_lt, Int.not_le, Bool.not_eq_true, Bool.not_eq_false] at h4
            refine AW.seq ?_
            refine AW.region ?_
            refine OpsW.q rfl (q_move (v := .int _ _) rfl) ?_
            refine OpsW.q rfl (q_assign (v := .pointer _) rfl) ?_
            refine OpsW.q rfl (q_assign (v := .int _ _) rfl) ?_
            refine OpsW.nil ?_
            refine SeqP.go ?_
            refine AW.ret ?_
            refine SeqP.ret ?_
            refine RetP.mk2 (H' := _) (v1 := .pointer _) (v2 := .int _ _) rfl rfl rfl  (Hp.le_refl _) ?_
            exact .inl ⟨by rw [hoc]; simpa using h4, by rw [hoc], by rw [hoc]; exact hS11.tail.tail.tail⟩
          try simp only [decide_eq_true_eq, decide_eq_false_iff_not, Bool.or_eq_true, Bool.and_eq_true, Bool.or_eq_false_iff, Bool.and_eq_false_imp, Bool.not_eq_true', Bool.not_eq_false', ne_eq, Decidable.not_not, Int.not_lt, Int.not_le, Bool.not_eq_true, Bool.not_eq_false] at h4
          refine AW.skip ?_
          refine SeqP.go ?_
          refine AW.seq ?_
          refine AW.region ?_
          refine OpsW.q rfl (q_move (v := .pointer _) rfl) ?_
          refine OpsW.q rfl (q_assign (v := .pointer _) rfl) ?_
          refine OpsW.q rfl (q_assign (v := .int _ _) rfl) ?_
          refine OpsW.nil ?_
          refine SeqP.go ?_
          refine AW.ret ?_
          refine RetP.mk2 (H' := _) (v1 := .pointer _) (v2 := .int _ _) rfl rfl rfl  (Hp.le_refl _) ?_
          refine .inr ⟨by rw [hoc]; simpa using h4, b24, rfl, ?_⟩
          rw [hoc, hN2]
          rw [takeS_false htf] at hS11
          exact sto_close (hS11.del del2)
        try simp only [decide_eq_true_eq, decide_eq_false_iff_not, Bool.or_eq_true, Bool.and_eq_true, Bool.or_eq_false_iff, Bool.and_eq_false_imp, Bool.not_eq_true', Bool.not_eq_false', ne_eq, Decidable.not_not, Int.not_lt, Int.not_le, Bool.not_eq_true, Bool.not_eq_false] at h3
        have hoc : openS t = syncP t := by rw [openS_go hd2, openSC_sync (by rw [← hall, hN1]; omega)]
        refine AW.region ?_
        refine OpsW.q rfl (q_move (v := .pointer _) rfl) ?_
        obtain ⟨Hf12, le12, hA12, hB12⟩ := hS10.framed at3
        refine OpsW.m rfl (o_call rfl Try.func46 rfl rfl (Sync_s hA12 htk)) ?_
        rintro _ H12 ⟨rfl, hR12⟩
        have hS12 := hB12 _ _ hR12
        clear hR12 hB12 hA12
        clear hS10
        refine OpsW.q rfl (q_assign (v := .int _ _) rfl) ?_
        refine OpsW.nil ?_
        refine SeqP.go ?_
        refine AW.seq ?_
        refine AW.seq ?_
        refine AW.region ?_
        refine OpsW.q rfl (q_move (v := .int _ _) rfl) ?_
        refine OpsW.q rfl (q_neq rfl rfl) ?_
        refine OpsW.nil ?_
        refine SeqP.go ?_
        refine AW.cond rfl (fun h4 => ?_) (fun h4 => ?_)
        ·
          try simp only [decide_eq_true_eq, decide_eq_false_iff_not, Bool.or_eq_true, Bool.and_eq_true, Bool.or_eq_false_iff, Bool.and_eq_false_imp, Bool.not_eq_true', Bool.not_eq_false', ne_eq, Decidable.not_not, Int.not_lt, Int.not_le, Bool.not_eq_true, Bool.not_eq_false] at h4
          refine AW.seq ?_
          refine AW.region ?_
          refine OpsW.q rfl (q_move (v := .int _ _) rfl) ?_
          refine OpsW.q rfl (q_assign (v := .pointer _) rfl) ?_
          refine OpsW.q rfl (q_assign (v := .int _ _) rfl) ?_
          refine OpsW.nil ?_
          refine SeqP.go ?_
          refine AW.ret ?_
          refine SeqP.ret ?_
          refine RetP.mk2 (H' := _) (v1 := .pointer _) (v2 := .int _ _) rfl rfl rfl  (Hp.le_refl _) ?_
          exact .inl ⟨by rw [hoc]; simpa using h4, by rw [hoc], by rw [hoc]; exact hS12.tail.tail.tail⟩
        try simp only [decide_eq_true_eq, decide_eq_false_iff_not, Bool.or_eq_true, Bool.and_eq_true, Bool.or_eq_false_iff, Bool.and_eq_false_imp, Bool.not_eq_true', Bool.not_eq_false', ne_eq, Decidable.not_not, Int.not_lt, Int.not_le, Bool.not_eq_true, Bool.not_eq_false] at h4
        refine AW.skip ?_
        refine SeqP.go ?_
        refine AW.seq ?_
        refine AW.region ?_
        refine OpsW.q rfl (q_move (v := .pointer _) rfl) ?_
        refine OpsW.q rfl (q_assign (v := .pointer _) rfl) ?_
        refine OpsW.q rfl (q_assign (v := .int _ _) rfl) ?_
        refine OpsW.nil ?_
        refine SeqP.go ?_
        refine AW.ret ?_
        refine RetP.mk2 (H' := _) (v1 := .pointer _) (v2 := .int _ _) rfl rfl rfl  (Hp.le_refl _) ?_
        refine .inr ⟨by rw [hoc]; simpa using h4, b24, rfl, ?_⟩
        rw [hoc, hN2]
        rw [takeS_false htf] at hS12
        exact sto_close (hS12.del del2)
      try simp only [decide_eq_true_eq, decide_eq_false_iff_not, Bool.or_eq_true, Bool.and_eq_true, Bool.or_eq_false_iff, Bool.and_eq_false_imp, Bool.not_eq_true', Bool.not_eq_false', ne_eq, Decidable.not_not, Int.not_lt, Int.not_le, Bool.not_eq_true, Bool.not_eq_false] at h2
      have hgo : goesS s (all.drop a) := ⟨hw, by simpa using h2⟩
      have hgl := goes_len hgo
      rw [List.length_drop] at hgl
      have hsc := scanS_go hgo
      rw [hsc] at hI4 hI5
      rw [List.drop_drop] at hI4 hI5
      dsimp only at hI4 hI5
      have hok2 : StOk (nextS s (all.drop a)).L := takeS_ok hI _ _
      have hln2 : (nextS s (all.drop a)).L.length ≤ s.L.length + 1 := takeS_len s _ _
      have hhd2 : (nextS s (all.drop a)).h.length = 32 := nextS_head hgo
      refine AW.skip ?_
      refine SeqP.go ?_
      refine AW.region ?_
      refine OpsW.q rfl (q_move (v := .int _ _) rfl) ?_
      refine OpsW.q rfl (q_fieldAddr (sz := 0) Try.underlying74 rfl (by kernel_rfl) rfl) ?_
      refine OpsW.q rfl (q_load (v := .int _ _) (by kernel_rfl) rfl (hS10.blk at2) rfl) ?_
      refine OpsW.q rfl (q_addI rfl rfl (by omega)) ?_
      refine OpsW.q rfl (q_assign (v := .int _ _) rfl) ?_
      refine OpsW.nil ?_
      refine BlockP.go ?_
      replace hS10 := Sep.bring del3 hS10
      replace hS10 := Sep.bring del1 hS10
      replace hS10 := Sep.bring del2 hS10
      replace hS10 := hS10.del del3
      exact LoopP.go _ (by omega) ⟨a + stepS s (all.drop a), nextS s (all.drop a), _, rfl, ⟨hok2, by omega, by omega, by omega, hI5, hhd2⟩, Slots.eq ⟨(by rfl), (by rfl), (by rfl), (by show Value.int .i64 ((a : Int) + (firstS (all.drop a) s.h).1.size) = Value.int .i64 _; rw [hgl.2.2.1]; rfl),  trivial⟩, hS10⟩
    ·
      have hw2 : (firstS (all.drop a) s.h).2 = false := by simpa using hw
      rw [hw2]
      refine AW.region ?_
      refine OpsW.q rfl (q_move (v := .bool _) rfl) ?_
      refine OpsW.q rfl (q_not rfl) ?_
      refine OpsW.q rfl (q_move (v := .bool true) rfl) ?_
      refine OpsW.p rfl rfl ?_
      refine OpsW.p rfl rfl ?_
      refine OpsW.p rfl rfl ?_
      refine OpsW.p rfl rfl ?_
      refine OpsW.q rfl (q_or2 (B := false) rfl rfl rfl) ?_
      refine OpsW.nil ?_
      refine SeqP.go ?_
      refine AW.cond rfl (fun h2 => ?_) (fun h2 => ?_)
      ·
        try simp only [decide_eq_true_eq, decide_eq_false_iff_not, Bool.or_eq_true, Bool.and_eq_true, Bool.or_eq_false_iff, Bool.and_eq_false_imp, Bool.not_eq_true', Bool.not_eq_false', ne_eq, Decidable.not_not, Int.not_lt, Int.not_le, Bool.not_eq_true, Bool.not_eq_false] at h2
        have hend : ¬ goesS s (all.drop a) := fun g => hw g.1
        refine AW.exit ?_
        refine SeqP.exit ?_
        refine BlockP.far rfl ?_
        refine LoopP.exit ?_
        rw [scanS_end hend] at hI4 hI5
        have hN1 : (scanS st0 all).1 = a := hI4.symm
        have hN2 : (scanS st0 all).2 = s := hI5.symm
        refine BlockP.here ?_
        refine SeqP.go ?_
        refine AW.seq ?_
        refine AW.seq ?_
        refine AW.region ?_
        refine OpsW.q rfl (q_move (v := .int _ _) rfl) ?_
        refine OpsW.q rfl (q_move (v := S _) rfl) ?_
        refine OpsW.q rfl (q_lenS Try.underlying9 rfl) ?_
        refine OpsW.q rfl (q_lss rfl rfl) ?_
        refine OpsW.nil ?_
        refine SeqP.go ?_
        refine AW.cond rfl (fun h3 => ?_) (fun h3 => ?_)
        ·
          try simp only [decide_eq_true_eq, decide_eq_false_iff_not, Bool.or_eq_true, Bool.and_eq_true, Bool.or_eq_false_iff, Bool.and_eq_false_imp, Bool.not_eq_true', Bool.not_eq_false', ne_eq, Decidable.not_not, Int.not_lt, Int.not_le, Bool.not_eq_true, Bool.not_eq_false] at h3
          have hoc : openS t = cutP t (a : Int) := by rw [openS_go hd2, openSC_cut (by rw [← hall, hN1]; omega), ← hall, hN1]
          refine AW.region ?_
          refine OpsW.q rfl (q_move (v := .pointer _) rfl) ?_
          refine OpsW.q rfl (q_move (v := .int _ _) rfl) ?_
          obtain ⟨Hf13, le13, hA13, hB13⟩ := hSc9.framed at3
          refine OpsW.m rfl (o_call rfl Try.func45 rfl rfl (Cut_s hA13 htk _)) ?_
          rintro _ H13 ⟨rfl, hR13⟩
          have hS13 := hB13 _ _ hR13
          clear hR13 hB13 hA13
          clear hSc9
          refine OpsW.q rfl (q_assign (v := .int _ _) rfl) ?_
          refine OpsW.nil ?_
          refine SeqP.go ?_
          refine AW.seq ?_
          refine AW.seq ?_
          refine AW.region ?_
          refine OpsW.q rfl (q_move (v := .int _ _) rfl) ?_
          refine OpsW.q rfl (q_neq rfl rfl) ?_
          refine OpsW.nil ?_
          refine SeqP.go ?_
          refine AW.cond rfl (fun h4 => ?_) (fun h4 => ?_)
          ·
            try simp only [decide_eq_true_eq, decide_eq_false_iff_not, Bool.or_eq_true, Bool.and_eq_true, Bool.or_eq_false_iff, Bool.and_eq_false_imp, Bool.not_eq_true', Bool.not_eq_false', ne_eq, Decidable.not_not, Int.not_lt, Int.not_le, Bool.not_eq_true, Bool.not_eq_false] at h4
            refine AW.seq ?_
            refine AW.region ?_
            refine OpsW.q rfl (q_move (v := .int _ _) rfl) ?_
            refine OpsW.q rfl (q_assign (v := .pointer _) rfl) ?_
            refine OpsW.q rfl (q_assign (v := .int _ _) rfl) ?_
            refine OpsW.nil ?_
            refine SeqP.go ?_
            refine AW.ret ?_
            refine SeqP.ret ?_
            refine RetP.mk2 (H' := _) (v1 := .pointer _) (v2 := .int _ _) rfl rfl rfl  (Hp.le_refl _) ?_
            exact .inl ⟨by rw [hoc]; simpa using h4, by rw [hoc], by rw [hoc]; exact hS13.tail.tail.tail⟩
          try simp only [decide_eq_true_eq, decide_eq_false_iff_not, Bool.or_eq_true, Bool.and_eq_true, Bool.or_eq_false_iff, Bool.and_eq_false_imp, Bool.not_eq_true', Bool.not_eq_false', ne_eq, Decidable.not_not, Int.not_lt, Int.not_le, Bool.not_eq_true, Bool.not_eq_false] at h4
          refine AW.skip ?_
          refine SeqP.go ?_
          refine AW.seq ?_
          refine AW.region ?_
          refine OpsW.q rfl (q_move (v := .pointer _) rfl) ?_
          refine OpsW.q rfl (q_assign (v := .pointer _) rfl) ?_
          refine OpsW.q rfl (q_assign (v := .int _ _) rfl) ?_
          refine OpsW.nil ?_
          refine SeqP.go ?_
          refine AW.ret ?_
          refine RetP.mk2 (H' := _) (v1 := .pointer _) (v2 := .int _ _) rfl rfl rfl  (Hp.le_refl _) ?_
          refine .inr ⟨by rw [hoc]; simpa using h4, b24, rfl, ?_⟩
          rw [hoc, hN2]
          exact sto_close (Sep.bring del1 hS13.tail)
        try simp only [decide_eq_true_eq, decide_eq_false_iff_not, Bool.or_eq_true, Bool.and_eq_true, Bool.or_eq_false_iff, Bool.and_eq_false_imp, Bool.not_eq_true', Bool.not_eq_false', ne_eq, Decidable.not_not, Int.not_lt, Int.not_le, Bool.not_eq_true, Bool.not_eq_false] at h3
        have hoc : openS t = syncP t := by rw [openS_go hd2, openSC_sync (by rw [← hall, hN1]; omega)]
        refine AW.region ?_
        refine OpsW.q rfl (q_move (v := .pointer _) rfl) ?_
        obtain ⟨Hf14, le14, hA14, hB14⟩ := hSc9.framed at3
        refine OpsW.m rfl (o_call rfl Try.func46 rfl rfl (Sync_s hA14 htk)) ?_
        rintro _ H14 ⟨rfl, hR14⟩
        have hS14 := hB14 _ _ hR14
        clear hR14 hB14 hA14
        clear hSc9
        refine OpsW.q rfl (q_assign (v := .int _ _) rfl) ?_
        refine OpsW.nil ?_
        refine SeqP.go ?_
        refine AW.seq ?_
        refine AW.seq ?_
        refine AW.region ?_
        refine OpsW.q rfl (q_move (v := .int _ _) rfl) ?_
        refine OpsW.q rfl (q_neq rfl rfl) ?_
        refine OpsW.nil ?_
        refine SeqP.go ?_
        refine AW.cond rfl (fun h4 => ?_) (fun h4 => ?_)
        ·
          try simp only [decide_eq_true_eq, decide_eq_false_iff_not, Bool.or_eq_true, Bool.and_eq_true, Bool.or_eq_false_iff, Bool.and_eq_false_imp, Bool.not_eq_true', Bool.not_eq_false', ne_eq, Decidable.not_not, Int.not_lt, Int.not_le, Bool.not_eq_true, Bool.not_eq_false] at h4
          refine AW.seq ?_
          refine AW.region ?_
          refine OpsW.q rfl (q_move (v := .int _ _) rfl) ?_
          refine OpsW.q rfl (q_assign (v := .pointer _) rfl) ?_
          refine OpsW.q rfl (q_assign (v := .int _ _) rfl) ?_
          refine OpsW.nil ?_
          refine SeqP.go ?_
          refine AW.ret ?_
          refine SeqP.ret ?_
          refine RetP.mk2 (H' := _) (v1 := .pointer _) (v2 := .int _ _) rfl rfl rfl  (Hp.le_refl _) ?_
          exact .inl ⟨by rw [hoc]; simpa using h4, by rw [hoc], by rw [hoc]; exact hS14.tail.tail.tail⟩
        try simp only [decide_eq_true_eq, decide_eq_false_iff_not, Bool.or_eq_true, Bool.and_eq_true, Bool.or_eq_false_iff, Bool.and_eq_false_imp, Bool.not_eq_true', Bool.not_eq_false', ne_eq, Decidable.not_not, Int.not_lt, Int.not_le, Bool.not_eq_true, Bool.not_eq_false] at h4
        refine AW.skip ?_
        refine SeqP.go ?_
        refine AW.seq ?_
        refine AW.region ?_
        refine OpsW.q rfl (q_move (v := .pointer _) rfl) ?_
        refine OpsW.q rfl (q_assign (v := .pointer _) rfl) ?_
        refine OpsW.q rfl (q_assign (v := .int _ _) rfl) ?_
        refine OpsW.nil ?_
        refine SeqP.go ?_
        refine AW.ret ?_
        refine RetP.mk2 (H' := _) (v1 := .pointer _) (v2 := .int _ _) rfl rfl rfl  (Hp.le_refl _) ?_
        refine .inr ⟨by rw [hoc]; simpa using h4, b24, rfl, ?_⟩
        rw [hoc, hN2]
        exact sto_close (Sep.bring del1 hS14.tail)
      exfalso
      try simp only [decide_eq_true_eq, decide_eq_false_iff_not, Bool.or_eq_true, Bool.and_eq_true, Bool.or_eq_false_iff, Bool.and_eq_false_imp, Bool.not_eq_true', Bool.not_eq_false', ne_eq, Decidable.not_not, Int.not_lt, Int.not_le, Bool.not_eq_true, Bool.not_eq_false] at h2
      simp at h2
end
end Go.Proofs.Ytfiojlmccflplaa
end
section
namespace Go.Proofs.Ytfiojlmccflplaa
open Go Go.RowKit D
set_option linter.unusedVariables false
set_option linter.unusedSimpArgs false
set_option maxRecDepth 100000
set_option maxHeartbeats 2000000
section
variable {w0 : World} {H : Hp} {H0 : Hp}
theorem Verify_con {data head : List UInt8} (hm : data.length ≤ 1000000000) : Con Try.prog w0 10 #[S data, S head] H (fun v H' => v = .tuple #[.int .i64 (verS data z32 head).1, .int .i64 (verS data z32 head).2] ∧ H' = H) := by
  have hS0 : Sep H [] H := Sep.refl
  refine Con.intro Try.func10 rfl rfl ?_
  refine AW.seq ?_
  refine AW.region ?_
  refine OpsW.q rfl (q_assign (v := .int _ _) rfl) ?_
  refine OpsW.q rfl (q_assign (v := .int _ _) rfl) ?_
  refine OpsW.nil ?_
  refine SeqP.go ?_
  refine AW.seq ?_
  refine AW.region ?_
  refine OpsW.q rfl (q_assign (v := .int _ _) rfl) ?_
  refine OpsW.nil ?_
  refine SeqP.go ?_
  refine AW.seq ?_
  refine AW.seq ?_
  refine AW.region ?_
  refine OpsW.q rfl (o_call rfl Try.func38 rfl rfl (zero_con)) ?_
  refine OpsW.q rfl (q_assign (v := S _) rfl) ?_
  refine OpsW.nil ?_
  refine SeqP.go ?_
  refine AW.block ?_
  refine AW.loop (fun m_ e_ H_ => ∃ (a : Nat) (h : List UInt8) (e0 : Env), m_ = data.length - a ∧ (a ≤ data.length ∧ h.length = 32 ∧ (verS data z32 head).1 = (a : Int) + (verS (data.drop a) h head).1 ∧ (verS data z32 head).2 = (verS (data.drop a) h head).2) ∧ e_ = upds e0 [(0, S data), (1, S head), (6, .int .i64 (a : Int)), (7, S h)] ∧ Sep H [] H_) _ ⟨0, z32, _, rfl, ⟨Nat.zero_le _, rfl, by rw [List.drop_zero]; simp, by rw [List.drop_zero]⟩, Slots.eq ⟨(by rfl), (by rfl), (by rfl), (by rfl),  trivial⟩, hS0⟩ ?_
  rintro m_ _ Hl0 ⟨a, h, e0, rfl, ⟨ha, hh, hv1, hv2⟩, rfl, hSl0⟩
  try clear hS0
  refine AW.seq ?_
  refine AW.seq ?_
  refine AW.region ?_
  refine OpsW.q rfl (q_move (v := S _) rfl) ?_
  refine OpsW.q rfl (q_move (v := S _) rfl) ?_
  refine OpsW.q rfl (q_neS rfl rfl) ?_
  refine OpsW.nil ?_
  refine SeqP.go ?_
  refine AW.cond2 rfl (fun h0 => ?_) (fun h0 => ?_)
  ·
    try simp only [decide_eq_true_eq, decide_eq_false_iff_not, Bool.or_eq_true, Bool.and_eq_true, Bool.or_eq_false_iff, Bool.and_eq_false_imp, Bool.not_eq_true', Bool.not_eq_false', ne_eq, Decidable.not_not, Int.not_lt, Int.not_le, Bool.not_eq_true, Bool.not_eq_false] at h0
    refine AW.exit ?_
    refine SeqP.exit ?_
    refine LoopP.exit ?_
    have hvh : verS (data.drop a) h head = (0, 0) := verS_here (by first | exact h0 | simpa using h0)
    rw [hvh] at hv1 hv2
    rw [hv1, hv2]
    refine BlockP.here ?_
    refine SeqP.go ?_
    refine AW.seq ?_
    refine AW.region ?_
    refine OpsW.q rfl (q_move (v := .int _ _) rfl) ?_
    refine OpsW.q rfl (q_assign (v := .int _ _) rfl) ?_
    refine OpsW.q rfl (q_assign (v := .int _ _) rfl) ?_
    refine OpsW.nil ?_
    refine SeqP.go ?_
    refine AW.ret ?_
    refine RetP.mk2 (H' := H) (v1 := .int _ _) (v2 := .int _ _) rfl rfl rfl  hSl0.le ?_
    exact ⟨by simp, rfl⟩
  try simp only [decide_eq_true_eq, decide_eq_false_iff_not, Bool.or_eq_true, Bool.and_eq_true, Bool.or_eq_false_iff, Bool.and_eq_false_imp, Bool.not_eq_true', Bool.not_eq_false', ne_eq, Decidable.not_not, Int.not_lt, Int.not_le, Bool.not_eq_true, Bool.not_eq_false] at h0
  refine AW.skip ?_
  refine SeqP.go ?_
  refine AW.block ?_
  refine AW.seq ?_
  refine AW.seq ?_
  refine AW.region ?_
  refine OpsW.q rfl (q_move (v := .int _ _) rfl) ?_
  refine OpsW.q rfl (q_move (v := S _) rfl) ?_
  refine OpsW.q rfl (q_lenS Try.underlying9 rfl) ?_
  refine OpsW.q rfl (q_eql rfl rfl) ?_
  refine OpsW.nil ?_
  refine SeqP.go ?_
  refine AW.cond rfl (fun h1 => ?_) (fun h1 => ?_)
  ·
    try simp only [decide_eq_true_eq, decide_eq_false_iff_not, Bool.or_eq_true, Bool.and_eq_true, Bool.or_eq_false_iff, Bool.and_eq_false_imp, Bool.not_eq_true', Bool.not_eq_false', ne_eq, Decidable.not_not, Int.not_lt, Int.not_le, Bool.not_eq_true, Bool.not_eq_false] at h1
    have hdn : data.drop a = [] := List.drop_eq_nil_of_le (by omega)
    rw [verS_none h0 hdn] at hv1 hv2
    rw [hv1, hv2]
    refine AW.seq ?_
    refine AW.region ?_
    refine OpsW.q rfl (q_move (v := .int _ _) rfl) ?_
    refine OpsW.q rfl (q_assign (v := .int _ _) rfl) ?_
    refine OpsW.q rfl (q_assign (v := .int _ _) rfl) ?_
    refine OpsW.nil ?_
    refine SeqP.go ?_
    refine AW.ret ?_
    refine SeqP.ret ?_
    refine BlockP.ret ?_
    refine LoopP.ret ?_
    refine BlockP.ret ?_
    refine SeqP.ret ?_
    refine RetP.mk2 (H' := H) (v1 := .int _ _) (v2 := .int _ _) rfl rfl rfl  hSl0.le ?_
    exact ⟨by simp, rfl⟩
  try simp only [decide_eq_true_eq, decide_eq_false_iff_not, Bool.or_eq_true, Bool.and_eq_true, Bool.or_eq_false_iff, Bool.and_eq_false_imp, Bool.not_eq_true', Bool.not_eq_false', ne_eq, Decidable.not_not, Int.not_lt, Int.not_le, Bool.not_eq_true, Bool.not_eq_false] at h1
  have hdn : ¬ data.drop a = [] := fun e => by have := congrArg List.length e; rw [List.length_drop] at this; simp at this; omega
  refine AW.skip ?_
  refine SeqP.go ?_
  refine AW.seq ?_
  refine AW.region ?_
  refine OpsW.q rfl (q_move (v := S _) rfl) ?_
  refine OpsW.q rfl (q_move (v := .int _ _) rfl) ?_
  refine OpsW.q rfl (q_sliceS_lo Try.underlying9 rfl rfl (by omega) (by omega)) ?_
  rw [Int.toNat_natCast]
  refine OpsW.q rfl (q_move (v := S _) rfl) ?_
  refine OpsW.q rfl (o_call rfl Try.func39 rfl rfl (firstS_con (by rw [List.length_drop]; omega) (by omega))) ?_
  refine OpsW.q rfl (q_move (v := .tuple _) rfl) ?_
  refine OpsW.q rfl (q_extract (v := .agg _) rfl rfl) ?_
  refine OpsW.q rfl (q_extract (v := .bool _) rfl rfl) ?_
  refine OpsW.m rfl (s_alloc (z := .agg #[S [], .int .i64 0, S []]) (cs := [S [], .int .i64 0, S []]) hSl0 (by kernel_rfl) rfl) ?_
  rintro _ H1 ⟨b8, rfl, hS1⟩
  clear hSl0
  refine OpsW.ms (s_storeS (n := 3) hS1 at0 (by kernel_rfl) rfl rfl rfl (ones_all rfl) rfl) ?_
  rintro _ H2 ⟨rfl, hS2⟩
  clear hS1
  refine OpsW.q rfl (q_assign (v := .bool _) rfl) ?_
  refine OpsW.nil ?_
  refine SeqP.go ?_
  refine AW.seq ?_
  refine AW.seq ?_
  refine AW.region ?_
  refine OpsW.q rfl (q_move (v := .bool _) rfl) ?_
  refine OpsW.q rfl (q_not rfl) ?_
  refine OpsW.nil ?_
  refine SeqP.go ?_
  refine AW.cond rfl (fun h2 => ?_) (fun h2 => ?_)
  ·
    try simp only [decide_eq_true_eq, decide_eq_false_iff_not, Bool.or_eq_true, Bool.and_eq_true, Bool.or_eq_false_iff, Bool.and_eq_false_imp, Bool.not_eq_true', Bool.not_eq_false', ne_eq, Decidable.not_not, Int.not_lt, Int.not_le, Bool.not_eq_true, Bool.not_eq_false] at h2
    have hf : (firstS (data.drop a) h).2 = false := by simp_all
    rw [verS_chain h0 hdn hf] at hv1 hv2
    rw [hv1, hv2]
    refine AW.seq ?_
    refine AW.region ?_
    refine OpsW.q rfl (q_move (v := .int _ _) rfl) ?_
    refine OpsW.q rfl (q_assign (v := .int _ _) rfl) ?_
    refine OpsW.q rfl (q_assign (v := .int _ _) rfl) ?_
    refine OpsW.nil ?_
    refine SeqP.go ?_
    refine AW.ret ?_
    refine SeqP.ret ?_
    refine BlockP.ret ?_
    refine LoopP.ret ?_
    refine BlockP.ret ?_
    refine SeqP.ret ?_
    refine RetP.mk2 (H' := H) (v1 := .int _ _) (v2 := .int _ _) rfl rfl rfl  hS2.le ?_
    exact ⟨by simp, rfl⟩
  try simp only [decide_eq_true_eq, decide_eq_false_iff_not, Bool.or_eq_true, Bool.and_eq_true, Bool.or_eq_false_iff, Bool.and_eq_false_imp, Bool.not_eq_true', Bool.not_eq_false', ne_eq, Decidable.not_not, Int.not_lt, Int.not_le, Bool.not_eq_true, Bool.not_eq_false] at h2
  have hf : (firstS (data.drop a) h).2 = true := by simp_all
  have hgo := verS_go h0 hdn hf
  have hsz := ver_size hf
  rw [List.length_drop] at hsz
  refine AW.skip ?_
  refine SeqP.go ?_
  refine AW.seq ?_
  refine AW.region ?_
  refine OpsW.q rfl (q_fieldAddr (sz := 0) Try.underlying74 rfl (by kernel_rfl) rfl) ?_
  refine OpsW.q rfl (q_load (v := S _) (by kernel_rfl) rfl (hS2.blk at0) rfl) ?_
  refine OpsW.q rfl (q_assign (v := S _) rfl) ?_
  refine OpsW.nil ?_
  refine SeqP.go ?_
  refine AW.region ?_
  refine OpsW.q rfl (q_move (v := .int _ _) rfl) ?_
  refine OpsW.q rfl (q_fieldAddr (sz := 0) Try.underlying74 rfl (by kernel_rfl) rfl) ?_
  refine OpsW.q rfl (q_load (v := .int _ _) (by kernel_rfl) rfl (hS2.blk at0) rfl) ?_
  refine OpsW.q rfl (q_addI rfl rfl (by omega)) ?_
  refine OpsW.q rfl (q_assign (v := .int _ _) rfl) ?_
  refine OpsW.nil ?_
  refine BlockP.go ?_
  replace hS2 := hS2.del del0
  exact LoopP.go _ (by omega) ⟨a + (firstS (data.drop a) h).1.size.toNat, (firstS (data.drop a) h).1.next, _, rfl, ⟨by omega, hsz.2.2.2, by rw [hv1, hgo]; dsimp only; rw [List.drop_drop]; omega, by rw [hv2, hgo]; dsimp only; rw [List.drop_drop]⟩, Slots.eq ⟨(by rfl), (by rfl), (by show Value.int .i64 ((a : Int) + (firstS (data.drop a) h).1.size) = Value.int .i64 _; rw [hsz.2.2.1]; rfl), (by rfl),  trivial⟩, hS2⟩
end
end Go.Proofs.Ytfiojlmccflplaa
end
section
namespace Go.Proofs.Ytfiojlmccflplaa
open Go Go.RowKit D
set_option linter.unusedVariables false
set_option linter.unusedSimpArgs false
def Inv (s : TapeS) (r : RefS) : Prop := Sim s r ∧ TapeOk s ∧ r.ar ≤ 9223372036854775807
theorem Inv.len {s : TapeS} {r : RefS} (h : Inv s r) : (r.t.length : Int) = ((s.f.length + s.l.length : Nat) : Int) := by rw [h.1.t, List.length_append]
end Go.Proofs.Ytfiojlmccflplaa
end
section
namespace Go.Proofs.Ytfiojlmccflplaa
open Go Go.RowKit D
set_option linter.unusedVariables false
set_option linter.unusedSimpArgs false
set_option maxRecDepth 100000
set_option maxHeartbeats 1000000
section
variable {w0 : World} {H : Hp} {H0 : Hp} {b : Nat} {r : RefS}
theorem New_s (n : Int) : Con Try.prog w0 14 #[.int .i64 n] H (fun v H' => ((n < 1 ∨ 16777216 < n) ∧ v = .tuple #[.pointer none, .int .i64 1] ∧ H' = H) ∨ ((1 ≤ n ∧ n ≤ 16777216) ∧ ∃ b, v = .tuple #[PT b, .int .i64 0] ∧ Sep H [tapeC b (tape0 n)] H')) := by
  have hS0 : Sep H [] H := Sep.refl
  refine Con.intro Try.func14 rfl rfl ?_
  refine AW.seq ?_
  refine AW.region ?_
  refine OpsW.q rfl (q_assign (v := .pointer _) rfl) ?_
  refine OpsW.q rfl (q_assign (v := .int _ _) rfl) ?_
  refine OpsW.nil ?_
  refine SeqP.go ?_
  refine AW.seq ?_
  refine AW.seq ?_
  refine AW.region ?_
  refine OpsW.q rfl (q_move (v := .int _ _) rfl) ?_
  refine OpsW.q rfl (q_lss rfl rfl) ?_
  refine OpsW.qb rfl (q_move (v := .bool _) rfl) ?_
  intro b6 eb6
  refine OpsW.g rfl rfl rfl (fun hB => by simp only [Bool.and_eq_true, beq_iff_eq] at hB; obtain rfl := hB; exact (q_move (v := .int _ _) rfl)) ?_
  refine OpsW.g rfl rfl rfl (fun hB => by simp only [Bool.and_eq_true, beq_iff_eq] at hB; obtain rfl := hB; exact (q_gtr rfl rfl)) ?_
  refine OpsW.q rfl (q_or2 rfl rfl rfl) ?_
  refine OpsW.nil ?_
  refine SeqP.go ?_
  refine AW.cond rfl (fun h0 => ?_) (fun h0 => ?_)
  ·
    try simp only [eb6, decide_eq_true_eq, decide_eq_false_iff_not, Bool.or_eq_true, Bool.and_eq_true, Bool.or_eq_false_iff, Bool.and_eq_false_imp, Bool.not_eq_true', Bool.not_eq_false', ne_eq, Decidable.not_not, Int.not_lt, Int.not_le, Bool.not_eq_true, Bool.not_eq_false] at h0
    have hbad : n < 1 ∨ 16777216 < n := by simp_all <;> omega
    refine AW.seq ?_
    refine AW.region ?_
    refine OpsW.q rfl (q_assign (v := .pointer _) rfl) ?_
    refine OpsW.q rfl (q_assign (v := .int _ _) rfl) ?_
    refine OpsW.nil ?_
    refine SeqP.go ?_
    refine AW.ret ?_
    refine SeqP.ret ?_
    refine RetP.mk2 (H' := H) (v1 := .pointer _) (v2 := .int _ _) rfl rfl rfl  (Hp.le_refl _) ?_
    exact .inl ⟨hbad, rfl, rfl⟩
  try simp only [eb6, decide_eq_true_eq, decide_eq_false_iff_not, Bool.or_eq_true, Bool.and_eq_true, Bool.or_eq_false_iff, Bool.and_eq_false_imp, Bool.not_eq_true', Bool.not_eq_false', ne_eq, Decidable.not_not, Int.not_lt, Int.not_le, Bool.not_eq_true, Bool.not_eq_false] at h0
  have hin : 1 ≤ n ∧ n ≤ 16777216 := by simp_all <;> omega
  refine AW.skip ?_
  refine SeqP.go ?_
  refine AW.seq ?_
  refine AW.region ?_
  refine OpsW.q rfl (q_move (v := .int _ _) rfl) ?_
  refine OpsW.q rfl (q_build (cells := #[.int .i64 n, nilV, nilV, .int .i64 0, .bool false]) rfl (by kernel_rfl)) ?_
  refine OpsW.m rfl (s_box (v := .agg _) hS0 rfl rfl) ?_
  rintro _ H1 ⟨b12, rfl, hS1⟩
  clear hS0
  refine OpsW.q rfl (q_assign (v := .pointer _) rfl) ?_
  refine OpsW.q rfl (q_assign (v := .int _ _) rfl) ?_
  refine OpsW.nil ?_
  refine SeqP.go ?_
  refine AW.ret ?_
  refine RetP.mk2 (H' := H1) (v1 := .pointer _) (v2 := .int _ _) rfl rfl rfl  (Hp.le_refl _) ?_
  exact .inr ⟨hin, b12, rfl, tape_new hS1⟩
end
end Go.Proofs.Ytfiojlmccflplaa
end
section
namespace Go.Proofs.Ytfiojlmccflplaa
open Go Go.RowKit D
set_option linter.unusedVariables false
set_option linter.unusedSimpArgs false
set_option maxRecDepth 100000
set_option maxHeartbeats 2000000
section
variable {w0 : World} {H : Hp} {H0 : Hp}
theorem New_e {n : Int} (h : 1 ≤ n ∧ n ≤ 16777216) : Con Try.prog w0 14 #[.int .i64 n] H (fun v H' => ∃ b, v = .tuple #[PT b, .int .i64 0] ∧ Sep H [tapeC b ⟨n, [], [], 0, false⟩] H') :=
  (New_s n).mono fun _ _ h1 => h1.elim (fun h2 => absurd h2.1 (by omega)) (fun h2 => h2.2)
section
variable {L : List Chunk} {F : Chunk → List Chunk} {b tb : Nat} {x x' : StF} {t t' : TapeS} {st : StS} {who d : List UInt8} {n e : Int}
theorem Add_c (h : Sep H0 [stC b tb x t] H) (hok : StOk x.st.L) (htk : TapeOk t) (hl : x.st.L.length ≤ 1000000) (hh : x.st.h.length = 32) : Con Try.prog w0 17 #[PT b, S who, .agg #[.int .i64 n, S d]] H (fun v H' => v = .int .i64 (addS t x who n d).1 ∧ Sep H0 [stC b tb (addS t x who n d).2.1 (addS t x who n d).2.2] H') := by
  obtain ⟨mb, h1⟩ := sto_open h
  exact (Add_w h1 hok htk hl hh).mono fun _ _ ⟨h2, h3⟩ => ⟨h2, sto_close h3⟩
theorem Add_e (h : Sep H0 [stC b tb x t] H) (hok : StOk x.st.L) (htk : TapeOk t) (hl : x.st.L.length ≤ 1000000) (hh : x.st.h.length = 32) (he : addS t x who n d = (e, x', t')) : Con Try.prog w0 17 #[PT b, S who, .agg #[.int .i64 n, S d]] H (fun v H' => v = .int .i64 e ∧ Sep H0 [stC b tb x' t'] H') := by
  have := Add_c (w0 := w0) (who := who) (n := n) (d := d) h hok htk hl hh; rw [he] at this; exact this
theorem Open_e (h : Sep H0 [tapeC tb t] H) (htk : TapeOk t) (he : openS t = (0, t')) (hs : (scanS st0 (t.f ++ t.l)).2 = st) : Con Try.prog w0 15 #[PT tb] H (fun v H' => ∃ b, v = .tuple #[PT b, .int .i64 0] ∧ Sep H0 [stC b tb ⟨st, false⟩ t'] H') :=
  (OpenS_w h htk).mono fun _ _ h1 => h1.elim (fun h2 => absurd (by rw [he]) h2.1) (fun ⟨_, b, h2, h3⟩ => ⟨b, h2, by rw [he, hs] at h3; exact h3⟩)
theorem Of_c (h : Sep H0 L H) (hA : At L (stC b tb x t) F) (hl : x.st.L.length ≤ 1000000000) : Con Try.prog w0 19 #[PT b, S who] H (fun v H' => Sep H [recV v (ofP x.st.L who)] H') := by
  obtain ⟨mb, vs, h1, h2, h3⟩ := sto_look h hA who
  exact Of_con h1 h2 h3 hl
theorem Mark_c (h : Sep H0 L H) (hA : At L (stC b tb x t) F) : Con Try.prog w0 18 #[PT b, S who] H (fun v H' => v = .int .i64 (mkP x.st.L who) ∧ H' = H) := by
  obtain ⟨mb, vs, h1, h2, h3⟩ := sto_look h hA who
  exact Mark_con h1 h2 h3
theorem Head_c (h : Sep H0 L H) (hA : At L (stC b tb x t) F) : Con Try.prog w0 20 #[PT b] H (fun v H' => v = S x.st.h ∧ H' = H) := by
  obtain ⟨mb, vs, h1, h2, h3⟩ := sto_look h hA []
  exact Head_con h1
theorem Arm_c (h : Sep H0 [stC b tb x t] H) : Con Try.prog w0 21 #[PT tb, .int .i64 n] H (fun v H' => v = .tuple #[] ∧ Sep H0 [stC b tb x (armP t n)] H') := by
  obtain ⟨mb, h1⟩ := sto_open h
  obtain ⟨Hf, _, hA, hB⟩ := h1.framed at2
  exact (Arm_s hA n).mono fun _ _ ⟨h2, h3⟩ => ⟨h2, sto_close (hB _ _ h3)⟩
end
/-- One of some senders. -/
def sndB (n : Int) : List UInt8 := toB [IntKind.u8.wrap n] ++ List.replicate 31 0
theorem sndB_len (n : Int) : (sndB n).length = 32 := by simp [sndB, toB]
theorem aw_bad {n seq : Int} {d : List UInt8} (h1 : 1 ≤ seq) (h2 : d ≠ []) (h3 : d.length ≤ 8192) : ¬ addBad (sndB n) seq d := by
  unfold addBad
  rintro (h | h | h | h)
  · exact h (sndB_len n)
  · omega
  · exact h2 h
  · omega
theorem mkP_nil (who : List UInt8) : mkP [] who = 0 := by unfold mkP; rw [ofP_nil]; rfl
theorem stok_new {n : Int} (h : 1 ≤ n ∧ n ≤ 16777216) : TapeOk ⟨n, [], [], 0, false⟩ := ⟨h.2, by show ((0 + 0 : Nat) : Int) ≤ n; omega, by show (0 : Int) ≤ 0; omega, by show (0 : Int) ≤ _; omega⟩
theorem no_goes (s : StS) : ¬ goesS s [] := fun g => by
  obtain ⟨h1, _⟩ := firstS_ok g.1
  exact h1.1 (by decide)
theorem openS_new {n : Int} (h : 1 ≤ n ∧ n ≤ 16777216) : openS ⟨n, [], [], 0, false⟩ = (0, ⟨n, [], [], 0, false⟩) ∧ (scanS st0 ((⟨n, [], [], 0, false⟩ : TapeS).f ++ (⟨n, [], [], 0, false⟩ : TapeS).l)).2 = st0 := by
  have e := scanS_end (no_goes st0)
  refine ⟨?_, by show (scanS st0 ([] ++ [])).2 = st0; rw [List.append_nil, e]⟩
  rw [openS_go rfl, openSC_sync (by show ¬ (scanS st0 ([] ++ [])).1 < _; rw [List.append_nil, e]; decide), syncP_ok rfl (show ¬ (0 : Int) = 1 by decide)]
  rfl
theorem ver_e1 (h : List UInt8) (e : h = z32) : verS [] z32 h = (0, 0) := verS_here e.symm
theorem ver_e2 : verS [120] z32 [] = (0, 43) := verS_chain (by decide) (by decide) (by rw [firstS_no (fun h => h.1 (by decide))])
theorem aw_add1 {t : TapeS} {n : Int} {d : List UInt8} (hd : d = [120]) : addS t ⟨st0, false⟩ (sndB n) 2 d = (44, ⟨st0, false⟩, t) := by
  subst hd; exact addS_seq rfl (aw_bad (by decide) (by decide) (by decide)) (by rw [show (⟨st0, false⟩ : StF).st.L = [] from rfl, mkP_nil]; decide)
theorem aw_add2 {n : Int} : (addS ⟨1000, [], [], 0, false⟩ ⟨st0, false⟩ (sndB n) 1 [120]).1 = 0 := by
  rw [addS_go rfl (aw_bad (by decide) (by decide) (by decide)) (by rw [show (⟨st0, false⟩ : StF).st.L = [] from rfl, mkP_nil]; decide)]
  have hl : (frS z32 (bodyS (sndB n) 1 [120])).length = 73 := by rw [frS_len, bodyS_len, sndB_len]; rfl
  have ha : appendP ⟨1000, [], [], 0, false⟩ (frS z32 (bodyS (sndB n) 1 [120])) = (0, ⟨1000, [], [] ++ frS z32 (bodyS (sndB n) 1 [120]), 0, false⟩) := by
    rw [appendP_ok rfl (by show ((0 + 0 : Nat) : Int) + _ ≤ 1000; rw [hl]; decide), actP_go (show ¬ (0 : Int) = 1 by decide)]; rfl
  rw [layS_ok (x := ⟨st0, false⟩) (by show (appendP _ (frS z32 _)).1 = 0; rw [ha]) (by show (syncP (appendP _ (frS z32 _)).2).1 = 0; rw [ha, syncP_ok rfl (show ¬ (0 : Int) = 1 by decide)])]
theorem sender_con (n : Int) : Con Try.prog w0 16 #[.int .i64 n] H (fun v H' => v = S (sndB n) ∧ H' = H) := by
  have hS0 : Sep H [] H := Sep.refl
  refine Con.intro Try.func16 rfl rfl ?_
  refine AW.seq ?_
  refine AW.region ?_
  refine OpsW.q rfl (q_assign (v := S _) rfl) ?_
  refine OpsW.nil ?_
  refine SeqP.go ?_
  refine AW.seq ?_
  refine AW.steps rfl 8 rfl ?_
  refine AnyW.first 0 rfl (by kernel_rfl) (by kernel_rfl) (by kernel_rfl) rfl (dst_lt rfl) (v_move (v := .int _ _) rfl) ?_
  refine AnyW.two 1 4 rfl rfl (by kernel_rfl) rfl rfl (dst_lt rfl) (dst_lt rfl) (q_convInt rfl Try.underlying5 rfl) (s_makeSliceN (kk := .u8) (by_ := 1) hS0 Try.underlying72 (by kernel_rfl) (by kernel_rfl) (by kernel_rfl) rfl rfl (by omega) (by omega) (by omega) (by omega) (by unfold maxLen; omega)) ?_ ?_
  ·
    rintro _ _ ⟨rfl, rfl⟩
    refine AnyW.two 2 4 rfl rfl (by kernel_rfl) rfl rfl (dst_lt rfl) (dst_lt rfl) (s_buildSlice (z := .int .u8 0) (vs := nums .u8 [_]) hS0 Try.underlying72 (by kernel_rfl) (by kernel_rfl) rfl (by rfl) (by rfl) (by decide) rfl (nums_one _ _) rfl) (s_makeSliceN (kk := .u8) (by_ := 1) hS0 Try.underlying72 (by kernel_rfl) (by kernel_rfl) (by kernel_rfl) rfl rfl (by omega) (by omega) (by omega) (by omega) (by unfold maxLen; omega)) ?_ ?_
    ·
      rintro v5 H1 hS1
      clear hS0
      refine AnyW.two 3 4 rfl rfl (by kernel_rfl) rfl rfl (dst_lt rfl) (dst_lt rfl) (q_stringVec (hS1.vec at0) Try.underlying72 Try.underlying5 Try.underlying9 rfl) (s_makeSliceN (kk := .u8) (by_ := 1) hS1 Try.underlying72 (by kernel_rfl) (by kernel_rfl) (by kernel_rfl) rfl rfl (by omega) (by omega) (by omega) (by omega) (by unfold maxLen; omega)) ?_ ?_
      ·
        rintro _ _ ⟨rfl, rfl⟩
        refine AnyW.only 4 rfl (by kernel_rfl) rfl (dst_lt rfl) (s_makeSliceN (kk := .u8) (by_ := 1) hS1 Try.underlying72 (by kernel_rfl) (by kernel_rfl) (by kernel_rfl) rfl rfl (by omega) (by omega) (by omega) (by omega) (by unfold maxLen; omega)) ?_
        rintro v7 H2 hS2
        clear hS1
        refine AnyW.onlyQ 5 rfl (by kernel_rfl) rfl (dst_lt rfl) (q_stringVec (hS2.vec at0) Try.underlying72 Try.underlying5 Try.underlying9 rfl) ?_
        refine AnyW.onlyQ 6 rfl (by kernel_rfl) rfl (dst_lt rfl) (q_cat rfl rfl (by simp only [nums_length, List.length_set, List.length_replicate, List.length_take, List.length_drop, List.length_append, List.length_cons, List.length_nil, ofB_length, toB_length]; omega)) ?_
        refine AnyW.onlyQ 7 rfl (by kernel_rfl) rfl (dst_lt rfl) (q_assign (v := S _) rfl) ?_
        refine AnyW.done (by kernel_rfl) ?_
        refine SeqP.go ?_
        refine AW.ret ?_
        refine RetP.mk1 (H' := _) (v1 := S _) rfl rfl  hS2.le ?_
        exact ⟨rfl, rfl⟩
      ·
        rintro v7 H3 hS3
        clear hS1
        refine AnyW.two 3 5 rfl rfl (by kernel_rfl) rfl rfl (dst_lt rfl) (dst_lt rfl) (q_stringVec (hS3.vec at1) Try.underlying72 Try.underlying5 Try.underlying9 rfl) (q_stringVec (hS3.vec at0) Try.underlying72 Try.underlying5 Try.underlying9 rfl) ?_ ?_
        ·
          rintro _ _ ⟨rfl, rfl⟩
          refine AnyW.onlyQ 5 rfl (by kernel_rfl) rfl (dst_lt rfl) (q_stringVec (hS3.vec at0) Try.underlying72 Try.underlying5 Try.underlying9 rfl) ?_
          refine AnyW.onlyQ 6 rfl (by kernel_rfl) rfl (dst_lt rfl) (q_cat rfl rfl (by simp only [nums_length, List.length_set, List.length_replicate, List.length_take, List.length_drop, List.length_append, List.length_cons, List.length_nil, ofB_length, toB_length]; omega)) ?_
          refine AnyW.onlyQ 7 rfl (by kernel_rfl) rfl (dst_lt rfl) (q_assign (v := S _) rfl) ?_
          refine AnyW.done (by kernel_rfl) ?_
          refine SeqP.go ?_
          refine AW.ret ?_
          refine RetP.mk1 (H' := _) (v1 := S _) rfl rfl  hS3.le ?_
          exact ⟨rfl, rfl⟩
        ·
          rintro _ _ ⟨rfl, rfl⟩
          refine AnyW.onlyQ 3 rfl (by kernel_rfl) rfl (dst_lt rfl) (q_stringVec (hS3.vec at1) Try.underlying72 Try.underlying5 Try.underlying9 rfl) ?_
          refine AnyW.onlyQ 6 rfl (by kernel_rfl) rfl (dst_lt rfl) (q_cat rfl rfl (by simp only [nums_length, List.length_set, List.length_replicate, List.length_take, List.length_drop, List.length_append, List.length_cons, List.length_nil, ofB_length, toB_length]; omega)) ?_
          refine AnyW.onlyQ 7 rfl (by kernel_rfl) rfl (dst_lt rfl) (q_assign (v := S _) rfl) ?_
          refine AnyW.done (by kernel_rfl) ?_
          refine SeqP.go ?_
          refine AW.ret ?_
          refine RetP.mk1 (H' := _) (v1 := S _) rfl rfl  hS3.le ?_
          exact ⟨rfl, rfl⟩
    ·
      rintro v7 H4 hS4
      clear hS0
      refine AnyW.two 2 5 rfl rfl (by kernel_rfl) rfl rfl (dst_lt rfl) (dst_lt rfl) (s_buildSlice (z := .int .u8 0) (vs := nums .u8 [_]) hS4 Try.underlying72 (by kernel_rfl) (by kernel_rfl) rfl (by rfl) (by rfl) (by decide) rfl (nums_one _ _) rfl) (q_stringVec (hS4.vec at0) Try.underlying72 Try.underlying5 Try.underlying9 rfl) ?_ ?_
      ·
        rintro v5 H5 hS5
        clear hS4
        refine AnyW.two 3 5 rfl rfl (by kernel_rfl) rfl rfl (dst_lt rfl) (dst_lt rfl) (q_stringVec (hS5.vec at0) Try.underlying72 Try.underlying5 Try.underlying9 rfl) (q_stringVec (hS5.vec at1) Try.underlying72 Try.underlying5 Try.underlying9 rfl) ?_ ?_
        ·
          rintro _ _ ⟨rfl, rfl⟩
          refine AnyW.onlyQ 5 rfl (by kernel_rfl) rfl (dst_lt rfl) (q_stringVec (hS5.vec at1) Try.underlying72 Try.underlying5 Try.underlying9 rfl) ?_
          refine AnyW.onlyQ 6 rfl (by kernel_rfl) rfl (dst_lt rfl) (q_cat rfl rfl (by simp only [nums_length, List.length_set, List.length_replicate, List.length_take, List.length_drop, List.length_append, List.length_cons, List.length_nil, ofB_length, toB_length]; omega)) ?_
          refine AnyW.onlyQ 7 rfl (by kernel_rfl) rfl (dst_lt rfl) (q_assign (v := S _) rfl) ?_
          refine AnyW.done (by kernel_rfl) ?_
          refine SeqP.go ?_
          refine AW.ret ?_
          refine RetP.mk1 (H' := _) (v1 := S _) rfl rfl  hS5.le ?_
          exact ⟨rfl, rfl⟩
        ·
          rintro _ _ ⟨rfl, rfl⟩
          refine AnyW.onlyQ 3 rfl (by kernel_rfl) rfl (dst_lt rfl) (q_stringVec (hS5.vec at0) Try.underlying72 Try.underlying5 Try.underlying9 rfl) ?_
          refine AnyW.onlyQ 6 rfl (by kernel_rfl) rfl (dst_lt rfl) (q_cat rfl rfl (by simp only [nums_length, List.length_set, List.length_replicate, List.length_take, List.length_drop, List.length_append, List.length_cons, List.length_nil, ofB_length, toB_length]; omega)) ?_
          refine AnyW.onlyQ 7 rfl (by kernel_rfl) rfl (dst_lt rfl) (q_assign (v := S _) rfl) ?_
          refine AnyW.done (by kernel_rfl) ?_
          refine SeqP.go ?_
          refine AW.ret ?_
          refine RetP.mk1 (H' := _) (v1 := S _) rfl rfl  hS5.le ?_
          exact ⟨rfl, rfl⟩
      ·
        rintro _ _ ⟨rfl, rfl⟩
        refine AnyW.only 2 rfl (by kernel_rfl) rfl (dst_lt rfl) (s_buildSlice (z := .int .u8 0) (vs := nums .u8 [_]) hS4 Try.underlying72 (by kernel_rfl) (by kernel_rfl) rfl (by rfl) (by rfl) (by decide) rfl (nums_one _ _) rfl) ?_
        rintro v5 H6 hS6
        clear hS4
        refine AnyW.onlyQ 3 rfl (by kernel_rfl) rfl (dst_lt rfl) (q_stringVec (hS6.vec at0) Try.underlying72 Try.underlying5 Try.underlying9 rfl) ?_
        refine AnyW.onlyQ 6 rfl (by kernel_rfl) rfl (dst_lt rfl) (q_cat rfl rfl (by simp only [nums_length, List.length_set, List.length_replicate, List.length_take, List.length_drop, List.length_append, List.length_cons, List.length_nil, ofB_length, toB_length]; omega)) ?_
        refine AnyW.onlyQ 7 rfl (by kernel_rfl) rfl (dst_lt rfl) (q_assign (v := S _) rfl) ?_
        refine AnyW.done (by kernel_rfl) ?_
        refine SeqP.go ?_
        refine AW.ret ?_
        refine RetP.mk1 (H' := _) (v1 := S _) rfl rfl  hS6.le ?_
        exact ⟨rfl, rfl⟩
  ·
    rintro v7 H7 hS7
    clear hS0
    refine AnyW.two 1 5 rfl rfl (by kernel_rfl) rfl rfl (dst_lt rfl) (dst_lt rfl) (q_convInt rfl Try.underlying5 rfl) (q_stringVec (hS7.vec at0) Try.underlying72 Try.underlying5 Try.underlying9 rfl) ?_ ?_
    ·
      rintro _ _ ⟨rfl, rfl⟩
      refine AnyW.two 2 5 rfl rfl (by kernel_rfl) rfl rfl (dst_lt rfl) (dst_lt rfl) (s_buildSlice (z := .int .u8 0) (vs := nums .u8 [_]) hS7 Try.underlying72 (by kernel_rfl) (by kernel_rfl) rfl (by rfl) (by rfl) (by decide) rfl (nums_one _ _) rfl) (q_stringVec (hS7.vec at0) Try.underlying72 Try.underlying5 Try.underlying9 rfl) ?_ ?_
      ·
        rintro v5 H8 hS8
        clear hS7
        refine AnyW.two 3 5 rfl rfl (by kernel_rfl) rfl rfl (dst_lt rfl) (dst_lt rfl) (q_stringVec (hS8.vec at0) Try.underlying72 Try.underlying5 Try.underlying9 rfl) (q_stringVec (hS8.vec at1) Try.underlying72 Try.underlying5 Try.underlying9 rfl) ?_ ?_
        ·
          rintro _ _ ⟨rfl, rfl⟩
          refine AnyW.onlyQ 5 rfl (by kernel_rfl) rfl (dst_lt rfl) (q_stringVec (hS8.vec at1) Try.underlying72 Try.underlying5 Try.underlying9 rfl) ?_
          refine AnyW.onlyQ 6 rfl (by kernel_rfl) rfl (dst_lt rfl) (q_cat rfl rfl (by simp only [nums_length, List.length_set, List.length_replicate, List.length_take, List.length_drop, List.length_append, List.length_cons, List.length_nil, ofB_length, toB_length]; omega)) ?_
          refine AnyW.onlyQ 7 rfl (by kernel_rfl) rfl (dst_lt rfl) (q_assign (v := S _) rfl) ?_
          refine AnyW.done (by kernel_rfl) ?_
          refine SeqP.go ?_
          refine AW.ret ?_
          refine RetP.mk1 (H' := _) (v1 := S _) rfl rfl  hS8.le ?_
          exact ⟨rfl, rfl⟩
        ·
          rintro _ _ ⟨rfl, rfl⟩
          refine AnyW.onlyQ 3 rfl (by kernel_rfl) rfl (dst_lt rfl) (q_stringVec (hS8.vec at0) Try.underlying72 Try.underlying5 Try.underlying9 rfl) ?_
          refine AnyW.onlyQ 6 rfl (by kernel_rfl) rfl (dst_lt rfl) (q_cat rfl rfl (by simp only [nums_length, List.length_set, List.length_replicate, List.length_take, List.length_drop, List.length_append, List.length_cons, List.length_nil, ofB_length, toB_length]; omega)) ?_
          refine AnyW.onlyQ 7 rfl (by kernel_rfl) rfl (dst_lt rfl) (q_assign (v := S _) rfl) ?_
          refine AnyW.done (by kernel_rfl) ?_
          refine SeqP.go ?_
          refine AW.ret ?_
          refine RetP.mk1 (H' := _) (v1 := S _) rfl rfl  hS8.le ?_
          exact ⟨rfl, rfl⟩
      ·
        rintro _ _ ⟨rfl, rfl⟩
        refine AnyW.only 2 rfl (by kernel_rfl) rfl (dst_lt rfl) (s_buildSlice (z := .int .u8 0) (vs := nums .u8 [_]) hS7 Try.underlying72 (by kernel_rfl) (by kernel_rfl) rfl (by rfl) (by rfl) (by decide) rfl (nums_one _ _) rfl) ?_
        rintro v5 H9 hS9
        clear hS7
        refine AnyW.onlyQ 3 rfl (by kernel_rfl) rfl (dst_lt rfl) (q_stringVec (hS9.vec at0) Try.underlying72 Try.underlying5 Try.underlying9 rfl) ?_
        refine AnyW.onlyQ 6 rfl (by kernel_rfl) rfl (dst_lt rfl) (q_cat rfl rfl (by simp only [nums_length, List.length_set, List.length_replicate, List.length_take, List.length_drop, List.length_append, List.length_cons, List.length_nil, ofB_length, toB_length]; omega)) ?_
        refine AnyW.onlyQ 7 rfl (by kernel_rfl) rfl (dst_lt rfl) (q_assign (v := S _) rfl) ?_
        refine AnyW.done (by kernel_rfl) ?_
        refine SeqP.go ?_
        refine AW.ret ?_
        refine RetP.mk1 (H' := _) (v1 := S _) rfl rfl  hS9.le ?_
        exact ⟨rfl, rfl⟩
    ·
      rintro _ _ ⟨rfl, rfl⟩
      refine AnyW.onlyQ 1 rfl (by kernel_rfl) rfl (dst_lt rfl) (q_convInt rfl Try.underlying5 rfl) ?_
      refine AnyW.only 2 rfl (by kernel_rfl) rfl (dst_lt rfl) (s_buildSlice (z := .int .u8 0) (vs := nums .u8 [_]) hS7 Try.underlying72 (by kernel_rfl) (by kernel_rfl) rfl (by rfl) (by rfl) (by decide) rfl (nums_one _ _) rfl) ?_
      rintro v5 H10 hS10
      clear hS7
      refine AnyW.onlyQ 3 rfl (by kernel_rfl) rfl (dst_lt rfl) (q_stringVec (hS10.vec at0) Try.underlying72 Try.underlying5 Try.underlying9 rfl) ?_
      refine AnyW.onlyQ 6 rfl (by kernel_rfl) rfl (dst_lt rfl) (q_cat rfl rfl (by simp only [nums_length, List.length_set, List.length_replicate, List.length_take, List.length_drop, List.length_append, List.length_cons, List.length_nil, ofB_length, toB_length]; omega)) ?_
      refine AnyW.onlyQ 7 rfl (by kernel_rfl) rfl (dst_lt rfl) (q_assign (v := S _) rfl) ?_
      refine AnyW.done (by kernel_rfl) ?_
      refine SeqP.go ?_
      refine AW.ret ?_
      refine RetP.mk1 (H' := _) (v1 := S _) rfl rfl  hS10.le ?_
      exact ⟨rfl, rfl⟩
theorem awake_con : Con Try.prog w0 9 #[] H (fun v H' => v = .bool true ∧ H' = H) := by
  have hS0 : Sep H [] H := Sep.refl
  refine Con.intro Try.func9 rfl rfl ?_
  refine AW.seq ?_
  refine AW.region ?_
  refine OpsW.q rfl (q_assign (v := .bool _) rfl) ?_
  refine OpsW.nil ?_
  refine SeqP.go ?_
  refine AW.seq ?_
  refine AW.region ?_
  refine OpsW.m rfl (s_makeSliceB (by_ := 1) hS0 Try.underlying72 (by kernel_rfl) (by kernel_rfl) (by kernel_rfl) rfl rfl (by omega) (by omega) (by omega) (by omega) (by unfold maxLen; omega)) ?_
  rintro v10 H1 hS1
  clear hS0
  refine OpsW.q rfl (q_stringB (hS1.vec at0) Try.underlying72 Try.underlying5 Try.underlying9 rfl) ?_
  refine OpsW.q rfl (o_call rfl Try.func10 rfl rfl (Verify_con (by decide))) ?_
  rw [ver_e1 _ (by first | rfl | decide)]
  refine OpsW.q rfl (q_move (v := .tuple _) rfl) ?_
  refine OpsW.q rfl (q_extract (v := .int _ _) rfl rfl) ?_
  refine OpsW.q rfl (q_extract (v := .int _ _) rfl rfl) ?_
  refine OpsW.q rfl (q_assign (v := .int _ _) rfl) ?_
  refine OpsW.q rfl (q_assign (v := .int _ _) rfl) ?_
  refine OpsW.nil ?_
  refine SeqP.go ?_
  refine AW.seq ?_
  refine AW.region ?_
  refine OpsW.q rfl (o_call rfl Try.func10 rfl rfl (Verify_con (by decide))) ?_
  rw [ver_e2]
  refine OpsW.q rfl (q_move (v := .tuple _) rfl) ?_
  refine OpsW.q rfl (q_extract (v := .int _ _) rfl rfl) ?_
  refine OpsW.q rfl (q_extract (v := .int _ _) rfl rfl) ?_
  refine OpsW.q rfl (q_assign (v := .int _ _) rfl) ?_
  refine OpsW.q rfl (q_assign (v := .int _ _) rfl) ?_
  refine OpsW.nil ?_
  refine SeqP.go ?_
  refine AW.seq ?_
  refine AW.region ?_
  refine OpsW.m rfl (o_call rfl Try.func14 rfl rfl (New_e (n := 1000) (by decide))) ?_
  rintro _ H2 ⟨b20, rfl, hR2⟩
  have hS2 := hS1.join hR2
  simp only [List.cons_append, List.nil_append] at hS2
  clear hR2 hS1
  refine OpsW.q rfl (q_move (v := .tuple _) rfl) ?_
  refine OpsW.q rfl (q_extract (v := .pointer _) rfl rfl) ?_
  refine OpsW.q rfl (q_extract (v := .int _ _) rfl rfl) ?_
  refine OpsW.q rfl (q_assign (v := .pointer _) rfl) ?_
  refine OpsW.q rfl (q_assign (v := .int _ _) rfl) ?_
  refine OpsW.nil ?_
  refine SeqP.go ?_
  refine AW.seq ?_
  refine AW.region ?_
  refine OpsW.q rfl (q_move (v := .pointer _) rfl) ?_
  obtain ⟨Hf3, le3, hA3, hB3⟩ := hS2.framed at0
  refine OpsW.m rfl (o_call rfl Try.func15 rfl rfl (Open_e hA3 (stok_new (by decide)) (openS_new (by decide)).1 (openS_new (by decide)).2)) ?_
  rintro _ H3 ⟨b25, rfl, hR3⟩
  have hS3 := hB3 _ _ hR3
  clear hR3 hB3 hA3
  clear hS2
  refine OpsW.q rfl (q_move (v := .tuple _) rfl) ?_
  refine OpsW.q rfl (q_extract (v := .pointer _) rfl rfl) ?_
  refine OpsW.q rfl (q_extract (v := .int _ _) rfl rfl) ?_
  refine OpsW.q rfl (q_assign (v := .pointer _) rfl) ?_
  refine OpsW.q rfl (q_assign (v := .int _ _) rfl) ?_
  refine OpsW.nil ?_
  refine SeqP.go ?_
  refine AW.seq ?_
  refine AW.region ?_
  refine OpsW.q rfl (q_move (v := .int _ _) rfl) ?_
  refine OpsW.q rfl (q_eql rfl rfl) ?_
  refine OpsW.q rfl (q_move (v := .bool true) rfl) ?_
  refine OpsW.qw rfl rfl (q_move (v := .int _ _) rfl) ?_
  refine OpsW.qw rfl rfl (q_eql rfl rfl) ?_
  refine OpsW.q rfl (q_and2 rfl rfl rfl) ?_
  refine OpsW.q rfl (q_move (v := .bool true) rfl) ?_
  refine OpsW.qw rfl rfl (q_move (v := .int _ _) rfl) ?_
  refine OpsW.qw rfl rfl (q_eql rfl rfl) ?_
  refine OpsW.q rfl (q_and2 rfl rfl rfl) ?_
  refine OpsW.q rfl (q_move (v := .bool true) rfl) ?_
  refine OpsW.qw rfl rfl (q_move (v := .int _ _) rfl) ?_
  refine OpsW.qw rfl rfl (q_eql rfl rfl) ?_
  refine OpsW.q rfl (q_and2 rfl rfl rfl) ?_
  refine OpsW.q rfl (q_move (v := .bool true) rfl) ?_
  refine OpsW.qw rfl rfl (q_move (v := .int _ _) rfl) ?_
  refine OpsW.qw rfl rfl (q_eql rfl rfl) ?_
  refine OpsW.q rfl (q_and2 rfl rfl rfl) ?_
  refine OpsW.q rfl (q_move (v := .bool true) rfl) ?_
  refine OpsW.qw rfl rfl (q_move (v := .pointer _) rfl) ?_
  refine OpsW.qw rfl rfl (o_call rfl Try.func16 rfl rfl (sender_con _)) ?_
  refine OpsW.qw rfl rfl (q_build (cells := #[.int .i64 2, S [120]]) rfl (by kernel_rfl)) ?_
  obtain ⟨Hf4, le4, hA4, hB4⟩ := hS3.framed at0
  refine OpsW.mw rfl rfl (o_call rfl Try.func17 rfl rfl (Add_e hA4 stok0 (stok_new (by decide)) (by decide) rfl (aw_add1 rfl))) ?_
  rintro _ H4 ⟨rfl, hR4⟩
  have hS4 := hB4 _ _ hR4
  clear hR4 hB4 hA4
  clear hS3
  refine OpsW.qw rfl rfl (q_eql rfl rfl) ?_
  refine OpsW.q rfl (q_and2 rfl rfl rfl) ?_
  refine OpsW.q rfl (q_move (v := .bool true) rfl) ?_
  refine OpsW.qw rfl rfl (q_move (v := .pointer _) rfl) ?_
  refine OpsW.qw rfl rfl (o_call rfl Try.func16 rfl rfl (sender_con _)) ?_
  refine OpsW.qw rfl rfl (q_build (cells := #[.int .i64 1, S [120]]) rfl (by kernel_rfl)) ?_
  obtain ⟨Hf5, le5, hA5, hB5⟩ := hS4.framed at0
  refine OpsW.mw rfl rfl (o_call rfl Try.func17 rfl rfl (Add_c hA5 stok0 (stok_new (by decide)) (by decide) rfl)) ?_
  rintro _ H5 ⟨rfl, hR5⟩
  have hS5 := hB5 _ _ hR5
  clear hR5 hB5 hA5
  clear hS4
  rw [aw_add2]
  refine OpsW.qw rfl rfl (q_eql rfl rfl) ?_
  refine OpsW.q rfl (q_and2 rfl rfl rfl) ?_
  refine OpsW.q rfl (q_assign (v := .bool _) rfl) ?_
  refine OpsW.nil ?_
  refine SeqP.go ?_
  refine AW.ret ?_
  refine RetP.mk1 (H' := H) (v1 := .bool _) rfl rfl  hS5.le ?_
  refine ⟨?_, rfl⟩
  simp_all
end
end Go.Proofs.Ytfiojlmccflplaa
end
section
namespace Go.Proofs.Ytfiojlmccflplaa
open Go Go.RowKit D
set_option linter.unusedVariables false
set_option linter.unusedSimpArgs false
section
variable {w0 : World} {H0 H : Hp} {K L : List Chunk} {F : Chunk → List Chunk} {b tb : Nat} {v : Value} {X : Option StF} {x : StF} {t t' : TapeS} {r r' : RefS} {who d : List UInt8} {n : Int}
end
section
variable {t : TapeS} {r : RefS} {x : StF} {who d : List UInt8} {n : Int} {i : Nat}
structure StG (i : Nat) (x : StF) : Prop where
  ok : StOk x.st.L
  hh : x.st.h.length = 32
  len : x.st.L.length ≤ 300000 + i
theorem StG.next (h : StG i x) : StG (i + 1) x := ⟨h.ok, h.hh, by have := h.len; omega⟩
end
end Go.Proofs.Ytfiojlmccflplaa
end
section
namespace Go.Proofs.Ytfiojlmccflplaa
open Go Go.RowKit D
set_option linter.unusedVariables false
set_option linter.unusedSimpArgs false
set_option maxRecDepth 100000
set_option maxHeartbeats 2000000
section
variable {w0 : World} {H : Hp} {H0 : Hp}
structure OpT where
  ask : Int
  who : Int
  n : Int
  dat : List UInt8
  sp : Bool
def opCells5 (o : OpT) : List Value := [.int .i64 o.ask, .int .i64 o.who, .int .i64 o.n, S o.dat, .bool o.sp]
structure MarksI (i : Nat) (x : StF) (t : TapeS) (m : Vals) : Prop where
  ok : StOk x.st.L
  hh : x.st.h.length = 32
  dd : x.dd = false
  len : x.st.L.length ≤ i
  lim : t.lim = 4194304
  td : t.dd = false
  ar : t.ar = 0
  tl : t.l = []
  tf : t.f.length ≤ i * 8300
  mg : ∀ w, (mgt m w).getD (.int .i64 0) = .int .i64 (mkP x.st.L w)
theorem MarksI.tk {i : Nat} {x : StF} {t : TapeS} {m : Vals} (h : MarksI i x t m) (hi : i ≤ 60) : TapeOk t := by
  have h1 := h.lim; have h2 := h.ar; have h3 := h.tl; have h4 := h.tf
  refine ⟨by omega, ?_, by omega, by omega⟩
  rw [h3, List.length_nil]; omega
section
variable {i : Nat} {x : StF} {t : TapeS} {m : Vals} {k n : Int} {d : List UInt8}
end
end
end Go.Proofs.Ytfiojlmccflplaa
end
section
namespace Go.Proofs.Ytfiojlmccflplaa
open Go Go.RowKit D
set_option linter.unusedVariables false
set_option linter.unusedSimpArgs false
theorem numK_appendS {a r : List UInt8} {j : Nat} (h : j ≤ a.length) : numK (a ++ r) j = numK a j := by
  have := numK_take (a ++ r) (n := a.length) j h
  rw [List.take_left] at this
  exact this.symm
theorem numB_appendS {a r : List UInt8} (h : 4 ≤ a.length) : numB (a ++ r) = numB a := by rw [numB_def, numB_def, numK_appendS h]
theorem frOk_append {f : List UInt8} (h : frOk f) (r : List UInt8) : frOk (f ++ r) ∧ frBody (f ++ r) = frBody f ∧ frNext (f ++ r) = frNext f := by
  obtain ⟨h1, h2⟩ := h
  have hn := numB_appendS (r := r) (show 4 ≤ f.length by omega)
  refine ⟨⟨by rw [List.length_append]; omega, by rw [hn, List.length_append]; omega⟩, ?_, ?_⟩
  · unfold frBody; rw [hn, List.take_append_of_le_length (by omega)]
  · unfold frNext; rw [hn, List.take_append_of_le_length (by omega)]
theorem first_appendS {f h : List UInt8} (r : List UInt8) (hf : (firstS f h).2 = true) : firstS (f ++ r) h = firstS f h := by
  obtain ⟨ho, _, _⟩ := firstS_ok hf
  obtain ⟨o1, o2, o3⟩ := frOk_append ho r
  rw [firstS_yes o1, firstS_yes ho, o2, o3, numB_appendS (show 4 ≤ f.length by have := ho.1; omega)]
theorem fr_parts {b : List UInt8} (hb : 37 ≤ b.length ∧ b.length ≤ 8228) (hd r : List UInt8) : frOk (frS hd b ++ r) ∧ frBody (frS hd b ++ r) = b ∧ frNext (frS hd b ++ r) = nxS hd b ∧ numB (frS hd b ++ r) = (b.length : Int) := by
  have h4 := fourB_length (b.length : Int)
  have hx := nxS_len hd b
  have e : frS hd b ++ r = fourB (b.length : Int) ++ (b ++ (nxS hd b ++ r)) := by rw [frS_def, List.append_assoc, List.append_assoc]
  have hn : numB (frS hd b ++ r) = (b.length : Int) := by rw [e]; exact numB_fourS (by omega) (by omega) _
  have hl : (frS hd b ++ r).length = 36 + b.length + r.length := by rw [List.length_append, frS_len]
  refine ⟨⟨by rw [hl]; omega, by rw [hn, hl]; omega⟩, ?_, ?_, hn⟩
  · unfold frBody
    rw [hn, e, show (4 + (b.length : Int)).toNat = (fourB (b.length : Int)).length + b.length from by omega, List.take_length_add_append, show (Int.toNat 4) = (fourB (b.length : Int)).length from by rw [h4]; rfl, List.drop_left, List.take_left]
  · unfold frNext
    rw [hn, frS_def, show (4 + (b.length : Int) + 32).toNat = (fourB (b.length : Int) ++ b ++ nxS hd b).length from by simp [h4, hx]; omega, List.take_left,
      show (4 + (b.length : Int)).toNat = (fourB (b.length : Int) ++ b).length from by simp [h4]; omega, List.drop_left]
theorem first_frameS {b : List UInt8} (hb : 37 ≤ b.length ∧ b.length ≤ 8228) (hd r : List UInt8) : firstS (frS hd b ++ r) hd = (⟨b, 4 + (b.length : Int) + 32, nxS hd b⟩, true) := by
  obtain ⟨h1, h2, h3, h4⟩ := fr_parts hb hd r
  rw [firstS_yes h1, h2, h3, h4, decide_eq_true (nxS_def hd b)]
theorem scan_appendS : ∀ (k : Nat) (f : List UInt8) (s st : StS) (r : List UInt8), f.length ≤ k → scanS s f = (f.length, st) → scanS s (f ++ r) = (f.length + (scanS st r).1, (scanS st r).2) := by
  intro k
  induction k with
  | zero =>
    intro f s st r hk h
    have hf : f = [] := List.length_eq_zero_iff.1 (by omega)
    subst hf
    rw [scanS_end (no_goes s)] at h
    cases h
    simp
  | succ k ih =>
    intro f s st r hk h
    by_cases hg : goesS s f
    · have hl := goes_len hg
      have hfa := first_appendS (h := s.h) r hg.1
      have hg2 : goesS s (f ++ r) := by unfold goesS; rw [hfa]; exact hg
      have hn2 : nextS s (f ++ r) = nextS s f := by unfold nextS; rw [hfa]
      have hs2 : stepS s (f ++ r) = stepS s f := by unfold stepS; rw [hfa]
      rw [scanS_go hg] at h
      obtain ⟨h1, h2⟩ := Prod.mk.inj h
      have hd : (f ++ r).drop (stepS s f) = f.drop (stepS s f) ++ r := by rw [List.drop_append_of_le_length hl.2.1]
      have h3 : scanS (nextS s f) (f.drop (stepS s f)) = ((f.drop (stepS s f)).length, st) := Prod.ext (by rw [List.length_drop]; omega) h2
      rw [scanS_go hg2, hn2, hs2, hd, ih _ _ _ r (by rw [List.length_drop]; omega) h3]
      exact Prod.ext (by show stepS s f + ((f.drop _).length + _) = _; rw [List.length_drop]; omega) rfl
    · rw [scanS_end hg] at h
      obtain ⟨h1, h2⟩ := Prod.mk.inj h
      have hf : f = [] := List.length_eq_zero_iff.1 (by omega)
      subst hf
      subst h2
      simp
theorem scan_nilS (s : StS) : scanS s [] = (0, s) := scanS_end (no_goes s)
theorem scan_frameS {s s' : StS} {b : List UInt8} (hb : 37 ≤ b.length ∧ b.length ≤ 8228) (ht : takeS s b (nxS s.h b) = (true, s')) : scanS s (frS s.h b) = ((frS s.h b).length, s') := by
  have hf := first_frameS hb s.h []
  rw [List.append_nil] at hf
  have hg : goesS s (frS s.h b) := by unfold goesS; rw [hf]; exact ⟨rfl, by show (takeS s b (nxS s.h b)).1 = true; rw [ht]⟩
  have hn : nextS s (frS s.h b) = s' := by unfold nextS; rw [hf]; show (takeS s b (nxS s.h b)).2 = s'; rw [ht]
  have hs : stepS s (frS s.h b) = (frS s.h b).length := by unfold stepS; rw [hf, frS_len]; show (4 + (b.length : Int) + 32).toNat = _; omega
  rw [scanS_go hg, hn, hs, List.drop_length, scan_nilS]
  rfl
theorem scan_tornS {s : StS} {p : List UInt8} (h : (firstS p s.h).2 = false) : scanS s p = (0, s) := scanS_end fun g => by have := g.1; rw [h] at this; cases this
theorem spoil_partsS {l : List UInt8} (h : 0 < l.length) : ∃ z : UInt8, spoilP l = l.take (l.length - 1) ++ [z] ∧ bt l (l.length - 1) ≠ (z.toNat : Int) := by
  refine ⟨UInt8.ofNat (ixor .u8 (bt l (l.length - 1)) 255).toNat, by unfold spoilP; rw [if_neg (by omega)]; rfl, ?_⟩
  have hb := bt_range l (l.length - 1)
  generalize bt l (l.length - 1) = y at hb ⊢
  obtain ⟨m, rfl⟩ := Int.eq_ofNat_of_zero_le hb.1
  have hm : m < 256 := by omega
  have : ∀ n : Fin 256, (((n.val : Nat) : Int)) ≠ ((UInt8.ofNat (ixor .u8 ((n.val : Nat) : Int) 255).toNat).toNat : Int) := by decide +kernel
  exact this ⟨m, hm⟩
theorem torn_partS {b q : List UInt8} (hd : List UInt8) (h4 : q.length < 36 + b.length) (h5 : 36 ≤ q.length → numB q = (b.length : Int)) : (firstS q hd).2 = false := by
  have hn := numB_range q
  rw [firstS_no]
  rintro ⟨h1, h2⟩
  by_cases h : q.length < 36
  · omega
  · have := h5 (by omega); omega
theorem numB_partS {b : List UInt8} (hb : 37 ≤ b.length ∧ b.length ≤ 8228) (hd : List UInt8) {k : Nat} (hk : 4 ≤ k) (r : List UInt8) : numB ((frS hd b).take k ++ r) = (b.length : Int) := by
  have h1 : 4 ≤ ((frS hd b).take k).length := by rw [List.length_take, frS_len]; omega
  rw [numB_appendS h1]
  have h3 := numB_appendS (a := (frS hd b).take k) (r := (frS hd b).drop k) h1
  have h2 := (fr_parts hb hd []).2.2.2
  rw [List.append_nil] at h2
  rw [List.take_append_drop, h2] at h3
  exact h3.symm
/-- A frame whose last byte is another one is none. -/
theorem torn_lastS {b : List UInt8} (hb : 37 ≤ b.length ∧ b.length ≤ 8228) (hd : List UInt8) {z : UInt8} (hz : bt (frS hd b) ((frS hd b).length - 1) ≠ (z.toNat : Int)) : (firstS ((frS hd b).take ((frS hd b).length - 1) ++ [z]) hd).2 = false := by
  have hl := frS_len hd b
  have hn := numB_partS hb hd (k := (frS hd b).length - 1) (by omega) [z]
  have hq : ((frS hd b).take ((frS hd b).length - 1) ++ [z]).length = 36 + b.length := by rw [List.length_append, List.length_take]; simp; omega
  have h4 := fourB_length (b.length : Int)
  have hx := nxS_len hd b
  generalize hqe : (frS hd b).take ((frS hd b).length - 1) ++ [z] = q at hn hq ⊢
  rw [firstS_yes ⟨by omega, by rw [hn, hq]; omega⟩]
  show decide (frNext q = sha256 (hd ++ frBody q)) = false
  rw [decide_eq_false_iff_not]
  intro he
  have hbody : frBody q = b := by
    unfold frBody
    rw [hn, ← hqe, List.take_append_of_le_length (by rw [List.length_take]; omega), List.take_take, Nat.min_eq_left (by omega), frS_def, show (4 + (b.length : Int)).toNat = (fourB (b.length : Int) ++ b).length from by simp [h4]; omega, List.take_left,
      show (Int.toNat 4) = (fourB (b.length : Int)).length from by rw [h4]; rfl, List.drop_left]
  rw [hbody, ← nxS_def] at he
  have e1 : bt (nxS hd b) 31 = bt (frS hd b) ((frS hd b).length - 1) := by
    have : (frS hd b).drop (4 + b.length) = nxS hd b := by rw [frS_def, show 4 + b.length = (fourB (b.length : Int) ++ b).length from by simp [h4], List.drop_left]
    rw [← this, bt_drop]
    congr 1; omega
  have e2 : bt (frNext q) 31 = (z.toNat : Int) := by
    unfold frNext
    rw [hn, show (4 + (b.length : Int) + 32).toNat = q.length from by omega, List.take_length, show (4 + (b.length : Int)).toNat = 4 + b.length from by omega, bt_drop, ← hqe]
    have h9 : ((frS hd b).take ((frS hd b).length - 1)).length = 4 + b.length + 31 := by rw [List.length_take]; omega
    simp only [bt, List.getD_eq_getElem?_getD]
    rw [List.getElem?_append_right (by omega), h9, Nat.sub_self]
    rfl
  rw [he, e1] at e2
  exact hz e2
theorem tornS {b : List UInt8} (hb : 37 ≤ b.length ∧ b.length ≤ 8228) (hd : List UInt8) (K : Nat) (sp : Bool) :
    (if sp = true then spoilP ((frS hd b).take K) else (frS hd b).take K) = frS hd b ∨ (firstS (if sp = true then spoilP ((frS hd b).take K) else (frS hd b).take K) hd).2 = false := by
  have hl := frS_len hd b
  cases sp with
  | false =>
    simp only [Bool.false_eq_true, if_false]
    rcases Nat.lt_or_ge K (frS hd b).length with g | g
    · refine .inr (torn_partS (b := b) hd (by rw [List.length_take]; omega) fun h => ?_)
      rw [List.length_take] at h
      have := numB_partS hb hd (k := K) (by omega) []
      rwa [List.append_nil] at this
    · exact .inl (List.take_of_length_le g)
  | true =>
    simp only [if_true]
    right
    rcases Nat.eq_zero_or_pos ((frS hd b).take K).length with g0 | g0
    · refine torn_partS (b := b) hd (by rw [spoil_len]; omega) fun h => ?_
      rw [spoil_len] at h; omega
    · obtain ⟨z, h1, h2⟩ := spoil_partsS g0
      rw [h1]
      rcases Nat.lt_or_ge K (frS hd b).length with g | g
      · have hk : ((frS hd b).take K).length = K := by rw [List.length_take]; omega
        rw [hk, List.take_take, Nat.min_eq_left (by omega)]
        refine torn_partS (b := b) hd (by rw [List.length_append, List.length_take]; simp; omega) fun h => ?_
        rw [List.length_append, List.length_take] at h
        simp at h
        exact numB_partS hb hd (by omega) [z]
      · rw [List.take_of_length_le g] at h2 ⊢
        exact torn_lastS hb hd h2
theorem ver_append : ∀ (k : Nat) (f h head r : List UInt8), f.length ≤ k → (verS f h head).2 = 0 → (verS (f ++ r) h head).2 = 0 := by
  intro k
  induction k with
  | zero =>
    intro f h head r hk hv
    by_cases e : h = head
    · rw [verS_here e]
    · have hf : f = [] := List.length_eq_zero_iff.1 (by omega)
      rw [verS_none e hf] at hv; exact absurd hv (by decide)
  | succ k ih =>
    intro f h head r hk hv
    by_cases e : h = head
    · rw [verS_here e]
    · by_cases e1 : f = []
      · rw [verS_none e e1] at hv; exact absurd hv (by decide)
      · by_cases e2 : (firstS f h).2 = true
        · have hs := ver_size e2
          rw [verS_go e e1 e2] at hv
          have hfa := first_appendS (h := h) r e2
          rw [verS_go e (by simp [e1]) (by rw [hfa]; exact e2), hfa, List.drop_append_of_le_length hs.2.1]
          exact ih _ _ _ r (by rw [List.length_drop]; omega) hv
        · rw [verS_chain e e1 (by simpa using e2)] at hv; exact absurd hv (by decide)
theorem ver_scan : ∀ (k : Nat) (s : StS) (f : List UInt8) (s' : StS), f.length ≤ k → scanS s f = (f.length, s') → (verS f s.h s'.h).2 = 0 := by
  intro k
  induction k with
  | zero =>
    intro s f s' hk h
    have hf : f = [] := List.length_eq_zero_iff.1 (by omega)
    subst hf
    rw [scan_nilS] at h
    obtain ⟨_, h2⟩ := Prod.mk.inj h
    subst h2
    rw [verS_here rfl]
  | succ k ih =>
    intro s f s' hk h
    by_cases e : s.h = s'.h
    · rw [verS_here e]
    · by_cases hg : goesS s f
      · have hl := goes_len hg
        have e1 : ¬ f = [] := fun e1 => by subst e1; simp at hl; omega
        rw [scanS_go hg] at h
        obtain ⟨h1, h2⟩ := Prod.mk.inj h
        have hnh : (nextS s f).h = (firstS f s.h).1.next := by
          have ht := hg.2
          unfold nextS
          by_cases hc : tSeq (firstS f s.h).1.body = mkP s.L (tWho (firstS f s.h).1.body) + 1
          · rw [takeS_yes hc]
          · rw [takeS_no hc] at ht; cases ht
        rw [verS_go e e1 hg.1, ← hnh]
        exact ih (nextS s f) (f.drop (stepS s f)) s' (by rw [List.length_drop]; omega) (Prod.ext (by rw [List.length_drop]; omega) h2)
      · rw [scanS_end hg] at h
        obtain ⟨_, h2⟩ := Prod.mk.inj h
        subst h2
        exact absurd rfl e
def HdOk (hs : List (List UInt8)) (f : List UInt8) : Prop := ∀ (k : Nat) hd, hs[k]? = some hd → (verS f z32 hd).2 = 0
theorem HdOk.ext {hs : List (List UInt8)} {f : List UInt8} (h : HdOk hs f) (r : List UInt8) : HdOk hs (f ++ r) := fun k hd hk => ver_append _ f _ _ r (Nat.le_refl _) (h k hd hk)
theorem HdOk.snoc {hs : List (List UInt8)} {f hd : List UInt8} (h : HdOk hs f) (h1 : (verS f z32 hd).2 = 0) : HdOk (hs ++ [hd]) f := by
  intro k x hk
  rw [List.getElem?_append] at hk
  split at hk
  · exact h k x hk
  · obtain ⟨g, e⟩ := List.getElem?_eq_some_iff.1 hk
    simp at e
    rw [← e]; exact h1
structure LS (i : Nat) (s : StS) (f : List UInt8) : Prop where
  ok : StOk s.L
  hh : s.h.length = 32
  sc : scanS st0 f = (f.length, s)
  len : f.length ≤ i * 8300
  ll : s.L.length ≤ i
abbrev firmS (f : List UInt8) : TapeS := ⟨4194304, f, [], 0, false⟩
theorem ls0 : LS 0 st0 [] := ⟨stok0, rfl, by rw [scan_nilS]; rfl, by simp, Nat.le_refl _⟩
theorem LS.head {i : Nat} {s : StS} {f : List UInt8} (h : LS i s f) : (verS f z32 s.h).2 = 0 := ver_scan _ st0 f s (Nat.le_refl _) h.sc
theorem LS.tk {i : Nat} {s : StS} {f : List UInt8} (h : LS i s f) (hi : i ≤ 60) : TapeOk (firmS f) := by
  have := h.len
  exact ⟨by show (4194304 : Int) ≤ _; omega, by show ((f.length + 0 : Nat) : Int) ≤ 4194304; omega, by show (0 : Int) ≤ 0; omega, by show (0 : Int) ≤ _; omega⟩
theorem LS.more {i : Nat} {s : StS} {f : List UInt8} (h : LS i s f) : LS (i + 1) s f := ⟨h.ok, h.hh, h.sc, Nat.le_trans h.len (Nat.mul_le_mul_right _ (Nat.le_succ i)), by have := h.ll; omega⟩
abbrev addO (s : StS) (who : List UInt8) (n : Int) (d : List UInt8) : StS := ⟨s.L ++ [⟨who, n, d⟩], nxS s.h (bodyS who n d)⟩
theorem LS.frame {i : Nat} {s : StS} {f who d : List UInt8} {n : Int} (h : LS i s f) (hw : who.length = 32) (hi : i ≤ 60) (hd : 1 ≤ d.length ∧ d.length ≤ 8192) (hs : n = mkP s.L who + 1) : LS (i + 1) (addO s who n d) (f ++ frS s.h (bodyS who n d)) := by
  have hbl : (bodyS who n d).length = 36 + d.length := by rw [bodyS_len, hw]
  have hof := ofP_len s.L who
  have hll := h.ll
  have ht : takeS s (bodyS who n d) (nxS s.h (bodyS who n d)) = (true, addO s who n d) := takeS_lay hw (by unfold mkP at hs; omega) hs _
  refine ⟨stok_snoc h.ok hs, nxS_len _ _, ?_, ?_, by show (s.L ++ [_]).length ≤ _; rw [List.length_append]; simp; omega⟩
  · rw [scan_appendS f.length f _ _ _ (Nat.le_refl _) h.sc, scan_frameS (by omega) ht, List.length_append]
  · rw [List.length_append, frS_len, Nat.add_mul]
    have := h.len; omega
/-- What is opened behind a crash. -/
structure OpnS (i : Nat) (now next : StS) (f : List UInt8) (t3 : TapeS) (s4 : StS) (f4 : List UInt8) : Prop where
  op : openS t3 = (0, firmS f4)
  sc : (scanS st0 (t3.f ++ t3.l)).2 = s4
  li : LS (i + 1) s4 f4
  l : s4 = now ∨ s4 = next
  ext : ∃ r, f4 = f ++ r
  tk : TapeOk t3
def SitS (i : Nat) (now next : StS) (f : List UInt8) (t : TapeS) : Prop := TapeOk t ∧ ∀ (keep : Int) (sp : Bool), ∃ s4 f4, OpnS i now next f (crashP t keep sp) s4 f4
theorem open_firmS {i : Nat} {s : StS} {f : List UInt8} (h : LS i s f) : openS (firmS f) = (0, firmS f) ∧ (scanS st0 (f ++ [])).2 = s := by
  have hs : scanS st0 ((firmS f).f ++ (firmS f).l) = (f.length, s) := by show scanS st0 (f ++ []) = _; rw [List.append_nil]; exact h.sc
  refine ⟨?_, by rw [List.append_nil, h.sc]⟩
  rw [openS_go rfl, openSC_sync (by rw [hs]; show ¬ f.length < (f ++ []).length; simp), syncP_ok rfl (show ¬ (0 : Int) = 1 by decide)]
  show (0, (⟨4194304, f ++ [], [], max 0 (0 - 1), false⟩ : TapeS)) = _
  rw [List.append_nil]; rfl
section
variable {i : Nat} {s : StS} {f who d : List UInt8} {n : Int} {now next : StS} {ar : Int} {dd : Bool}
theorem crash_firmS (keep : Int) (sp : Bool) : crashP ⟨4194304, f, [], ar, dd⟩ keep sp = firmS f := by
  unfold crashP
  have : ∀ k : Nat, ([] : List UInt8).take k = [] := fun k => by simp
  simp only [this]
  cases sp with
  | false => simp
  | true =>
    have : spoilP [] = [] := rfl
    simp [this]
/-- Nothing was laid that can be lost. -/
theorem sit_firmS (h : LS (i + 1) s f) (ht : TapeOk ⟨4194304, f, [], ar, dd⟩) (hi : i ≤ 50) : SitS i s s f ⟨4194304, f, [], ar, dd⟩ := by
  refine ⟨ht, fun keep sp => ⟨s, f, ?_⟩⟩
  rw [crash_firmS]
  obtain ⟨o1, o2⟩ := open_firmS h
  exact ⟨o1, o2, h, .inl rfl, ⟨[], by rw [List.append_nil]⟩, h.tk (by omega)⟩
/-- A frame is laid, and not synced. -/
theorem sit_looseS (h : LS i s f) (hi : i ≤ 50) (hw : who.length = 32) (hd : 1 ≤ d.length ∧ d.length ≤ 8192) (hs : n = mkP s.L who + 1)
    (htk : TapeOk ⟨4194304, f, frS s.h (bodyS who n d), ar, dd⟩) : SitS i s (addO s who n d) f ⟨4194304, f, frS s.h (bodyS who n d), ar, dd⟩ := by
  refine ⟨htk, fun keep sp => ?_⟩
  have hbl : (bodyS who n d).length = 36 + d.length := by rw [bodyS_len, hw]
  have htk3 := tk_crash htk keep sp
  obtain ⟨p, hp, hc⟩ : ∃ p, (p = frS s.h (bodyS who n d) ∨ (firstS p s.h).2 = false) ∧ crashP ⟨4194304, f, frS s.h (bodyS who n d), ar, dd⟩ keep sp = ⟨4194304, f ++ p, [], 0, false⟩ :=
    ⟨_, tornS (b := bodyS who n d) (by omega) s.h (max 0 (min keep ((frS s.h (bodyS who n d)).length : Int))).toNat sp, rfl⟩
  rw [hc] at htk3 ⊢
  rcases hp with rfl | hp
  · have hli := h.frame hw (by omega) hd hs
    obtain ⟨o1, o2⟩ := open_firmS hli
    exact ⟨_, _, o1, o2, hli, .inr rfl, ⟨_, rfl⟩, htk3⟩
  · have hs : scanS st0 (f ++ p) = (f.length, s) := by rw [scan_appendS f.length f _ _ _ (Nat.le_refl _) h.sc, scan_tornS hp, Nat.add_zero]
    refine ⟨s, f, ?_, ?_, h.more, .inl rfl, ⟨[], by rw [List.append_nil]⟩, htk3⟩
    · have hs' : scanS st0 ((⟨4194304, f ++ p, [], 0, false⟩ : TapeS).f ++ (⟨4194304, f ++ p, [], 0, false⟩ : TapeS).l) = (f.length, s) := by show scanS st0 (f ++ p ++ []) = _; rw [List.append_nil]; exact hs
      rw [openS_go rfl]
      by_cases hpl : p.length = 0
      · obtain rfl := List.length_eq_zero_iff.1 hpl
        rw [openSC_sync (by rw [hs']; show ¬ f.length < (f ++ [] ++ []).length; simp), syncP_ok rfl (show ¬ (0 : Int) = 1 by decide)]
        show (0, (⟨4194304, f ++ [] ++ [], [], max 0 (0 - 1), false⟩ : TapeS)) = _
        rw [List.append_nil, List.append_nil]; rfl
      · rw [openSC_cut (by rw [hs']; show f.length < (f ++ p ++ []).length; rw [List.append_nil, List.length_append]; omega), hs', cutP_ok rfl ⟨by show (0 : Int) ≤ (f.length : Int); omega, by show ((f.length : Nat) : Int) ≤ (((f ++ p).length + 0 : Nat) : Int); rw [List.length_append]; omega⟩ (show ¬ (0 : Int) = 1 by decide)]
        show ((0 : Int), (⟨4194304, (f ++ p ++ []).take ((f.length : Nat) : Int).toNat, [], max 0 (0 - 1), false⟩ : TapeS)) = _
        rw [List.append_nil, Int.toNat_natCast, List.take_left]; rfl
    · show (scanS st0 (f ++ p ++ [])).2 = s
      rw [List.append_nil, hs]
/-- A message is added on an armed tape. -/
theorem add_sit (h : LS i s f) (hi : i ≤ 50) (hw : who.length = 32) {cut : Int} (hcut : cut ≤ 9223372036854775807) (n : Int) (d : List UInt8) :
    (addBad who n d ∧ addS (armP (firmS f) cut) ⟨s, false⟩ who n d = (1, ⟨s, false⟩, armP (firmS f) cut)) ∨
    (¬ addBad who n d ∧ n ≤ mkP s.L who ∧ addS (armP (firmS f) cut) ⟨s, false⟩ who n d = (0, ⟨s, false⟩, armP (firmS f) cut)) ∨
    (¬ addBad who n d ∧ mkP s.L who + 1 < n ∧ addS (armP (firmS f) cut) ⟨s, false⟩ who n d = (44, ⟨s, false⟩, armP (firmS f) cut)) ∨
    (¬ addBad who n d ∧ n = mkP s.L who + 1 ∧ ∃ x2 t2, addS (armP (firmS f) cut) ⟨s, false⟩ who n d = (41, x2, t2) ∧ 1 ≤ cut ∧ SitS i s (addO s who n d) f t2) ∨
    (¬ addBad who n d ∧ n = mkP s.L who + 1 ∧ LS (i + 1) (addO s who n d) (f ++ frS s.h (bodyS who n d)) ∧ ∃ t2, addS (armP (firmS f) cut) ⟨s, false⟩ who n d = (0, ⟨addO s who n d, false⟩, t2) ∧ SitS i (addO s who n d) (addO s who n d) (f ++ frS s.h (bodyS who n d)) t2) := by
  by_cases hb : addBad who n d
  · exact .inl ⟨hb, addS_arg rfl hb⟩
  · have hdl : 1 ≤ d.length ∧ d.length ≤ 8192 := by
      unfold addBad at hb
      have h1 : d ≠ [] := fun e => hb (.inr (.inr (.inl e)))
      have h2 : ¬ 8192 < d.length := fun e => hb (.inr (.inr (.inr e)))
      have := List.length_pos_iff.2 h1
      omega
    by_cases h1 : n ≤ mkP s.L who
    · exact .inr (.inl ⟨hb, h1, addS_old rfl hb h1⟩)
    · by_cases h2 : mkP s.L who + 1 < n
      · exact .inr (.inr (.inl ⟨hb, h2, addS_seq rfl hb h2⟩))
      · have hq : n = mkP s.L who + 1 := by omega
        have hlen := h.len
        have hbl : (bodyS who n d).length = 36 + d.length := by rw [bodyS_len, hw]
        have hfl := frS_len s.h (bodyS who n d)
        have htk : TapeOk (armP (firmS f) cut) := tk_arm (h.tk (by omega)) hcut
        have hroom : ((f.length + ([] : List UInt8).length : Nat) : Int) + ((frS s.h (bodyS who n d)).length : Int) ≤ 4194304 := by rw [List.length_nil]; omega
        have ha : appendP (armP (firmS f) cut) (frS s.h (bodyS who n d)) = actP ⟨4194304, f, frS s.h (bodyS who n d), max cut 0, false⟩ := appendP_ok rfl hroom
        have hta := tk_append htk (frS s.h (bodyS who n d))
        have hts := tk_sync hta
        have hgo : addS (armP (firmS f) cut) ⟨s, false⟩ who n d = layS (armP (firmS f) cut) ⟨s, false⟩ who n d := addS_go rfl hb hq
        by_cases c1 : max cut 0 = 1
        · have e : appendP (armP (firmS f) cut) (frS s.h (bodyS who n d)) = (41, ⟨4194304, f, frS s.h (bodyS who n d), max cut 0, true⟩) := by rw [ha, actP_die c1]
          rw [e] at hta
          refine .inr (.inr (.inr (.inl ⟨hb, hq, ⟨s, true⟩, _, ?_, by omega, sit_looseS h hi hw hdl hq hta⟩)))
          rw [hgo, layS_app (x := ⟨s, false⟩) (by rw [e]; exact (by decide : ¬ (41 : Int) = 40)) (by rw [e]; exact (by decide : (41 : Int) ≠ 0)), e]
        · have e : appendP (armP (firmS f) cut) (frS s.h (bodyS who n d)) = (0, ⟨4194304, f, frS s.h (bodyS who n d), max 0 (max cut 0 - 1), false⟩) := by rw [ha, actP_go c1]
          rw [e] at hts
          by_cases c2 : max 0 (max cut 0 - 1) = 1
          · have e2 : syncP ⟨4194304, f, frS s.h (bodyS who n d), max 0 (max cut 0 - 1), false⟩ = (41, ⟨4194304, f, frS s.h (bodyS who n d), max 0 (max cut 0 - 1), true⟩) := syncP_die rfl c2
            rw [e2] at hts
            refine .inr (.inr (.inr (.inl ⟨hb, hq, ⟨s, true⟩, _, ?_, by omega, sit_looseS h hi hw hdl hq hts⟩)))
            rw [hgo, layS_syn (x := ⟨s, false⟩) (by rw [e]) (by rw [e, e2]; exact (by decide : (41 : Int) ≠ 0)), e, e2]
          · have e2 : syncP ⟨4194304, f, frS s.h (bodyS who n d), max 0 (max cut 0 - 1), false⟩ = (0, ⟨4194304, f ++ frS s.h (bodyS who n d), [], max 0 (max 0 (max cut 0 - 1) - 1), false⟩) := syncP_ok rfl c2
            rw [e2] at hts
            have hli := h.frame hw (by omega) hdl hq
            refine .inr (.inr (.inr (.inr ⟨hb, hq, hli, _, ?_, sit_firmS hli hts hi⟩)))
            rw [hgo, layS_ok (x := ⟨s, false⟩) (by rw [e]) (by rw [e, e2]), e, e2]
end
abbrev HdL := List (List UInt8)
/-- What is known behind a call. -/
structure JS (i : Nat) (who : List UInt8) (n : Int) (d : List UInt8) (sn sx : StS) (fn : List UInt8) (t2 : TapeS) (hs : HdL) (g : Int) : Prop where
  sit : SitS i sn sx fn t2
  hd : HdOk hs fn
  hl : hs.length ≤ 2 * i + 2
  nl : sn.L.length ≤ i + 1
  nx : sx = sn ∨ (sx.L = sn.L ++ [⟨who, n, d⟩] ∧ ¬ g = 0)
theorem js_same {i : Nat} {who d : List UInt8} {n : Int} {s : StS} {f : List UInt8} {cut : Int} {hs : HdL} {g : Int} (h : LS i s f) (hi : i ≤ 50) (ht : TapeOk (armP (firmS f) cut)) (hh : HdOk hs f) (hl : hs.length ≤ 2 * i + 2) : JS i who n d s s f (armP (firmS f) cut) hs g :=
  ⟨sit_firmS h.more ht hi, hh, hl, by have := h.ll; omega, .inl rfl⟩
theorem js_dead {i : Nat} {who d : List UInt8} {n : Int} {s : StS} {f : List UInt8} {t2 : TapeS} {hs : HdL} {g : Int} (h : LS i s f) (hsit : SitS i s (addO s who n d) f t2) (hh : HdOk hs f) (hl : hs.length ≤ 2 * i + 2) (hg : ¬ g = 0) : JS i who n d s (addO s who n d) f t2 hs g :=
  ⟨hsit, hh, hl, by have := h.ll; omega, .inr ⟨rfl, hg⟩⟩
theorem js_ok {i : Nat} {who d : List UInt8} {n : Int} {s : StS} {f : List UInt8} {t2 : TapeS} {hs : HdL} {g : Int} (h : LS (i + 1) (addO s who n d) (f ++ frS s.h (bodyS who n d))) (hsit : SitS i (addO s who n d) (addO s who n d) (f ++ frS s.h (bodyS who n d)) t2) (hh : HdOk hs f) (hl : hs.length ≤ 2 * i + 1) : JS i who n d (addO s who n d) (addO s who n d) (f ++ frS s.h (bodyS who n d)) t2 (hs ++ [(addO s who n d).h]) g :=
  ⟨hsit, (hh.ext _).snoc h.head, by rw [List.length_append]; simp; omega, h.ll, .inl rfl⟩
/-- What is told of the messages of the sender. -/
theorem js_of {i : Nat} {who : List UInt8} {n : Int} {d : List UInt8} {sn sx : StS} {fn : List UInt8} {t2 : TapeS} {hs : HdL} {g : Int} {t3 : TapeS} {s4 : StS} {f4 : List UInt8} (h : JS i who n d sn sx fn t2 hs g) (h4 : OpnS i sn sx fn t3 s4 f4) :
    (ofP s4.L who = ofP sn.L who ∨ (ofP s4.L who = ofP sn.L who ++ [⟨n, d⟩] ∧ ¬ g = 0)) ∧ ∀ w, w ≠ who → ofP s4.L w = ofP sn.L w := by
  rcases h4.l with e | e
  · rw [e]; exact ⟨.inl rfl, fun _ _ => rfl⟩
  · rcases h.nx with e2 | ⟨e2, hg⟩
    · rw [e, e2]; exact ⟨.inl rfl, fun _ _ => rfl⟩
    · rw [e, e2]
      exact ⟨.inr ⟨by rw [ofP_snoc, if_pos rfl]; rfl, hg⟩, fun w hw => by rw [ofP_snoc, if_neg (fun e => hw e.symm)]⟩
theorem js_len {i : Nat} {who : List UInt8} {n : Int} {d : List UInt8} {sn sx : StS} {fn : List UInt8} {t2 : TapeS} {hs : HdL} {g : Int} {t3 : TapeS} {s4 : StS} {f4 : List UInt8} (h : JS i who n d sn sx fn t2 hs g) (h4 : OpnS i sn sx fn t3 s4 f4) :
    (ofP sn.L who).length ≤ (ofP s4.L who).length ∧ (ofP s4.L who).length ≤ (ofP sn.L who).length + 1 ∧ (ofP s4.L who).take (ofP sn.L who).length = ofP sn.L who ∧
    ((ofP sn.L who).length < (ofP s4.L who).length → (ofP s4.L who)[(ofP s4.L who).length - 1]? = some ⟨n, d⟩ ∧ ¬ g = 0) := by
  rcases (js_of h h4).1 with e | ⟨e, hg⟩
  · rw [e]; exact ⟨Nat.le_refl _, by omega, List.take_length, fun h => absurd h (Nat.lt_irrefl _)⟩
  · rw [e]
    refine ⟨by simp, by simp, List.take_left, fun _ => ⟨by simp, hg⟩⟩
theorem pre_rows {H : Hp} {v : Value} {el : TypeId} {l : RecL} (hV : Vec H el 2 v l.length (rowsV recC l)) {k : Nat} (hk : k ≤ l.length) : Vec H el 2 (preV v k) (l.take k).length (rowsV recC (l.take k)) := by
  have hm : k * 2 ≤ l.length * 2 := Nat.mul_le_mul_right _ hk
  have hl : (l.take k).length = k := by rw [List.length_take, Nat.min_eq_left hk]
  rw [hl, ← rowsV_take recC_len]
  rcases hV with ⟨rfl, k2, k3⟩ | ⟨b, cap, q, rfl, k2, k3, k4, k5, k6, k7, k8⟩
  · obtain rfl : k = 0 := by omega
    exact .inl ⟨rfl, rfl, by simp⟩
  · refine .inr ⟨b, cap, q, rfl, k2, k3, ?_, by rw [List.length_take, k5, Nat.min_eq_left hm], by omega, k7, k8⟩
    rw [← k4, List.take_take, Nat.min_eq_left hm]
theorem HdOk.get {hs : HdL} {f : List UInt8} (h : HdOk hs f) {k : Nat} (hk : k < hs.length) : (verS f z32 (hs.getD k [])).2 = 0 := by
  refine h k _ ?_
  rw [List.getD_eq_getElem?_getD, List.getElem?_eq_getElem hk]; rfl
theorem hd0 : HdOk [z32] [] := HdOk.snoc (hs := []) (fun k hd h => by simp at h) ls0.head
theorem read_firmS (f : List UInt8) : readP (firmS f) = (f, 0) := by
  rw [TREAD_ok rfl]
  show (f ++ [], 0) = _
  rw [List.append_nil]
theorem bad_arg {k n : Int} {d : List UInt8} (h : addBad (sndB k) n d) : n < 1 ∨ d.length < 1 ∨ 8192 < d.length := by
  unfold addBad at h
  rcases h with h | h | h | h
  · exact absurd (sndB_len k) h
  · exact .inl h
  · subst h; exact .inr (.inl (by decide))
  · exact .inr (.inr h)
end Go.Proofs.Ytfiojlmccflplaa
end
section
namespace Go.Proofs.Ytfiojlmccflplaa
open Go Go.RowKit D
set_option linter.unusedVariables false
set_option linter.unusedSimpArgs false
set_option maxRecDepth 100000
set_option maxHeartbeats 2000000
section
variable {w0 : World} {H : Hp} {H0 : Hp}
theorem Same_con {va vb : Value} {l m : RecL} (hVa : Vec H 44 2 va l.length (rowsV recC l)) (hVb : Vec H 44 2 vb m.length (rowsV recC m)) (hl : l.length ≤ 1000000000) (hm : m.length ≤ 1000000000) : Con Try.prog w0 23 #[va, vb] H (fun v H' => v = .bool (decide (l = m)) ∧ H' = H) := by
  have hS0 : Sep H [] H := Sep.refl
  refine Con.intro Try.func23 rfl rfl ?_
  refine AW.seq ?_
  refine AW.region ?_
  refine OpsW.q rfl (q_assign (v := .bool _) rfl) ?_
  refine OpsW.nil ?_
  refine SeqP.go ?_
  refine AW.seq ?_
  refine AW.seq ?_
  refine AW.region ?_
  refine OpsW.q rfl (q_move (v := va) rfl) ?_
  refine OpsW.q rfl (q_lenVec Try.underlying46 rfl (hVa.le hS0.le)) ?_
  refine OpsW.q rfl (q_move (v := vb) rfl) ?_
  refine OpsW.q rfl (q_lenVec Try.underlying46 rfl (hVb.le hS0.le)) ?_
  refine OpsW.q rfl (q_neq rfl rfl) ?_
  refine OpsW.nil ?_
  refine SeqP.go ?_
  refine AW.cond rfl (fun h0 => ?_) (fun h0 => ?_)
  ·
    try simp only [decide_eq_true_eq, decide_eq_false_iff_not, Bool.or_eq_true, Bool.and_eq_true, Bool.or_eq_false_iff, Bool.and_eq_false_imp, Bool.not_eq_true', Bool.not_eq_false', ne_eq, Decidable.not_not, Int.not_lt, Int.not_le, Bool.not_eq_true, Bool.not_eq_false] at h0
    have hne : l ≠ m := fun e => by rw [e] at h0; simp at h0
    refine AW.seq ?_
    refine AW.region ?_
    refine OpsW.q rfl (q_assign (v := .bool _) rfl) ?_
    refine OpsW.nil ?_
    refine SeqP.go ?_
    refine AW.ret ?_
    refine SeqP.ret ?_
    refine RetP.mk1 (H' := H) (v1 := .bool _) rfl rfl  hS0.le ?_
    exact ⟨by rw [decide_eq_false hne], rfl⟩
  try simp only [decide_eq_true_eq, decide_eq_false_iff_not, Bool.or_eq_true, Bool.and_eq_true, Bool.or_eq_false_iff, Bool.and_eq_false_imp, Bool.not_eq_true', Bool.not_eq_false', ne_eq, Decidable.not_not, Int.not_lt, Int.not_le, Bool.not_eq_true, Bool.not_eq_false] at h0
  have hlm : l.length = m.length := by omega
  refine AW.skip ?_
  refine SeqP.go ?_
  refine AW.seq ?_
  refine AW.seq ?_
  refine AW.region ?_
  refine OpsW.q rfl (q_assign (v := .int _ _) rfl) ?_
  refine OpsW.nil ?_
  refine SeqP.go ?_
  refine AW.block ?_
  refine AW.loop (fun m_ e_ H_ => ∃ (i : Nat) (e0 : Env), m_ = l.length - i ∧ (i ≤ l.length ∧ ∀ j, j < i → l[j]? = m[j]?) ∧ e_ = upds e0 [(0, va), (1, vb), (5, .int .i64 (i : Int))] ∧ Sep H [] H_) _ ⟨0, _, rfl, ⟨Nat.zero_le _, fun j hj => by omega⟩, Slots.eq ⟨(by rfl), (by rfl), (by rfl),  trivial⟩, hS0⟩ ?_
  rintro m_ _ Hl0 ⟨i, e0, rfl, ⟨hi, hf⟩, rfl, hSl0⟩
  try clear hS0
  refine AW.seq ?_
  refine AW.seq ?_
  refine AW.region ?_
  refine OpsW.q rfl (q_move (v := .int _ _) rfl) ?_
  refine OpsW.q rfl (q_move (v := va) rfl) ?_
  refine OpsW.q rfl (q_lenVec Try.underlying46 rfl (hVa.le hSl0.le)) ?_
  refine OpsW.q rfl (q_lss rfl rfl) ?_
  refine OpsW.nil ?_
  refine SeqP.go ?_
  refine AW.cond2 rfl (fun h1 => ?_) (fun h1 => ?_)
  ·
    try simp only [decide_eq_true_eq, decide_eq_false_iff_not, Bool.or_eq_true, Bool.and_eq_true, Bool.or_eq_false_iff, Bool.and_eq_false_imp, Bool.not_eq_true', Bool.not_eq_false', ne_eq, Decidable.not_not, Int.not_lt, Int.not_le, Bool.not_eq_true, Bool.not_eq_false] at h1
    refine AW.exit ?_
    refine SeqP.exit ?_
    refine LoopP.exit ?_
    have heq : l = m := List.ext_getElem? fun j => (Nat.lt_or_ge j l.length).elim (fun g => hf j (by omega)) (fun g => by rw [List.getElem?_eq_none g, List.getElem?_eq_none (by omega)])
    refine BlockP.here ?_
    refine SeqP.go ?_
    refine AW.seq ?_
    refine AW.region ?_
    refine OpsW.q rfl (q_assign (v := .bool _) rfl) ?_
    refine OpsW.nil ?_
    refine SeqP.go ?_
    refine AW.ret ?_
    refine RetP.mk1 (H' := H) (v1 := .bool _) rfl rfl  hSl0.le ?_
    exact ⟨by rw [decide_eq_true heq], rfl⟩
  try simp only [decide_eq_true_eq, decide_eq_false_iff_not, Bool.or_eq_true, Bool.and_eq_true, Bool.or_eq_false_iff, Bool.and_eq_false_imp, Bool.not_eq_true', Bool.not_eq_false', ne_eq, Decidable.not_not, Int.not_lt, Int.not_le, Bool.not_eq_true, Bool.not_eq_false] at h1
  have hil : i < l.length := by omega
  obtain ⟨r, hr⟩ : ∃ r, l[i]? = some r := ⟨l[i], List.getElem?_eq_getElem hil⟩
  obtain ⟨q, hq⟩ : ∃ q, m[i]? = some q := ⟨m[i], List.getElem?_eq_getElem (by omega)⟩
  refine AW.skip ?_
  refine SeqP.go ?_
  refine AW.seq ?_
  refine AW.block ?_
  refine AW.seq ?_
  refine AW.drawK [] 8 rfl (by kernel_rfl) ?_
  refine SeqK.q rfl (q_move (v := va) rfl) ?_
  refine SeqK.q rfl (q_move (v := .int _ _) rfl) ?_
  refine SeqK.q rfl (q_indexV (Vec.le hVa hSl0.le) Try.underlying46 (by kernel_rfl) rfl rfl (by omega) (by omega)) ?_
  refine SeqK.q rfl (q_loadVR (Vec.le hVa hSl0.le) recC_len (by kernel_rfl) rfl hr (by omega)) ?_
  refine SeqK.q rfl (q_move (v := vb) rfl) ?_
  refine SeqK.q rfl (q_move (v := .int _ _) rfl) ?_
  refine SeqK.q rfl (q_indexV (Vec.le hVb hSl0.le) Try.underlying46 (by kernel_rfl) rfl rfl (by omega) (by omega)) ?_
  refine SeqK.q rfl (q_loadVR (Vec.le hVb hSl0.le) recC_len (by kernel_rfl) rfl hq (by omega)) ?_
  refine SeqK.done ?_
  refine OpsW.q rfl (q_neqRecord rfl rfl) ?_
  refine OpsW.nil ?_
  refine SeqP.go ?_
  refine AW.cond rfl (fun h2 => ?_) (fun h2 => ?_)
  ·
    try simp only [decide_eq_true_eq, decide_eq_false_iff_not, Bool.or_eq_true, Bool.and_eq_true, Bool.or_eq_false_iff, Bool.and_eq_false_imp, Bool.not_eq_true', Bool.not_eq_false', ne_eq, Decidable.not_not, Int.not_lt, Int.not_le, Bool.not_eq_true, Bool.not_eq_false] at h2
    have hne : l ≠ m := fun e => by subst e; rw [hr] at hq; cases hq; simp at h2
    refine AW.seq ?_
    refine AW.region ?_
    refine OpsW.q rfl (q_assign (v := .bool _) rfl) ?_
    refine OpsW.nil ?_
    refine SeqP.go ?_
    refine AW.ret ?_
    refine BlockP.ret ?_
    refine SeqP.ret ?_
    refine LoopP.ret ?_
    refine BlockP.ret ?_
    refine SeqP.ret ?_
    refine RetP.mk1 (H' := H) (v1 := .bool _) rfl rfl  hSl0.le ?_
    exact ⟨by rw [decide_eq_false hne], rfl⟩
  try simp only [decide_eq_true_eq, decide_eq_false_iff_not, Bool.or_eq_true, Bool.and_eq_true, Bool.or_eq_false_iff, Bool.and_eq_false_imp, Bool.not_eq_true', Bool.not_eq_false', ne_eq, Decidable.not_not, Int.not_lt, Int.not_le, Bool.not_eq_true, Bool.not_eq_false] at h2
  have hrq : r = q := by cases r; cases q; simp_all
  refine AW.skip ?_
  refine BlockP.go ?_
  refine SeqP.go ?_
  refine AW.region ?_
  refine OpsW.q rfl (q_move (v := .int _ _) rfl) ?_
  refine OpsW.q rfl (q_addI rfl rfl (by omega)) ?_
  refine OpsW.q rfl (q_assign (v := .int _ _) rfl) ?_
  refine OpsW.nil ?_
  exact LoopP.go _ (by omega) ⟨i + 1, _, rfl, ⟨by omega, fun j hj => (Nat.lt_or_ge j i).elim (hf j) (fun g => by rw [show j = i from by omega, hr, hq, hrq])⟩, Slots.eq ⟨(by rfl), (by rfl), (by rfl),  trivial⟩, hSl0⟩
end
end Go.Proofs.Ytfiojlmccflplaa
end
section
namespace Go.Proofs.Ytfiojlmccflplaa
open Go Go.RowKit D
set_option linter.unusedVariables false
set_option linter.unusedSimpArgs false
set_option maxRecDepth 100000
set_option maxHeartbeats 4000000
section
variable {w0 : World} {H : Hp} {H0 : Hp}
theorem Read_c {L : List Chunk} {F : Chunk → List Chunk} {b tb : Nat} {x : StF} {t : TapeS} (h : Sep H0 L H) (hA : At L (stC b tb x t) F) (htk : TapeOk t) : Con Try.prog w0 24 #[PT tb] H (fun v H' => v = .tuple #[S (readP t).1, .int .i64 (readP t).2] ∧ H' = H) := by
  obtain ⟨Hf, _, h1, _⟩ := h.framed hA
  exact Read_s (sto_tape h1) at0 htk
theorem lasts_con {rops : Option Addr} {m0 c0 : Nat} {vc vk : Value} {cs ks : List Int} (o : Nat → OpT) (hrops : RowsAt w0 rops m0 5 fun j => opCells5 (o j)) (hm : m0 ≤ maxLen) (hC : ∀ H : Hp, RdW w0 H vc (nums .i64 cs)) (hK : ∀ H : Hp, RdW w0 H vk (nums .i64 ks)) (hcm : cs.length ≤ maxLen) (hkm : ks.length ≤ maxLen) (hcz : ∀ j, -9223372036854775808 ≤ cs.getD j 0 ∧ cs.getD j 0 ≤ 9223372036854775807) (hO : ∀ j, j < m0 → -9223372036854775808 ≤ (o j).n ∧ (o j).n ≤ 9223372036854775807) : Con Try.prog w0 7 #[.slice rops m0 c0, vc, vk] H (fun v H' => v = .bool true ∧ H' = H) := by
  have hS0 : Sep H [] H := Sep.refl
  unfold maxLen at hm hcm hkm
  refine Con.intro Try.func7 rfl rfl ?_
  refine AW.seq ?_
  refine AW.region ?_
  refine OpsW.q rfl (q_assign (v := .bool _) rfl) ?_
  refine OpsW.nil ?_
  refine SeqP.go ?_
  refine AW.seq ?_
  refine AW.region ?_
  refine OpsW.m rfl (o_call rfl Try.func14 rfl rfl (New_e (n := 4194304) (by decide))) ?_
  rintro _ H1 ⟨b31, rfl, hR1⟩
  have hS1 := hS0.join hR1
  simp only [List.cons_append, List.nil_append] at hS1
  clear hR1 hS0
  refine OpsW.q rfl (q_move (v := .tuple _) rfl) ?_
  refine OpsW.q rfl (q_extract (v := .pointer _) rfl rfl) ?_
  refine OpsW.q rfl (q_extract (v := .int _ _) rfl rfl) ?_
  refine OpsW.q rfl (q_assign (v := .pointer _) rfl) ?_
  refine OpsW.q rfl (q_assign (v := .int _ _) rfl) ?_
  refine OpsW.nil ?_
  refine SeqP.go ?_
  refine AW.seq ?_
  refine AW.region ?_
  refine OpsW.q rfl (q_move (v := .pointer _) rfl) ?_
  obtain ⟨Hf2, le2, hA2, hB2⟩ := hS1.framed at0
  refine OpsW.m rfl (o_call rfl Try.func15 rfl rfl (Open_e hA2 (stok_new (by decide)) (openS_new (by decide)).1 (openS_new (by decide)).2)) ?_
  rintro _ H2 ⟨b36, rfl, hR2⟩
  have hS2 := hB2 _ _ hR2
  clear hR2 hB2 hA2
  clear hS1
  refine OpsW.q rfl (q_move (v := .tuple _) rfl) ?_
  refine OpsW.q rfl (q_extract (v := .pointer _) rfl rfl) ?_
  refine OpsW.q rfl (q_extract (v := .int _ _) rfl rfl) ?_
  refine OpsW.q rfl (q_assign (v := .pointer _) rfl) ?_
  refine OpsW.q rfl (q_assign (v := .int _ _) rfl) ?_
  refine OpsW.nil ?_
  refine SeqP.go ?_
  refine AW.seq ?_
  refine AW.seq ?_
  refine AW.region ?_
  refine OpsW.q rfl (q_move (v := .int _ _) rfl) ?_
  refine OpsW.q rfl (q_neq rfl rfl) ?_
  refine OpsW.q rfl (q_move (v := .bool false) rfl) ?_
  refine OpsW.qw rfl rfl (q_move (v := .int _ _) rfl) ?_
  refine OpsW.qw rfl rfl (q_neq rfl rfl) ?_
  refine OpsW.q rfl (q_or2 rfl rfl rfl) ?_
  refine OpsW.q rfl (q_move (v := .bool false) rfl) ?_
  refine OpsW.qw rfl rfl (q_move (v := .pointer _) rfl) ?_
  refine OpsW.qw rfl rfl (q_eqlP Try.underlying35 rfl rfl) ?_
  refine OpsW.q rfl (q_or2 rfl rfl rfl) ?_
  refine OpsW.nil ?_
  refine SeqP.go ?_
  refine AW.cond rfl (fun h0 => ?_) (fun h0 => ?_)
  ·
    exfalso
    try simp only [decide_eq_true_eq, decide_eq_false_iff_not, Bool.or_eq_true, Bool.and_eq_true, Bool.or_eq_false_iff, Bool.and_eq_false_imp, Bool.not_eq_true', Bool.not_eq_false', ne_eq, Decidable.not_not, Int.not_lt, Int.not_le, Bool.not_eq_true, Bool.not_eq_false] at h0
    first | contradiction | (simp at *; done) | simp_all
  try simp only [decide_eq_true_eq, decide_eq_false_iff_not, Bool.or_eq_true, Bool.and_eq_true, Bool.or_eq_false_iff, Bool.and_eq_false_imp, Bool.not_eq_true', Bool.not_eq_false', ne_eq, Decidable.not_not, Int.not_lt, Int.not_le, Bool.not_eq_true, Bool.not_eq_false] at h0
  refine AW.skip ?_
  refine SeqP.go ?_
  refine AW.seq ?_
  refine AW.region ?_
  refine OpsW.m rfl (s_makeMap hS2) ?_
  rintro _ H3 ⟨b49, rfl, hS3⟩
  clear hS2
  replace hS3 := st_new hS3
  refine OpsW.q rfl (q_assign (v := .map _) rfl) ?_
  refine OpsW.nil ?_
  refine SeqP.go ?_
  refine AW.seq ?_
  refine AW.region ?_
  refine OpsW.q rfl (q_move (v := .pointer _) rfl) ?_
  refine OpsW.q rfl (o_call rfl Try.func20 rfl rfl (Head_c hS3 (by first | exact at1 | exact at0 | exact at2 | exact at3 | exact at4))) ?_
  refine OpsW.m rfl (s_buildSlice (z := S []) (vs := strs [_]) hS3 Try.underlying28 (by kernel_rfl) (by kernel_rfl) rfl (by rfl) (by rfl) (by decide) rfl (strs_one _) rfl) ?_
  rintro v52 H4 hS4
  clear hS3
  refine OpsW.q rfl (q_assign (v := v52) rfl) ?_
  refine OpsW.nil ?_
  refine SeqP.go ?_
  refine AW.seq ?_
  refine AW.seq ?_
  refine AW.region ?_
  refine OpsW.q rfl (q_assign (v := .int _ _) rfl) ?_
  refine OpsW.nil ?_
  refine SeqP.go ?_
  refine AW.block ?_
  replace hS4 := hS4.nil (el := 9) (sz := 1)
  replace hS4 := hS4.del del0
  refine AW.loop (fun m_ e_ H_ => ∃ (i : Nat) (s : StS) (f : List UInt8) (hs : HdL) (bs : Nat) (hv : Value) (e0 : Env), m_ = m0 - i ∧ (LS i s f ∧ HdOk hs f ∧ hs.length ≤ 2 * i + 1 ∧ i ≤ 40) ∧ e_ = upds e0 [(0, .slice rops m0 c0), (1, vc), (2, vk), (7, .pointer (some ⟨b31, 0, none⟩)), (9, .pointer (some ⟨bs, 0, none⟩)), (11, .map (some b49)), (12, hv), (13, .int .i64 (i : Int))] ∧ Sep H [.vec hv 9 1 hs.length (strs hs), .pred (stM b49 s.L), stC bs b31 ⟨s, false⟩ (firmS f)] H_) _ ⟨0, st0, [], [z32], b36, v52, _, rfl, ⟨ls0, hd0, by decide, by omega⟩, Slots.eq ⟨(by rfl), (by rfl), (by rfl), (by rfl), (by rfl), (by rfl), (by rfl), (by rfl),  trivial⟩, hS4⟩ ?_
  rintro m_ _ Hl0 ⟨i, s, f, hs, bs, hv, e0, rfl, ⟨hL, hH, hhl, hi40⟩, rfl, hSl0⟩
  try clear hS4
  refine AW.seq ?_
  refine AW.seq ?_
  refine AW.region ?_
  refine OpsW.q rfl (q_move (v := .int _ _) rfl) ?_
  refine OpsW.q rfl (q_move (v := .slice _ _ _) rfl) ?_
  refine OpsW.q rfl (q_lenV Try.underlying31 rfl) ?_
  refine OpsW.q rfl (q_lss rfl rfl) ?_
  refine OpsW.qb rfl (q_move (v := .bool _) rfl) ?_
  intro b57 eb57
  refine OpsW.g rfl rfl rfl (fun hB => by simp only [Bool.and_eq_true, beq_iff_eq] at hB; obtain rfl := hB; exact (q_move (v := .int _ _) rfl)) ?_
  refine OpsW.g rfl rfl rfl (fun hB => by simp only [Bool.and_eq_true, beq_iff_eq] at hB; obtain rfl := hB; exact (q_lss rfl rfl)) ?_
  refine OpsW.q rfl (q_and2 rfl rfl rfl) ?_
  refine OpsW.nil ?_
  refine SeqP.go ?_
  refine AW.cond2 rfl (fun h1 => ?_) (fun h1 => ?_)
  ·
    try simp only [eb57, decide_eq_true_eq, decide_eq_false_iff_not, Bool.or_eq_true, Bool.and_eq_true, Bool.or_eq_false_iff, Bool.and_eq_false_imp, Bool.not_eq_true', Bool.not_eq_false', ne_eq, Decidable.not_not, Int.not_lt, Int.not_le, Bool.not_eq_true, Bool.not_eq_false] at h1
    refine AW.exit ?_
    refine SeqP.exit ?_
    refine LoopP.exit ?_
    refine BlockP.here ?_
    refine SeqP.go ?_
    refine AW.seq ?_
    refine AW.region ?_
    refine OpsW.q rfl (o_call rfl Try.func9 rfl rfl (awake_con)) ?_
    refine OpsW.q rfl (q_assign (v := .bool _) rfl) ?_
    refine OpsW.nil ?_
    refine SeqP.go ?_
    refine AW.ret ?_
    refine RetP.mk1 (H' := H) (v1 := .bool _) rfl rfl  hSl0.le ?_
    exact ⟨rfl, rfl⟩
  try simp only [eb57, decide_eq_true_eq, decide_eq_false_iff_not, Bool.or_eq_true, Bool.and_eq_true, Bool.or_eq_false_iff, Bool.and_eq_false_imp, Bool.not_eq_true', Bool.not_eq_false', ne_eq, Decidable.not_not, Int.not_lt, Int.not_le, Bool.not_eq_true, Bool.not_eq_false] at h1
  have hi : i < m0 ∧ i < 40 := by omega
  have hop := hrops
  have hOi := hO i hi.1
  refine AW.skip ?_
  refine SeqP.go ?_
  refine AW.seq ?_
  refine AW.block ?_
  refine AW.seq ?_
  refine AW.region ?_
  refine OpsW.q rfl (q_move (v := .slice _ _ _) rfl) ?_
  refine OpsW.q rfl (q_move (v := .int _ _) rfl) ?_
  refine OpsW.q rfl (q_indexAddrR Try.underlying31 (by kernel_rfl) rfl rfl (by omega) (by omega) hrops) ?_
  refine OpsW.q rfl (q_loadR (sz := 5) (by kernel_rfl) rfl hrops (by omega)) ?_
  rw [Int.toNat_natCast]
  refine OpsW.m rfl (s_alloc (z := .agg #[.int .i64 0, .int .i64 0, .int .i64 0, S [], .bool false]) (cs := [.int .i64 0, .int .i64 0, .int .i64 0, S [], .bool false]) hSl0 (by kernel_rfl) rfl) ?_
  rintro _ H5 ⟨b14, rfl, hS5⟩
  clear hSl0
  refine OpsW.ms (s_storeS (n := 5) hS5 at0 (by kernel_rfl) rfl rfl rfl (ones_all rfl) rfl) ?_
  rintro _ H6 ⟨rfl, hS6⟩
  clear hS5
  refine OpsW.nil ?_
  refine SeqP.go ?_
  refine AW.seq ?_
  refine AW.seq ?_
  refine AW.region ?_
  refine OpsW.q rfl (q_fieldAddr (sz := 0) Try.underlying40 rfl (by kernel_rfl) rfl) ?_
  refine OpsW.q rfl (q_load (v := S _) (by kernel_rfl) rfl (hS6.blk at0) rfl) ?_
  refine OpsW.q rfl (q_lenS Try.underlying9 rfl) ?_
  refine OpsW.q rfl (q_gtr rfl rfl) ?_
  refine OpsW.nil ?_
  refine SeqP.go ?_
  refine AW.cond rfl (fun h2 => ?_) (fun h2 => ?_)
  ·
    try simp only [eb57, decide_eq_true_eq, decide_eq_false_iff_not, Bool.or_eq_true, Bool.and_eq_true, Bool.or_eq_false_iff, Bool.and_eq_false_imp, Bool.not_eq_true', Bool.not_eq_false', ne_eq, Decidable.not_not, Int.not_lt, Int.not_le, Bool.not_eq_true, Bool.not_eq_false] at h2
    refine AW.seq ?_
    refine AW.region ?_
    refine OpsW.q rfl (o_call rfl Try.func9 rfl rfl (awake_con)) ?_
    refine OpsW.q rfl (q_assign (v := .bool _) rfl) ?_
    refine OpsW.nil ?_
    refine SeqP.go ?_
    refine AW.ret ?_
    refine SeqP.ret ?_
    refine BlockP.ret ?_
    refine SeqP.ret ?_
    refine LoopP.ret ?_
    refine BlockP.ret ?_
    refine SeqP.ret ?_
    refine RetP.mk1 (H' := H) (v1 := .bool _) rfl rfl  hS6.le ?_
    exact ⟨rfl, rfl⟩
  try simp only [eb57, decide_eq_true_eq, decide_eq_false_iff_not, Bool.or_eq_true, Bool.and_eq_true, Bool.or_eq_false_iff, Bool.and_eq_false_imp, Bool.not_eq_true', Bool.not_eq_false', ne_eq, Decidable.not_not, Int.not_lt, Int.not_le, Bool.not_eq_true, Bool.not_eq_false] at h2
  have hdl : (o i).dat.length ≤ 9000 := by omega
  refine AW.skip ?_
  refine SeqP.go ?_
  refine AW.seq ?_
  refine AW.region ?_
  refine OpsW.q rfl (q_assign (v := .int _ _) rfl) ?_
  refine OpsW.nil ?_
  refine SeqP.go ?_
  refine AW.seq ?_
  refine AW.region ?_
  refine OpsW.q rfl (q_assign (v := .int _ _) rfl) ?_
  refine OpsW.nil ?_
  refine SeqP.go ?_
  refine AW.cut (fun e_ H_ => ∃ (cut : Int) (e0 : Env), (cut ≤ 9223372036854775807) ∧ e_ = upds e0 [(0, .slice rops m0 c0), (1, vc), (2, vk), (7, .pointer (some ⟨b31, 0, none⟩)), (9, .pointer (some ⟨bs, 0, none⟩)), (11, .map (some b49)), (12, hv), (13, .int .i64 (i : Int)), (14, .pointer (some ⟨b14, 0, none⟩)), (15, .int .i64 cut), (16, .int .i64 0)] ∧ Sep H [.blk b14 ⟨[.int .i64 (o i).ask, .int .i64 (o i).who, .int .i64 (o i).n, S (o i).dat, .bool (o i).sp], 5, 40⟩, .vec hv 9 1 hs.length (strs hs), .pred (stM b49 s.L), stC bs b31 ⟨s, false⟩ (firmS f)] H_) ?_ ?_
  ·
    refine AW.seq ?_
    refine AW.region ?_
    refine OpsW.q rfl (q_move (v := vc) rfl) ?_
    refine OpsW.q rfl (q_lenWN (hC _) Try.underlying51 rfl) ?_
    refine OpsW.q rfl (q_gtr rfl rfl) ?_
    refine OpsW.nil ?_
    refine SeqP.go ?_
    refine AW.cond rfl (fun h3 => ?_) (fun h3 => ?_)
    ·
      try simp only [eb57, decide_eq_true_eq, decide_eq_false_iff_not, Bool.or_eq_true, Bool.and_eq_true, Bool.or_eq_false_iff, Bool.and_eq_false_imp, Bool.not_eq_true', Bool.not_eq_false', ne_eq, Decidable.not_not, Int.not_lt, Int.not_le, Bool.not_eq_true, Bool.not_eq_false] at h3
      refine AW.region ?_
      refine OpsW.q rfl (q_move (v := vc) rfl) ?_
      refine OpsW.q rfl (q_move (v := .int _ _) rfl) ?_
      refine OpsW.q rfl (q_move (v := vc) rfl) ?_
      have hcp : 0 < cs.length := by omega
      have hc0 : 0 ≤ (i : Int) % (cs.length : Int) := Int.emod_nonneg _ (by omega)
      have hc1 : (i : Int) % (cs.length : Int) < cs.length := Int.emod_lt_of_pos _ (by omega)
      refine OpsW.q rfl (q_lenWN (hC _) Try.underlying51 rfl) ?_
      refine OpsW.q rfl (q_remI rfl rfl (by omega)) ?_
      have hcb := hcz ((i : Int) % (cs.length : Int)).toNat
      refine OpsW.q rfl (q_indexW (hC _) Try.underlying51 (by kernel_rfl) rfl rfl (by omega) (by simp only [nums_length, List.length_set, List.length_replicate, List.length_take, List.length_drop, List.length_append, List.length_cons, List.length_nil, ofB_length, toB_length]; omega)) ?_
      refine OpsW.q rfl (q_loadWN (hC _) (by kernel_rfl) rfl (by omega)) ?_
      refine OpsW.q rfl (q_assign (v := .int _ _) rfl) ?_
      refine OpsW.nil ?_
      exact CutP.go ⟨cs.getD ((i : Int) % (cs.length : Int)).toNat 0, _, hcb.2, Slots.eq ⟨(by rfl), (by rfl), (by rfl), (by rfl), (by rfl), (by rfl), (by rfl), (by rfl), (by rfl), (by rfl), (by rfl),  trivial⟩, hS6⟩
    try simp only [eb57, decide_eq_true_eq, decide_eq_false_iff_not, Bool.or_eq_true, Bool.and_eq_true, Bool.or_eq_false_iff, Bool.and_eq_false_imp, Bool.not_eq_true', Bool.not_eq_false', ne_eq, Decidable.not_not, Int.not_lt, Int.not_le, Bool.not_eq_true, Bool.not_eq_false] at h3
    refine AW.skip ?_
    exact CutP.go ⟨0, _, (by omega), Slots.eq ⟨(by rfl), (by rfl), (by rfl), (by rfl), (by rfl), (by rfl), (by rfl), (by rfl), (by rfl), (by rfl), (by rfl),  trivial⟩, hS6⟩
  rintro _ Hc7 ⟨cut, _, hcut, rfl, hSc7⟩
  try clear hS6
  refine AW.cut (fun e_ H_ => ∃ (keep : Int) (e0 : Env), (True) ∧ e_ = upds e0 [(0, .slice rops m0 c0), (1, vc), (2, vk), (7, .pointer (some ⟨b31, 0, none⟩)), (9, .pointer (some ⟨bs, 0, none⟩)), (11, .map (some b49)), (12, hv), (13, .int .i64 (i : Int)), (14, .pointer (some ⟨b14, 0, none⟩)), (15, .int .i64 cut), (16, .int .i64 keep)] ∧ Sep H [.blk b14 ⟨[.int .i64 (o i).ask, .int .i64 (o i).who, .int .i64 (o i).n, S (o i).dat, .bool (o i).sp], 5, 40⟩, .vec hv 9 1 hs.length (strs hs), .pred (stM b49 s.L), stC bs b31 ⟨s, false⟩ (firmS f)] H_) ?_ ?_
  ·
    refine AW.seq ?_
    refine AW.region ?_
    refine OpsW.q rfl (q_move (v := vk) rfl) ?_
    refine OpsW.q rfl (q_lenWN (hK _) Try.underlying51 rfl) ?_
    refine OpsW.q rfl (q_gtr rfl rfl) ?_
    refine OpsW.nil ?_
    refine SeqP.go ?_
    refine AW.cond rfl (fun h4 => ?_) (fun h4 => ?_)
    ·
      try simp only [eb57, decide_eq_true_eq, decide_eq_false_iff_not, Bool.or_eq_true, Bool.and_eq_true, Bool.or_eq_false_iff, Bool.and_eq_false_imp, Bool.not_eq_true', Bool.not_eq_false', ne_eq, Decidable.not_not, Int.not_lt, Int.not_le, Bool.not_eq_true, Bool.not_eq_false] at h4
      refine AW.region ?_
      refine OpsW.q rfl (q_move (v := vk) rfl) ?_
      refine OpsW.q rfl (q_move (v := .int _ _) rfl) ?_
      refine OpsW.q rfl (q_move (v := vk) rfl) ?_
      have hk0 : 0 ≤ (i : Int) % (ks.length : Int) := Int.emod_nonneg _ (by omega)
      have hk1 : (i : Int) % (ks.length : Int) < ks.length := Int.emod_lt_of_pos _ (by omega)
      refine OpsW.q rfl (q_lenWN (hK _) Try.underlying51 rfl) ?_
      refine OpsW.q rfl (q_remI rfl rfl (by omega)) ?_
      refine OpsW.q rfl (q_indexW (hK _) Try.underlying51 (by kernel_rfl) rfl rfl (by omega) (by simp only [nums_length, List.length_set, List.length_replicate, List.length_take, List.length_drop, List.length_append, List.length_cons, List.length_nil, ofB_length, toB_length]; omega)) ?_
      refine OpsW.q rfl (q_loadWN (hK _) (by kernel_rfl) rfl (by omega)) ?_
      refine OpsW.q rfl (q_assign (v := .int _ _) rfl) ?_
      refine OpsW.nil ?_
      exact CutP.go ⟨ks.getD ((i : Int) % (ks.length : Int)).toNat 0, _, trivial, Slots.eq ⟨(by rfl), (by rfl), (by rfl), (by rfl), (by rfl), (by rfl), (by rfl), (by rfl), (by rfl), (by rfl), (by rfl),  trivial⟩, hSc7⟩
    try simp only [eb57, decide_eq_true_eq, decide_eq_false_iff_not, Bool.or_eq_true, Bool.and_eq_true, Bool.or_eq_false_iff, Bool.and_eq_false_imp, Bool.not_eq_true', Bool.not_eq_false', ne_eq, Decidable.not_not, Int.not_lt, Int.not_le, Bool.not_eq_true, Bool.not_eq_false] at h4
    refine AW.skip ?_
    exact CutP.go ⟨0, _, trivial, Slots.eq ⟨(by rfl), (by rfl), (by rfl), (by rfl), (by rfl), (by rfl), (by rfl), (by rfl), (by rfl), (by rfl), (by rfl),  trivial⟩, hSc7⟩
  rintro _ Hc8 ⟨keep, _, _, rfl, hSc8⟩
  try clear hSc7
  refine AW.seq ?_
  refine AW.region ?_
  refine OpsW.q rfl (q_fieldAddr (sz := 0) Try.underlying40 rfl (by kernel_rfl) rfl) ?_
  refine OpsW.q rfl (q_load (v := .int _ _) (by kernel_rfl) rfl (hSc8.blk at0) rfl) ?_
  refine OpsW.q rfl (o_call rfl Try.func16 rfl rfl (sender_con _)) ?_
  refine OpsW.q rfl (q_assign (v := S _) rfl) ?_
  refine OpsW.nil ?_
  refine SeqP.go ?_
  refine AW.seq ?_
  refine AW.region ?_
  refine OpsW.q rfl (q_fieldAddr (sz := 0) Try.underlying40 rfl (by kernel_rfl) rfl) ?_
  refine OpsW.q rfl (q_load (v := .int _ _) (by kernel_rfl) rfl (hSc8.blk at0) rfl) ?_
  refine OpsW.q rfl (q_fieldAddr (sz := 0) Try.underlying40 rfl (by kernel_rfl) rfl) ?_
  refine OpsW.q rfl (q_load (v := S _) (by kernel_rfl) rfl (hSc8.blk at0) rfl) ?_
  refine OpsW.q rfl (q_build (cells := #[.int .i64 (o i).n, S (o i).dat]) rfl (by kernel_rfl)) ?_
  refine OpsW.m rfl (s_alloc (z := .agg #[.int .i64 0, S []]) (cs := [.int .i64 0, S []]) hSc8 (by kernel_rfl) rfl) ?_
  rintro _ H9 ⟨b18, rfl, hS9⟩
  clear hSc8
  refine OpsW.ms (s_storeS (n := 2) hS9 at0 (by kernel_rfl) rfl rfl rfl (ones_all rfl) rfl) ?_
  rintro _ H10 ⟨rfl, hS10⟩
  clear hS9
  refine OpsW.nil ?_
  refine SeqP.go ?_
  refine AW.seq ?_
  have htkA := tk_arm (hL.tk (show i ≤ 60 by omega)) hcut
  have hll := hL.ll
  have hof := ofP_len s.L (sndB (o i).who)
  have hmk : 0 ≤ mkP s.L (sndB (o i).who) ∧ mkP s.L (sndB (o i).who) ≤ 1000 := by unfold mkP; omega
  refine AW.region ?_
  refine OpsW.q rfl (q_move (v := .pointer _) rfl) ?_
  refine OpsW.q rfl (q_move (v := .int _ _) rfl) ?_
  obtain ⟨Hf11, le11, hA11, hB11⟩ := hS10.framed at4
  refine OpsW.m rfl (o_call rfl Try.func21 rfl rfl (Arm_c hA11)) ?_
  rintro _ H11 ⟨rfl, hR11⟩
  have hS11 := hB11 _ _ hR11
  clear hR11 hB11 hA11
  clear hS10
  refine OpsW.nil ?_
  refine SeqP.go ?_
  refine AW.seq ?_
  refine AW.region ?_
  refine OpsW.q rfl (q_move (v := .pointer _) rfl) ?_
  refine OpsW.q rfl (q_move (v := S _) rfl) ?_
  refine OpsW.q rfl (o_call rfl Try.func18 rfl rfl (Mark_c hS11 at4)) ?_
  rw [show mkP (⟨s, false⟩ : StF).st.L (sndB (o i).who) = mkP s.L (sndB (o i).who) from rfl]
  refine OpsW.q rfl (q_assign (v := .int _ _) rfl) ?_
  refine OpsW.nil ?_
  refine SeqP.go ?_
  refine AW.seq ?_
  refine AW.region ?_
  refine OpsW.q rfl (q_move (v := .pointer _) rfl) ?_
  refine OpsW.q rfl (q_move (v := S _) rfl) ?_
  refine OpsW.q rfl (q_loadA0 (n := 2) (by kernel_rfl) rfl (hS11.blk at0) (by simp; done)) ?_
  obtain ⟨Hf12, le12, hA12, hB12⟩ := hS11.framed at4
  refine OpsW.m rfl (o_call rfl Try.func17 rfl rfl (Add_c hA12 hL.ok htkA (by show s.L.length ≤ _; omega) hL.hh)) ?_
  rintro _ H12 ⟨rfl, hR12⟩
  have hS12 := hB12 _ _ hR12
  clear hR12 hB12 hA12
  clear hS11
  refine OpsW.q rfl (q_assign (v := .int _ _) rfl) ?_
  refine OpsW.nil ?_
  refine SeqP.go ?_
  refine AW.cut (fun e_ H_ => ∃ (sn sx : StS) (fn : List UInt8) (x2 : StF) (t2 : TapeS) (hs2 : HdL) (hv2 : Value) (g : Int) (e0 : Env), (JS i (sndB (o i).who) (o i).n (o i).dat sn sx fn t2 hs2 g) ∧ e_ = upds e0 [(0, .slice rops m0 c0), (1, vc), (2, vk), (7, .pointer (some ⟨b31, 0, none⟩)), (9, .pointer (some ⟨bs, 0, none⟩)), (11, .map (some b49)), (12, hv2), (13, .int .i64 (i : Int)), (15, .int .i64 cut), (16, .int .i64 keep), (17, S (sndB (o i).who)), (18, .pointer (some ⟨b18, 0, none⟩)), (20, .int .i64 g)] ∧ Sep H [.blk b18 ⟨[.int .i64 (o i).n, S (o i).dat], 2, 44⟩, .vec hv2 9 1 hs2.length (strs hs2), .pred (stM b49 sn.L), stC bs b31 x2 t2] H_) ?_ ?_
  ·
    refine AW.seq ?_
    refine AW.region ?_
    refine OpsW.q rfl (q_move (v := .int _ _) rfl) ?_
    refine OpsW.nil ?_
    refine SeqP.go ?_
    refine AW.block ?_
    refine AW.seq ?_
    rcases add_sit (who := (sndB (o i).who)) hL (by omega) (sndB_len _) hcut (o i).n (o i).dat with ⟨hbd, hae⟩ | ⟨hbd, hle, hae⟩ | ⟨hbd, hlt, hae⟩ | ⟨hbd, hq, x2, t2, hae, hc1, hsit⟩ | ⟨hbd, hq, hli, t2, hae, hsit⟩
    ·
      rw [hae]
      rw [hae] at hS12
      refine AW.region ?_
      refine OpsW.q rfl (q_eql rfl rfl) ?_
      refine OpsW.q rfl (q_assign (v := .bool _) rfl) ?_
      refine OpsW.nil ?_
      refine SeqP.go ?_
      refine AW.cond rfl (fun h5 => ?_) (fun h5 => ?_)
      ·
        exfalso
        try simp only [eb57, decide_eq_true_eq, decide_eq_false_iff_not, Bool.or_eq_true, Bool.and_eq_true, Bool.or_eq_false_iff, Bool.and_eq_false_imp, Bool.not_eq_true', Bool.not_eq_false', ne_eq, Decidable.not_not, Int.not_lt, Int.not_le, Bool.not_eq_true, Bool.not_eq_false] at h5
        simp at h5
      try simp only [eb57, decide_eq_true_eq, decide_eq_false_iff_not, Bool.or_eq_true, Bool.and_eq_true, Bool.or_eq_false_iff, Bool.and_eq_false_imp, Bool.not_eq_true', Bool.not_eq_false', ne_eq, Decidable.not_not, Int.not_lt, Int.not_le, Bool.not_eq_true, Bool.not_eq_false] at h5
      refine AW.seq ?_
      refine AW.region ?_
      refine OpsW.q rfl (q_eql rfl rfl) ?_
      refine OpsW.q rfl (q_assign (v := .bool _) rfl) ?_
      refine OpsW.nil ?_
      refine SeqP.go ?_
      refine AW.cond rfl (fun h7 => ?_) (fun h7 => ?_)
      ·
        exfalso
        try simp only [eb57, decide_eq_true_eq, decide_eq_false_iff_not, Bool.or_eq_true, Bool.and_eq_true, Bool.or_eq_false_iff, Bool.and_eq_false_imp, Bool.not_eq_true', Bool.not_eq_false', ne_eq, Decidable.not_not, Int.not_lt, Int.not_le, Bool.not_eq_true, Bool.not_eq_false] at h7
        simp at h7
      try simp only [eb57, decide_eq_true_eq, decide_eq_false_iff_not, Bool.or_eq_true, Bool.and_eq_true, Bool.or_eq_false_iff, Bool.and_eq_false_imp, Bool.not_eq_true', Bool.not_eq_false', ne_eq, Decidable.not_not, Int.not_lt, Int.not_le, Bool.not_eq_true, Bool.not_eq_false] at h7
      refine AW.seq ?_
      refine AW.region ?_
      refine OpsW.q rfl (q_eql rfl rfl) ?_
      refine OpsW.q rfl (q_assign (v := .bool _) rfl) ?_
      refine OpsW.nil ?_
      refine SeqP.go ?_
      refine AW.cond rfl (fun h9 => ?_) (fun h9 => ?_)
      ·
        try simp only [eb57, decide_eq_true_eq, decide_eq_false_iff_not, Bool.or_eq_true, Bool.and_eq_true, Bool.or_eq_false_iff, Bool.and_eq_false_imp, Bool.not_eq_true', Bool.not_eq_false', ne_eq, Decidable.not_not, Int.not_lt, Int.not_le, Bool.not_eq_true, Bool.not_eq_false] at h9
        refine AW.seq ?_
        refine AW.region ?_
        refine OpsW.q rfl (q_fieldAddr (sz := 0) Try.underlying40 rfl (by kernel_rfl) rfl) ?_
        refine OpsW.q rfl (q_load (v := .int _ _) (by kernel_rfl) rfl (hS12.blk at1) rfl) ?_
        refine OpsW.q rfl (q_geq rfl rfl) ?_
        refine OpsW.qb rfl (q_move (v := .bool _) rfl) ?_
        intro b148 eb148
        refine OpsW.g rfl rfl rfl (fun hB => by simp only [Bool.and_eq_true, beq_iff_eq] at hB; obtain rfl := hB; exact (q_fieldAddr (sz := 0) Try.underlying40 rfl (by kernel_rfl) rfl)) ?_
        refine OpsW.g rfl rfl rfl (fun hB => by simp only [Bool.and_eq_true, beq_iff_eq] at hB; obtain rfl := hB; exact (q_load (v := S _) (by kernel_rfl) rfl (hS12.blk at1) rfl)) ?_
        refine OpsW.g rfl rfl rfl (fun hB => by simp only [Bool.and_eq_true, beq_iff_eq] at hB; obtain rfl := hB; exact (q_lenS Try.underlying9 rfl)) ?_
        refine OpsW.g rfl rfl rfl (fun hB => by simp only [Bool.and_eq_true, beq_iff_eq] at hB; obtain rfl := hB; exact (q_geq rfl rfl)) ?_
        refine OpsW.q rfl (q_and2 rfl rfl rfl) ?_
        refine OpsW.qb rfl (q_move (v := .bool _) rfl) ?_
        intro b154 eb154
        refine OpsW.g rfl rfl rfl (fun hB => by simp only [Bool.and_eq_true, beq_iff_eq] at hB; obtain rfl := hB; exact (q_fieldAddr (sz := 0) Try.underlying40 rfl (by kernel_rfl) rfl)) ?_
        refine OpsW.g rfl rfl rfl (fun hB => by simp only [Bool.and_eq_true, beq_iff_eq] at hB; obtain rfl := hB; exact (q_load (v := S _) (by kernel_rfl) rfl (hS12.blk at1) rfl)) ?_
        refine OpsW.g rfl rfl rfl (fun hB => by simp only [Bool.and_eq_true, beq_iff_eq] at hB; obtain rfl := hB; exact (q_lenS Try.underlying9 rfl)) ?_
        refine OpsW.g rfl rfl rfl (fun hB => by simp only [Bool.and_eq_true, beq_iff_eq] at hB; obtain rfl := hB; exact (q_leq rfl rfl)) ?_
        refine OpsW.q rfl (q_and2 rfl rfl rfl) ?_
        refine OpsW.nil ?_
        refine SeqP.go ?_
        refine AW.cond rfl (fun h10 => ?_) (fun h10 => ?_)
        ·
          exfalso
          try simp only [eb57, eb148, eb154, decide_eq_true_eq, decide_eq_false_iff_not, Bool.or_eq_true, Bool.and_eq_true, Bool.or_eq_false_iff, Bool.and_eq_false_imp, Bool.not_eq_true', Bool.not_eq_false', ne_eq, Decidable.not_not, Int.not_lt, Int.not_le, Bool.not_eq_true, Bool.not_eq_false] at h10
          have hb3 := bad_arg hbd
          omega
        try simp only [eb57, eb148, eb154, decide_eq_true_eq, decide_eq_false_iff_not, Bool.or_eq_true, Bool.and_eq_true, Bool.or_eq_false_iff, Bool.and_eq_false_imp, Bool.not_eq_true', Bool.not_eq_false', ne_eq, Decidable.not_not, Int.not_lt, Int.not_le, Bool.not_eq_true, Bool.not_eq_false] at h10
        refine AW.skip ?_
        refine BlockP.go ?_
        replace hS12 := hS12.del del1
        exact CutP.go ⟨_, _, _, _, _, _, hv, _, _, (js_same hL (by omega) htkA hH (by omega)), Slots.eq ⟨(by rfl), (by rfl), (by rfl), (by rfl), (by rfl), (by rfl), (by rfl), (by rfl), (by rfl), (by rfl), (by rfl), (by rfl), (by rfl),  trivial⟩, hS12⟩
      exfalso
      try simp only [eb57, decide_eq_true_eq, decide_eq_false_iff_not, Bool.or_eq_true, Bool.and_eq_true, Bool.or_eq_false_iff, Bool.and_eq_false_imp, Bool.not_eq_true', Bool.not_eq_false', ne_eq, Decidable.not_not, Int.not_lt, Int.not_le, Bool.not_eq_true, Bool.not_eq_false] at h9
      simp at h9
    ·
      rw [hae]
      rw [hae] at hS12
      refine AW.region ?_
      refine OpsW.q rfl (q_eql rfl rfl) ?_
      refine OpsW.q rfl (q_assign (v := .bool _) rfl) ?_
      refine OpsW.nil ?_
      refine SeqP.go ?_
      refine AW.cond rfl (fun h5 => ?_) (fun h5 => ?_)
      ·
        try simp only [eb57, decide_eq_true_eq, decide_eq_false_iff_not, Bool.or_eq_true, Bool.and_eq_true, Bool.or_eq_false_iff, Bool.and_eq_false_imp, Bool.not_eq_true', Bool.not_eq_false', ne_eq, Decidable.not_not, Int.not_lt, Int.not_le, Bool.not_eq_true, Bool.not_eq_false] at h5
        refine AW.seq ?_
        refine AW.seq ?_
        refine AW.region ?_
        refine OpsW.q rfl (q_fieldAddr (sz := 0) Try.underlying40 rfl (by kernel_rfl) rfl) ?_
        refine OpsW.q rfl (q_load (v := .int _ _) (by kernel_rfl) rfl (hS12.blk at1) rfl) ?_
        refine OpsW.q rfl (q_move (v := .int _ _) rfl) ?_
        refine OpsW.q rfl (q_gtr rfl rfl) ?_
        refine OpsW.nil ?_
        refine SeqP.go ?_
        refine AW.cond rfl (fun h6 => ?_) (fun h6 => ?_)
        ·
          exfalso
          try simp only [eb57, decide_eq_true_eq, decide_eq_false_iff_not, Bool.or_eq_true, Bool.and_eq_true, Bool.or_eq_false_iff, Bool.and_eq_false_imp, Bool.not_eq_true', Bool.not_eq_false', ne_eq, Decidable.not_not, Int.not_lt, Int.not_le, Bool.not_eq_true, Bool.not_eq_false] at h6
          simp_all <;> omega
        try simp only [eb57, decide_eq_true_eq, decide_eq_false_iff_not, Bool.or_eq_true, Bool.and_eq_true, Bool.or_eq_false_iff, Bool.and_eq_false_imp, Bool.not_eq_true', Bool.not_eq_false', ne_eq, Decidable.not_not, Int.not_lt, Int.not_le, Bool.not_eq_true, Bool.not_eq_false] at h6
        refine AW.skip ?_
        refine SeqP.go ?_
        refine AW.region ?_
        refine OpsW.q rfl (q_move (v := hv) rfl) ?_
        refine OpsW.q rfl (q_move (v := .pointer _) rfl) ?_
        refine OpsW.q rfl (o_call rfl Try.func20 rfl rfl (Head_c hS12 (by first | exact at1 | exact at0 | exact at2 | exact at3 | exact at4))) ?_
        refine OpsW.m rfl (s_buildSlice (z := S []) (vs := strs [_]) hS12 Try.underlying28 (by kernel_rfl) (by kernel_rfl) rfl (by rfl) (by rfl) (by decide) rfl (strs_one _) rfl) ?_
        rintro v134 H13 hS13
        clear hS12
        refine OpsW.m rfl (s_append (sz := 1) (by_ := 16) (z := S []) hS13 at3 Try.underlying28 (by kernel_rfl) (by kernel_rfl) (by kernel_rfl) rfl (by kernel_rfl) rfl rfl (src_vec (hS13.vec at0) (strs_one _)) (by unfold maxLen; omega) (by omega)) ?_
        rintro v135 H14 hS14
        clear hS13
        replace hS14 := hS14.del del0
        refine OpsW.q rfl (q_assign (v := v135) rfl) ?_
        refine OpsW.nil ?_
        refine BlockP.go ?_
        replace hS14 := hS14.del del1
        exact CutP.go ⟨s, s, f, _, _, hs ++ ([s.h] : HdL), v135, _, _, (js_same hL (by omega) htkA (hH.snoc hL.head) (by rw [List.length_append]; simp; omega)), Slots.eq ⟨(by rfl), (by rfl), (by rfl), (by rfl), (by rfl), (by rfl), (by rfl), (by rfl), (by rfl), (by rfl), (by rfl), (by rfl), (by rfl),  trivial⟩, (by rw [List.length_append, show strs (hs ++ ([s.h] : HdL)) = strs hs ++ strs [s.h] from by simp [strs]]; exact hS14)⟩
      exfalso
      try simp only [eb57, decide_eq_true_eq, decide_eq_false_iff_not, Bool.or_eq_true, Bool.and_eq_true, Bool.or_eq_false_iff, Bool.and_eq_false_imp, Bool.not_eq_true', Bool.not_eq_false', ne_eq, Decidable.not_not, Int.not_lt, Int.not_le, Bool.not_eq_true, Bool.not_eq_false] at h5
      simp at h5
    ·
      rw [hae]
      rw [hae] at hS12
      refine AW.region ?_
      refine OpsW.q rfl (q_eql rfl rfl) ?_
      refine OpsW.q rfl (q_assign (v := .bool _) rfl) ?_
      refine OpsW.nil ?_
      refine SeqP.go ?_
      refine AW.cond rfl (fun h5 => ?_) (fun h5 => ?_)
      ·
        exfalso
        try simp only [eb57, decide_eq_true_eq, decide_eq_false_iff_not, Bool.or_eq_true, Bool.and_eq_true, Bool.or_eq_false_iff, Bool.and_eq_false_imp, Bool.not_eq_true', Bool.not_eq_false', ne_eq, Decidable.not_not, Int.not_lt, Int.not_le, Bool.not_eq_true, Bool.not_eq_false] at h5
        simp at h5
      try simp only [eb57, decide_eq_true_eq, decide_eq_false_iff_not, Bool.or_eq_true, Bool.and_eq_true, Bool.or_eq_false_iff, Bool.and_eq_false_imp, Bool.not_eq_true', Bool.not_eq_false', ne_eq, Decidable.not_not, Int.not_lt, Int.not_le, Bool.not_eq_true, Bool.not_eq_false] at h5
      refine AW.seq ?_
      refine AW.region ?_
      refine OpsW.q rfl (q_eql rfl rfl) ?_
      refine OpsW.q rfl (q_assign (v := .bool _) rfl) ?_
      refine OpsW.nil ?_
      refine SeqP.go ?_
      refine AW.cond rfl (fun h7 => ?_) (fun h7 => ?_)
      ·
        try simp only [eb57, decide_eq_true_eq, decide_eq_false_iff_not, Bool.or_eq_true, Bool.and_eq_true, Bool.or_eq_false_iff, Bool.and_eq_false_imp, Bool.not_eq_true', Bool.not_eq_false', ne_eq, Decidable.not_not, Int.not_lt, Int.not_le, Bool.not_eq_true, Bool.not_eq_false] at h7
        refine AW.seq ?_
        refine AW.region ?_
        refine OpsW.q rfl (q_fieldAddr (sz := 0) Try.underlying40 rfl (by kernel_rfl) rfl) ?_
        refine OpsW.q rfl (q_load (v := .int _ _) (by kernel_rfl) rfl (hS12.blk at1) rfl) ?_
        refine OpsW.q rfl (q_move (v := .int _ _) rfl) ?_
        refine OpsW.q rfl (q_addI rfl rfl (by omega)) ?_
        refine OpsW.q rfl (q_leq rfl rfl) ?_
        refine OpsW.nil ?_
        refine SeqP.go ?_
        refine AW.cond rfl (fun h8 => ?_) (fun h8 => ?_)
        ·
          exfalso
          try simp only [eb57, decide_eq_true_eq, decide_eq_false_iff_not, Bool.or_eq_true, Bool.and_eq_true, Bool.or_eq_false_iff, Bool.and_eq_false_imp, Bool.not_eq_true', Bool.not_eq_false', ne_eq, Decidable.not_not, Int.not_lt, Int.not_le, Bool.not_eq_true, Bool.not_eq_false] at h8
          simp_all <;> omega
        try simp only [eb57, decide_eq_true_eq, decide_eq_false_iff_not, Bool.or_eq_true, Bool.and_eq_true, Bool.or_eq_false_iff, Bool.and_eq_false_imp, Bool.not_eq_true', Bool.not_eq_false', ne_eq, Decidable.not_not, Int.not_lt, Int.not_le, Bool.not_eq_true, Bool.not_eq_false] at h8
        refine AW.skip ?_
        refine BlockP.go ?_
        replace hS12 := hS12.del del1
        exact CutP.go ⟨_, _, _, _, _, _, hv, _, _, (js_same hL (by omega) htkA hH (by omega)), Slots.eq ⟨(by rfl), (by rfl), (by rfl), (by rfl), (by rfl), (by rfl), (by rfl), (by rfl), (by rfl), (by rfl), (by rfl), (by rfl), (by rfl),  trivial⟩, hS12⟩
      exfalso
      try simp only [eb57, decide_eq_true_eq, decide_eq_false_iff_not, Bool.or_eq_true, Bool.and_eq_true, Bool.or_eq_false_iff, Bool.and_eq_false_imp, Bool.not_eq_true', Bool.not_eq_false', ne_eq, Decidable.not_not, Int.not_lt, Int.not_le, Bool.not_eq_true, Bool.not_eq_false] at h7
      simp at h7
    ·
      rw [hae]
      rw [hae] at hS12
      refine AW.region ?_
      refine OpsW.q rfl (q_eql rfl rfl) ?_
      refine OpsW.q rfl (q_assign (v := .bool _) rfl) ?_
      refine OpsW.nil ?_
      refine SeqP.go ?_
      refine AW.cond rfl (fun h5 => ?_) (fun h5 => ?_)
      ·
        exfalso
        try simp only [eb57, decide_eq_true_eq, decide_eq_false_iff_not, Bool.or_eq_true, Bool.and_eq_true, Bool.or_eq_false_iff, Bool.and_eq_false_imp, Bool.not_eq_true', Bool.not_eq_false', ne_eq, Decidable.not_not, Int.not_lt, Int.not_le, Bool.not_eq_true, Bool.not_eq_false] at h5
        simp at h5
      try simp only [eb57, decide_eq_true_eq, decide_eq_false_iff_not, Bool.or_eq_true, Bool.and_eq_true, Bool.or_eq_false_iff, Bool.and_eq_false_imp, Bool.not_eq_true', Bool.not_eq_false', ne_eq, Decidable.not_not, Int.not_lt, Int.not_le, Bool.not_eq_true, Bool.not_eq_false] at h5
      refine AW.seq ?_
      refine AW.region ?_
      refine OpsW.q rfl (q_eql rfl rfl) ?_
      refine OpsW.q rfl (q_assign (v := .bool _) rfl) ?_
      refine OpsW.nil ?_
      refine SeqP.go ?_
      refine AW.cond rfl (fun h7 => ?_) (fun h7 => ?_)
      ·
        exfalso
        try simp only [eb57, decide_eq_true_eq, decide_eq_false_iff_not, Bool.or_eq_true, Bool.and_eq_true, Bool.or_eq_false_iff, Bool.and_eq_false_imp, Bool.not_eq_true', Bool.not_eq_false', ne_eq, Decidable.not_not, Int.not_lt, Int.not_le, Bool.not_eq_true, Bool.not_eq_false] at h7
        simp at h7
      try simp only [eb57, decide_eq_true_eq, decide_eq_false_iff_not, Bool.or_eq_true, Bool.and_eq_true, Bool.or_eq_false_iff, Bool.and_eq_false_imp, Bool.not_eq_true', Bool.not_eq_false', ne_eq, Decidable.not_not, Int.not_lt, Int.not_le, Bool.not_eq_true, Bool.not_eq_false] at h7
      refine AW.seq ?_
      refine AW.region ?_
      refine OpsW.q rfl (q_eql rfl rfl) ?_
      refine OpsW.q rfl (q_assign (v := .bool _) rfl) ?_
      refine OpsW.nil ?_
      refine SeqP.go ?_
      refine AW.cond rfl (fun h9 => ?_) (fun h9 => ?_)
      ·
        exfalso
        try simp only [eb57, decide_eq_true_eq, decide_eq_false_iff_not, Bool.or_eq_true, Bool.and_eq_true, Bool.or_eq_false_iff, Bool.and_eq_false_imp, Bool.not_eq_true', Bool.not_eq_false', ne_eq, Decidable.not_not, Int.not_lt, Int.not_le, Bool.not_eq_true, Bool.not_eq_false] at h9
        simp at h9
      try simp only [eb57, decide_eq_true_eq, decide_eq_false_iff_not, Bool.or_eq_true, Bool.and_eq_true, Bool.or_eq_false_iff, Bool.and_eq_false_imp, Bool.not_eq_true', Bool.not_eq_false', ne_eq, Decidable.not_not, Int.not_lt, Int.not_le, Bool.not_eq_true, Bool.not_eq_false] at h9
      refine AW.seq ?_
      refine AW.region ?_
      refine OpsW.q rfl (q_move (v := .int _ _) rfl) ?_
      refine OpsW.q rfl (q_neq rfl rfl) ?_
      refine OpsW.qb rfl (q_move (v := .bool _) rfl) ?_
      intro b113 eb113
      refine OpsW.g rfl rfl rfl (fun hB => by simp only [Bool.and_eq_true, beq_iff_eq] at hB; obtain rfl := hB; exact (q_move (v := .int _ _) rfl)) ?_
      refine OpsW.g rfl rfl rfl (fun hB => by simp only [Bool.and_eq_true, beq_iff_eq] at hB; obtain rfl := hB; exact (q_lss rfl rfl)) ?_
      refine OpsW.q rfl (q_or2 rfl rfl rfl) ?_
      refine OpsW.nil ?_
      refine SeqP.go ?_
      refine AW.cond rfl (fun h11 => ?_) (fun h11 => ?_)
      ·
        exfalso
        try simp only [eb57, eb113, decide_eq_true_eq, decide_eq_false_iff_not, Bool.or_eq_true, Bool.and_eq_true, Bool.or_eq_false_iff, Bool.and_eq_false_imp, Bool.not_eq_true', Bool.not_eq_false', ne_eq, Decidable.not_not, Int.not_lt, Int.not_le, Bool.not_eq_true, Bool.not_eq_false] at h11
        simp_all <;> omega
      try simp only [eb57, eb113, decide_eq_true_eq, decide_eq_false_iff_not, Bool.or_eq_true, Bool.and_eq_true, Bool.or_eq_false_iff, Bool.and_eq_false_imp, Bool.not_eq_true', Bool.not_eq_false', ne_eq, Decidable.not_not, Int.not_lt, Int.not_le, Bool.not_eq_true, Bool.not_eq_false] at h11
      refine AW.skip ?_
      refine BlockP.go ?_
      replace hS12 := hS12.del del1
      exact CutP.go ⟨_, _, _, _, _, _, hv, _, _, (js_dead (g := 41) hL hsit hH (by omega) (by decide)), Slots.eq ⟨(by rfl), (by rfl), (by rfl), (by rfl), (by rfl), (by rfl), (by rfl), (by rfl), (by rfl), (by rfl), (by rfl), (by rfl), (by rfl),  trivial⟩, hS12⟩
    ·
      rw [hae]
      rw [hae] at hS12
      refine AW.region ?_
      refine OpsW.q rfl (q_eql rfl rfl) ?_
      refine OpsW.q rfl (q_assign (v := .bool _) rfl) ?_
      obtain ⟨vs, ov, hov, hnd, hno, hSo⟩ := st_open (sndB (o i).who) (Sep.bring del3 hS12)
      replace hS12 := hSo
      refine OpsW.nil ?_
      refine SeqP.go ?_
      refine AW.cond rfl (fun h5 => ?_) (fun h5 => ?_)
      ·
        try simp only [eb57, decide_eq_true_eq, decide_eq_false_iff_not, Bool.or_eq_true, Bool.and_eq_true, Bool.or_eq_false_iff, Bool.and_eq_false_imp, Bool.not_eq_true', Bool.not_eq_false', ne_eq, Decidable.not_not, Int.not_lt, Int.not_le, Bool.not_eq_true, Bool.not_eq_false] at h5
        refine AW.cut (fun e_ H_ => ∃ (ov2 : Value) (e0 : Env), (True) ∧ e_ = upds e0 [(0, .slice rops m0 c0), (1, vc), (2, vk), (7, .pointer (some ⟨b31, 0, none⟩)), (9, .pointer (some ⟨bs, 0, none⟩)), (11, .map (some b49)), (12, hv), (13, .int .i64 (i : Int)), (14, .pointer (some ⟨b14, 0, none⟩)), (15, .int .i64 cut), (16, .int .i64 keep), (17, S (sndB (o i).who)), (18, .pointer (some ⟨b18, 0, none⟩)), (20, .int .i64 0)] ∧ Sep H [.blk b49 (mpB (ents S ((mst vs (sndB (o i).who) ov2)))), .vec ov2 44 2 ((ofP s.L (sndB (o i).who) ++ ([⟨(o i).n, (o i).dat⟩] : RecL)).length) (rowsV recC (ofP s.L (sndB (o i).who) ++ ([⟨(o i).n, (o i).dat⟩] : RecL))), .pred (stEx s.L vs (sndB (o i).who)), .blk b18 ⟨[.int .i64 (o i).n, S (o i).dat], 2, 44⟩, .vec hv 9 1 hs.length (strs hs), stC bs b31 ⟨(addO s (sndB (o i).who) (o i).n (o i).dat), false⟩ t2] H_) ?_ ?_
        ·
          refine AW.seq ?_
          refine AW.region ?_
          refine OpsW.q rfl (q_fieldAddr (sz := 0) Try.underlying40 rfl (by kernel_rfl) rfl) ?_
          refine OpsW.q rfl (q_load (v := .int _ _) (by kernel_rfl) rfl (hS12.blk at4) rfl) ?_
          refine OpsW.q rfl (q_move (v := .int _ _) rfl) ?_
          refine OpsW.q rfl (q_gtr rfl rfl) ?_
          refine OpsW.nil ?_
          refine SeqP.go ?_
          refine AW.cond rfl (fun h6 => ?_) (fun h6 => ?_)
          ·
            try simp only [eb57, decide_eq_true_eq, decide_eq_false_iff_not, Bool.or_eq_true, Bool.and_eq_true, Bool.or_eq_false_iff, Bool.and_eq_false_imp, Bool.not_eq_true', Bool.not_eq_false', ne_eq, Decidable.not_not, Int.not_lt, Int.not_le, Bool.not_eq_true, Bool.not_eq_false] at h6
            refine AW.region ?_
            refine OpsW.q rfl (q_move (v := .map _) rfl) ?_
            refine OpsW.q rfl (q_move (v := S _) rfl) ?_
            refine OpsW.q rfl (q_move (v := .map _) rfl) ?_
            refine OpsW.q rfl (q_move (v := S _) rfl) ?_
            refine OpsW.q rfl (q_lookup (z := .slice none 0 0) Try.underlying52 (key_str Try.underlying9) (by kernel_rfl) rfl rfl (hS12.blk at0)) ?_
            rw [hov]
            refine OpsW.q rfl (q_loadA0 (n := 2) (by kernel_rfl) rfl (hS12.blk at3) (by simp; done)) ?_
            refine OpsW.m rfl (s_buildSlice2 (z := .agg #[.int .i64 0, S []]) hS12 Try.underlying46 (by kernel_rfl) (by kernel_rfl) rfl) ?_
            rintro v129 H15 hS15
            clear hS12
            refine OpsW.m rfl (s_append (sz := 2) (by_ := 24) (z := .agg #[.int .i64 0, S []]) hS15 at2 Try.underlying46 (by kernel_rfl) (by kernel_rfl) (by kernel_rfl) rfl (by kernel_rfl) rfl rfl (src_vec (hS15.vec at0) (fun u hu => recC_one ⟨(o i).n, (o i).dat⟩ u hu)) (by unfold maxLen; omega) (by omega)) ?_
            rintro v130 H16 hS16
            clear hS15
            replace hS16 := hS16.del del0
            refine OpsW.ms (s_mapUpdate (u := v130) hS16 at0 Try.underlying52 (key_str Try.underlying9) rfl rfl rfl) ?_
            rintro _ H17 ⟨rfl, hS17⟩
            clear hS16
            refine OpsW.nil ?_
            replace hS17 := hS17.del del4
            exact CutP.go ⟨v130, _, trivial, Slots.eq ⟨(by rfl), (by rfl), (by rfl), (by rfl), (by rfl), (by rfl), (by rfl), (by rfl), (by rfl), (by rfl), (by rfl), (by rfl), (by rfl), (by rfl),  trivial⟩, (by rw [List.length_append, rowsV_append, rowsV_one]; exact hS17)⟩
          exfalso
          try simp only [eb57, decide_eq_true_eq, decide_eq_false_iff_not, Bool.or_eq_true, Bool.and_eq_true, Bool.or_eq_false_iff, Bool.and_eq_false_imp, Bool.not_eq_true', Bool.not_eq_false', ne_eq, Decidable.not_not, Int.not_lt, Int.not_le, Bool.not_eq_true, Bool.not_eq_false] at h6
          simp_all <;> omega
        rintro _ Hc18 ⟨ov2, _, _, rfl, hSc18⟩
        try clear hS12
        have e9 : ofP (addO s (sndB (o i).who) (o i).n (o i).dat).L (sndB (o i).who) = ofP s.L (sndB (o i).who) ++ ([⟨(o i).n, (o i).dat⟩] : RecL) := by show ofP (s.L ++ [_]) _ = _; rw [ofP_snoc, if_pos rfl]; rfl
        rw [← e9] at hSc18
        replace hSc18 := st_close (L' := (addO s (sndB (o i).who) (o i).n (o i).dat).L) hnd hno (fun w hw => by show ofP (s.L ++ [_]) w = _; rw [ofP_snoc, if_neg (fun e => hw e.symm)]) hSc18
        refine AW.region ?_
        refine OpsW.q rfl (q_move (v := hv) rfl) ?_
        refine OpsW.q rfl (q_move (v := .pointer _) rfl) ?_
        refine OpsW.q rfl (o_call rfl Try.func20 rfl rfl (Head_c hSc18 (by first | exact at1 | exact at0 | exact at2 | exact at3 | exact at4))) ?_
        refine OpsW.m rfl (s_buildSlice (z := S []) (vs := strs [_]) hSc18 Try.underlying28 (by kernel_rfl) (by kernel_rfl) rfl (by rfl) (by rfl) (by decide) rfl (strs_one _) rfl) ?_
        rintro v134 H19 hS19
        clear hSc18
        refine OpsW.m rfl (s_append (sz := 1) (by_ := 16) (z := S []) hS19 at3 Try.underlying28 (by kernel_rfl) (by kernel_rfl) (by kernel_rfl) rfl (by kernel_rfl) rfl rfl (src_vec (hS19.vec at0) (strs_one _)) (by unfold maxLen; omega) (by omega)) ?_
        rintro v135 H20 hS20
        clear hS19
        replace hS20 := hS20.del del0
        refine OpsW.q rfl (q_assign (v := v135) rfl) ?_
        refine OpsW.nil ?_
        refine BlockP.go ?_
        replace hS20 := Sep.bring del3 hS20
        replace hS20 := Sep.bring del1 hS20
        replace hS20 := Sep.bring del3 hS20
        replace hS20 := Sep.bring del3 hS20
        exact CutP.go ⟨_, _, _, _, _, hs ++ ([(addO s (sndB (o i).who) (o i).n (o i).dat).h] : HdL), v135, _, _, (js_ok hli hsit hH hhl), Slots.eq ⟨(by rfl), (by rfl), (by rfl), (by rfl), (by rfl), (by rfl), (by rfl), (by rfl), (by rfl), (by rfl), (by rfl), (by rfl), (by rfl),  trivial⟩, (by rw [List.length_append, show strs (hs ++ ([(addO s (sndB (o i).who) (o i).n (o i).dat).h] : HdL)) = strs hs ++ strs [(addO s (sndB (o i).who) (o i).n (o i).dat).h] from by simp [strs]]; exact hS20)⟩
      exfalso
      try simp only [eb57, decide_eq_true_eq, decide_eq_false_iff_not, Bool.or_eq_true, Bool.and_eq_true, Bool.or_eq_false_iff, Bool.and_eq_false_imp, Bool.not_eq_true', Bool.not_eq_false', ne_eq, Decidable.not_not, Int.not_lt, Int.not_le, Bool.not_eq_true, Bool.not_eq_false] at h5
      simp at h5
  rintro _ Hc21 ⟨sn, sx, fn, x2, t2, hs2, hv2, g, _, hJ, rfl, hSc21⟩
  try clear hS12
  replace hSc21 := sto_tape (Sep.bring del3 hSc21)
  refine AW.seq ?_
  refine AW.region ?_
  refine OpsW.q rfl (q_move (v := .pointer _) rfl) ?_
  refine OpsW.q rfl (q_move (v := .int _ _) rfl) ?_
  refine OpsW.q rfl (q_move (v := .int _ _) rfl) ?_
  refine OpsW.q rfl (q_rem rfl rfl (by decide)) ?_
  refine OpsW.q rfl (q_eql rfl rfl) ?_
  obtain ⟨Hf22, le22, hA22, hB22⟩ := hSc21.framed at0
  refine OpsW.m rfl (o_call rfl Try.func22 rfl rfl (Crash_s hA22 hJ.sit.1 _ _)) ?_
  rintro _ H22 ⟨rfl, hR22⟩
  have hS22 := hB22 _ _ hR22
  clear hR22 hB22 hA22
  clear hSc21
  refine OpsW.nil ?_
  refine SeqP.go ?_
  refine AW.seq ?_
  have hhJ := hJ.hl
  obtain ⟨s4, f4, hO4⟩ := hJ.sit.2 keep (decide (Int.tmod cut 2 = 0))
  have h4l := hO4.li.ll
  have h4f := hO4.li.len
  have hjo := js_of hJ hO4
  have hjl := js_len hJ hO4
  have hol4 := ofP_len s4.L (sndB (o i).who)
  have holn := ofP_len sn.L (sndB (o i).who)
  have hnl := hJ.nl
  have hlt1 : ¬ (((ofP s4.L (sndB (o i).who)).length : Int) < ((ofP sn.L (sndB (o i).who)).length : Int)) := by omega
  have hgt1 : ¬ (((ofP sn.L (sndB (o i).who)).length : Int) + 1 < ((ofP s4.L (sndB (o i).who)).length : Int)) := by omega
  refine AW.region ?_
  refine OpsW.q rfl (q_move (v := .pointer _) rfl) ?_
  obtain ⟨Hf23, le23, hA23, hB23⟩ := hS22.framed at0
  refine OpsW.m rfl (o_call rfl Try.func15 rfl rfl (Open_e hA23 hO4.tk hO4.op hO4.sc)) ?_
  rintro _ H23 ⟨b168, rfl, hR23⟩
  have hS23 := hB23 _ _ hR23
  clear hR23 hB23 hA23
  clear hS22
  refine OpsW.q rfl (q_move (v := .tuple _) rfl) ?_
  refine OpsW.q rfl (q_extract (v := .pointer _) rfl rfl) ?_
  refine OpsW.q rfl (q_extract (v := .int _ _) rfl rfl) ?_
  refine OpsW.q rfl (q_assign (v := .pointer _) rfl) ?_
  refine OpsW.q rfl (q_assign (v := .int _ _) rfl) ?_
  refine OpsW.nil ?_
  refine SeqP.go ?_
  refine AW.seq ?_
  refine AW.seq ?_
  refine AW.region ?_
  refine OpsW.q rfl (q_move (v := .int _ _) rfl) ?_
  refine OpsW.q rfl (q_neq rfl rfl) ?_
  refine OpsW.q rfl (q_move (v := .bool false) rfl) ?_
  refine OpsW.qw rfl rfl (q_move (v := .pointer _) rfl) ?_
  refine OpsW.qw rfl rfl (q_eqlP Try.underlying35 rfl rfl) ?_
  refine OpsW.q rfl (q_or2 rfl rfl rfl) ?_
  refine OpsW.nil ?_
  refine SeqP.go ?_
  refine AW.cond rfl (fun h12 => ?_) (fun h12 => ?_)
  ·
    exfalso
    try simp only [eb57, decide_eq_true_eq, decide_eq_false_iff_not, Bool.or_eq_true, Bool.and_eq_true, Bool.or_eq_false_iff, Bool.and_eq_false_imp, Bool.not_eq_true', Bool.not_eq_false', ne_eq, Decidable.not_not, Int.not_lt, Int.not_le, Bool.not_eq_true, Bool.not_eq_false] at h12
    first | contradiction | (simp at *; done) | simp_all
  try simp only [eb57, decide_eq_true_eq, decide_eq_false_iff_not, Bool.or_eq_true, Bool.and_eq_true, Bool.or_eq_false_iff, Bool.and_eq_false_imp, Bool.not_eq_true', Bool.not_eq_false', ne_eq, Decidable.not_not, Int.not_lt, Int.not_le, Bool.not_eq_true, Bool.not_eq_false] at h12
  refine AW.skip ?_
  refine SeqP.go ?_
  refine AW.seq ?_
  refine AW.region ?_
  refine OpsW.q rfl (q_move (v := .pointer _) rfl) ?_
  refine OpsW.q rfl (q_move (v := S _) rfl) ?_
  refine OpsW.m rfl (o_call rfl Try.func19 rfl rfl (Of_c hS23 at0 (by have := hO4.li.ll; show s4.L.length ≤ _; omega))) ?_
  rintro v179 H24 hR24
  have hS24 := hS23.join hR24
  simp only [List.cons_append, List.nil_append] at hS24
  clear hR24 hS23
  refine OpsW.q rfl (q_assign (v := v179) rfl) ?_
  refine OpsW.nil ?_
  refine SeqP.go ?_
  refine AW.seq ?_
  refine AW.seq ?_
  obtain ⟨vs, hvs, hvv⟩ := st_look hS24 at4 (sndB (o i).who)
  refine AW.drawK [] 36 rfl (by kernel_rfl) ?_
  refine SeqK.q rfl (q_move (v := v179) rfl) ?_
  refine SeqK.q rfl (q_lenVec Try.underlying46 rfl (hS24.vec at0)) ?_
  refine SeqK.q rfl (q_move (v := .map _) rfl) ?_
  refine SeqK.q rfl (q_move (v := S _) rfl) ?_
  refine SeqK.q rfl (q_lookup (z := .slice none 0 0) Try.underlying52 (key_str Try.underlying9) (by kernel_rfl) rfl rfl hvs) ?_
  refine SeqK.q rfl (q_lenVec Try.underlying46 rfl hvv) ?_
  refine SeqK.q rfl (q_lss rfl rfl) ?_
  rw [decide_eq_false hlt1]
  refine SeqK.q rfl (q_move (v := .bool false) rfl) ?_
  refine SeqK.qw rfl rfl (q_move (v := v179) rfl) ?_
  refine SeqK.qw rfl rfl (q_lenVec Try.underlying46 rfl (hS24.vec at0)) ?_
  refine SeqK.qw rfl rfl (q_move (v := .map _) rfl) ?_
  refine SeqK.qw rfl rfl (q_move (v := S _) rfl) ?_
  refine SeqK.qw rfl rfl (q_lookup (z := .slice none 0 0) Try.underlying52 (key_str Try.underlying9) (by kernel_rfl) rfl rfl hvs) ?_
  refine SeqK.qw rfl rfl (q_lenVec Try.underlying46 rfl hvv) ?_
  refine SeqK.qw rfl rfl (q_addI rfl rfl (by omega)) ?_
  refine SeqK.qw rfl rfl (q_gtr rfl rfl) ?_
  rw [decide_eq_false hgt1]
  refine SeqK.q rfl (q_or2 rfl rfl rfl) ?_
  refine SeqK.q rfl (q_move (v := .bool false) rfl) ?_
  refine SeqK.qw rfl rfl (q_move (v := v179) rfl) ?_
  refine SeqK.qw rfl rfl (q_move (v := .map _) rfl) ?_
  refine SeqK.qw rfl rfl (q_move (v := S _) rfl) ?_
  refine SeqK.qw rfl rfl (q_lookup (z := .slice none 0 0) Try.underlying52 (key_str Try.underlying9) (by kernel_rfl) rfl rfl hvs) ?_
  refine SeqK.qw rfl rfl (q_lenVec Try.underlying46 rfl hvv) ?_
  refine SeqK.qw rfl rfl (q_preM (hS24.vec at0) Try.underlying46 (by kernel_rfl) rfl rfl (by omega) (by omega)) ?_
  rw [Int.toNat_natCast]
  refine SeqK.qw rfl rfl (q_move (v := .map _) rfl) ?_
  refine SeqK.qw rfl rfl (q_move (v := S _) rfl) ?_
  refine SeqK.qw rfl rfl (q_lookup (z := .slice none 0 0) Try.underlying52 (key_str Try.underlying9) (by kernel_rfl) rfl rfl hvs) ?_
  refine SeqK.qw rfl rfl (o_call rfl Try.func23 rfl rfl (Same_con (l := (ofP s4.L (sndB (o i).who)).take (ofP sn.L (sndB (o i).who)).length) (m := (ofP sn.L (sndB (o i).who))) (pre_rows (hS24.vec at0) hjl.1) hvv (by rw [List.length_take]; omega) (by omega))) ?_
  rw [decide_eq_true hjl.2.2.1]
  refine SeqK.qw rfl rfl (q_not rfl) ?_
  refine SeqK.q rfl (q_or2 rfl rfl rfl) ?_
  refine SeqK.q rfl (q_move (v := .bool false) rfl) ?_
  refine SeqK.qw rfl rfl (q_move (v := .pointer _) rfl) ?_
  refine SeqK.qw rfl rfl (q_move (v := S _) rfl) ?_
  refine SeqK.qw rfl rfl (o_call rfl Try.func18 rfl rfl (Mark_c hS24 at1)) ?_
  refine SeqK.qw rfl rfl (q_move (v := v179) rfl) ?_
  refine SeqK.qw rfl rfl (q_lenVec Try.underlying46 rfl (hS24.vec at0)) ?_
  refine SeqK.done ?_
  refine OpsW.qw rfl rfl (q_neq rfl rfl) ?_
  refine OpsW.q rfl (q_or2 rfl rfl rfl) ?_
  refine OpsW.nil ?_
  refine SeqP.go ?_
  refine AW.cond rfl (fun h13 => ?_) (fun h13 => ?_)
  ·
    exfalso
    try simp only [eb57, decide_eq_true_eq, decide_eq_false_iff_not, Bool.or_eq_true, Bool.and_eq_true, Bool.or_eq_false_iff, Bool.and_eq_false_imp, Bool.not_eq_true', Bool.not_eq_false', ne_eq, Decidable.not_not, Int.not_lt, Int.not_le, Bool.not_eq_true, Bool.not_eq_false] at h13
    simp [mkP] at h13
  try simp only [eb57, decide_eq_true_eq, decide_eq_false_iff_not, Bool.or_eq_true, Bool.and_eq_true, Bool.or_eq_false_iff, Bool.and_eq_false_imp, Bool.not_eq_true', Bool.not_eq_false', ne_eq, Decidable.not_not, Int.not_lt, Int.not_le, Bool.not_eq_true, Bool.not_eq_false] at h13
  refine AW.skip ?_
  refine SeqP.go ?_
  refine AW.seq ?_
  refine AW.seq ?_
  by_cases hg4 : (ofP sn.L (sndB (o i).who)).length < (ofP s4.L (sndB (o i).who)).length
  ·
    obtain ⟨hg5, hg6⟩ := hjl.2.2.2 hg4
    refine AW.drawK [] 15 rfl (by kernel_rfl) ?_
    refine SeqK.q rfl (q_move (v := v179) rfl) ?_
    refine SeqK.q rfl (q_lenVec Try.underlying46 rfl (hS24.vec at0)) ?_
    refine SeqK.q rfl (q_move (v := .map _) rfl) ?_
    refine SeqK.q rfl (q_move (v := S _) rfl) ?_
    refine SeqK.q rfl (q_lookup (z := .slice none 0 0) Try.underlying52 (key_str Try.underlying9) (by kernel_rfl) rfl rfl hvs) ?_
    refine SeqK.q rfl (q_lenVec Try.underlying46 rfl hvv) ?_
    refine SeqK.q rfl (q_gtr rfl rfl) ?_
    rw [decide_eq_true (by omega : ((ofP sn.L (sndB (o i).who)).length : Int) < ((ofP s4.L (sndB (o i).who)).length : Int))]
    refine SeqK.q rfl (q_move (v := .bool true) rfl) ?_
    refine SeqK.qw rfl rfl (q_move (v := v179) rfl) ?_
    refine SeqK.qw rfl rfl (q_move (v := v179) rfl) ?_
    refine SeqK.qw rfl rfl (q_lenVec Try.underlying46 rfl (hS24.vec at0)) ?_
    refine SeqK.qw rfl rfl (q_subI rfl rfl (by omega)) ?_
    refine SeqK.qw rfl rfl (q_indexV (hS24.vec at0) Try.underlying46 (by kernel_rfl) rfl rfl (by omega) (by omega)) ?_
    refine SeqK.qw rfl rfl (q_loadVR (hS24.vec at0) recC_len (by kernel_rfl) rfl (show _ = some (⟨(o i).n, (o i).dat⟩ : RecS) from by rw [show (((ofP s4.L (sndB (o i).who)).length : Int) - 1).toNat = (ofP s4.L (sndB (o i).who)).length - 1 from by omega]; exact hg5) (by omega)) ?_
    refine SeqK.qw rfl rfl (q_loadA0 (n := 2) (by kernel_rfl) rfl (hS24.blk at2) (by simp; done)) ?_
    refine SeqK.done ?_
    refine OpsW.qw rfl rfl (q_neqRecord rfl rfl) ?_
    rw [show (!(decide ((⟨(o i).n, (o i).dat⟩ : RecS).seq = (o i).n) && decide ((⟨(o i).n, (o i).dat⟩ : RecS).dat = (o i).dat))) = false from by simp]
    refine OpsW.qw rfl rfl (q_move (v := .bool false) rfl) ?_
    refine OpsW.qw rfl rfl (q_move (v := .int _ _) rfl) ?_
    refine OpsW.qw rfl rfl (q_eql rfl rfl) ?_
    refine OpsW.qw rfl rfl (q_or2 rfl rfl rfl) ?_
    refine OpsW.q rfl (q_and2 rfl rfl rfl) ?_
    refine OpsW.nil ?_
    refine SeqP.go ?_
    refine AW.cond rfl (fun h14 => ?_) (fun h14 => ?_)
    ·
      exfalso
      try simp only [eb57, decide_eq_true_eq, decide_eq_false_iff_not, Bool.or_eq_true, Bool.and_eq_true, Bool.or_eq_false_iff, Bool.and_eq_false_imp, Bool.not_eq_true', Bool.not_eq_false', ne_eq, Decidable.not_not, Int.not_lt, Int.not_le, Bool.not_eq_true, Bool.not_eq_false] at h14
      simp_all
    try simp only [eb57, decide_eq_true_eq, decide_eq_false_iff_not, Bool.or_eq_true, Bool.and_eq_true, Bool.or_eq_false_iff, Bool.and_eq_false_imp, Bool.not_eq_true', Bool.not_eq_false', ne_eq, Decidable.not_not, Int.not_lt, Int.not_le, Bool.not_eq_true, Bool.not_eq_false] at h14
    refine AW.skip ?_
    refine SeqP.go ?_
    refine AW.cut (fun e_ H_ => ∃  (e0 : Env), (True) ∧ e_ = upds e0 [(0, .slice rops m0 c0), (1, vc), (2, vk), (7, .pointer (some ⟨b31, 0, none⟩)), (9, .pointer (some ⟨bs, 0, none⟩)), (11, .map (some b49)), (12, hv2), (13, .int .i64 (i : Int)), (17, S (sndB (o i).who)), (21, .pointer (some ⟨b168, 0, none⟩)), (23, v179)] ∧ Sep H [.pred (stM b49 sn.L), .vec v179 44 2 ((ofP s4.L (sndB (o i).who)).length) (rowsV recC (ofP s4.L (sndB (o i).who))), .vec hv2 9 1 hs2.length (strs hs2), stC b168 b31 ⟨s4, false⟩ (firmS f4)] H_) ?_ ?_
    ·
      refine AW.seq ?_
      refine AW.region ?_
      refine OpsW.q rfl (q_assign (v := .int _ _) rfl) ?_
      refine OpsW.nil ?_
      refine SeqP.go ?_
      refine AW.block ?_
      replace hS24 := hS24.del del2
      refine AW.loop (fun m_ e_ H_ => ∃ (k : Nat) (e0 : Env), m_ = (ofP s4.L (sndB (o i).who)).length - k ∧ (k ≤ (ofP s4.L (sndB (o i).who)).length) ∧ e_ = upds e0 [(0, .slice rops m0 c0), (1, vc), (2, vk), (7, .pointer (some ⟨b31, 0, none⟩)), (9, .pointer (some ⟨bs, 0, none⟩)), (11, .map (some b49)), (12, hv2), (13, .int .i64 (i : Int)), (17, S (sndB (o i).who)), (21, .pointer (some ⟨b168, 0, none⟩)), (23, v179), (24, .int .i64 (k : Int))] ∧ Sep H [.vec v179 44 2 ((ofP s4.L (sndB (o i).who)).length) (rowsV recC (ofP s4.L (sndB (o i).who))), stC b168 b31 ⟨s4, false⟩ (firmS f4), .vec hv2 9 1 hs2.length (strs hs2), .pred (stM b49 sn.L)] H_) _ ⟨0, _, rfl, (Nat.zero_le _), Slots.eq ⟨(by rfl), (by rfl), (by rfl), (by rfl), (by rfl), (by rfl), (by rfl), (by rfl), (by rfl), (by rfl), (by rfl), (by rfl),  trivial⟩, hS24⟩ ?_
      rintro m_ _ Hl1 ⟨k, e0, rfl, hf, rfl, hSl1⟩
      try clear hS24
      refine AW.seq ?_
      refine AW.seq ?_
      refine AW.region ?_
      refine OpsW.q rfl (q_move (v := .int _ _) rfl) ?_
      refine OpsW.q rfl (q_move (v := v179) rfl) ?_
      refine OpsW.q rfl (q_lenVec Try.underlying46 rfl (hSl1.vec at0)) ?_
      refine OpsW.q rfl (q_lss rfl rfl) ?_
      refine OpsW.nil ?_
      refine SeqP.go ?_
      refine AW.cond2 rfl (fun h15 => ?_) (fun h15 => ?_)
      ·
        try simp only [eb57, decide_eq_true_eq, decide_eq_false_iff_not, Bool.or_eq_true, Bool.and_eq_true, Bool.or_eq_false_iff, Bool.and_eq_false_imp, Bool.not_eq_true', Bool.not_eq_false', ne_eq, Decidable.not_not, Int.not_lt, Int.not_le, Bool.not_eq_true, Bool.not_eq_false] at h15
        refine AW.exit ?_
        refine SeqP.exit ?_
        refine LoopP.exit ?_
        refine BlockP.here ?_
        replace hSl1 := Sep.bring del1 hSl1
        replace hSl1 := Sep.bring del2 hSl1
        replace hSl1 := Sep.bring del2 hSl1
        replace hSl1 := Sep.bring del3 hSl1
        exact CutP.go ⟨_, trivial, Slots.eq ⟨(by rfl), (by rfl), (by rfl), (by rfl), (by rfl), (by rfl), (by rfl), (by rfl), (by rfl), (by rfl), (by rfl),  trivial⟩, hSl1⟩
      try simp only [eb57, decide_eq_true_eq, decide_eq_false_iff_not, Bool.or_eq_true, Bool.and_eq_true, Bool.or_eq_false_iff, Bool.and_eq_false_imp, Bool.not_eq_true', Bool.not_eq_false', ne_eq, Decidable.not_not, Int.not_lt, Int.not_le, Bool.not_eq_true, Bool.not_eq_false] at h15
      obtain ⟨r, hr⟩ : ∃ r, (ofP s4.L (sndB (o i).who))[k]? = some r := ⟨(ofP s4.L (sndB (o i).who))[k], List.getElem?_eq_getElem (by omega)⟩
      have hsq := hO4.li.ok (sndB (o i).who) k r hr
      refine AW.skip ?_
      refine SeqP.go ?_
      refine AW.seq ?_
      refine AW.block ?_
      refine AW.seq ?_
      refine AW.region ?_
      refine OpsW.q rfl (q_move (v := v179) rfl) ?_
      refine OpsW.q rfl (q_move (v := .int _ _) rfl) ?_
      refine OpsW.q rfl (q_indexV (hSl1.vec at0) Try.underlying46 (by kernel_rfl) rfl rfl (by omega) (by omega)) ?_
      refine OpsW.q rfl (q_fieldV (s2 := 0) (hSl1.vec at0) (by omega) Try.underlying44 rfl (by kernel_rfl) rfl) ?_
      refine OpsW.q rfl (q_loadV (hSl1.vec (by first | exact at0 | exact at1)) (by kernel_rfl) rfl (rowsV_get recC_len hr rfl)) ?_
      refine OpsW.q rfl (q_move (v := .int _ _) rfl) ?_
      refine OpsW.q rfl (q_addI rfl rfl (by omega)) ?_
      refine OpsW.q rfl (q_neq rfl rfl) ?_
      refine OpsW.nil ?_
      refine SeqP.go ?_
      refine AW.cond rfl (fun h16 => ?_) (fun h16 => ?_)
      ·
        exfalso
        try simp only [eb57, decide_eq_true_eq, decide_eq_false_iff_not, Bool.or_eq_true, Bool.and_eq_true, Bool.or_eq_false_iff, Bool.and_eq_false_imp, Bool.not_eq_true', Bool.not_eq_false', ne_eq, Decidable.not_not, Int.not_lt, Int.not_le, Bool.not_eq_true, Bool.not_eq_false] at h16
        simp_all
      try simp only [eb57, decide_eq_true_eq, decide_eq_false_iff_not, Bool.or_eq_true, Bool.and_eq_true, Bool.or_eq_false_iff, Bool.and_eq_false_imp, Bool.not_eq_true', Bool.not_eq_false', ne_eq, Decidable.not_not, Int.not_lt, Int.not_le, Bool.not_eq_true, Bool.not_eq_false] at h16
      refine AW.skip ?_
      refine BlockP.go ?_
      refine SeqP.go ?_
      refine AW.region ?_
      refine OpsW.q rfl (q_move (v := .int _ _) rfl) ?_
      refine OpsW.q rfl (q_addI rfl rfl (by omega)) ?_
      refine OpsW.q rfl (q_assign (v := .int _ _) rfl) ?_
      refine OpsW.nil ?_
      exact LoopP.go _ (by omega) ⟨k + 1, _, rfl, (by omega), Slots.eq ⟨(by rfl), (by rfl), (by rfl), (by rfl), (by rfl), (by rfl), (by rfl), (by rfl), (by rfl), (by rfl), (by rfl), (by rfl),  trivial⟩, hSl1⟩
    rintro _ Hc25 ⟨_, _, rfl, hSc25⟩
    try clear hS24
    obtain ⟨vs3, ov3, hov3, hnd3, hno3, hSo3⟩ := st_open (sndB (o i).who) hSc25
    replace hSc25 := hSo3.del del1
    refine AW.cut (fun e_ H_ => ∃  (e0 : Env), (True) ∧ e_ = upds e0 [(0, .slice rops m0 c0), (1, vc), (2, vk), (7, .pointer (some ⟨b31, 0, none⟩)), (9, .pointer (some ⟨bs, 0, none⟩)), (11, .map (some b49)), (12, hv2), (13, .int .i64 (i : Int)), (21, .pointer (some ⟨b168, 0, none⟩))] ∧ Sep H [.blk b49 (mpB (ents S ((mst vs3 (sndB (o i).who) v179)))), .vec v179 44 2 ((ofP s4.L (sndB (o i).who)).length) (rowsV recC (ofP s4.L (sndB (o i).who))), .pred (stEx sn.L vs3 (sndB (o i).who)), .vec hv2 9 1 hs2.length (strs hs2), stC b168 b31 ⟨s4, false⟩ (firmS f4)] H_) ?_ ?_
    ·
      refine AW.region ?_
      refine OpsW.q rfl (q_move (v := .map _) rfl) ?_
      refine OpsW.q rfl (q_move (v := S _) rfl) ?_
      refine OpsW.q rfl (q_move (v := v179) rfl) ?_
      refine OpsW.ms (s_mapUpdate (u := v179) hSc25 at0 Try.underlying52 (key_str Try.underlying9) rfl rfl rfl) ?_
      rintro _ H26 ⟨rfl, hS26⟩
      clear hSc25
      refine OpsW.nil ?_
      replace hS26 := Sep.bring del4 hS26
      replace hS26 := Sep.bring del4 hS26
      replace hS26 := Sep.bring del3 hS26
      replace hS26 := Sep.bring del4 hS26
      replace hS26 := Sep.bring del4 hS26
      exact CutP.go ⟨_, trivial, Slots.eq ⟨(by rfl), (by rfl), (by rfl), (by rfl), (by rfl), (by rfl), (by rfl), (by rfl), (by rfl),  trivial⟩, hS26⟩
    rintro _ Hc27 ⟨_, _, rfl, hSc27⟩
    try clear hSc25
    replace hSc27 := st_close (L' := s4.L) hnd3 hno3 (fun w hw => hjo.2 w hw) hSc27
    refine AW.cut (fun e_ H_ => ∃ (hv3 : Value) (e0 : Env), (True) ∧ e_ = upds e0 [(0, .slice rops m0 c0), (1, vc), (2, vk), (7, .pointer (some ⟨b31, 0, none⟩)), (9, .pointer (some ⟨bs, 0, none⟩)), (11, .map (some b49)), (12, hv3), (13, .int .i64 (i : Int)), (21, .pointer (some ⟨b168, 0, none⟩))] ∧ Sep H [.vec hv3 9 1 ((hs2 ++ ([s4.h] : HdL)).length) (strs (hs2 ++ ([s4.h] : HdL))), .pred (stM b49 s4.L), stC b168 b31 ⟨s4, false⟩ (firmS f4)] H_) ?_ ?_
    ·
      refine AW.region ?_
      refine OpsW.q rfl (q_move (v := hv2) rfl) ?_
      refine OpsW.q rfl (q_move (v := .pointer _) rfl) ?_
      refine OpsW.q rfl (o_call rfl Try.func20 rfl rfl (Head_c hSc27 (by first | exact at1 | exact at0 | exact at2 | exact at3 | exact at4))) ?_
      refine OpsW.m rfl (s_buildSlice (z := S []) (vs := strs [_]) hSc27 Try.underlying28 (by kernel_rfl) (by kernel_rfl) rfl (by rfl) (by rfl) (by decide) rfl (strs_one _) rfl) ?_
      rintro v259 H28 hS28
      clear hSc27
      refine OpsW.m rfl (s_append (sz := 1) (by_ := 16) (z := S []) hS28 at2 Try.underlying28 (by kernel_rfl) (by kernel_rfl) (by kernel_rfl) rfl (by kernel_rfl) rfl rfl (src_vec (hS28.vec at0) (strs_one _)) (by unfold maxLen; omega) (by omega)) ?_
      rintro v260 H29 hS29
      clear hS28
      replace hS29 := hS29.del del0
      refine OpsW.q rfl (q_assign (v := v260) rfl) ?_
      refine OpsW.nil ?_
      replace hS29 := Sep.bring del2 hS29
      replace hS29 := Sep.bring del1 hS29
      replace hS29 := Sep.bring del2 hS29
      exact CutP.go ⟨v260, _, trivial, Slots.eq ⟨(by rfl), (by rfl), (by rfl), (by rfl), (by rfl), (by rfl), (by rfl), (by rfl), (by rfl),  trivial⟩, (by rw [List.length_append, show strs (hs2 ++ ([s4.h] : HdL)) = strs hs2 ++ strs [s4.h] from by simp [strs]]; exact hS29)⟩
    rintro _ Hc30 ⟨hv3, _, _, rfl, hSc30⟩
    try clear hSc27
    have hH3 : HdOk (hs2 ++ ([s4.h] : HdL)) f4 := by obtain ⟨r, hr⟩ := hO4.ext; have := hJ.hd.ext r; rw [← hr] at this; exact this.snoc hO4.li.head
    have hh3 : (hs2 ++ ([s4.h] : HdL)).length = hs2.length + 1 := by simp
    refine AW.seq ?_
    refine AW.region ?_
    refine OpsW.q rfl (q_move (v := .pointer _) rfl) ?_
    refine OpsW.q rfl (o_call rfl Try.func24 rfl rfl (Read_c hSc30 (by first | exact at2 | exact at1 | exact at3) (hO4.li.tk (by omega)))) ?_
    rw [read_firmS]
    refine OpsW.q rfl (q_move (v := .tuple _) rfl) ?_
    refine OpsW.q rfl (q_extract (v := S f4) rfl rfl) ?_
    refine OpsW.q rfl (q_extract (v := .int _ _) rfl rfl) ?_
    refine OpsW.q rfl (q_assign (v := S _) rfl) ?_
    refine OpsW.q rfl (q_assign (v := .int _ _) rfl) ?_
    refine OpsW.nil ?_
    refine SeqP.go ?_
    refine AW.seq ?_
    refine AW.seq ?_
    refine AW.region ?_
    refine OpsW.q rfl (q_move (v := .int _ _) rfl) ?_
    refine OpsW.q rfl (q_neq rfl rfl) ?_
    refine OpsW.nil ?_
    refine SeqP.go ?_
    refine AW.cond rfl (fun h17 => ?_) (fun h17 => ?_)
    ·
      exfalso
      try simp only [eb57, decide_eq_true_eq, decide_eq_false_iff_not, Bool.or_eq_true, Bool.and_eq_true, Bool.or_eq_false_iff, Bool.and_eq_false_imp, Bool.not_eq_true', Bool.not_eq_false', ne_eq, Decidable.not_not, Int.not_lt, Int.not_le, Bool.not_eq_true, Bool.not_eq_false] at h17
      first | contradiction | (simp at *; done) | simp_all
    try simp only [eb57, decide_eq_true_eq, decide_eq_false_iff_not, Bool.or_eq_true, Bool.and_eq_true, Bool.or_eq_false_iff, Bool.and_eq_false_imp, Bool.not_eq_true', Bool.not_eq_false', ne_eq, Decidable.not_not, Int.not_lt, Int.not_le, Bool.not_eq_true, Bool.not_eq_false] at h17
    refine AW.skip ?_
    refine SeqP.go ?_
    refine AW.seq ?_
    refine AW.seq ?_
    refine AW.region ?_
    refine OpsW.q rfl (q_assign (v := .int _ _) rfl) ?_
    refine OpsW.nil ?_
    refine SeqP.go ?_
    refine AW.block ?_
    refine AW.loop (fun m_ e_ H_ => ∃ (k : Nat) (e0 : Env), m_ = (hs2 ++ ([s4.h] : HdL)).length - k ∧ (k ≤ (hs2 ++ ([s4.h] : HdL)).length) ∧ e_ = upds e0 [(0, .slice rops m0 c0), (1, vc), (2, vk), (7, .pointer (some ⟨b31, 0, none⟩)), (9, .pointer (some ⟨bs, 0, none⟩)), (11, .map (some b49)), (12, hv3), (13, .int .i64 (i : Int)), (21, .pointer (some ⟨b168, 0, none⟩)), (25, S f4), (27, .int .i64 (k : Int))] ∧ Sep H [.vec hv3 9 1 ((hs2 ++ ([s4.h] : HdL)).length) (strs (hs2 ++ ([s4.h] : HdL))), .pred (stM b49 s4.L), stC b168 b31 ⟨s4, false⟩ (firmS f4)] H_) _ ⟨0, _, rfl, (Nat.zero_le _), Slots.eq ⟨(by rfl), (by rfl), (by rfl), (by rfl), (by rfl), (by rfl), (by rfl), (by rfl), (by rfl), (by rfl), (by rfl),  trivial⟩, hSc30⟩ ?_
    rintro m_ _ Hl2 ⟨k, e0, rfl, hf, rfl, hSl2⟩
    try clear hSc30
    refine AW.seq ?_
    refine AW.seq ?_
    refine AW.region ?_
    refine OpsW.q rfl (q_move (v := .int _ _) rfl) ?_
    refine OpsW.q rfl (q_move (v := hv3) rfl) ?_
    refine OpsW.q rfl (q_lenVec Try.underlying28 rfl (hSl2.vec at0)) ?_
    refine OpsW.q rfl (q_lss rfl rfl) ?_
    refine OpsW.nil ?_
    refine SeqP.go ?_
    refine AW.cond2 rfl (fun h18 => ?_) (fun h18 => ?_)
    ·
      try simp only [eb57, decide_eq_true_eq, decide_eq_false_iff_not, Bool.or_eq_true, Bool.and_eq_true, Bool.or_eq_false_iff, Bool.and_eq_false_imp, Bool.not_eq_true', Bool.not_eq_false', ne_eq, Decidable.not_not, Int.not_lt, Int.not_le, Bool.not_eq_true, Bool.not_eq_false] at h18
      refine AW.exit ?_
      refine SeqP.exit ?_
      refine LoopP.exit ?_
      refine BlockP.here ?_
      refine SeqP.go ?_
      refine AW.region ?_
      refine OpsW.q rfl (q_move (v := .pointer _) rfl) ?_
      refine OpsW.q rfl (q_assign (v := .pointer _) rfl) ?_
      refine OpsW.nil ?_
      refine BlockP.go ?_
      refine SeqP.go ?_
      refine AW.region ?_
      refine OpsW.q rfl (q_move (v := .int _ _) rfl) ?_
      refine OpsW.q rfl (q_addI rfl rfl (by omega)) ?_
      refine OpsW.q rfl (q_assign (v := .int _ _) rfl) ?_
      refine OpsW.nil ?_
      exact LoopP.go _ (by omega) ⟨i + 1, s4, f4, _, b168, hv3, _, rfl, ⟨hO4.li, hH3, by omega, by omega⟩, Slots.eq ⟨(by rfl), (by rfl), (by rfl), (by rfl), (by rfl), (by rfl), (by rfl), (by rfl),  trivial⟩, hSl2⟩
    try simp only [eb57, decide_eq_true_eq, decide_eq_false_iff_not, Bool.or_eq_true, Bool.and_eq_true, Bool.or_eq_false_iff, Bool.and_eq_false_imp, Bool.not_eq_true', Bool.not_eq_false', ne_eq, Decidable.not_not, Int.not_lt, Int.not_le, Bool.not_eq_true, Bool.not_eq_false] at h18
    have hvk := hH3.get (k := k) (by omega)
    refine AW.skip ?_
    refine SeqP.go ?_
    refine AW.seq ?_
    refine AW.block ?_
    refine AW.seq ?_
    refine AW.region ?_
    refine OpsW.q rfl (q_move (v := S _) rfl) ?_
    refine OpsW.q rfl (q_move (v := hv3) rfl) ?_
    refine OpsW.q rfl (q_move (v := .int _ _) rfl) ?_
    refine OpsW.q rfl (q_indexV1 (hSl2.vec at0) Try.underlying28 (by kernel_rfl) rfl rfl (by omega) (by omega)) ?_
    refine OpsW.q rfl (q_loadVS (hSl2.vec at0) (by kernel_rfl) rfl (by omega)) ?_
    refine OpsW.q rfl (o_call rfl Try.func10 rfl rfl (Verify_con (by omega))) ?_
    refine OpsW.q rfl (q_move (v := .tuple _) rfl) ?_
    refine OpsW.q rfl (q_extract (v := .int _ _) rfl rfl) ?_
    refine OpsW.q rfl (q_extract (v := .int _ _) rfl rfl) ?_
    refine OpsW.q rfl (q_assign (v := .int _ _) rfl) ?_
    refine OpsW.q rfl (q_assign (v := .int _ _) rfl) ?_
    refine OpsW.nil ?_
    refine SeqP.go ?_
    refine AW.seq ?_
    refine AW.region ?_
    refine OpsW.q rfl (q_move (v := .int _ _) rfl) ?_
    refine OpsW.q rfl (q_neq rfl rfl) ?_
    refine OpsW.nil ?_
    refine SeqP.go ?_
    refine AW.cond rfl (fun h19 => ?_) (fun h19 => ?_)
    ·
      exfalso
      try simp only [eb57, decide_eq_true_eq, decide_eq_false_iff_not, Bool.or_eq_true, Bool.and_eq_true, Bool.or_eq_false_iff, Bool.and_eq_false_imp, Bool.not_eq_true', Bool.not_eq_false', ne_eq, Decidable.not_not, Int.not_lt, Int.not_le, Bool.not_eq_true, Bool.not_eq_false] at h19
      simp_all
    try simp only [eb57, decide_eq_true_eq, decide_eq_false_iff_not, Bool.or_eq_true, Bool.and_eq_true, Bool.or_eq_false_iff, Bool.and_eq_false_imp, Bool.not_eq_true', Bool.not_eq_false', ne_eq, Decidable.not_not, Int.not_lt, Int.not_le, Bool.not_eq_true, Bool.not_eq_false] at h19
    refine AW.skip ?_
    refine BlockP.go ?_
    refine SeqP.go ?_
    refine AW.region ?_
    refine OpsW.q rfl (q_move (v := .int _ _) rfl) ?_
    refine OpsW.q rfl (q_addI rfl rfl (by omega)) ?_
    refine OpsW.q rfl (q_assign (v := .int _ _) rfl) ?_
    refine OpsW.nil ?_
    exact LoopP.go _ (by omega) ⟨k + 1, _, rfl, (by omega), Slots.eq ⟨(by rfl), (by rfl), (by rfl), (by rfl), (by rfl), (by rfl), (by rfl), (by rfl), (by rfl), (by rfl), (by rfl),  trivial⟩, hSl2⟩
  ·
    refine AW.drawK [] 15 rfl (by kernel_rfl) ?_
    refine SeqK.q rfl (q_move (v := v179) rfl) ?_
    refine SeqK.q rfl (q_lenVec Try.underlying46 rfl (hS24.vec at0)) ?_
    refine SeqK.q rfl (q_move (v := .map _) rfl) ?_
    refine SeqK.q rfl (q_move (v := S _) rfl) ?_
    refine SeqK.q rfl (q_lookup (z := .slice none 0 0) Try.underlying52 (key_str Try.underlying9) (by kernel_rfl) rfl rfl hvs) ?_
    refine SeqK.q rfl (q_lenVec Try.underlying46 rfl hvv) ?_
    refine SeqK.q rfl (q_gtr rfl rfl) ?_
    rw [decide_eq_false (by omega : ¬ ((ofP sn.L (sndB (o i).who)).length : Int) < ((ofP s4.L (sndB (o i).who)).length : Int))]
    refine SeqK.q rfl (q_move (v := .bool false) rfl) ?_
    refine SeqK.p rfl rfl ?_
    refine SeqK.p rfl rfl ?_
    refine SeqK.p rfl rfl ?_
    refine SeqK.p rfl rfl ?_
    refine SeqK.p rfl rfl ?_
    refine SeqK.p rfl rfl ?_
    refine SeqK.p rfl rfl ?_
    refine SeqK.done ?_
    refine OpsW.p rfl rfl ?_
    refine OpsW.p rfl rfl ?_
    refine OpsW.pu rfl rfl ?_
    refine OpsW.pu rfl rfl ?_
    refine OpsW.p rfl rfl ?_
    refine OpsW.q rfl (q_and2 (B := false) rfl rfl rfl) ?_
    refine OpsW.nil ?_
    refine SeqP.go ?_
    refine AW.cond rfl (fun h14 => ?_) (fun h14 => ?_)
    ·
      exfalso
      try simp only [eb57, decide_eq_true_eq, decide_eq_false_iff_not, Bool.or_eq_true, Bool.and_eq_true, Bool.or_eq_false_iff, Bool.and_eq_false_imp, Bool.not_eq_true', Bool.not_eq_false', ne_eq, Decidable.not_not, Int.not_lt, Int.not_le, Bool.not_eq_true, Bool.not_eq_false] at h14
      simp_all
    try simp only [eb57, decide_eq_true_eq, decide_eq_false_iff_not, Bool.or_eq_true, Bool.and_eq_true, Bool.or_eq_false_iff, Bool.and_eq_false_imp, Bool.not_eq_true', Bool.not_eq_false', ne_eq, Decidable.not_not, Int.not_lt, Int.not_le, Bool.not_eq_true, Bool.not_eq_false] at h14
    refine AW.skip ?_
    refine SeqP.go ?_
    refine AW.cut (fun e_ H_ => ∃  (e0 : Env), (True) ∧ e_ = upds e0 [(0, .slice rops m0 c0), (1, vc), (2, vk), (7, .pointer (some ⟨b31, 0, none⟩)), (9, .pointer (some ⟨bs, 0, none⟩)), (11, .map (some b49)), (12, hv2), (13, .int .i64 (i : Int)), (17, S (sndB (o i).who)), (21, .pointer (some ⟨b168, 0, none⟩)), (23, v179)] ∧ Sep H [.pred (stM b49 sn.L), .vec v179 44 2 ((ofP s4.L (sndB (o i).who)).length) (rowsV recC (ofP s4.L (sndB (o i).who))), .vec hv2 9 1 hs2.length (strs hs2), stC b168 b31 ⟨s4, false⟩ (firmS f4)] H_) ?_ ?_
    ·
      refine AW.seq ?_
      refine AW.region ?_
      refine OpsW.q rfl (q_assign (v := .int _ _) rfl) ?_
      refine OpsW.nil ?_
      refine SeqP.go ?_
      refine AW.block ?_
      replace hS24 := hS24.del del2
      refine AW.loop (fun m_ e_ H_ => ∃ (k : Nat) (e0 : Env), m_ = (ofP s4.L (sndB (o i).who)).length - k ∧ (k ≤ (ofP s4.L (sndB (o i).who)).length) ∧ e_ = upds e0 [(0, .slice rops m0 c0), (1, vc), (2, vk), (7, .pointer (some ⟨b31, 0, none⟩)), (9, .pointer (some ⟨bs, 0, none⟩)), (11, .map (some b49)), (12, hv2), (13, .int .i64 (i : Int)), (17, S (sndB (o i).who)), (21, .pointer (some ⟨b168, 0, none⟩)), (23, v179), (24, .int .i64 (k : Int))] ∧ Sep H [.vec v179 44 2 ((ofP s4.L (sndB (o i).who)).length) (rowsV recC (ofP s4.L (sndB (o i).who))), stC b168 b31 ⟨s4, false⟩ (firmS f4), .vec hv2 9 1 hs2.length (strs hs2), .pred (stM b49 sn.L)] H_) _ ⟨0, _, rfl, (Nat.zero_le _), Slots.eq ⟨(by rfl), (by rfl), (by rfl), (by rfl), (by rfl), (by rfl), (by rfl), (by rfl), (by rfl), (by rfl), (by rfl), (by rfl),  trivial⟩, hS24⟩ ?_
      rintro m_ _ Hl1 ⟨k, e0, rfl, hf, rfl, hSl1⟩
      try clear hS24
      refine AW.seq ?_
      refine AW.seq ?_
      refine AW.region ?_
      refine OpsW.q rfl (q_move (v := .int _ _) rfl) ?_
      refine OpsW.q rfl (q_move (v := v179) rfl) ?_
      refine OpsW.q rfl (q_lenVec Try.underlying46 rfl (hSl1.vec at0)) ?_
      refine OpsW.q rfl (q_lss rfl rfl) ?_
      refine OpsW.nil ?_
      refine SeqP.go ?_
      refine AW.cond2 rfl (fun h15 => ?_) (fun h15 => ?_)
      ·
        try simp only [eb57, decide_eq_true_eq, decide_eq_false_iff_not, Bool.or_eq_true, Bool.and_eq_true, Bool.or_eq_false_iff, Bool.and_eq_false_imp, Bool.not_eq_true', Bool.not_eq_false', ne_eq, Decidable.not_not, Int.not_lt, Int.not_le, Bool.not_eq_true, Bool.not_eq_false] at h15
        refine AW.exit ?_
        refine SeqP.exit ?_
        refine LoopP.exit ?_
        refine BlockP.here ?_
        replace hSl1 := Sep.bring del1 hSl1
        replace hSl1 := Sep.bring del2 hSl1
        replace hSl1 := Sep.bring del2 hSl1
        replace hSl1 := Sep.bring del3 hSl1
        exact CutP.go ⟨_, trivial, Slots.eq ⟨(by rfl), (by rfl), (by rfl), (by rfl), (by rfl), (by rfl), (by rfl), (by rfl), (by rfl), (by rfl), (by rfl),  trivial⟩, hSl1⟩
      try simp only [eb57, decide_eq_true_eq, decide_eq_false_iff_not, Bool.or_eq_true, Bool.and_eq_true, Bool.or_eq_false_iff, Bool.and_eq_false_imp, Bool.not_eq_true', Bool.not_eq_false', ne_eq, Decidable.not_not, Int.not_lt, Int.not_le, Bool.not_eq_true, Bool.not_eq_false] at h15
      obtain ⟨r, hr⟩ : ∃ r, (ofP s4.L (sndB (o i).who))[k]? = some r := ⟨(ofP s4.L (sndB (o i).who))[k], List.getElem?_eq_getElem (by omega)⟩
      have hsq := hO4.li.ok (sndB (o i).who) k r hr
      refine AW.skip ?_
      refine SeqP.go ?_
      refine AW.seq ?_
      refine AW.block ?_
      refine AW.seq ?_
      refine AW.region ?_
      refine OpsW.q rfl (q_move (v := v179) rfl) ?_
      refine OpsW.q rfl (q_move (v := .int _ _) rfl) ?_
      refine OpsW.q rfl (q_indexV (hSl1.vec at0) Try.underlying46 (by kernel_rfl) rfl rfl (by omega) (by omega)) ?_
      refine OpsW.q rfl (q_fieldV (s2 := 0) (hSl1.vec at0) (by omega) Try.underlying44 rfl (by kernel_rfl) rfl) ?_
      refine OpsW.q rfl (q_loadV (hSl1.vec (by first | exact at0 | exact at1)) (by kernel_rfl) rfl (rowsV_get recC_len hr rfl)) ?_
      refine OpsW.q rfl (q_move (v := .int _ _) rfl) ?_
      refine OpsW.q rfl (q_addI rfl rfl (by omega)) ?_
      refine OpsW.q rfl (q_neq rfl rfl) ?_
      refine OpsW.nil ?_
      refine SeqP.go ?_
      refine AW.cond rfl (fun h16 => ?_) (fun h16 => ?_)
      ·
        exfalso
        try simp only [eb57, decide_eq_true_eq, decide_eq_false_iff_not, Bool.or_eq_true, Bool.and_eq_true, Bool.or_eq_false_iff, Bool.and_eq_false_imp, Bool.not_eq_true', Bool.not_eq_false', ne_eq, Decidable.not_not, Int.not_lt, Int.not_le, Bool.not_eq_true, Bool.not_eq_false] at h16
        simp_all
      try simp only [eb57, decide_eq_true_eq, decide_eq_false_iff_not, Bool.or_eq_true, Bool.and_eq_true, Bool.or_eq_false_iff, Bool.and_eq_false_imp, Bool.not_eq_true', Bool.not_eq_false', ne_eq, Decidable.not_not, Int.not_lt, Int.not_le, Bool.not_eq_true, Bool.not_eq_false] at h16
      refine AW.skip ?_
      refine BlockP.go ?_
      refine SeqP.go ?_
      refine AW.region ?_
      refine OpsW.q rfl (q_move (v := .int _ _) rfl) ?_
      refine OpsW.q rfl (q_addI rfl rfl (by omega)) ?_
      refine OpsW.q rfl (q_assign (v := .int _ _) rfl) ?_
      refine OpsW.nil ?_
      exact LoopP.go _ (by omega) ⟨k + 1, _, rfl, (by omega), Slots.eq ⟨(by rfl), (by rfl), (by rfl), (by rfl), (by rfl), (by rfl), (by rfl), (by rfl), (by rfl), (by rfl), (by rfl), (by rfl),  trivial⟩, hSl1⟩
    rintro _ Hc31 ⟨_, _, rfl, hSc31⟩
    try clear hS24
    obtain ⟨vs3, ov3, hov3, hnd3, hno3, hSo3⟩ := st_open (sndB (o i).who) hSc31
    replace hSc31 := hSo3.del del1
    refine AW.cut (fun e_ H_ => ∃  (e0 : Env), (True) ∧ e_ = upds e0 [(0, .slice rops m0 c0), (1, vc), (2, vk), (7, .pointer (some ⟨b31, 0, none⟩)), (9, .pointer (some ⟨bs, 0, none⟩)), (11, .map (some b49)), (12, hv2), (13, .int .i64 (i : Int)), (21, .pointer (some ⟨b168, 0, none⟩))] ∧ Sep H [.blk b49 (mpB (ents S ((mst vs3 (sndB (o i).who) v179)))), .vec v179 44 2 ((ofP s4.L (sndB (o i).who)).length) (rowsV recC (ofP s4.L (sndB (o i).who))), .pred (stEx sn.L vs3 (sndB (o i).who)), .vec hv2 9 1 hs2.length (strs hs2), stC b168 b31 ⟨s4, false⟩ (firmS f4)] H_) ?_ ?_
    ·
      refine AW.region ?_
      refine OpsW.q rfl (q_move (v := .map _) rfl) ?_
      refine OpsW.q rfl (q_move (v := S _) rfl) ?_
      refine OpsW.q rfl (q_move (v := v179) rfl) ?_
      refine OpsW.ms (s_mapUpdate (u := v179) hSc31 at0 Try.underlying52 (key_str Try.underlying9) rfl rfl rfl) ?_
      rintro _ H32 ⟨rfl, hS32⟩
      clear hSc31
      refine OpsW.nil ?_
      replace hS32 := Sep.bring del4 hS32
      replace hS32 := Sep.bring del4 hS32
      replace hS32 := Sep.bring del3 hS32
      replace hS32 := Sep.bring del4 hS32
      replace hS32 := Sep.bring del4 hS32
      exact CutP.go ⟨_, trivial, Slots.eq ⟨(by rfl), (by rfl), (by rfl), (by rfl), (by rfl), (by rfl), (by rfl), (by rfl), (by rfl),  trivial⟩, hS32⟩
    rintro _ Hc33 ⟨_, _, rfl, hSc33⟩
    try clear hSc31
    replace hSc33 := st_close (L' := s4.L) hnd3 hno3 (fun w hw => hjo.2 w hw) hSc33
    refine AW.cut (fun e_ H_ => ∃ (hv3 : Value) (e0 : Env), (True) ∧ e_ = upds e0 [(0, .slice rops m0 c0), (1, vc), (2, vk), (7, .pointer (some ⟨b31, 0, none⟩)), (9, .pointer (some ⟨bs, 0, none⟩)), (11, .map (some b49)), (12, hv3), (13, .int .i64 (i : Int)), (21, .pointer (some ⟨b168, 0, none⟩))] ∧ Sep H [.vec hv3 9 1 ((hs2 ++ ([s4.h] : HdL)).length) (strs (hs2 ++ ([s4.h] : HdL))), .pred (stM b49 s4.L), stC b168 b31 ⟨s4, false⟩ (firmS f4)] H_) ?_ ?_
    ·
      refine AW.region ?_
      refine OpsW.q rfl (q_move (v := hv2) rfl) ?_
      refine OpsW.q rfl (q_move (v := .pointer _) rfl) ?_
      refine OpsW.q rfl (o_call rfl Try.func20 rfl rfl (Head_c hSc33 (by first | exact at1 | exact at0 | exact at2 | exact at3 | exact at4))) ?_
      refine OpsW.m rfl (s_buildSlice (z := S []) (vs := strs [_]) hSc33 Try.underlying28 (by kernel_rfl) (by kernel_rfl) rfl (by rfl) (by rfl) (by decide) rfl (strs_one _) rfl) ?_
      rintro v259 H34 hS34
      clear hSc33
      refine OpsW.m rfl (s_append (sz := 1) (by_ := 16) (z := S []) hS34 at2 Try.underlying28 (by kernel_rfl) (by kernel_rfl) (by kernel_rfl) rfl (by kernel_rfl) rfl rfl (src_vec (hS34.vec at0) (strs_one _)) (by unfold maxLen; omega) (by omega)) ?_
      rintro v260 H35 hS35
      clear hS34
      replace hS35 := hS35.del del0
      refine OpsW.q rfl (q_assign (v := v260) rfl) ?_
      refine OpsW.nil ?_
      replace hS35 := Sep.bring del2 hS35
      replace hS35 := Sep.bring del1 hS35
      replace hS35 := Sep.bring del2 hS35
      exact CutP.go ⟨v260, _, trivial, Slots.eq ⟨(by rfl), (by rfl), (by rfl), (by rfl), (by rfl), (by rfl), (by rfl), (by rfl), (by rfl),  trivial⟩, (by rw [List.length_append, show strs (hs2 ++ ([s4.h] : HdL)) = strs hs2 ++ strs [s4.h] from by simp [strs]]; exact hS35)⟩
    rintro _ Hc36 ⟨hv3, _, _, rfl, hSc36⟩
    try clear hSc33
    have hH3 : HdOk (hs2 ++ ([s4.h] : HdL)) f4 := by obtain ⟨r, hr⟩ := hO4.ext; have := hJ.hd.ext r; rw [← hr] at this; exact this.snoc hO4.li.head
    have hh3 : (hs2 ++ ([s4.h] : HdL)).length = hs2.length + 1 := by simp
    refine AW.seq ?_
    refine AW.region ?_
    refine OpsW.q rfl (q_move (v := .pointer _) rfl) ?_
    refine OpsW.q rfl (o_call rfl Try.func24 rfl rfl (Read_c hSc36 (by first | exact at2 | exact at1 | exact at3) (hO4.li.tk (by omega)))) ?_
    rw [read_firmS]
    refine OpsW.q rfl (q_move (v := .tuple _) rfl) ?_
    refine OpsW.q rfl (q_extract (v := S f4) rfl rfl) ?_
    refine OpsW.q rfl (q_extract (v := .int _ _) rfl rfl) ?_
    refine OpsW.q rfl (q_assign (v := S _) rfl) ?_
    refine OpsW.q rfl (q_assign (v := .int _ _) rfl) ?_
    refine OpsW.nil ?_
    refine SeqP.go ?_
    refine AW.seq ?_
    refine AW.seq ?_
    refine AW.region ?_
    refine OpsW.q rfl (q_move (v := .int _ _) rfl) ?_
    refine OpsW.q rfl (q_neq rfl rfl) ?_
    refine OpsW.nil ?_
    refine SeqP.go ?_
    refine AW.cond rfl (fun h17 => ?_) (fun h17 => ?_)
    ·
      exfalso
      try simp only [eb57, decide_eq_true_eq, decide_eq_false_iff_not, Bool.or_eq_true, Bool.and_eq_true, Bool.or_eq_false_iff, Bool.and_eq_false_imp, Bool.not_eq_true', Bool.not_eq_false', ne_eq, Decidable.not_not, Int.not_lt, Int.not_le, Bool.not_eq_true, Bool.not_eq_false] at h17
      first | contradiction | (simp at *; done) | simp_all
    try simp only [eb57, decide_eq_true_eq, decide_eq_false_iff_not, Bool.or_eq_true, Bool.and_eq_true, Bool.or_eq_false_iff, Bool.and_eq_false_imp, Bool.not_eq_true', Bool.not_eq_false', ne_eq, Decidable.not_not, Int.not_lt, Int.not_le, Bool.not_eq_true, Bool.not_eq_false] at h17
    refine AW.skip ?_
    refine SeqP.go ?_
    refine AW.seq ?_
    refine AW.seq ?_
    refine AW.region ?_
    refine OpsW.q rfl (q_assign (v := .int _ _) rfl) ?_
    refine OpsW.nil ?_
    refine SeqP.go ?_
    refine AW.block ?_
    refine AW.loop (fun m_ e_ H_ => ∃ (k : Nat) (e0 : Env), m_ = (hs2 ++ ([s4.h] : HdL)).length - k ∧ (k ≤ (hs2 ++ ([s4.h] : HdL)).length) ∧ e_ = upds e0 [(0, .slice rops m0 c0), (1, vc), (2, vk), (7, .pointer (some ⟨b31, 0, none⟩)), (9, .pointer (some ⟨bs, 0, none⟩)), (11, .map (some b49)), (12, hv3), (13, .int .i64 (i : Int)), (21, .pointer (some ⟨b168, 0, none⟩)), (25, S f4), (27, .int .i64 (k : Int))] ∧ Sep H [.vec hv3 9 1 ((hs2 ++ ([s4.h] : HdL)).length) (strs (hs2 ++ ([s4.h] : HdL))), .pred (stM b49 s4.L), stC b168 b31 ⟨s4, false⟩ (firmS f4)] H_) _ ⟨0, _, rfl, (Nat.zero_le _), Slots.eq ⟨(by rfl), (by rfl), (by rfl), (by rfl), (by rfl), (by rfl), (by rfl), (by rfl), (by rfl), (by rfl), (by rfl),  trivial⟩, hSc36⟩ ?_
    rintro m_ _ Hl2 ⟨k, e0, rfl, hf, rfl, hSl2⟩
    try clear hSc36
    refine AW.seq ?_
    refine AW.seq ?_
    refine AW.region ?_
    refine OpsW.q rfl (q_move (v := .int _ _) rfl) ?_
    refine OpsW.q rfl (q_move (v := hv3) rfl) ?_
    refine OpsW.q rfl (q_lenVec Try.underlying28 rfl (hSl2.vec at0)) ?_
    refine OpsW.q rfl (q_lss rfl rfl) ?_
    refine OpsW.nil ?_
    refine SeqP.go ?_
    refine AW.cond2 rfl (fun h18 => ?_) (fun h18 => ?_)
    ·
      try simp only [eb57, decide_eq_true_eq, decide_eq_false_iff_not, Bool.or_eq_true, Bool.and_eq_true, Bool.or_eq_false_iff, Bool.and_eq_false_imp, Bool.not_eq_true', Bool.not_eq_false', ne_eq, Decidable.not_not, Int.not_lt, Int.not_le, Bool.not_eq_true, Bool.not_eq_false] at h18
      refine AW.exit ?_
      refine SeqP.exit ?_
      refine LoopP.exit ?_
      refine BlockP.here ?_
      refine SeqP.go ?_
      refine AW.region ?_
      refine OpsW.q rfl (q_move (v := .pointer _) rfl) ?_
      refine OpsW.q rfl (q_assign (v := .pointer _) rfl) ?_
      refine OpsW.nil ?_
      refine BlockP.go ?_
      refine SeqP.go ?_
      refine AW.region ?_
      refine OpsW.q rfl (q_move (v := .int _ _) rfl) ?_
      refine OpsW.q rfl (q_addI rfl rfl (by omega)) ?_
      refine OpsW.q rfl (q_assign (v := .int _ _) rfl) ?_
      refine OpsW.nil ?_
      exact LoopP.go _ (by omega) ⟨i + 1, s4, f4, _, b168, hv3, _, rfl, ⟨hO4.li, hH3, by omega, by omega⟩, Slots.eq ⟨(by rfl), (by rfl), (by rfl), (by rfl), (by rfl), (by rfl), (by rfl), (by rfl),  trivial⟩, hSl2⟩
    try simp only [eb57, decide_eq_true_eq, decide_eq_false_iff_not, Bool.or_eq_true, Bool.and_eq_true, Bool.or_eq_false_iff, Bool.and_eq_false_imp, Bool.not_eq_true', Bool.not_eq_false', ne_eq, Decidable.not_not, Int.not_lt, Int.not_le, Bool.not_eq_true, Bool.not_eq_false] at h18
    have hvk := hH3.get (k := k) (by omega)
    refine AW.skip ?_
    refine SeqP.go ?_
    refine AW.seq ?_
    refine AW.block ?_
    refine AW.seq ?_
    refine AW.region ?_
    refine OpsW.q rfl (q_move (v := S _) rfl) ?_
    refine OpsW.q rfl (q_move (v := hv3) rfl) ?_
    refine OpsW.q rfl (q_move (v := .int _ _) rfl) ?_
    refine OpsW.q rfl (q_indexV1 (hSl2.vec at0) Try.underlying28 (by kernel_rfl) rfl rfl (by omega) (by omega)) ?_
    refine OpsW.q rfl (q_loadVS (hSl2.vec at0) (by kernel_rfl) rfl (by omega)) ?_
    refine OpsW.q rfl (o_call rfl Try.func10 rfl rfl (Verify_con (by omega))) ?_
    refine OpsW.q rfl (q_move (v := .tuple _) rfl) ?_
    refine OpsW.q rfl (q_extract (v := .int _ _) rfl rfl) ?_
    refine OpsW.q rfl (q_extract (v := .int _ _) rfl rfl) ?_
    refine OpsW.q rfl (q_assign (v := .int _ _) rfl) ?_
    refine OpsW.q rfl (q_assign (v := .int _ _) rfl) ?_
    refine OpsW.nil ?_
    refine SeqP.go ?_
    refine AW.seq ?_
    refine AW.region ?_
    refine OpsW.q rfl (q_move (v := .int _ _) rfl) ?_
    refine OpsW.q rfl (q_neq rfl rfl) ?_
    refine OpsW.nil ?_
    refine SeqP.go ?_
    refine AW.cond rfl (fun h19 => ?_) (fun h19 => ?_)
    ·
      exfalso
      try simp only [eb57, decide_eq_true_eq, decide_eq_false_iff_not, Bool.or_eq_true, Bool.and_eq_true, Bool.or_eq_false_iff, Bool.and_eq_false_imp, Bool.not_eq_true', Bool.not_eq_false', ne_eq, Decidable.not_not, Int.not_lt, Int.not_le, Bool.not_eq_true, Bool.not_eq_false] at h19
      simp_all
    try simp only [eb57, decide_eq_true_eq, decide_eq_false_iff_not, Bool.or_eq_true, Bool.and_eq_true, Bool.or_eq_false_iff, Bool.and_eq_false_imp, Bool.not_eq_true', Bool.not_eq_false', ne_eq, Decidable.not_not, Int.not_lt, Int.not_le, Bool.not_eq_true, Bool.not_eq_false] at h19
    refine AW.skip ?_
    refine BlockP.go ?_
    refine SeqP.go ?_
    refine AW.region ?_
    refine OpsW.q rfl (q_move (v := .int _ _) rfl) ?_
    refine OpsW.q rfl (q_addI rfl rfl (by omega)) ?_
    refine OpsW.q rfl (q_assign (v := .int _ _) rfl) ?_
    refine OpsW.nil ?_
    exact LoopP.go _ (by omega) ⟨k + 1, _, rfl, (by omega), Slots.eq ⟨(by rfl), (by rfl), (by rfl), (by rfl), (by rfl), (by rfl), (by rfl), (by rfl), (by rfl), (by rfl), (by rfl),  trivial⟩, hSl2⟩
end
end Go.Proofs.Ytfiojlmccflplaa
end
section
namespace Go.Proofs.Ytfiojlmccflplaa.D
open Go Go.RowKit Go.ChangeShapes Go.WideShapes Go.ChangeAt
set_option linter.unusedVariables false
set_option linter.unusedSimpArgs false
section
variable {Hh : Type} {enc : TypeId × Value → Hh} {P : Program} {W : World}
theorem open_intsW {r : Reach} {b0 base : Nat} {sp : Nat → Bool} {hd : Bool} {t e : TypeId} {v : Value} {d : DataW Hh} {ps : List MemPlace} (ht : P.underlying t = some (.slice e)) (he : P.underlying e = some (.int .i64)) (hc : P.cellsOf e = 1)
    (hval : Value.okWide P W r b0 t v) (h : DataW.Trod enc P W base sp hd t v d ps) :
    ∃ (xs : List Int), (∀ H : Hp, RdW W H v (nums .i64 xs)) ∧ xs.length ≤ maxLen ∧ ∀ j, -9223372036854775808 ≤ xs.getD j 0 ∧ xs.getD j 0 ≤ 9223372036854775807 := by
  obtain ⟨a, len, cap, rfl⟩ := okWide_slice ht hval
  obtain ⟨fuel, hf⟩ := h
  rcases open_ints ht he hc hf with ⟨h1, _⟩ | ⟨a', len', cap', zs, h1, hcap, hl, hm, hzl, _, hx, hw⟩
  · simp [Value.cells] at h1
    obtain ⟨rfl, rfl, rfl⟩ := h1
    exact ⟨[], fun H => ⟨none, 0, rfl, by simp [nums], fun j u hj => by simp [nums] at hj⟩, by simp, fun j => by simp⟩
  · simp [Value.cells] at h1
    obtain ⟨rfl, rfl, rfl⟩ := h1
    have hlm : len ≤ zs.length := by rw [hzl]; split <;> omega
    have hlt : (zs.take len).length = len := by simp; omega
    have hg : ∀ j, j < len → (zs.take len).getD j 0 = zs.getD j 0 := fun j hj => by simp [List.getElem?_take, hj]
    refine ⟨zs.take len, fun H => ?_, by simp; omega, fun j => ?_⟩
    · have hA : CellsAt W (some a') (nums .i64 (zs.take len)).length (fun j => .int .i64 (zs.getD j 0)) := ⟨.inr ⟨a', rfl⟩, fun j hj => hx j (by rw [nums_length] at hj; omega)⟩
      have := hA.rdw (H := H) (c := cap) (g := nums .i64 (zs.take len)) (by rw [nums_length]; omega) (fun j u hj => by
        have hj' : j < len := by
          rcases Nat.lt_or_ge j len with h | h
          · exact h
          · rw [List.getElem?_eq_none (by rw [nums_length]; omega)] at hj; cases hj
        rw [nums_get .i64 _ (by omega), hg j hj'] at hj
        cases hj; rfl)
      rwa [nums_length, hlt] at this
    · by_cases hj : j < len
      · rw [hg j hj]
        refine wf_i64 (hw _ ?_)
        rw [List.getD_eq_getElem?_getD, List.getElem?_eq_getElem (by omega)]
        simp
      · rw [List.getD_eq_getElem?_getD, List.getElem?_eq_none (by simp; omega)]; simp
end
end Go.Proofs.Ytfiojlmccflplaa.D
end
section
namespace Go.Proofs.Ytfiojlmccflplaa
open Go Go.RowKit Go.ChangeShapes Go.WideShapes Go.ChangeAt D
set_option linter.unusedVariables false
set_option maxRecDepth 100000
theorem own : ownKnob Try.prog.godebug = none := by kernel_rfl
theorem laidOut : laidOutB Try.prog = true := by kernel_rfl
theorem len5 {α : Type} {l : List α} (h : l.length = 5) : ∃ a b c d e, l = [a, b, c, d, e] := by
  match l, h with
  | [a, b, c, d, e], _ => exact ⟨a, b, c, d, e, rfl⟩
theorem storeLasts_lifted (os : Os) (started : os.Started) (H : Type) (enc : TypeId × Value → H) :
    ReturnsInHanded {} Try.checked os 7 .any (Rows.storeLastsSpec.pre6 enc Try.prog Try.f7 Rows.storeLastsRow.domain false) (Rows.storeLastsSpec.post enc Try.prog Try.f7 false true false false) := by
  refine lifted (C := Try.checked) own started (by kernel_rfl) Try.func7
    (ChangeSpec.witness6 (enc := enc) (C := Try.checked) false ⟨#[], #[.slice none 0 0, .slice none 0 0, .slice none 0 0], []⟩ 8 (by kernel_rfl) (by kernel_rfl) (by kernel_rfl) (by kernel_rfl)) laidOut (by kernel_rfl) rfl (by kernel_rfl) Try.underlying4 ?_ ?_
  · intro ds h
    obtain ⟨d0, d1, d2, rfl⟩ := len3 h
    exact ⟨rfl, rfl, rfl⟩
  · intro W base args ds gs before hval0 hW _
    have hval : ∀ (j : Nat) t v, Try.f7.params[j]? = some t → args[j]? = some v → Value.okWide Try.prog W .any base t v := hval0
    obtain ⟨p_, q_, hA0, hV, rfl, _, _⟩ := hW
    have hA : DataW.TrodAll enc Try.prog W 0 (fun _ => true) true Try.f7.params.toList args.toList ds p_ := hA0
    rw [Try.params7] at hA hval
    obtain ⟨v0, v1, v2, d0, d1, d2, p0_, p1_, p2_, rfl, rfl, rfl, h0, h1, h2⟩ := trodAll_three hA
    obtain ⟨rx, mx, cx, gx, rfl, hmx, hrx, htx⟩ := open_sliceT Try.underlying31 (hval 0 _ v0 rfl rfl) h0
    have hops : ∀ j, j < mx → ∃ x : OpT, gx j = opCells5 x ∧ (-9223372036854775808 ≤ x.n ∧ x.n ≤ 9223372036854775807) ∧ (-9223372036854775808 ≤ x.who ∧ x.who ≤ 9223372036854775807) := fun j hj => by
      have hU := Try.underlying40
      have hl := ((htx j hj).struct hU).1
      rw [show Try.prog.cellsOf 40 = 5 by kernel_rfl] at hl
      obtain ⟨x0, x1, x2, x3, x4, hx⟩ := len5 hl
      have hT := htx j hj
      rw [hx] at hT ⊢
      obtain ⟨a0, h0, _, _⟩ := (hT.part hU 0 0 1 3 rfl (by kernel_rfl)).i64 Try.underlying3
      obtain ⟨a1, h1, lo1, hi1⟩ := (hT.part hU 1 1 1 3 rfl (by kernel_rfl)).i64 Try.underlying3
      obtain ⟨a2, h2, lo2, hi2⟩ := (hT.part hU 2 2 1 3 rfl (by kernel_rfl)).i64 Try.underlying3
      obtain ⟨a3, h3, _⟩ := (hT.part hU 3 3 1 9 rfl (by kernel_rfl)).str Try.underlying9
      obtain ⟨a4, h4⟩ := (hT.part hU 4 4 1 4 rfl (by kernel_rfl)).bool Try.underlying4
      simp at h0 h1 h2 h3 h4
      exact ⟨⟨a0, a1, a2, a3, a4⟩, by rw [h0, h1, h2, h3, h4]; rfl, ⟨lo2, hi2⟩, lo1, hi1⟩
    obtain ⟨ox, hRx, hOx⟩ := rows_of opCells5 _ (by rw [show Try.prog.cellsOf 40 = 5 by kernel_rfl] at hrx; exact hrx) ⟨0, 0, 0, [], false⟩ hops
    obtain ⟨c, hRc, hmc, hzc⟩ := open_intsW Try.underlying51 Try.underlying3 (by kernel_rfl) (hval 1 _ v1 rfl rfl) h1
    obtain ⟨k, hRk, hmk, hzk⟩ := open_intsW Try.underlying51 Try.underlying3 (by kernel_rfl) (hval 2 _ v2 rfl rfl) h2
    exact (lasts_con ox hRx hmx hRc hRk hmc hmk hzc (fun j hj => (hOx j hj).1)).mono fun v H' h => h.1
theorem storeLasts_holds : Rows.StoreLastsSaid :=
  OpenClaim.holds_of_wide 7 Try.f7 rfl rfl rfl rfl rfl rfl rfl ⟨rfl, rfl, rfl, rfl, rfl⟩ rfl rfl rfl rfl rfl (by kernel_rfl) Try.func7 (by kernel_rfl)
    (of_decide_eq_true (by kernel_rfl)) (by unfold Func.isWrapper; first | (rw [if_pos (by decide +kernel)]; kernel_rfl) | (rw [if_neg (by decide +kernel)]; exact ⟨rfl, rfl⟩))
    (fun os started H enc _ => storeLasts_lifted os started H enc)
end Go.Proofs.Ytfiojlmccflplaa
end
