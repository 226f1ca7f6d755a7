/-
  The walks of package der and of the document's answer: names of numbers, read group by group.
-/
import Derived.Test.YtbjdmomfcdfanaaDQ
import Derived.Test.YtbjdmomfcdfanaaProg
import Derived.Test.YtbjdmomfcdfanaaDeSp7
import Derived.Test.YtbjdmomfcdfanaaDi
import Derived.Test.YtbjdmomfcdfanaaDG
namespace Go.Proofs.Ytbjdmomfcdfanaa
open Go Go.RowKit D
set_option linter.unusedVariables false
set_option linter.unusedSimpArgs false
set_option maxRecDepth 100000
set_option maxHeartbeats 2000000
section
variable {w0 : World} {H : Hp} {H0 : Hp}

theorem and127 (c : UInt8) : (((c &&& 127).toNat : Nat) : Int) = ((c.toNat : Nat) : Int) % 128 := by
  have h : (c &&& 127).toNat = c.toNat % 128 := by
    rw [UInt8.toNat_and]; exact Nat.and_two_pow_sub_one_eq_mod c.toNat 7
  rw [h]; omega
theorem top128 (l : List UInt8) (i : Nat) : (bt l i / 2 ^ 7 = 1) ↔ (128 ≤ bt l i) := top_bit _
theorem take_getD8 {l : List UInt8} {n i : Nat} (h : i < n) : (l.take n).getD i 0 = l.getD i 0 := by
  simp [List.getD_eq_getElem?_getD, List.getElem?_take, h]

theorem ReadOid_con {d : List UInt8} (hm : d.length ≤ 4294967296) : Con Try.prog w0 27 #[S d] H (fun v H' => ∃ u, v = .tuple #[u, .int .i64 (readOidP d).2] ∧ Sep H [.vec u 3 1 (readOidP d).1.length (nums .i64 (readOidP d).1)] H') := by
  have hS0 : Sep H [] H := Sep.refl
  refine Con.intro Try.func27 rfl rfl ?_
  refine AW.seq ?_
  refine AW.region ?_
  refine OpsW.q rfl (q_assign (v := .slice _ _ _) rfl) ?_
  refine OpsW.q rfl (q_assign (v := .int _ _) rfl) ?_
  refine OpsW.nil ?_
  refine SeqP.go ?_
  refine AW.seq ?_
  refine AW.seq ?_
  refine AW.region ?_
  refine OpsW.q rfl (q_move (v := S _) rfl) ?_
  refine OpsW.q rfl (q_eqS rfl rfl) ?_
  refine OpsW.qb rfl (q_move (v := .bool _) rfl) ?_
  intro b14 eb14
  refine OpsW.g rfl rfl rfl (fun hB => by simp only [Bool.and_eq_true, beq_iff_eq] at hB; obtain rfl := hB; exact (q_move (v := S _) rfl)) ?_
  refine OpsW.g rfl rfl rfl (fun hB => by simp only [Bool.and_eq_true, beq_iff_eq] at hB; obtain rfl := hB; exact (q_move (v := S _) rfl)) ?_
  refine OpsW.g rfl rfl rfl (fun hB => by simp only [Bool.and_eq_true, beq_iff_eq] at hB; obtain rfl := hB; exact (q_lenS Try.underlying9 rfl)) ?_
  refine OpsW.g rfl rfl rfl (fun hB => by simp only [Bool.and_eq_true, beq_iff_eq] at hB; obtain rfl := hB; (try simp only [Bool.true_eq, Bool.false_eq, decide_eq_true_eq, Bool.and_eq_true, Bool.or_eq_true, Bool.or_eq_false_iff, Bool.not_eq_true', decide_eq_false_iff_not, Int.not_lt, Int.not_le] at eb14); exact (q_subI rfl rfl (by omega))) ?_
  refine OpsW.g rfl rfl rfl (fun hB => by simp only [Bool.and_eq_true, beq_iff_eq] at hB; obtain rfl := hB; (try simp only [Bool.true_eq, Bool.false_eq, decide_eq_true_eq, Bool.and_eq_true, Bool.or_eq_true, Bool.or_eq_false_iff, Bool.not_eq_true', decide_eq_false_iff_not, Int.not_lt, Int.not_le] at eb14); have hlp : 0 < d.length := List.length_pos_iff.2 eb14; exact (q_indexS Try.underlying9 rfl rfl (by first | omega | decide) (by first | omega | decide))) ?_
  refine OpsW.g rfl rfl rfl (fun hB => by simp only [Bool.and_eq_true, beq_iff_eq] at hB; obtain rfl := hB; exact (q_shrL 7 rfl rfl (by decide) rfl)) ?_
  refine OpsW.g rfl rfl rfl (fun hB => by simp only [Bool.and_eq_true, beq_iff_eq] at hB; obtain rfl := hB; exact (q_eql rfl rfl)) ?_
  refine OpsW.q rfl (q_or2 rfl rfl rfl) ?_
  refine OpsW.nil ?_
  refine SeqP.go ?_
  refine AW.cond rfl (fun h0 => ?_) (fun h0 => ?_)
  ·
    try simp only [eb14, decide_eq_true_eq, decide_eq_false_iff_not, Bool.or_eq_true, Bool.and_eq_true, Bool.or_eq_false_iff, Bool.and_eq_false_imp, Bool.not_eq_true', Bool.not_eq_false', ne_eq, Decidable.not_not, Int.not_lt, Int.not_le, Bool.not_eq_true, Bool.not_eq_false] at h0
    rw [show ((d.length : Int) - 1).toNat = d.length - 1 from by omega, top128] at h0
    have he : d = [] ∨ 128 ≤ bt d (d.length - 1) := h0
    rw [readOidP_end he]
    refine AW.seq ?_
    refine AW.region ?_
    refine OpsW.q rfl (q_assign (v := .slice _ _ _) rfl) ?_
    refine OpsW.q rfl (q_assign (v := .int _ _) rfl) ?_
    refine OpsW.nil ?_
    refine SeqP.go ?_
    refine AW.ret ?_
    refine SeqP.ret ?_
    refine RetP.mk2 (H' := H) (v1 := .slice _ _ _) (v2 := .int _ _) rfl rfl rfl  (Hp.le_refl _) ?_
    exact ⟨nilV, rfl, hS0.nil⟩
  try simp only [eb14, decide_eq_true_eq, decide_eq_false_iff_not, Bool.or_eq_true, Bool.and_eq_true, Bool.or_eq_false_iff, Bool.and_eq_false_imp, Bool.not_eq_true', Bool.not_eq_false', ne_eq, Decidable.not_not, Int.not_lt, Int.not_le, Bool.not_eq_true, Bool.not_eq_false] at h0
  rw [show ((d.length : Int) - 1).toNat = d.length - 1 from by omega, top128] at h0
  have hne : ¬ (d = [] ∨ 128 ≤ bt d (d.length - 1)) := fun h => h.elim h0.1 h0.2
  refine AW.skip ?_
  refine SeqP.go ?_
  refine AW.seq ?_
  refine AW.region ?_
  refine OpsW.q rfl (q_assign (v := .slice _ _ _) rfl) ?_
  refine OpsW.nil ?_
  refine SeqP.go ?_
  refine AW.seq ?_
  refine AW.region ?_
  refine OpsW.q rfl (q_assign (v := .bool _) rfl) ?_
  refine OpsW.nil ?_
  refine SeqP.go ?_
  refine AW.seq ?_
  refine AW.seq ?_
  refine AW.region ?_
  refine OpsW.q rfl (q_move (v := S _) rfl) ?_
  refine OpsW.m rfl (s_bytes hS0 rfl Try.underlying45 Try.underlying5 rfl (by first | (with_reducible assumption) | omega | (unfold maxLen; omega) | (simp only [nums_length, List.length_set, List.length_replicate, List.length_take, List.length_drop, List.length_append, List.length_cons, List.length_nil, ofB_length, toB_length]; omega) | (simp only [nums_length, List.length_set, List.length_replicate, List.length_take, List.length_drop, List.length_append, List.length_cons, List.length_nil, ofB_length, toB_length]; unfold maxLen; omega) | (simp; done) | (simp; omega) | rfl | decide)) ?_
  rintro v24 H1 hS1
  clear hS0
  refine OpsW.q rfl (q_assign (v := v24) rfl) ?_
  refine OpsW.nil ?_
  refine SeqP.go ?_
  refine AW.block ?_
  replace hS1 := hS1.nil (el := 3) (sz := 1)
  refine AW.loop (fun m_ e_ H_ => ∃ (p : Nat) (vr vl vw : Value) (ld : List Int) (e0 : Env), m_ = d.length - p ∧ (p ≤ d.length ∧ (oS d p).many = 0 ∧ (∀ G : Hp, Vec G 5 1 vw d.length (nums .u8 (ofB d)) → Rds G vr (d.drop p)) ∧ ld.length = (oS d p).l.length ∧ ((oS d p).big = false → ld = (oS d p).l) ∧ ∀ j, j < p → ¬ oBad d j) ∧ e_ = upds e0 [(4, vl), (5, .bool (oS d p).big), (6, vr)] ∧ Sep H [.vec vl 3 1 ld.length (nums .i64 ld), .vec vw 5 1 d.length (nums .u8 (ofB d))] H_) _ ⟨0, v24, nilV, v24, [], _, rfl, ⟨Nat.zero_le _, rfl, fun G hG => hG.rds, rfl, fun _ => rfl, fun j hj => by omega⟩, Slots.eq ⟨(by first | rfl | exact i64_int (by omega) (by omega) (by omega) | assumption), rfl, (by first | rfl | exact i64_int (by omega) (by omega) (by omega) | assumption),  trivial⟩, hS1⟩ ?_
  rintro m_ _ Hl0 ⟨p, vr, vl, vw, ld, e0, rfl, ⟨hf, hmany, hR, hll, hld, hnb⟩, rfl, hSl0⟩
  try clear hS1
  have hmn := oS_many d p
  refine AW.seq ?_
  refine AW.seq ?_
  refine AW.region ?_
  refine OpsW.q rfl (q_move (v := vr) rfl) ?_
  refine OpsW.q rfl (q_lenR Try.underlying45 rfl (hR _ (hSl0.vec at1))) ?_
  refine OpsW.q rfl (q_gtr rfl rfl) ?_
  refine OpsW.nil ?_
  refine SeqP.go ?_
  refine AW.cond2 rfl (fun h1 => ?_) (fun h1 => ?_)
  ·
    try simp only [eb14, decide_eq_true_eq, decide_eq_false_iff_not, Bool.or_eq_true, Bool.and_eq_true, Bool.or_eq_false_iff, Bool.and_eq_false_imp, Bool.not_eq_true', Bool.not_eq_false', ne_eq, Decidable.not_not, Int.not_lt, Int.not_le, Bool.not_eq_true, Bool.not_eq_false] at h1
    refine AW.exit ?_
    refine SeqP.exit ?_
    refine LoopP.exit ?_
    have hdl : (d.drop p).length = d.length - p := List.length_drop
    obtain rfl : p = d.length := by omega
    refine BlockP.here ?_
    refine SeqP.go ?_
    refine AW.seq ?_
    refine AW.seq ?_
    refine AW.region ?_
    refine OpsW.q rfl (q_move (v := .bool _) rfl) ?_
    refine OpsW.qb rfl (q_move (v := .bool _) rfl) ?_
    intro b64 eb64
    refine OpsW.g rfl rfl rfl (fun hB => by simp only [Bool.and_eq_true, beq_iff_eq] at hB; obtain rfl := hB; exact (q_move (v := vl) rfl)) ?_
    refine OpsW.g rfl rfl rfl (fun hB => by simp only [Bool.and_eq_true, beq_iff_eq] at hB; obtain rfl := hB; exact (q_lenVec Try.underlying33 rfl (hSl0.vec at0))) ?_
    refine OpsW.g rfl rfl rfl (fun hB => by simp only [Bool.and_eq_true, beq_iff_eq] at hB; obtain rfl := hB; exact (q_gtr rfl rfl)) ?_
    refine OpsW.q rfl (q_or2 rfl rfl rfl) ?_
    refine OpsW.nil ?_
    refine SeqP.go ?_
    refine AW.cond rfl (fun h4 => ?_) (fun h4 => ?_)
    ·
      try simp only [eb14, eb64, decide_eq_true_eq, decide_eq_false_iff_not, Bool.or_eq_true, Bool.and_eq_true, Bool.or_eq_false_iff, Bool.and_eq_false_imp, Bool.not_eq_true', Bool.not_eq_false', ne_eq, Decidable.not_not, Int.not_lt, Int.not_le, Bool.not_eq_true, Bool.not_eq_false] at h4
      have hbg : (oS d d.length).big = true ∨ 19 < (oS d d.length).l.length := by rcases h4 with h | h; exact .inl h; exact .inr (by omega)
      rw [readOidP_big hne (fun j hj => hnb j hj) hbg]
      refine AW.seq ?_
      refine AW.region ?_
      refine OpsW.q rfl (q_assign (v := .slice _ _ _) rfl) ?_
      refine OpsW.q rfl (q_assign (v := .int _ _) rfl) ?_
      refine OpsW.nil ?_
      refine SeqP.go ?_
      refine AW.ret ?_
      refine SeqP.ret ?_
      refine RetP.mk2 (H' := Hl0) (v1 := .slice _ _ _) (v2 := .int _ _) rfl rfl rfl  (Hp.le_refl _) ?_
      exact ⟨nilV, rfl, hSl0.tail.tail.nil⟩
    try simp only [eb14, eb64, decide_eq_true_eq, decide_eq_false_iff_not, Bool.or_eq_true, Bool.and_eq_true, Bool.or_eq_false_iff, Bool.and_eq_false_imp, Bool.not_eq_true', Bool.not_eq_false', ne_eq, Decidable.not_not, Int.not_lt, Int.not_le, Bool.not_eq_true, Bool.not_eq_false] at h4
    have hbf : (oS d d.length).big = false := h4.1
    have hbg : ¬ ((oS d d.length).big = true ∨ 19 < (oS d d.length).l.length) := by rintro (h | h); rw [hbf] at h; cases h; omega
    have hle := hld hbf
    subst hle
    have hpos := oS_some hne
    have hl0 := oS_nums d d.length _ (List.getElem_mem (n := 0) hpos)
    have hl1 : (oS d d.length).l.getD (Int.toNat 0) 0 = (oS d d.length).l[0] := by rw [show (Int.toNat 0) = 0 from rfl, List.getD_eq_getElem?_getD, List.getElem?_eq_getElem hpos]; rfl
    rw [readOidP_ok hne (fun j hj => hnb j hj) hbg]
    refine AW.skip ?_
    refine SeqP.go ?_
    refine AW.seq ?_
    refine AW.region ?_
    refine OpsW.q rfl (q_move (v := vl) rfl) ?_
    refine OpsW.q rfl (q_indexV1 (hSl0.vec at0) Try.underlying33 (by kernel_rfl) rfl rfl (by first | omega | decide) (by first | omega | decide)) ?_
    refine OpsW.q rfl (q_loadVN (hSl0.vec at0) (by kernel_rfl) rfl (by first | (with_reducible assumption) | omega | (unfold maxLen; omega) | (simp only [nums_length, List.length_set, List.length_replicate, List.length_take, List.length_drop, List.length_append, List.length_cons, List.length_nil, ofB_length, toB_length]; omega) | (simp only [nums_length, List.length_set, List.length_replicate, List.length_take, List.length_drop, List.length_append, List.length_cons, List.length_nil, ofB_length, toB_length]; unfold maxLen; omega) | (simp; done) | (simp; omega) | rfl | decide)) ?_
    refine OpsW.q rfl (q_quoI rfl rfl (by omega)) ?_
    refine OpsW.q rfl (q_min rfl rfl) ?_
    refine OpsW.q rfl (q_assign (v := .int _ _) rfl) ?_
    refine OpsW.nil ?_
    refine SeqP.go ?_
    refine AW.seq ?_
    refine AW.steps rfl 13 rfl ?_
    refine AnyW.first 0 rfl (by kernel_rfl) (by kernel_rfl) (by kernel_rfl) rfl (dst_lt rfl) (v_move (v := .int _ _) rfl) ?_
    refine AnyW.first 1 rfl (by kernel_rfl) (by kernel_rfl) (by kernel_rfl) rfl (dst_lt rfl) (v_move (v := vl) rfl) ?_
    refine AnyW.first 4 rfl (by kernel_rfl) (by kernel_rfl) (by kernel_rfl) rfl (dst_lt rfl) (v_move (v := .int _ _) rfl) ?_
    refine AnyW.first 8 rfl (by kernel_rfl) (by kernel_rfl) (by kernel_rfl) rfl (dst_lt rfl) (v_move (v := vl) rfl) ?_
    refine AnyW.first 2 rfl (by kernel_rfl) (by kernel_rfl) (by kernel_rfl) rfl (dst_lt rfl) (v_indexV1 (hSl0.vec at0) Try.underlying33 (by kernel_rfl) rfl rfl (by first | omega | decide) (by first | omega | decide)) ?_
    refine AnyW.first 5 rfl (by kernel_rfl) (by kernel_rfl) (by kernel_rfl) rfl (dst_lt rfl) (v_mulI rfl rfl (by omega)) ?_
    refine AnyW.first 9 rfl (by kernel_rfl) (by kernel_rfl) (by kernel_rfl) rfl (dst_lt rfl) (v_sufW ((hSl0.vec at0).rdw (w0 := w0)) Try.underlying33 (by kernel_rfl) rfl rfl (by omega) (by rw [nums_length]; omega)) ?_
    refine AnyW.onlyQ 3 rfl (by kernel_rfl) rfl (dst_lt rfl) (q_loadVN (hSl0.vec at0) (by kernel_rfl) rfl (by first | (with_reducible assumption) | omega | (unfold maxLen; omega) | (simp only [nums_length, List.length_set, List.length_replicate, List.length_take, List.length_drop, List.length_append, List.length_cons, List.length_nil, ofB_length, toB_length]; omega) | (simp only [nums_length, List.length_set, List.length_replicate, List.length_take, List.length_drop, List.length_append, List.length_cons, List.length_nil, ofB_length, toB_length]; unfold maxLen; omega) | (simp; done) | (simp; omega) | rfl | decide)) ?_
    refine AnyW.onlyQ 6 rfl (by kernel_rfl) rfl (dst_lt rfl) (q_subI rfl rfl (by omega)) ?_
    refine AnyW.only 7 rfl (by kernel_rfl) rfl (dst_lt rfl) (s_buildSlice (z := .int .i64 0) (vs := nums .i64 [_, _]) hSl0 Try.underlying33 (by kernel_rfl) (by kernel_rfl) rfl (by rfl) (by rfl) (by decide) rfl (nums_one _ _) rfl) ?_
    rintro v81 H2 hS2
    clear hSl0
    refine AnyW.only 10 rfl (by kernel_rfl) rfl (dst_lt rfl) (s_append (sz := 1) (by_ := 8) (z := .int .i64 0) hS2 at0 Try.underlying33 (by kernel_rfl) (by kernel_rfl) (by kernel_rfl) rfl (by kernel_rfl) rfl rfl (src_rdw ((hS2.vec at1).rdw.sufN (n := 1) (by omega)) (nums_one _ _)) (by first | (with_reducible assumption) | omega | (unfold maxLen; omega) | (simp only [nums_length, List.length_set, List.length_replicate, List.length_take, List.length_drop, List.length_append, List.length_cons, List.length_nil, ofB_length, toB_length]; omega) | (simp only [nums_length, List.length_set, List.length_replicate, List.length_take, List.length_drop, List.length_append, List.length_cons, List.length_nil, ofB_length, toB_length]; unfold maxLen; omega) | (simp; done) | (simp; omega) | rfl | decide) (by first | (with_reducible assumption) | omega | (unfold maxLen; omega) | (simp only [nums_length, List.length_set, List.length_replicate, List.length_take, List.length_drop, List.length_append, List.length_cons, List.length_nil, ofB_length, toB_length]; omega) | (simp only [nums_length, List.length_set, List.length_replicate, List.length_take, List.length_drop, List.length_append, List.length_cons, List.length_nil, ofB_length, toB_length]; unfold maxLen; omega) | (simp; done) | (simp; omega) | rfl | decide)) ?_
    rintro v84 H3 hS3
    clear hS2
    refine AnyW.onlyQ 11 rfl (by kernel_rfl) rfl (dst_lt rfl) (q_assign (v := v84) rfl) ?_
    refine AnyW.onlyQ 12 rfl (by kernel_rfl) rfl (dst_lt rfl) (q_assign (v := .int _ _) rfl) ?_
    refine AnyW.done (by kernel_rfl) ?_
    refine SeqP.go ?_
    refine AW.ret ?_
    refine RetP.mk2 (H' := H3) (v1 := v84) (v2 := .int _ _) rfl rfl rfl  (Hp.le_refl _) ?_
    have hs := (hS3.del del1).del del1
    refine ⟨_, rfl, ?_⟩
    unfold oOut
    show Sep _ [.vec _ _ 1 ([_, _] ++ List.drop 1 _).length (nums .i64 ([_, _] ++ List.drop 1 _))] _
    rw [nums_append, List.length_append]
    rw [nums_length] at hs
    exact hs
  try simp only [eb14, decide_eq_true_eq, decide_eq_false_iff_not, Bool.or_eq_true, Bool.and_eq_true, Bool.or_eq_false_iff, Bool.and_eq_false_imp, Bool.not_eq_true', Bool.not_eq_false', ne_eq, Decidable.not_not, Int.not_lt, Int.not_le, Bool.not_eq_true, Bool.not_eq_false] at h1
  have hdl : (d.drop p).length = d.length - p := List.length_drop
  have hp : p < d.length := by omega
  refine AW.skip ?_
  refine SeqP.go ?_
  refine AW.block ?_
  refine AW.seq ?_
  refine AW.seq ?_
  refine AW.region ?_
  refine OpsW.q rfl (q_move (v := vr) rfl) ?_
  refine OpsW.q rfl (q_indexR (hR _ (hSl0.vec at1)) Try.underlying45 (by kernel_rfl) rfl rfl (by first | omega | decide) (by first | (with_reducible assumption) | omega | (unfold maxLen; omega) | (simp only [nums_length, List.length_set, List.length_replicate, List.length_take, List.length_drop, List.length_append, List.length_cons, List.length_nil, ofB_length, toB_length]; omega) | (simp only [nums_length, List.length_set, List.length_replicate, List.length_take, List.length_drop, List.length_append, List.length_cons, List.length_nil, ofB_length, toB_length]; unfold maxLen; omega) | (simp; done) | (simp; omega) | rfl | decide)) ?_
  refine OpsW.q rfl (q_loadR8 (hR _ (hSl0.vec at1)) (by kernel_rfl) rfl (by first | (with_reducible assumption) | omega | (unfold maxLen; omega) | (simp only [nums_length, List.length_set, List.length_replicate, List.length_take, List.length_drop, List.length_append, List.length_cons, List.length_nil, ofB_length, toB_length]; omega) | (simp only [nums_length, List.length_set, List.length_replicate, List.length_take, List.length_drop, List.length_append, List.length_cons, List.length_nil, ofB_length, toB_length]; unfold maxLen; omega) | (simp; done) | (simp; omega) | rfl | decide)) ?_
  refine OpsW.q rfl (q_eql rfl rfl) ?_
  refine OpsW.nil ?_
  refine SeqP.go ?_
  refine AW.cond rfl (fun h2 => ?_) (fun h2 => ?_)
  ·
    try simp only [eb14, decide_eq_true_eq, decide_eq_false_iff_not, Bool.or_eq_true, Bool.and_eq_true, Bool.or_eq_false_iff, Bool.and_eq_false_imp, Bool.not_eq_true', Bool.not_eq_false', ne_eq, Decidable.not_not, Int.not_lt, Int.not_le, Bool.not_eq_true, Bool.not_eq_false] at h2
    have hbd : oBad d p := ⟨hmany, by rw [← Nat.add_zero p, ← bt_skip]; exact h2⟩
    rw [readOidP_bytes hne (by omega) hbd]
    refine AW.seq ?_
    refine AW.region ?_
    refine OpsW.q rfl (q_assign (v := .slice _ _ _) rfl) ?_
    refine OpsW.q rfl (q_assign (v := .int _ _) rfl) ?_
    refine OpsW.nil ?_
    refine SeqP.go ?_
    refine AW.ret ?_
    refine SeqP.ret ?_
    refine BlockP.ret ?_
    refine LoopP.ret ?_
    refine BlockP.ret ?_
    refine SeqP.ret ?_
    refine RetP.mk2 (H' := Hl0) (v1 := .slice _ _ _) (v2 := .int _ _) rfl rfl rfl  (Hp.le_refl _) ?_
    exact ⟨nilV, rfl, hSl0.tail.tail.nil⟩
  try simp only [eb14, decide_eq_true_eq, decide_eq_false_iff_not, Bool.or_eq_true, Bool.and_eq_true, Bool.or_eq_false_iff, Bool.and_eq_false_imp, Bool.not_eq_true', Bool.not_eq_false', ne_eq, Decidable.not_not, Int.not_lt, Int.not_le, Bool.not_eq_true, Bool.not_eq_false] at h2
  have hnb0 : ¬ oBad d p := fun hb => h2 (by have hq := hb.2; rw [← Nat.add_zero p, ← bt_skip] at hq; exact hq)
  obtain ⟨k, hk1, hh0, hl0⟩ := low_some (d := d) (d.length - p - 1) p (by omega) (by rw [show p + (d.length - p - 1) = d.length - 1 from by omega]; exact Int.not_le.1 (fun hg => hne (.inr hg)))
  have hkl : k < (d.drop p).length := by omega
  have hlow : bt (d.drop p) k < 128 := by rw [bt_skip]; exact hl0
  have hhigh : ∀ j, j < k → 128 ≤ bt (d.drop p) j := fun j hj => by rw [bt_skip]; exact hh0 j hj
  have htl : ((d.drop p).take (k + 1)).length = k + 1 := by rw [List.length_take]; omega
  obtain ⟨gq1, gq2, gq3, gq4⟩ := oS_group hmany hh0 hl0
  refine AW.skip ?_
  refine SeqP.go ?_
  refine AW.seq ?_
  refine AW.region ?_
  refine OpsW.q rfl (q_move (v := vr) rfl) ?_
  refine OpsW.q rfl (o_call rfl Try.func40 rfl rfl (IndexFunc_con (hR _ (hSl0.vec at1)) hkl (by rw [List.length_drop]; omega) hlow hhigh)) ?_
  refine OpsW.q rfl (q_addI rfl rfl (by omega)) ?_
  refine OpsW.q rfl (q_assign (v := .int _ _) rfl) ?_
  refine OpsW.nil ?_
  refine SeqP.go ?_
  refine AW.seq ?_
  refine AW.region ?_
  refine OpsW.q rfl (q_assign (v := .int _ _) rfl) ?_
  refine OpsW.nil ?_
  refine SeqP.go ?_
  refine AW.seq ?_
  refine AW.seq ?_
  refine AW.region ?_
  refine OpsW.q rfl (q_move (v := vr) rfl) ?_
  refine OpsW.q rfl (q_move (v := .int _ _) rfl) ?_
  refine OpsW.q rfl (q_preR (hR _ (hSl0.vec at1)) Try.underlying45 (by kernel_rfl) rfl rfl (by omega) (by omega)) ?_
  rw [show ((1 : Int) + (k : Int)).toNat = k + 1 from by omega]
  refine OpsW.q rfl (q_lenR Try.underlying45 rfl (Rds.pre (hR _ (hSl0.vec at1)) (by omega))) ?_
  refine OpsW.q rfl (q_move (v := .int _ _) rfl) ?_
  refine OpsW.nil ?_
  refine SeqP.go ?_
  refine AW.block ?_
  refine AW.loop (fun m_ e_ H_ => ∃ (i : Nat) (e0 : Env), m_ = k + 1 - i ∧ (i ≤ k + 1) ∧ e_ = upds e0 [(4, vl), (5, .bool (oS d p).big), (6, vr), (7, .int .i64 (1 + (k : Int))), (8, .int .i64 (ndK (d.drop p) i)), (37, preV vr (k + 1)), (38, .int .i64 ((k + 1 : Nat) : Int)), (39, .int .i64 (i : Int))] ∧ Sep H [.vec vl 3 1 ld.length (nums .i64 ld), .vec vw 5 1 d.length (nums .u8 (ofB d))] H_) _ ⟨0, _, rfl, (by omega), Slots.eq ⟨(by first | rfl | exact i64_int (by omega) (by omega) (by omega) | assumption), (by first | rfl | exact i64_int (by omega) (by omega) (by omega) | assumption), (by first | rfl | exact i64_int (by omega) (by omega) (by omega) | assumption), (by first | rfl | exact i64_int (by omega) (by omega) (by omega) | assumption), (by first | rfl | exact i64_int (by omega) (by omega) (by omega) | assumption), (by first | rfl | exact i64_int (by omega) (by omega) (by omega) | assumption), (by show Value.int .i64 ((((d.drop p).take (k + 1)).length : Nat) : Int) = _; rw [htl]), (by first | rfl | exact i64_int (by omega) (by omega) (by omega) | assumption),  trivial⟩, hSl0⟩ ?_
  rintro m_ _ Hl1 ⟨i, e0, rfl, hf, rfl, hSl1⟩
  try clear hSl0
  refine AW.seq ?_
  refine AW.region ?_
  refine OpsW.q rfl (q_lss rfl rfl) ?_
  refine OpsW.nil ?_
  refine SeqP.go ?_
  refine AW.seq ?_
  refine AW.cond2 rfl (fun h3 => ?_) (fun h3 => ?_)
  ·
    try simp only [eb14, decide_eq_true_eq, decide_eq_false_iff_not, Bool.or_eq_true, Bool.and_eq_true, Bool.or_eq_false_iff, Bool.and_eq_false_imp, Bool.not_eq_true', Bool.not_eq_false', ne_eq, Decidable.not_not, Int.not_lt, Int.not_le, Bool.not_eq_true, Bool.not_eq_false] at h3
    refine AW.exit ?_
    refine SeqP.exit ?_
    refine LoopP.exit ?_
    obtain rfl : i = k + 1 := by omega
    refine BlockP.here ?_
    refine SeqP.go ?_
    refine AW.seq ?_
    refine AW.region ?_
    refine OpsW.q rfl (q_move (v := .bool _) rfl) ?_
    refine OpsW.qb rfl (q_move (v := .bool _) rfl) ?_
    intro b52 eb52
    refine OpsW.g rfl rfl rfl (fun hB => by simp only [Bool.and_eq_true, beq_iff_eq] at hB; obtain rfl := hB; exact (q_move (v := .int _ _) rfl)) ?_
    refine OpsW.g rfl rfl rfl (fun hB => by simp only [Bool.and_eq_true, beq_iff_eq] at hB; obtain rfl := hB; exact (q_gtr rfl rfl)) ?_
    refine OpsW.q rfl (q_or2 rfl rfl rfl) ?_
    refine OpsW.q rfl (q_assign (v := .bool _) rfl) ?_
    refine OpsW.nil ?_
    refine SeqP.go ?_
    refine AW.steps rfl 9 rfl ?_
    refine AnyW.first 0 rfl (by kernel_rfl) (by kernel_rfl) (by kernel_rfl) rfl (dst_lt rfl) (v_move (v := vl) rfl) ?_
    refine AnyW.first 1 rfl (by kernel_rfl) (by kernel_rfl) (by kernel_rfl) rfl (dst_lt rfl) (v_move (v := .int _ _) rfl) ?_
    refine AnyW.first 4 rfl (by kernel_rfl) (by kernel_rfl) (by kernel_rfl) rfl (dst_lt rfl) (v_move (v := vr) rfl) ?_
    refine AnyW.first 5 rfl (by kernel_rfl) (by kernel_rfl) (by kernel_rfl) rfl (dst_lt rfl) (v_move (v := .int _ _) rfl) ?_
    refine AnyW.first 6 rfl (by kernel_rfl) (by kernel_rfl) (by kernel_rfl) rfl (dst_lt rfl) (v_sufR (hR _ (hSl1.vec at1)) Try.underlying45 (by kernel_rfl) rfl rfl (by omega) (by omega)) ?_
    rw [show ((1 : Int) + (k : Int)).toNat = k + 1 from by omega]
    refine AnyW.only 2 rfl (by kernel_rfl) rfl (dst_lt rfl) (s_buildSlice (z := .int .i64 0) (vs := nums .i64 [_]) hSl1 Try.underlying33 (by kernel_rfl) (by kernel_rfl) rfl (by rfl) (by rfl) (by decide) rfl (nums_one _ _) rfl) ?_
    rintro v58 H4 hS4
    clear hSl1
    refine AnyW.only 3 rfl (by kernel_rfl) rfl (dst_lt rfl) (s_append (sz := 1) (by_ := 8) (z := .int .i64 0) hS4 at1 Try.underlying33 (by kernel_rfl) (by kernel_rfl) (by kernel_rfl) rfl (by kernel_rfl) rfl rfl (src_vec (hS4.vec at0) (nums_one _ _)) (by first | (with_reducible assumption) | omega | (unfold maxLen; omega) | (simp only [nums_length, List.length_set, List.length_replicate, List.length_take, List.length_drop, List.length_append, List.length_cons, List.length_nil, ofB_length, toB_length]; omega) | (simp only [nums_length, List.length_set, List.length_replicate, List.length_take, List.length_drop, List.length_append, List.length_cons, List.length_nil, ofB_length, toB_length]; unfold maxLen; omega) | (simp; done) | (simp; omega) | rfl | decide) (by first | (with_reducible assumption) | omega | (unfold maxLen; omega) | (simp only [nums_length, List.length_set, List.length_replicate, List.length_take, List.length_drop, List.length_append, List.length_cons, List.length_nil, ofB_length, toB_length]; omega) | (simp only [nums_length, List.length_set, List.length_replicate, List.length_take, List.length_drop, List.length_append, List.length_cons, List.length_nil, ofB_length, toB_length]; unfold maxLen; omega) | (simp; done) | (simp; omega) | rfl | decide)) ?_
    rintro v59 H5 hS5
    clear hS4
    replace hS5 := hS5.del del0
    refine AnyW.onlyQ 7 rfl (by kernel_rfl) rfl (dst_lt rfl) (q_assign (v := v59) rfl) ?_
    refine AnyW.onlyQ 8 rfl (by kernel_rfl) rfl (dst_lt rfl) (q_assign (v := (sufV vr (k + 1))) rfl) ?_
    refine AnyW.done (by kernel_rfl) ?_
    refine BlockP.go ?_
    exact LoopP.go _ (by omega) ⟨p + k + 1, sufV vr (k + 1), v59, vw, ld ++ [ndK (d.drop p) (k + 1)], _, rfl, ⟨by omega, gq1, fun G hG => by { have hq := (hR G hG).suf (k := k + 1) (by omega); rw [List.drop_drop] at hq; exact hq }, by rw [List.length_append, gq2, hll]; rfl, fun hb => by { rw [gq4 hb, hld (by rw [gq3] at hb; exact (Bool.or_eq_false_iff.1 hb).1)] }, oS_nobad hmany hh0 hnb hnb0⟩, Slots.eq ⟨(by first | rfl | exact i64_int (by omega) (by omega) (by omega) | assumption), (by rw [gq3]; exact congrArg Value.bool (by subst_vars; rw [show decide ((4 : Int) < 1 + (k : Int)) = decide (4 < k + 1) from decide_eq_decide.2 (by omega)])), (by first | rfl | exact i64_int (by omega) (by omega) (by omega) | assumption),  trivial⟩, (by have hs := hS5; rw [← nums_append] at hs; rw [List.length_append]; exact hs)⟩
  try simp only [eb14, decide_eq_true_eq, decide_eq_false_iff_not, Bool.or_eq_true, Bool.and_eq_true, Bool.or_eq_false_iff, Bool.and_eq_false_imp, Bool.not_eq_true', Bool.not_eq_false', ne_eq, Decidable.not_not, Int.not_lt, Int.not_le, Bool.not_eq_true, Bool.not_eq_false] at h3
  have hstep : ior .i64 (iand .i64 (IntKind.i64.wrap (ndK (d.drop p) i * 2 ^ 7)) 268435455) (((((d.drop p).take (k + 1)).getD (i : Int).toNat 0 &&& 127).toNat : Nat) : Int) = ndK (d.drop p) (i + 1) := by rw [and127, Int.toNat_natCast, take_getD8 (by omega)]; exact nd_step (d.drop p) i
  refine AW.skip ?_
  refine SeqP.go ?_
  refine AW.seq ?_
  refine AW.block ?_
  refine AW.seq ?_
  refine AW.region ?_
  refine OpsW.q rfl (q_indexR (Rds.pre (hR _ (hSl1.vec at1)) (by omega)) Try.underlying45 (by kernel_rfl) rfl rfl (by first | omega | decide) (by first | (with_reducible assumption) | omega | (unfold maxLen; omega) | (simp only [nums_length, List.length_set, List.length_replicate, List.length_take, List.length_drop, List.length_append, List.length_cons, List.length_nil, ofB_length, toB_length]; omega) | (simp only [nums_length, List.length_set, List.length_replicate, List.length_take, List.length_drop, List.length_append, List.length_cons, List.length_nil, ofB_length, toB_length]; unfold maxLen; omega) | (simp; done) | (simp; omega) | rfl | decide)) ?_
  refine OpsW.q rfl (q_loadR8 (Rds.pre (hR _ (hSl1.vec at1)) (by omega)) (by kernel_rfl) rfl (by first | (with_reducible assumption) | omega | (unfold maxLen; omega) | (simp only [nums_length, List.length_set, List.length_replicate, List.length_take, List.length_drop, List.length_append, List.length_cons, List.length_nil, ofB_length, toB_length]; omega) | (simp only [nums_length, List.length_set, List.length_replicate, List.length_take, List.length_drop, List.length_append, List.length_cons, List.length_nil, ofB_length, toB_length]; unfold maxLen; omega) | (simp; done) | (simp; omega) | rfl | decide)) ?_
  refine OpsW.q rfl (q_assign (v := .int _ _) rfl) ?_
  refine OpsW.nil ?_
  refine SeqP.go ?_
  refine AW.region ?_
  refine OpsW.q rfl (q_move (v := .int _ _) rfl) ?_
  refine OpsW.q rfl (q_shlL 7 rfl rfl (by decide) rfl) ?_
  refine OpsW.q rfl (q_and rfl rfl) ?_
  refine OpsW.q rfl (q_move (v := .int _ _) rfl) ?_
  refine OpsW.q rfl (q_andB (b := 127) rfl rfl) ?_
  refine OpsW.q rfl (q_convBI rfl Try.underlying3 rfl) ?_
  refine OpsW.q rfl (q_or rfl rfl) ?_
  rw [hstep]
  refine OpsW.q rfl (q_assign (v := .int _ _) rfl) ?_
  refine OpsW.nil ?_
  refine BlockP.go ?_
  refine SeqP.go ?_
  refine AW.region ?_
  refine OpsW.q rfl (q_addI rfl rfl (by omega)) ?_
  refine OpsW.q rfl (q_move (v := .int _ _) rfl) ?_
  refine OpsW.nil ?_
  exact LoopP.go _ (by omega) ⟨i + 1, _, rfl, (by omega), Slots.eq ⟨(by first | rfl | exact i64_int (by omega) (by omega) (by omega) | assumption), (by first | rfl | exact i64_int (by omega) (by omega) (by omega) | assumption), (by first | rfl | exact i64_int (by omega) (by omega) (by omega) | assumption), (by first | rfl | exact i64_int (by omega) (by omega) (by omega) | assumption), (by first | rfl | exact i64_int (by omega) (by omega) (by omega) | assumption), (by first | rfl | exact i64_int (by omega) (by omega) (by omega) | assumption), (by first | rfl | exact i64_int (by omega) (by omega) (by omega) | assumption), (by first | rfl | exact i64_int (by omega) (by omega) (by omega) | assumption),  trivial⟩, hSl1⟩
end
end Go.Proofs.Ytbjdmomfcdfanaa

