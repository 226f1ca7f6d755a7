/-
  The walks of package sha: the digest of bytes.
-/
import Derived.Test.YtfiojlmccflplaaDC
import Derived.Test.YtfiojlmccflplaaDZ
import Derived.Test.YtfiojlmccflplaaProg
import Derived.Test.YtfiojlmccflplaaShSpec
import Derived.Test.YtfiojlmccflplaaSh
namespace Go.Proofs.Ytfiojlmccflplaa
open Go Go.RowKit D
set_option linter.unusedVariables false
set_option linter.unusedSimpArgs false
set_option maxRecDepth 100000
set_option maxHeartbeats 2000000
section
variable {w0 : World} {H : Hp} {H0 : Hp}

def startK (i : Nat) : List Int := (stL0.take i).map (fun x => w32 (x / 2 ^ 32)) ++ List.replicate (8 - i) 0
theorem stL0_len : stL0.length = 8 := by unfold stL0; rfl
theorem startK_step {i : Nat} (h : i < 8) : (startK i).set i (w32 (stL0.getD i 0 / 2 ^ 32)) = startK (i + 1) := by
  have hl := stL0_len
  unfold startK
  have hk : ((stL0.take i).map (fun x => w32 (x / 2 ^ 32))).length = i := by rw [List.length_map, List.length_take]; omega
  rw [rep_cons h, mid_set hk, List.take_succ_eq_append_getElem (by omega), List.map_append, List.append_assoc, List.getD_eq_getElem?_getD, List.getElem?_eq_getElem (by omega)]
  rfl
theorem startK_fin : startK 8 = startW := by
  unfold startK
  rw [List.take_of_length_le (by rw [stL0_len]; exact Nat.le_refl _), startW_eq]; simp
theorem startK_length {i : Nat} (h : i ≤ 8) : (startK i).length = 8 := by
  unfold startK
  have hl := stL0_len
  rw [List.length_append, List.length_map, List.length_take, List.length_replicate]; omega
theorem kset (b i : Nat) (l : List Int) (v : Int) : (kHead b ++ nums .u32 l).set (15 + i) (.int .u32 v) = kHead b ++ nums .u32 (l.set i v) := by
  rw [List.set_append, if_neg (by rw [show (kHead b).length = 15 from rfl]; omega), show (kHead b).length = 15 from rfl, Nat.add_sub_cancel_left, nums_set]

theorem constants_con : Con Try.prog w0 66 #[] H (fun v H' => ∃ bc, v = .pointer (some ⟨bc, 0, none⟩) ∧ Sep H [.blk bc ⟨nums .u64 kL, 80, 116⟩] H') := by
  have hS0 : Sep H [] H := Sep.refl
  refine Con.intro Try.func66 rfl rfl ?_
  refine AW.seq ?_
  refine AW.region ?_
  refine OpsW.q rfl (q_assign (v := .pointer _) rfl) ?_
  refine OpsW.nil ?_
  refine SeqP.go ?_
  refine AW.seq ?_
  refine AW.region ?_
  refine OpsW.q rfl (q_buildN (k := .u64) [_, _, _, _, _, _, _, _, _, _, _, _, _, _, _, _, _, _, _, _, _, _, _, _, _, _, _, _, _, _, _, _, _, _, _, _, _, _, _, _, _, _, _, _, _, _, _, _, _, _, _, _, _, _, _, _, _, _, _, _, _, _, _, _, _, _, _, _, _, _, _, _, _, _, _, _, _, _, _, _] rfl (by kernel_rfl)) ?_
  refine OpsW.m rfl (s_boxN (k := .u64) hS0 rfl) ?_
  rintro _ H1 ⟨b2, rfl, hS1⟩
  clear hS0
  refine OpsW.q rfl (q_assign (v := .pointer _) rfl) ?_
  refine OpsW.nil ?_
  refine SeqP.go ?_
  refine AW.ret ?_
  refine RetP.mk1 (H' := H1) (v1 := .pointer _) rfl rfl  (Hp.le_refl _) ?_
  have hs := hS1
  refine ⟨_, rfl, ?_⟩
  unfold kL
  exact hs
theorem starts_con  : Con Try.prog w0 68 #[] H (fun v H' => v = .agg (nums .u64 stL0).toArray ∧ H' = H) := by
  have hS0 : Sep H [] H := Sep.refl
  refine Con.intro Try.func68 rfl rfl ?_
  refine AW.seq ?_
  refine AW.region ?_
  refine OpsW.m rfl (s_allocN (k := .u64) (m := 8) hS0 (by kernel_rfl)) ?_
  rintro _ H1 ⟨b0, rfl, hS1⟩
  clear hS0
  refine OpsW.nil ?_
  refine SeqP.go ?_
  refine AW.seq ?_
  refine AW.region ?_
  refine OpsW.q rfl (q_buildN (k := .u64) [_, _, _, _, _, _, _, _] rfl (by kernel_rfl)) ?_
  refine OpsW.ms (s_storeA (n := 8) (k := .u64) hS1 at0 (by kernel_rfl) rfl rfl (by first | (with_reducible assumption) | omega | (unfold maxLen; omega) | (simp only [nums_length, List.length_set, List.length_replicate, List.length_take, List.length_drop, List.length_append, List.length_cons, List.length_nil, ofB_length, toB_length]; omega) | (simp only [nums_length, List.length_set, List.length_replicate, List.length_take, List.length_drop, List.length_append, List.length_cons, List.length_nil, ofB_length, toB_length]; unfold maxLen; omega) | (simp; done) | (simp; omega) | rfl | decide) (by first | (with_reducible assumption) | omega | (unfold maxLen; omega) | (simp only [nums_length, List.length_set, List.length_replicate, List.length_take, List.length_drop, List.length_append, List.length_cons, List.length_nil, ofB_length, toB_length]; omega) | (simp only [nums_length, List.length_set, List.length_replicate, List.length_take, List.length_drop, List.length_append, List.length_cons, List.length_nil, ofB_length, toB_length]; unfold maxLen; omega) | (simp; done) | (simp; omega) | rfl | decide)) ?_
  rintro _ H2 ⟨rfl, hS2⟩
  clear hS1
  refine OpsW.nil ?_
  refine SeqP.go ?_
  refine AW.ret ?_
  refine RetP.mkc (m := 8) (H' := H) rfl rfl (hS2.blk at0) (by first | (with_reducible assumption) | omega | (unfold maxLen; omega) | (simp only [nums_length, List.length_set, List.length_replicate, List.length_take, List.length_drop, List.length_append, List.length_cons, List.length_nil, ofB_length, toB_length]; omega) | (simp only [nums_length, List.length_set, List.length_replicate, List.length_take, List.length_drop, List.length_append, List.length_cons, List.length_nil, ofB_length, toB_length]; unfold maxLen; omega) | (simp; done) | (simp; omega) | rfl | decide) (by kernel_rfl) hS2.le ?_
  unfold stL0
  exact ⟨rfl, rfl⟩
theorem kind32_con : Con Try.prog w0 63 #[] H (fun v H' => ∃ bx bp bc, v = .pointer (some ⟨bx, 0, none⟩) ∧ Sep H [.blk bx ⟨kCells bp, 23, 107⟩, .blk bp ⟨[.pointer (some ⟨bc, 0, none⟩)], 1, 110⟩, .blk bc ⟨nums .u64 kL, 80, 116⟩] H') := by
  have hS0 : Sep H [] H := Sep.refl
  have hsl := stL0_len
  refine Con.intro Try.func63 rfl rfl ?_
  refine AW.seq ?_
  refine AW.region ?_
  refine OpsW.q rfl (q_assign (v := .pointer _) rfl) ?_
  refine OpsW.nil ?_
  refine SeqP.go ?_
  refine AW.seq ?_
  refine AW.region ?_
  refine OpsW.m rfl (o_call rfl Try.func66 rfl rfl (constants_con)) ?_
  rintro _ H1 ⟨bc, rfl, hR1⟩
  have hS1 := hS0.join hR1
  simp only [List.cons_append, List.nil_append] at hS1
  clear hR1 hS0
  refine OpsW.m rfl (s_alloc (z := .pointer none) (cs := [.pointer none]) hS1 (by kernel_rfl) rfl) ?_
  rintro _ H2 ⟨b1, rfl, hS2⟩
  clear hS1
  refine OpsW.ms (s_storeC (v := .pointer _) hS2 at0 (by kernel_rfl) rfl rfl rfl (by first | (with_reducible assumption) | omega | (unfold maxLen; omega) | (simp only [nums_length, List.length_set, List.length_replicate, List.length_take, List.length_drop, List.length_append, List.length_cons, List.length_nil, ofB_length, toB_length]; omega) | (simp only [nums_length, List.length_set, List.length_replicate, List.length_take, List.length_drop, List.length_append, List.length_cons, List.length_nil, ofB_length, toB_length]; unfold maxLen; omega) | (simp; done) | (simp; omega) | rfl | decide)) ?_
  rintro _ H3 ⟨rfl, hS3⟩
  clear hS2
  refine OpsW.nil ?_
  refine SeqP.go ?_
  refine AW.seq ?_
  refine AW.region ?_
  refine OpsW.q rfl (q_buildN (k := .i64) [_, _, _] rfl (by kernel_rfl)) ?_
  refine OpsW.q rfl (q_buildN (k := .i64) [_, _, _] rfl (by kernel_rfl)) ?_
  refine OpsW.q rfl (q_buildN (k := .i64) [_, _, _] rfl (by kernel_rfl)) ?_
  refine OpsW.q rfl (q_buildN (k := .i64) [_, _, _] rfl (by kernel_rfl)) ?_
  refine OpsW.q rfl (q_func rfl rfl) ?_
  refine OpsW.q rfl (q_build (cells := (kHead b1 ++ nums .u32 [0, 0, 0, 0, 0, 0, 0, 0]).toArray) rfl (by kernel_rfl)) ?_
  refine OpsW.m rfl (s_box (cs := kHead b1 ++ nums .u32 [0, 0, 0, 0, 0, 0, 0, 0]) hS3 rfl rfl) ?_
  rintro _ H4 ⟨b12, rfl, hS4⟩
  clear hS3
  refine OpsW.q rfl (q_assign (v := .pointer _) rfl) ?_
  refine OpsW.nil ?_
  refine SeqP.go ?_
  refine AW.seq ?_
  refine AW.seq ?_
  refine AW.region ?_
  refine OpsW.q rfl (o_call rfl Try.func68 rfl rfl (starts_con)) ?_
  refine OpsW.q rfl (q_move (v := .int _ _) rfl) ?_
  refine OpsW.nil ?_
  refine SeqP.go ?_
  refine AW.block ?_
  refine AW.loop (fun m_ e_ H_ => ∃ (i : Nat) (e0 : Env), m_ = 8 - i ∧ (i ≤ 8) ∧ e_ = upds e0 [(2, .pointer (some ⟨b12, 0, none⟩)), (13, .agg (nums .u64 stL0).toArray), (14, .int .i64 (i : Int))] ∧ Sep H [.blk b12 ⟨(kHead b1 ++ nums .u32 (startK i)), 23, 107⟩, .blk b1 ⟨[.pointer (some ⟨bc, 0, none⟩)], 1, 110⟩, .blk bc ⟨nums .u64 kL, 80, 116⟩] H_) _ ⟨0, _, rfl, (by omega), Slots.eq ⟨(by first | rfl | exact i64_int (by omega) (by omega) (by omega) | assumption), (by first | rfl | exact i64_int (by omega) (by omega) (by omega) | assumption), (by first | rfl | exact i64_int (by omega) (by omega) (by omega) | assumption),  trivial⟩, (by unfold startK; exact hS4)⟩ ?_
  rintro m_ _ Hl0 ⟨i, e0, rfl, hf, rfl, hSl0⟩
  try clear hS4
  have hkl := startK_length hf
  refine AW.seq ?_
  refine AW.region ?_
  refine OpsW.q rfl (q_lss rfl rfl) ?_
  refine OpsW.nil ?_
  refine SeqP.go ?_
  refine AW.seq ?_
  refine AW.cond2 rfl (fun h0 => ?_) (fun h0 => ?_)
  ·
    try simp only [decide_eq_true_eq, decide_eq_false_iff_not, Bool.or_eq_true, Bool.and_eq_true, Bool.or_eq_false_iff, Bool.and_eq_false_imp, Bool.not_eq_true', Bool.not_eq_false', ne_eq, Decidable.not_not, Int.not_lt, Int.not_le, Bool.not_eq_true, Bool.not_eq_false] at h0
    refine AW.exit ?_
    refine SeqP.exit ?_
    refine LoopP.exit ?_
    obtain rfl : i = 8 := by omega
    rw [startK_fin] at hSl0
    refine BlockP.here ?_
    refine SeqP.go ?_
    refine AW.seq ?_
    refine AW.region ?_
    refine OpsW.q rfl (q_move (v := .pointer _) rfl) ?_
    refine OpsW.q rfl (q_assign (v := .pointer _) rfl) ?_
    refine OpsW.nil ?_
    refine SeqP.go ?_
    refine AW.ret ?_
    refine RetP.mk1 (H' := Hl0) (v1 := .pointer _) rfl rfl  (Hp.le_refl _) ?_
    exact ⟨_, _, _, rfl, hSl0⟩
  try simp only [decide_eq_true_eq, decide_eq_false_iff_not, Bool.or_eq_true, Bool.and_eq_true, Bool.or_eq_false_iff, Bool.and_eq_false_imp, Bool.not_eq_true', Bool.not_eq_false', ne_eq, Decidable.not_not, Int.not_lt, Int.not_le, Bool.not_eq_true, Bool.not_eq_false] at h0
  refine AW.skip ?_
  refine SeqP.go ?_
  refine AW.seq ?_
  refine AW.block ?_
  refine AW.seq ?_
  refine AW.region ?_
  refine OpsW.q rfl (q_move (v := .int _ _) rfl) ?_
  refine OpsW.q rfl (q_indexAN (k := .u64) Try.underlying112 (by kernel_rfl) (by kernel_rfl) rfl rfl (by first | omega | decide) (by first | omega | decide) (by first | (with_reducible assumption) | omega | (unfold maxLen; omega) | (simp only [nums_length, List.length_set, List.length_replicate, List.length_take, List.length_drop, List.length_append, List.length_cons, List.length_nil, ofB_length, toB_length]; omega) | (simp only [nums_length, List.length_set, List.length_replicate, List.length_take, List.length_drop, List.length_append, List.length_cons, List.length_nil, ofB_length, toB_length]; unfold maxLen; omega) | (simp; done) | (simp; omega) | rfl | decide)) ?_
  refine OpsW.q rfl (q_assign (v := .int _ _) rfl) ?_
  refine OpsW.q rfl (q_assign (v := .int _ _) rfl) ?_
  refine OpsW.nil ?_
  refine SeqP.go ?_
  refine AW.region ?_
  refine OpsW.q rfl (q_move (v := .pointer _) rfl) ?_
  refine OpsW.q rfl (q_move (v := .int _ _) rfl) ?_
  refine OpsW.q rfl (q_move (v := .int _ _) rfl) ?_
  refine OpsW.q rfl (q_shrL 32 rfl rfl (by decide) rfl) ?_
  refine OpsW.q rfl (q_convInt rfl Try.underlying96 rfl) ?_
  refine OpsW.q rfl (q_nilCheck rfl) ?_
  refine OpsW.q rfl (q_fieldTo (sz := 7) 15 Try.underlying107 rfl rfl (by kernel_rfl) rfl) ?_
  refine OpsW.q rfl (q_indexAddrA (sz := 1) Try.underlying105 (by kernel_rfl) rfl rfl (by first | omega | decide) (by first | omega | decide)) ?_
  refine OpsW.ms (s_storeC (v := .int .u32 _) hSl0 at0 (by kernel_rfl) rfl rfl rfl (by rw [List.length_append, nums_length, hkl]; show 15 + (i : Int).toNat * 1 < 15 + 8; omega)) ?_
  rintro _ H5 ⟨rfl, hS5⟩
  clear hSl0
  refine OpsW.nil ?_
  refine BlockP.go ?_
  refine SeqP.go ?_
  refine AW.region ?_
  refine OpsW.q rfl (q_addI rfl rfl (by omega)) ?_
  refine OpsW.q rfl (q_move (v := .int _ _) rfl) ?_
  refine OpsW.nil ?_
  exact LoopP.go _ (by omega) ⟨i + 1, _, rfl, (by omega), Slots.eq ⟨(by first | rfl | exact i64_int (by omega) (by omega) (by omega) | assumption), (by first | rfl | exact i64_int (by omega) (by omega) (by omega) | assumption), (by first | rfl | exact i64_int (by omega) (by omega) (by omega) | assumption),  trivial⟩, (by have hs9 := hS5; rw [Nat.mul_one, Int.toNat_natCast, w32_def, kset, startK_step (by omega)] at hs9; exact hs9)⟩
theorem digest_con {bx bp bc : Nat} {d : List UInt8} (hm : d.length ≤ 1099511627776) (hx : H bx = some ⟨kCells bp, 23, 107⟩) (hp : H bp = some ⟨[.pointer (some ⟨bc, 0, none⟩)], 1, 110⟩) (hc : H bc = some ⟨nums .u64 kL, 80, 116⟩) : Con Try.prog w0 62 #[.pointer (some ⟨bx, 0, none⟩), S d] H (fun v H' => v = S (sha256 d) ∧ H' = H) := by
  have hS0 : Sep H [] H := Sep.refl
  have hflm := fullB_length d
  have hsw := startW_length
  have hpl : pads d.length < 64 := pads_lt _
  refine Con.intro Try.func62 rfl rfl ?_
  refine AW.seq ?_
  refine AW.region ?_
  refine OpsW.q rfl (q_assign (v := S _) rfl) ?_
  refine OpsW.nil ?_
  refine SeqP.go ?_
  refine AW.seq ?_
  refine AW.region ?_
  refine OpsW.q rfl (q_move (v := S _) rfl) ?_
  refine OpsW.m rfl (s_bytes hS0 rfl Try.underlying72 Try.underlying5 rfl (by first | (with_reducible assumption) | omega | (unfold maxLen; omega) | (simp only [nums_length, List.length_set, List.length_replicate, List.length_take, List.length_drop, List.length_append, List.length_cons, List.length_nil, ofB_length, toB_length]; omega) | (simp only [nums_length, List.length_set, List.length_replicate, List.length_take, List.length_drop, List.length_append, List.length_cons, List.length_nil, ofB_length, toB_length]; unfold maxLen; omega) | (simp; done) | (simp; omega) | rfl | decide)) ?_
  rintro v14 H1 hS1
  clear hS0
  refine OpsW.q rfl (q_assign (v := v14) rfl) ?_
  refine OpsW.nil ?_
  refine SeqP.go ?_
  refine AW.seq ?_
  refine AW.region ?_
  refine OpsW.q rfl (q_move (v := v14) rfl) ?_
  refine OpsW.m rfl (s_buildSlice (z := .int .u8 0) (vs := nums .u8 (ofB [128])) hS1 Try.underlying72 (by kernel_rfl) (by kernel_rfl) rfl (by rfl) (by rfl) (by decide) rfl (nums_one _ _) rfl) ?_
  rintro v16 H2 hS2
  clear hS1
  refine OpsW.m rfl (s_append (sz := 1) (by_ := 1) (z := .int .u8 0) hS2 at1 Try.underlying72 (by kernel_rfl) (by kernel_rfl) (by kernel_rfl) rfl (by kernel_rfl) rfl rfl (src_vec (hS2.vec at0) (nums_one _ _)) (by first | (with_reducible assumption) | omega | (unfold maxLen; omega) | (simp only [nums_length, List.length_set, List.length_replicate, List.length_take, List.length_drop, List.length_append, List.length_cons, List.length_nil, ofB_length, toB_length]; omega) | (simp only [nums_length, List.length_set, List.length_replicate, List.length_take, List.length_drop, List.length_append, List.length_cons, List.length_nil, ofB_length, toB_length]; unfold maxLen; omega) | (simp; done) | (simp; omega) | rfl | decide) (by first | (with_reducible assumption) | omega | (unfold maxLen; omega) | (simp only [nums_length, List.length_set, List.length_replicate, List.length_take, List.length_drop, List.length_append, List.length_cons, List.length_nil, ofB_length, toB_length]; omega) | (simp only [nums_length, List.length_set, List.length_replicate, List.length_take, List.length_drop, List.length_append, List.length_cons, List.length_nil, ofB_length, toB_length]; unfold maxLen; omega) | (simp; done) | (simp; omega) | rfl | decide)) ?_
  rintro v17 H3 hS3
  clear hS2
  rw [← nums_append, ← ofB_app] at hS3
  replace hS3 := hS3.del del0
  refine OpsW.q rfl (q_assign (v := v17) rfl) ?_
  refine OpsW.nil ?_
  refine SeqP.go ?_
  refine AW.seq ?_
  refine AW.block ?_
  refine AW.loop (fun m_ e_ H_ => ∃ (j : Nat) (vs : Value) (e0 : Env), m_ = pads d.length - j ∧ (j ≤ pads d.length) ∧ e_ = upds e0 [(0, .pointer (some ⟨bx, 0, none⟩)), (1, S d), (5, vs)] ∧ Sep H [.vec vs 5 1 (d.length + 1 + j) (nums .u8 (ofB (begB d j)))] H_) _ ⟨0, v17, _, rfl, (by omega), Slots.eq ⟨(by first | rfl | exact i64_int (by omega) (by omega) (by omega) | assumption), (by first | rfl | exact i64_int (by omega) (by omega) (by omega) | assumption), (by first | rfl | exact i64_int (by omega) (by omega) (by omega) | assumption),  trivial⟩, (by rw [begB_zero]; exact hS3)⟩ ?_
  rintro m_ _ Hl0 ⟨j, vs, e0, rfl, hf, rfl, hSl0⟩
  try clear hS3
  have hbl := begB_length d j
  refine AW.seq ?_
  refine AW.seq ?_
  refine AW.drawK [] 10 rfl (by kernel_rfl) ?_
  refine SeqK.q rfl (q_move (v := vs) rfl) ?_
  refine SeqK.q rfl (q_lenVec Try.underlying72 rfl (hSl0.vec at0)) ?_
  refine SeqK.q rfl (q_move (v := .pointer _) rfl) ?_
  refine SeqK.q rfl (q_nilCheck rfl) ?_
  refine SeqK.q rfl (q_fieldAddr (sz := 0) Try.underlying107 rfl (by kernel_rfl) rfl) ?_
  refine SeqK.q rfl (q_load (v := .int _ _) (by kernel_rfl) rfl (hSl0.old hx) rfl) ?_
  refine SeqK.q rfl (q_quoI rfl rfl (by omega)) ?_
  refine SeqK.q rfl (q_addI rfl rfl (by omega)) ?_
  refine SeqK.q rfl (q_move (v := .pointer _) rfl) ?_
  refine SeqK.q rfl (o_call rfl Try.func64 rfl rfl (block_con (hSl0.old hx))) ?_
  refine SeqK.done ?_
  refine OpsW.q rfl (q_remI rfl rfl (by omega)) ?_
  refine OpsW.q rfl (q_neq rfl rfl) ?_
  refine OpsW.nil ?_
  refine SeqP.go ?_
  refine AW.cond2 rfl (fun h0 => ?_) (fun h0 => ?_)
  ·
    try simp only [decide_eq_true_eq, decide_eq_false_iff_not, Bool.or_eq_true, Bool.and_eq_true, Bool.or_eq_false_iff, Bool.and_eq_false_imp, Bool.not_eq_true', Bool.not_eq_false', ne_eq, Decidable.not_not, Int.not_lt, Int.not_le, Bool.not_eq_true, Bool.not_eq_false] at h0
    refine AW.exit ?_
    refine SeqP.exit ?_
    refine LoopP.exit ?_
    have hj : j = pads d.length := (pads_stop hf).1 (by omega)
    subst hj
    refine BlockP.here ?_
    refine SeqP.go ?_
    refine AW.seq ?_
    refine AW.seq ?_
    refine AW.region ?_
    refine OpsW.q rfl (q_move (v := .pointer _) rfl) ?_
    refine OpsW.q rfl (q_nilCheck rfl) ?_
    refine OpsW.q rfl (q_fieldAddr (sz := 0) Try.underlying107 rfl (by kernel_rfl) rfl) ?_
    refine OpsW.q rfl (q_load (v := .int _ _) (by kernel_rfl) rfl (hSl0.old hx) rfl) ?_
    refine OpsW.q rfl (q_quoI rfl rfl (by omega)) ?_
    refine OpsW.q rfl (q_subI rfl rfl (by omega)) ?_
    refine OpsW.q rfl (q_assign (v := .int _ _) rfl) ?_
    refine OpsW.nil ?_
    refine SeqP.go ?_
    refine AW.block ?_
    refine AW.loop (fun m_ e_ H_ => ∃ (i : Nat) (vs : Value) (e0 : Env), m_ = 8 - i ∧ (i ≤ 8) ∧ e_ = upds e0 [(0, .pointer (some ⟨bx, 0, none⟩)), (1, S d), (5, vs), (6, .int .i64 ((7 : Int) - (i : Int)))] ∧ Sep H [.vec vs 5 1 ((d.length + 1 + pads d.length) + i) (nums .u8 (ofB (begB d (pads d.length) ++ lenB d.length i)))] H_) _ ⟨0, vs, _, rfl, (by omega), Slots.eq ⟨(by first | rfl | exact i64_int (by omega) (by omega) (by omega) | assumption), (by first | rfl | exact i64_int (by omega) (by omega) (by omega) | assumption), (by first | rfl | exact i64_int (by omega) (by omega) (by omega) | assumption), (by show Value.int .i64 _ = Value.int .i64 _; exact congrArg _ (by decide)),  trivial⟩, (by rw [lenB_zero', List.append_nil]; exact hSl0)⟩ ?_
    rintro m_ _ Hl1 ⟨i, vs, e0, rfl, hf, rfl, hSl1⟩
    try clear hSl0
    have hbl := begB_length d (pads d.length)
    have hll := lenB_length d.length i
    have hlb : IntKind.u64.wrap (IntKind.u64.wrap (d.length : Int) * 8) / 2 ^ min (8 * ((7 : Int) - (i : Int))).toNat IntKind.u64.bits = (8 * (d.length : Int)) / 2 ^ (8 * (7 - i)) := by rw [wrap_u64_in (x := (d.length : Int)) (by omega) (by omega), wrap_u64_in (by omega) (by omega), Int.mul_comm, show min (8 * ((7 : Int) - (i : Int))).toNat IntKind.u64.bits = 8 * (7 - i) from by rw [show IntKind.u64.bits = 64 from rfl]; omega]
    refine AW.seq ?_
    refine AW.seq ?_
    refine AW.region ?_
    refine OpsW.q rfl (q_move (v := .int _ _) rfl) ?_
    refine OpsW.q rfl (q_geq rfl rfl) ?_
    refine OpsW.nil ?_
    refine SeqP.go ?_
    refine AW.cond2 rfl (fun h1 => ?_) (fun h1 => ?_)
    ·
      try simp only [decide_eq_true_eq, decide_eq_false_iff_not, Bool.or_eq_true, Bool.and_eq_true, Bool.or_eq_false_iff, Bool.and_eq_false_imp, Bool.not_eq_true', Bool.not_eq_false', ne_eq, Decidable.not_not, Int.not_lt, Int.not_le, Bool.not_eq_true, Bool.not_eq_false] at h1
      refine AW.exit ?_
      refine SeqP.exit ?_
      refine LoopP.exit ?_
      obtain rfl : i = 8 := by omega
      rw [← fullB_def] at hSl1
      have hfl : (d.length + 1 + pads d.length) + 8 = (fullB d).length := by rw [fullB_def, List.length_append, hbl, hll]
      rw [hfl] at hSl1
      refine BlockP.here ?_
      refine SeqP.go ?_
      refine AW.seq ?_
      refine AW.region ?_
      refine OpsW.q rfl (q_move (v := .pointer _) rfl) ?_
      refine OpsW.q rfl (q_nilCheck rfl) ?_
      refine OpsW.q rfl (q_fieldAddr (sz := 7) Try.underlying107 rfl (by kernel_rfl) rfl) ?_
      refine OpsW.q rfl (q_loadA (n := 8) (cs := nums .u32 startW) (by kernel_rfl) rfl (hSl1.old hx) (by rw [nums_length, startW_length]) (part_of (j := 15) (kCells_start bp))) ?_
      refine OpsW.m rfl (s_allocN (k := .u32) (m := 8) hSl1 (by kernel_rfl)) ?_
      rintro _ H4 ⟨b7, rfl, hS4⟩
      clear hSl1
      refine OpsW.ms (s_storeA (n := 8) (k := .u32) hS4 at0 (by kernel_rfl) rfl rfl (by first | (with_reducible assumption) | omega | (unfold maxLen; omega) | (simp only [nums_length, List.length_set, List.length_replicate, List.length_take, List.length_drop, List.length_append, List.length_cons, List.length_nil, ofB_length, toB_length]; omega) | (simp only [nums_length, List.length_set, List.length_replicate, List.length_take, List.length_drop, List.length_append, List.length_cons, List.length_nil, ofB_length, toB_length]; unfold maxLen; omega) | (simp; done) | (simp; omega) | rfl | decide) (by first | (with_reducible assumption) | omega | (unfold maxLen; omega) | (simp only [nums_length, List.length_set, List.length_replicate, List.length_take, List.length_drop, List.length_append, List.length_cons, List.length_nil, ofB_length, toB_length]; omega) | (simp only [nums_length, List.length_set, List.length_replicate, List.length_take, List.length_drop, List.length_append, List.length_cons, List.length_nil, ofB_length, toB_length]; unfold maxLen; omega) | (simp; done) | (simp; omega) | rfl | decide)) ?_
      rintro _ H5 ⟨rfl, hS5⟩
      clear hS4
      refine OpsW.nil ?_
      refine SeqP.go ?_
      refine AW.seq ?_
      refine AW.seq ?_
      refine AW.region ?_
      refine OpsW.q rfl (q_assign (v := .int _ _) rfl) ?_
      refine OpsW.nil ?_
      refine SeqP.go ?_
      refine AW.block ?_
      replace hS5 := Sep.bring del0 hS5
      replace hS5 := Sep.bring del1 hS5
      refine AW.loop (fun m_ e_ H_ => ∃ (i : Nat) (vs : Value) (e0 : Env), m_ = (fullB d).length - 64 * i ∧ (64 * i ≤ (fullB d).length) ∧ e_ = upds e0 [(0, .pointer (some ⟨bx, 0, none⟩)), (5, vs), (7, .pointer (some ⟨b7, 0, none⟩)), (8, .int .i64 ((64 * i : Nat) : Int))] ∧ Sep H [.vec vs 5 1 ((fullB d).length) (nums .u8 (ofB (fullB d))), .blk b7 ⟨nums .u32 ((hashW d i)), 8, 105⟩] H_) _ ⟨0, vs, _, rfl, (by omega), Slots.eq ⟨(by first | rfl | exact i64_int (by omega) (by omega) (by omega) | assumption), (by first | rfl | exact i64_int (by omega) (by omega) (by omega) | assumption), (by first | rfl | exact i64_int (by omega) (by omega) (by omega) | assumption), (by first | rfl | exact i64_int (by omega) (by omega) (by omega) | assumption),  trivial⟩, (by rw [hashW_zero']; exact hS5)⟩ ?_
      rintro m_ _ Hl2 ⟨i, vs, e0, rfl, hf, rfl, hSl2⟩
      try clear hS5
      have hhl := hashW_length d i
      have hhl2 : (pressW (hashW d i) (((fullB d).drop (64 * i)).take 64)).length = 8 := pressW_length hhl _
      refine AW.seq ?_
      refine AW.seq ?_
      refine AW.region ?_
      refine OpsW.q rfl (q_move (v := .int _ _) rfl) ?_
      refine OpsW.q rfl (q_move (v := vs) rfl) ?_
      refine OpsW.q rfl (q_lenVec Try.underlying72 rfl (hSl2.vec at0)) ?_
      refine OpsW.q rfl (q_lss rfl rfl) ?_
      refine OpsW.nil ?_
      refine SeqP.go ?_
      refine AW.cond2 rfl (fun h2 => ?_) (fun h2 => ?_)
      ·
        try simp only [decide_eq_true_eq, decide_eq_false_iff_not, Bool.or_eq_true, Bool.and_eq_true, Bool.or_eq_false_iff, Bool.and_eq_false_imp, Bool.not_eq_true', Bool.not_eq_false', ne_eq, Decidable.not_not, Int.not_lt, Int.not_le, Bool.not_eq_true, Bool.not_eq_false] at h2
        refine AW.exit ?_
        refine SeqP.exit ?_
        refine LoopP.exit ?_
        have hi : i = (fullB d).length / 64 := by omega
        subst hi
        refine BlockP.here ?_
        refine SeqP.go ?_
        refine AW.seq ?_
        refine AW.region ?_
        refine OpsW.q rfl (q_assign (v := .slice _ _ _) rfl) ?_
        refine OpsW.nil ?_
        refine SeqP.go ?_
        refine AW.seq ?_
        refine AW.seq ?_
        refine AW.region ?_
        refine OpsW.q rfl (q_loadAN (n := 8) (k := .u32) (by kernel_rfl) rfl (hSl2.blk at1) (by first | (with_reducible assumption) | omega | (unfold maxLen; omega) | (simp only [nums_length, List.length_set, List.length_replicate, List.length_take, List.length_drop, List.length_append, List.length_cons, List.length_nil, ofB_length, toB_length]; omega) | (simp only [nums_length, List.length_set, List.length_replicate, List.length_take, List.length_drop, List.length_append, List.length_cons, List.length_nil, ofB_length, toB_length]; unfold maxLen; omega) | (simp; done) | (simp; omega) | rfl | decide)) ?_
        refine OpsW.q rfl (q_move (v := .int _ _) rfl) ?_
        refine OpsW.nil ?_
        refine SeqP.go ?_
        refine AW.block ?_
        replace hSl2 := hSl2.nil (el := 5) (sz := 1)
        replace hSl2 := hSl2.del del1
        replace hSl2 := hSl2.del del1
        refine AW.loop (fun m_ e_ H_ => ∃ (i : Nat) (vo : Value) (e0 : Env), m_ = 8 - i ∧ (i ≤ 8) ∧ e_ = upds e0 [(0, .pointer (some ⟨bx, 0, none⟩)), (9, vo), (77, .agg (nums .u32 (hashW d ((fullB d).length / 64))).toArray), (78, .int .i64 (i : Int))] ∧ Sep H [.vec vo 5 1 (4 * i) (nums .u8 (ofB (outW (hashW d ((fullB d).length / 64)) i)))] H_) _ ⟨0, nilV, _, rfl, (by omega), Slots.eq ⟨(by first | rfl | exact i64_int (by omega) (by omega) (by omega) | assumption), (by first | rfl | exact i64_int (by omega) (by omega) (by omega) | assumption), (by first | rfl | exact i64_int (by omega) (by omega) (by omega) | assumption), (by first | rfl | exact i64_int (by omega) (by omega) (by omega) | assumption),  trivial⟩, (by rw [outW_zero']; exact hSl2)⟩ ?_
        rintro m_ _ Hl3 ⟨i, vo, e0, rfl, hf, rfl, hSl3⟩
        try clear hSl2
        have hhl := hashW_length d ((fullB d).length / 64)
        have hol := outW_length (hashW d ((fullB d).length / 64)) i
        refine AW.seq ?_
        refine AW.region ?_
        refine OpsW.q rfl (q_lss rfl rfl) ?_
        refine OpsW.nil ?_
        refine SeqP.go ?_
        refine AW.seq ?_
        refine AW.cond2 rfl (fun h3 => ?_) (fun h3 => ?_)
        ·
          try simp only [decide_eq_true_eq, decide_eq_false_iff_not, Bool.or_eq_true, Bool.and_eq_true, Bool.or_eq_false_iff, Bool.and_eq_false_imp, Bool.not_eq_true', Bool.not_eq_false', ne_eq, Decidable.not_not, Int.not_lt, Int.not_le, Bool.not_eq_true, Bool.not_eq_false] at h3
          refine AW.exit ?_
          refine SeqP.exit ?_
          refine LoopP.exit ?_
          obtain rfl : i = 8 := by omega
          refine BlockP.here ?_
          refine SeqP.go ?_
          refine AW.seq ?_
          refine AW.region ?_
          refine OpsW.q rfl (q_move (v := vo) rfl) ?_
          refine OpsW.q rfl (q_stringB (hSl3.vec at0) Try.underlying72 Try.underlying5 Try.underlying9 rfl) ?_
          refine OpsW.q rfl (q_assign (v := S _) rfl) ?_
          refine OpsW.nil ?_
          refine SeqP.go ?_
          refine AW.ret ?_
          refine RetP.mk1 (H' := H) (v1 := S _) rfl rfl  hSl3.le ?_
          exact ⟨by rw [sha256_def], rfl⟩
        try simp only [decide_eq_true_eq, decide_eq_false_iff_not, Bool.or_eq_true, Bool.and_eq_true, Bool.or_eq_false_iff, Bool.and_eq_false_imp, Bool.not_eq_true', Bool.not_eq_false', ne_eq, Decidable.not_not, Int.not_lt, Int.not_le, Bool.not_eq_true, Bool.not_eq_false] at h3
        refine AW.skip ?_
        refine SeqP.go ?_
        refine AW.seq ?_
        refine AW.block ?_
        refine AW.seq ?_
        refine AW.region ?_
        refine OpsW.q rfl (q_indexAN (k := .u32) Try.underlying105 (by kernel_rfl) (by kernel_rfl) rfl rfl (by first | omega | decide) (by first | omega | decide) (by first | (with_reducible assumption) | omega | (unfold maxLen; omega) | (simp only [nums_length, List.length_set, List.length_replicate, List.length_take, List.length_drop, List.length_append, List.length_cons, List.length_nil, ofB_length, toB_length]; omega) | (simp only [nums_length, List.length_set, List.length_replicate, List.length_take, List.length_drop, List.length_append, List.length_cons, List.length_nil, ofB_length, toB_length]; unfold maxLen; omega) | (simp; done) | (simp; omega) | rfl | decide)) ?_
        refine OpsW.q rfl (q_assign (v := .int _ _) rfl) ?_
        refine OpsW.nil ?_
        refine SeqP.go ?_
        refine AW.seq ?_
        refine AW.region ?_
        refine OpsW.q rfl (q_move (v := .pointer _) rfl) ?_
        refine OpsW.q rfl (q_nilCheck rfl) ?_
        refine OpsW.q rfl (q_fieldAddr (sz := 0) Try.underlying107 rfl (by kernel_rfl) rfl) ?_
        refine OpsW.q rfl (q_load (v := .int _ _) (by kernel_rfl) rfl (hSl3.old hx) rfl) ?_
        refine OpsW.q rfl (q_subI rfl rfl (by omega)) ?_
        refine OpsW.q rfl (q_assign (v := .int _ _) rfl) ?_
        refine OpsW.nil ?_
        refine SeqP.go ?_
        refine AW.block ?_
        refine AW.loop (fun m_ e_ H_ => ∃ (j : Nat) (vo : Value) (e0 : Env), m_ = 4 - j ∧ (j ≤ 4) ∧ e_ = upds e0 [(0, .pointer (some ⟨bx, 0, none⟩)), (9, vo), (11, .int .u32 ((hashW d ((fullB d).length / 64)).getD i 0)), (12, .int .i64 ((24 : Int) - 8 * (j : Int))), (77, .agg (nums .u32 (hashW d ((fullB d).length / 64))).toArray), (78, .int .i64 (i : Int))] ∧ Sep H [.vec vo 5 1 (4 * i + j) (nums .u8 (ofB (outW (hashW d ((fullB d).length / 64)) i ++ outB4 ((hashW d ((fullB d).length / 64)).getD i 0) j)))] H_) _ ⟨0, vo, _, rfl, (by omega), Slots.eq ⟨(by first | rfl | exact i64_int (by omega) (by omega) (by omega) | assumption), (by first | rfl | exact i64_int (by omega) (by omega) (by omega) | assumption), (by first | rfl | exact i64_int (by omega) (by omega) (by omega) | assumption), (by show Value.int .i64 _ = Value.int .i64 _; exact congrArg _ (by decide)), (by first | rfl | exact i64_int (by omega) (by omega) (by omega) | assumption), (by first | rfl | exact i64_int (by omega) (by omega) (by omega) | assumption),  trivial⟩, (by rw [outB4_zero', List.append_nil]; exact hSl3)⟩ ?_
        rintro m_ _ Hl4 ⟨j, vo, e0, rfl, hf, rfl, hSl4⟩
        try clear hSl3
        have hjl := outB4_length ((hashW d ((fullB d).length / 64)).getD i 0) j
        have hob : (hashW d ((fullB d).length / 64)).getD i 0 / 2 ^ min ((24 : Int) - 8 * (j : Int)).toNat IntKind.u32.bits = (hashW d ((fullB d).length / 64)).getD i 0 / 2 ^ (8 * (3 - j)) := by rw [show min ((24 : Int) - 8 * (j : Int)).toNat IntKind.u32.bits = 8 * (3 - j) from by rw [show IntKind.u32.bits = 32 from rfl]; omega]
        refine AW.seq ?_
        refine AW.seq ?_
        refine AW.region ?_
        refine OpsW.q rfl (q_move (v := .int _ _) rfl) ?_
        refine OpsW.q rfl (q_geq rfl rfl) ?_
        refine OpsW.nil ?_
        refine SeqP.go ?_
        refine AW.cond2 rfl (fun h4 => ?_) (fun h4 => ?_)
        ·
          try simp only [decide_eq_true_eq, decide_eq_false_iff_not, Bool.or_eq_true, Bool.and_eq_true, Bool.or_eq_false_iff, Bool.and_eq_false_imp, Bool.not_eq_true', Bool.not_eq_false', ne_eq, Decidable.not_not, Int.not_lt, Int.not_le, Bool.not_eq_true, Bool.not_eq_false] at h4
          refine AW.exit ?_
          refine SeqP.exit ?_
          refine LoopP.exit ?_
          obtain rfl : j = 4 := by omega
          rw [← outW_succ] at hSl4
          refine BlockP.here ?_
          refine BlockP.go ?_
          refine SeqP.go ?_
          refine AW.region ?_
          refine OpsW.q rfl (q_addI rfl rfl (by omega)) ?_
          refine OpsW.q rfl (q_move (v := .int _ _) rfl) ?_
          refine OpsW.nil ?_
          exact LoopP.go _ (by omega) ⟨i + 1, vo, _, rfl, (by omega), Slots.eq ⟨(by first | rfl | exact i64_int (by omega) (by omega) (by omega) | assumption), (by first | rfl | exact i64_int (by omega) (by omega) (by omega) | assumption), (by first | rfl | exact i64_int (by omega) (by omega) (by omega) | assumption), (by first | rfl | exact i64_int (by omega) (by omega) (by omega) | assumption),  trivial⟩, hSl4⟩
        try simp only [decide_eq_true_eq, decide_eq_false_iff_not, Bool.or_eq_true, Bool.and_eq_true, Bool.or_eq_false_iff, Bool.and_eq_false_imp, Bool.not_eq_true', Bool.not_eq_false', ne_eq, Decidable.not_not, Int.not_lt, Int.not_le, Bool.not_eq_true, Bool.not_eq_false] at h4
        refine AW.skip ?_
        refine SeqP.go ?_
        refine AW.seq ?_
        refine AW.block ?_
        refine AW.region ?_
        refine OpsW.q rfl (q_move (v := vo) rfl) ?_
        refine OpsW.q rfl (q_move (v := .int _ _) rfl) ?_
        refine OpsW.q rfl (q_move (v := .int _ _) rfl) ?_
        refine OpsW.q rfl (q_shr rfl rfl (by first | omega | decide)) ?_
        refine OpsW.q rfl (q_convB8 rfl Try.underlying5 rfl) ?_
        rw [hob]
        refine OpsW.m rfl (s_buildSlice (z := .int .u8 0) (vs := nums .u8 (ofB [_])) hSl4 Try.underlying72 (by kernel_rfl) (by kernel_rfl) rfl (by rfl) (by rfl) (by decide) rfl (nums_one _ _) rfl) ?_
        rintro v95 H6 hS6
        clear hSl4
        refine OpsW.m rfl (s_append (sz := 1) (by_ := 1) (z := .int .u8 0) hS6 at1 Try.underlying72 (by kernel_rfl) (by kernel_rfl) (by kernel_rfl) rfl (by kernel_rfl) rfl rfl (src_vec (hS6.vec at0) (nums_one _ _)) (by first | (with_reducible assumption) | omega | (unfold maxLen; omega) | (simp only [nums_length, List.length_set, List.length_replicate, List.length_take, List.length_drop, List.length_append, List.length_cons, List.length_nil, ofB_length, toB_length]; omega) | (simp only [nums_length, List.length_set, List.length_replicate, List.length_take, List.length_drop, List.length_append, List.length_cons, List.length_nil, ofB_length, toB_length]; unfold maxLen; omega) | (simp; done) | (simp; omega) | rfl | decide) (by first | (with_reducible assumption) | omega | (unfold maxLen; omega) | (simp only [nums_length, List.length_set, List.length_replicate, List.length_take, List.length_drop, List.length_append, List.length_cons, List.length_nil, ofB_length, toB_length]; omega) | (simp only [nums_length, List.length_set, List.length_replicate, List.length_take, List.length_drop, List.length_append, List.length_cons, List.length_nil, ofB_length, toB_length]; unfold maxLen; omega) | (simp; done) | (simp; omega) | rfl | decide)) ?_
        rintro v96 H7 hS7
        clear hS6
        rw [← nums_append, ← ofB_app] at hS7
        replace hS7 := hS7.del del0
        refine OpsW.q rfl (q_assign (v := v96) rfl) ?_
        refine OpsW.nil ?_
        refine BlockP.go ?_
        refine SeqP.go ?_
        refine AW.region ?_
        refine OpsW.q rfl (q_move (v := .int _ _) rfl) ?_
        refine OpsW.q rfl (q_subI rfl rfl (by omega)) ?_
        refine OpsW.q rfl (q_assign (v := .int _ _) rfl) ?_
        refine OpsW.nil ?_
        exact LoopP.go _ (by omega) ⟨j + 1, v96, _, rfl, (by omega), Slots.eq ⟨(by first | rfl | exact i64_int (by omega) (by omega) (by omega) | assumption), (by first | rfl | exact i64_int (by omega) (by omega) (by omega) | assumption), (by first | rfl | exact i64_int (by omega) (by omega) (by omega) | assumption), (by show Value.int .i64 _ = Value.int .i64 _; exact congrArg _ (by omega)), (by first | rfl | exact i64_int (by omega) (by omega) (by omega) | assumption), (by first | rfl | exact i64_int (by omega) (by omega) (by omega) | assumption),  trivial⟩, (by rw [outB4_succ, ← List.append_assoc]; exact hS7)⟩
      try simp only [decide_eq_true_eq, decide_eq_false_iff_not, Bool.or_eq_true, Bool.and_eq_true, Bool.or_eq_false_iff, Bool.and_eq_false_imp, Bool.not_eq_true', Bool.not_eq_false', ne_eq, Decidable.not_not, Int.not_lt, Int.not_le, Bool.not_eq_true, Bool.not_eq_false] at h2
      have hup : 64 * i + 64 ≤ (fullB d).length := by omega
      have hsub : (((fullB d).drop (64 * i)).take 64).length = 64 := by rw [List.length_take, List.length_drop]; omega
      have hcut : ((fullB d).drop (((64 * i : Nat) : Int)).toNat).take ((((64 * i : Nat) : Int) + 64).toNat - (((64 * i : Nat) : Int)).toNat) = ((fullB d).drop (64 * i)).take 64 := by rw [show (((64 * i : Nat) : Int) + 64).toNat - (((64 * i : Nat) : Int)).toNat = 64 from by omega, Int.toNat_natCast]
      refine AW.skip ?_
      refine SeqP.go ?_
      refine AW.seq ?_
      refine AW.block ?_
      refine AW.drawK [] 10 rfl (by kernel_rfl) ?_
      refine SeqK.q rfl (q_move (v := .pointer _) rfl) ?_
      refine SeqK.q rfl (q_loadAN (n := 8) (k := .u32) (by kernel_rfl) rfl (hSl2.blk at1) (by first | (with_reducible assumption) | omega | (unfold maxLen; omega) | (simp only [nums_length, List.length_set, List.length_replicate, List.length_take, List.length_drop, List.length_append, List.length_cons, List.length_nil, ofB_length, toB_length]; omega) | (simp only [nums_length, List.length_set, List.length_replicate, List.length_take, List.length_drop, List.length_append, List.length_cons, List.length_nil, ofB_length, toB_length]; unfold maxLen; omega) | (simp; done) | (simp; omega) | rfl | decide)) ?_
      refine SeqK.q rfl (q_move (v := vs) rfl) ?_
      refine SeqK.q rfl (q_move (v := .int _ _) rfl) ?_
      refine SeqK.q rfl (q_move (v := .int _ _) rfl) ?_
      refine SeqK.q rfl (q_move (v := .pointer _) rfl) ?_
      refine SeqK.q rfl (o_call rfl Try.func64 rfl rfl (block_con (hSl2.old hx))) ?_
      refine SeqK.q rfl (q_addI rfl rfl (by omega)) ?_
      refine SeqK.q rfl (q_sliceVec (hSl2.vec at0) Try.underlying72 (by kernel_rfl) rfl rfl rfl (by first | omega | decide) (by first | omega | decide) (by first | omega | decide) (by omega)) ?_
      refine SeqK.q rfl (q_stringSub (hSl2.vec at0) Try.underlying72 Try.underlying5 Try.underlying9 rfl (by omega) (by first | (with_reducible assumption) | omega | (unfold maxLen; omega) | (simp only [nums_length, List.length_set, List.length_replicate, List.length_take, List.length_drop, List.length_append, List.length_cons, List.length_nil, ofB_length, toB_length]; omega) | (simp only [nums_length, List.length_set, List.length_replicate, List.length_take, List.length_drop, List.length_append, List.length_cons, List.length_nil, ofB_length, toB_length]; unfold maxLen; omega) | (simp; done) | (simp; omega) | rfl | decide) (by omega)) ?_
      rw [hcut]
      refine SeqK.done ?_
      refine OpsW.q rfl (o_call rfl Try.func65 rfl rfl (press_con (hashW_length d i) hsub (hSl2.old hx) (hSl2.old hp) (hSl2.old hc))) ?_
      refine OpsW.ms (s_storeA (n := 8) (k := .u32) hSl2 at1 (by kernel_rfl) rfl rfl (by first | (with_reducible assumption) | omega | (unfold maxLen; omega) | (simp only [nums_length, List.length_set, List.length_replicate, List.length_take, List.length_drop, List.length_append, List.length_cons, List.length_nil, ofB_length, toB_length]; omega) | (simp only [nums_length, List.length_set, List.length_replicate, List.length_take, List.length_drop, List.length_append, List.length_cons, List.length_nil, ofB_length, toB_length]; unfold maxLen; omega) | (simp; done) | (simp; omega) | rfl | decide) (by first | (with_reducible assumption) | omega | (unfold maxLen; omega) | (simp only [nums_length, List.length_set, List.length_replicate, List.length_take, List.length_drop, List.length_append, List.length_cons, List.length_nil, ofB_length, toB_length]; omega) | (simp only [nums_length, List.length_set, List.length_replicate, List.length_take, List.length_drop, List.length_append, List.length_cons, List.length_nil, ofB_length, toB_length]; unfold maxLen; omega) | (simp; done) | (simp; omega) | rfl | decide)) ?_
      rintro _ H8 ⟨rfl, hS8⟩
      clear hSl2
      refine OpsW.nil ?_
      refine BlockP.go ?_
      refine SeqP.go ?_
      refine AW.region ?_
      refine OpsW.q rfl (q_move (v := .int _ _) rfl) ?_
      refine OpsW.q rfl (q_move (v := .pointer _) rfl) ?_
      refine OpsW.q rfl (o_call rfl Try.func64 rfl rfl (block_con (hS8.old hx))) ?_
      refine OpsW.q rfl (q_addI rfl rfl (by omega)) ?_
      refine OpsW.q rfl (q_assign (v := .int _ _) rfl) ?_
      refine OpsW.nil ?_
      exact LoopP.go _ (by omega) ⟨i + 1, vs, _, rfl, (by omega), Slots.eq ⟨(by first | rfl | exact i64_int (by omega) (by omega) (by omega) | assumption), (by first | rfl | exact i64_int (by omega) (by omega) (by omega) | assumption), (by first | rfl | exact i64_int (by omega) (by omega) (by omega) | assumption), (by first | rfl | exact i64_int (by omega) (by omega) (by omega) | assumption),  trivial⟩, (by rw [hashW_succ]; exact hS8)⟩
    try simp only [decide_eq_true_eq, decide_eq_false_iff_not, Bool.or_eq_true, Bool.and_eq_true, Bool.or_eq_false_iff, Bool.and_eq_false_imp, Bool.not_eq_true', Bool.not_eq_false', ne_eq, Decidable.not_not, Int.not_lt, Int.not_le, Bool.not_eq_true, Bool.not_eq_false] at h1
    refine AW.skip ?_
    refine SeqP.go ?_
    refine AW.seq ?_
    refine AW.block ?_
    refine AW.region ?_
    refine OpsW.q rfl (q_move (v := vs) rfl) ?_
    refine OpsW.q rfl (q_move (v := S _) rfl) ?_
    refine OpsW.q rfl (q_lenS Try.underlying9 rfl) ?_
    refine OpsW.q rfl (q_convInt rfl Try.underlying97 rfl) ?_
    refine OpsW.q rfl (q_mul rfl rfl) ?_
    refine OpsW.q rfl (q_move (v := .int _ _) rfl) ?_
    refine OpsW.q rfl (q_mulI rfl rfl (by omega)) ?_
    refine OpsW.q rfl (q_shr rfl rfl (by first | omega | decide)) ?_
    refine OpsW.q rfl (q_convB8 rfl Try.underlying5 rfl) ?_
    rw [hlb]
    refine OpsW.m rfl (s_buildSlice (z := .int .u8 0) (vs := nums .u8 (ofB [_])) hSl1 Try.underlying72 (by kernel_rfl) (by kernel_rfl) rfl (by rfl) (by rfl) (by decide) rfl (nums_one _ _) rfl) ?_
    rintro v52 H9 hS9
    clear hSl1
    refine OpsW.m rfl (s_append (sz := 1) (by_ := 1) (z := .int .u8 0) hS9 at1 Try.underlying72 (by kernel_rfl) (by kernel_rfl) (by kernel_rfl) rfl (by kernel_rfl) rfl rfl (src_vec (hS9.vec at0) (nums_one _ _)) (by first | (with_reducible assumption) | omega | (unfold maxLen; omega) | (simp only [nums_length, List.length_set, List.length_replicate, List.length_take, List.length_drop, List.length_append, List.length_cons, List.length_nil, ofB_length, toB_length]; omega) | (simp only [nums_length, List.length_set, List.length_replicate, List.length_take, List.length_drop, List.length_append, List.length_cons, List.length_nil, ofB_length, toB_length]; unfold maxLen; omega) | (simp; done) | (simp; omega) | rfl | decide) (by first | (with_reducible assumption) | omega | (unfold maxLen; omega) | (simp only [nums_length, List.length_set, List.length_replicate, List.length_take, List.length_drop, List.length_append, List.length_cons, List.length_nil, ofB_length, toB_length]; omega) | (simp only [nums_length, List.length_set, List.length_replicate, List.length_take, List.length_drop, List.length_append, List.length_cons, List.length_nil, ofB_length, toB_length]; unfold maxLen; omega) | (simp; done) | (simp; omega) | rfl | decide)) ?_
    rintro v53 H10 hS10
    clear hS9
    rw [← nums_append, ← ofB_app] at hS10
    replace hS10 := hS10.del del0
    refine OpsW.q rfl (q_assign (v := v53) rfl) ?_
    refine OpsW.nil ?_
    refine BlockP.go ?_
    refine SeqP.go ?_
    refine AW.region ?_
    refine OpsW.q rfl (q_move (v := .int _ _) rfl) ?_
    refine OpsW.q rfl (q_subI rfl rfl (by omega)) ?_
    refine OpsW.q rfl (q_assign (v := .int _ _) rfl) ?_
    refine OpsW.nil ?_
    exact LoopP.go _ (by omega) ⟨i + 1, v53, _, rfl, (by omega), Slots.eq ⟨(by first | rfl | exact i64_int (by omega) (by omega) (by omega) | assumption), (by first | rfl | exact i64_int (by omega) (by omega) (by omega) | assumption), (by first | rfl | exact i64_int (by omega) (by omega) (by omega) | assumption), (by show Value.int .i64 _ = Value.int .i64 _; exact congrArg _ (by omega)),  trivial⟩, (by rw [lenB_succ, ← List.append_assoc]; exact hS10)⟩
  try simp only [decide_eq_true_eq, decide_eq_false_iff_not, Bool.or_eq_true, Bool.and_eq_true, Bool.or_eq_false_iff, Bool.and_eq_false_imp, Bool.not_eq_true', Bool.not_eq_false', ne_eq, Decidable.not_not, Int.not_lt, Int.not_le, Bool.not_eq_true, Bool.not_eq_false] at h0
  have hjl : j < pads d.length := by { rcases Nat.lt_or_ge j (pads d.length) with g | g; exact g; exfalso; have hz := (pads_stop hf).2 (by omega); omega }
  refine AW.skip ?_
  refine SeqP.go ?_
  refine AW.block ?_
  refine AW.region ?_
  refine OpsW.q rfl (q_move (v := vs) rfl) ?_
  refine OpsW.m rfl (s_buildSlice (z := .int .u8 0) (vs := nums .u8 (ofB [0])) hSl0 Try.underlying72 (by kernel_rfl) (by kernel_rfl) rfl (by rfl) (by rfl) (by decide) rfl (nums_one _ _) rfl) ?_
  rintro v31 H11 hS11
  clear hSl0
  refine OpsW.m rfl (s_append (sz := 1) (by_ := 1) (z := .int .u8 0) hS11 at1 Try.underlying72 (by kernel_rfl) (by kernel_rfl) (by kernel_rfl) rfl (by kernel_rfl) rfl rfl (src_vec (hS11.vec at0) (nums_one _ _)) (by first | (with_reducible assumption) | omega | (unfold maxLen; omega) | (simp only [nums_length, List.length_set, List.length_replicate, List.length_take, List.length_drop, List.length_append, List.length_cons, List.length_nil, ofB_length, toB_length]; omega) | (simp only [nums_length, List.length_set, List.length_replicate, List.length_take, List.length_drop, List.length_append, List.length_cons, List.length_nil, ofB_length, toB_length]; unfold maxLen; omega) | (simp; done) | (simp; omega) | rfl | decide) (by first | (with_reducible assumption) | omega | (unfold maxLen; omega) | (simp only [nums_length, List.length_set, List.length_replicate, List.length_take, List.length_drop, List.length_append, List.length_cons, List.length_nil, ofB_length, toB_length]; omega) | (simp only [nums_length, List.length_set, List.length_replicate, List.length_take, List.length_drop, List.length_append, List.length_cons, List.length_nil, ofB_length, toB_length]; unfold maxLen; omega) | (simp; done) | (simp; omega) | rfl | decide)) ?_
  rintro v32 H12 hS12
  clear hS11
  rw [← nums_append, ← ofB_app] at hS12
  replace hS12 := hS12.del del0
  refine OpsW.q rfl (q_assign (v := v32) rfl) ?_
  refine OpsW.nil ?_
  refine BlockP.go ?_
  exact LoopP.go _ (by omega) ⟨j + 1, v32, _, rfl, (by omega), Slots.eq ⟨(by first | rfl | exact i64_int (by omega) (by omega) (by omega) | assumption), (by first | rfl | exact i64_int (by omega) (by omega) (by omega) | assumption), (by first | rfl | exact i64_int (by omega) (by omega) (by omega) | assumption),  trivial⟩, (by rw [begB_succ]; exact hS12)⟩
theorem Sum256_con {d : List UInt8} (hm : d.length ≤ 1099511627776) : Con Try.prog w0 56 #[S d] H (fun v H' => v = S (sha256 d) ∧ H' = H) := by
  have hS0 : Sep H [] H := Sep.refl
  refine Con.intro Try.func56 rfl rfl ?_
  refine AW.seq ?_
  refine AW.region ?_
  refine OpsW.q rfl (q_assign (v := S _) rfl) ?_
  refine OpsW.nil ?_
  refine SeqP.go ?_
  refine AW.seq ?_
  refine AW.region ?_
  refine OpsW.m rfl (o_call rfl Try.func63 rfl rfl (kind32_con)) ?_
  rintro _ H1 ⟨bx, bp, bc, rfl, hR1⟩
  have hS1 := hS0.join hR1
  simp only [List.cons_append, List.nil_append] at hS1
  clear hR1 hS0
  refine OpsW.q rfl (q_move (v := S _) rfl) ?_
  refine OpsW.q rfl (o_call rfl Try.func62 rfl rfl (digest_con hm (hS1.blk at0) (hS1.blk at1) (hS1.blk at2))) ?_
  refine OpsW.q rfl (q_assign (v := S _) rfl) ?_
  refine OpsW.nil ?_
  refine SeqP.go ?_
  refine AW.ret ?_
  refine RetP.mk1 (H' := H) (v1 := S _) rfl rfl  hS1.le ?_
  exact ⟨rfl, rfl⟩
end
end Go.Proofs.Ytfiojlmccflplaa

