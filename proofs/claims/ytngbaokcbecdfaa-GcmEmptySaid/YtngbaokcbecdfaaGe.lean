/-
  Package gcm: sealing and opening.
-/
import Derived.Test.YtngbaokcbecdfaaDQ
import Derived.Test.YtngbaokcbecdfaaProg
import Derived.Test.YtngbaokcbecdfaaGd
namespace Go.Proofs.Ytngbaokcbecdfaa
open Go Go.RowKit D
set_option linter.unusedVariables false
set_option linter.unusedSimpArgs false
set_option maxRecDepth 100000
set_option maxHeartbeats 2000000
section
variable {w0 : World} {H : Hp} {H0 : Hp}

theorem gvec_n {H : Hp} {el : TypeId} {sz n m : Nat} {v : Value} {cs : List Value} (h : n = m) (hV : Vec H el sz v n cs) : Vec H el sz v m cs := h ▸ hV

theorem pads_con {key nonce : List UInt8} {n : Nat} (hk : key.length = 16) (hn : nonce.length = 12) (hm : n ≤ 1048576) : Con Try.prog w0 23 #[S key, S nonce, .int .i64 (n : Int)] H (fun v H' => v = .tuple #[S (overK key nonce ((n + 15) / 16)), .agg (nums .u64 (pair (beK (blkA key (ctrB nonce 1)) 16))).toArray, S (blkA key (zs 16))] ∧ H' = H) := by
  have hS0 : Sep H [] H := Sep.refl
  refine Con.intro Try.func23 rfl rfl ?_
  refine AW.seq ?_
  refine AW.region ?_
  refine OpsW.q rfl (q_assign (v := S _) rfl) ?_
  refine OpsW.m rfl (s_allocN (k := .u64) (m := 2) hS0 (by kernel_rfl)) ?_
  rintro _ H1 ⟨b7, rfl, hS1⟩
  clear hS0
  refine OpsW.q rfl (q_assign (v := S _) rfl) ?_
  refine OpsW.nil ?_
  refine SeqP.go ?_
  refine AW.seq ?_
  refine AW.region ?_
  refine OpsW.m rfl (s_makeSliceB (by_ := 1) hS1 Try.underlying31 (by kernel_rfl) (by kernel_rfl) (by kernel_rfl) rfl rfl (by first | omega | decide) (by first | omega | decide) (by first | (with_reducible assumption) | omega | (unfold maxLen; omega) | (simp only [nums_length, List.length_set, List.length_replicate, List.length_take, List.length_drop, List.length_append, List.length_cons, List.length_nil, ofB_length, toB_length]; omega) | (simp only [nums_length, List.length_set, List.length_replicate, List.length_take, List.length_drop, List.length_append, List.length_cons, List.length_nil, ofB_length, toB_length]; unfold maxLen; omega) | (simp; done) | (simp; omega) | rfl | decide) (by first | (with_reducible assumption) | omega | (unfold maxLen; omega) | (simp only [nums_length, List.length_set, List.length_replicate, List.length_take, List.length_drop, List.length_append, List.length_cons, List.length_nil, ofB_length, toB_length]; omega) | (simp only [nums_length, List.length_set, List.length_replicate, List.length_take, List.length_drop, List.length_append, List.length_cons, List.length_nil, ofB_length, toB_length]; unfold maxLen; omega) | (simp; done) | (simp; omega) | rfl | decide) (by first | (with_reducible assumption) | omega | (unfold maxLen; omega) | (simp only [nums_length, List.length_set, List.length_replicate, List.length_take, List.length_drop, List.length_append, List.length_cons, List.length_nil, ofB_length, toB_length]; omega) | (simp only [nums_length, List.length_set, List.length_replicate, List.length_take, List.length_drop, List.length_append, List.length_cons, List.length_nil, ofB_length, toB_length]; unfold maxLen; omega) | (simp; done) | (simp; omega) | rfl | decide)) ?_
  rintro v16 H2 hS2
  clear hS1
  refine OpsW.q rfl (q_stringB (hS2.vec at0) Try.underlying31 Try.underlying5 Try.underlying9 rfl) ?_
  refine OpsW.m rfl (s_buildSlice (z := S []) (vs := strs [_]) hS2 Try.underlying44 (by kernel_rfl) (by kernel_rfl) rfl (by rfl) (by rfl) (by decide) rfl (strs_one _) rfl) ?_
  rintro v18 H3 hS3
  clear hS2
  refine OpsW.q rfl (q_assign (v := v18) rfl) ?_
  refine OpsW.nil ?_
  refine SeqP.go ?_
  refine AW.seq ?_
  refine AW.seq ?_
  refine AW.region ?_
  refine OpsW.q rfl (q_assign (v := .int _ _) rfl) ?_
  refine OpsW.nil ?_
  refine SeqP.go ?_
  refine AW.block ?_
  replace hS3 := hS3.del del1
  refine AW.loop (fun m_ e_ H_ => ∃ (i : Nat) (vb : Value) (e0 : Env), m_ = (n + 15) / 16 + 1 - i ∧ (i ≤ (n + 15) / 16 + 1) ∧ e_ = upds e0 [(0, S key), (1, S nonce), (2, .int .i64 (n : Int)), (7, .pointer (some ⟨b7, 0, none⟩)), (9, vb), (10, .int .i64 ((i + 1 : Nat) : Int))] ∧ Sep H [.vec vb 9 1 (i + 1) (strs (padK nonce i)), .blk b7 ⟨nums .u64 ([0, 0]), 2, 36⟩] H_) _ ⟨0, v18, _, rfl, (by omega), Slots.eq ⟨(by first | rfl | exact i64_int (by omega) (by omega) (by omega) | assumption), (by first | rfl | exact i64_int (by omega) (by omega) (by omega) | assumption), (by first | rfl | exact i64_int (by omega) (by omega) (by omega) | assumption), (by first | rfl | exact i64_int (by omega) (by omega) (by omega) | assumption), (by first | rfl | exact i64_int (by omega) (by omega) (by omega) | assumption), (by first | rfl | exact i64_int (by omega) (by omega) (by omega) | assumption),  trivial⟩, (by rw [padK_zero', zs_eq]; exact hS3)⟩ ?_
  rintro m_ _ Hl0 ⟨i, vb, e0, rfl, hf, rfl, hSl0⟩
  try clear hS3
  refine AW.seq ?_
  refine AW.seq ?_
  refine AW.region ?_
  refine OpsW.q rfl (q_move (v := .int _ _) rfl) ?_
  refine OpsW.q rfl (q_move (v := .int _ _) rfl) ?_
  refine OpsW.q rfl (q_addI rfl rfl (by omega)) ?_
  refine OpsW.q rfl (q_subI rfl rfl (by omega)) ?_
  refine OpsW.q rfl (q_quoI rfl rfl (by omega)) ?_
  refine OpsW.q rfl (q_addI rfl rfl (by omega)) ?_
  refine OpsW.q rfl (q_leq rfl rfl) ?_
  refine OpsW.nil ?_
  refine SeqP.go ?_
  refine AW.cond2 rfl (fun h0 => ?_) (fun h0 => ?_)
  ·
    try simp only [decide_eq_true_eq, decide_eq_false_iff_not, Bool.or_eq_true, Bool.and_eq_true, Bool.or_eq_false_iff, Bool.and_eq_false_imp, Bool.not_eq_true', Bool.not_eq_false', ne_eq, Decidable.not_not, Int.not_lt, Int.not_le, Bool.not_eq_true, Bool.not_eq_false] at h0
    refine AW.exit ?_
    refine SeqP.exit ?_
    refine LoopP.exit ?_
    have hi : i = (n + 15) / 16 + 1 := by omega
    subst hi
    refine BlockP.here ?_
    refine SeqP.go ?_
    refine AW.seq ?_
    refine AW.region ?_
    refine OpsW.q rfl (q_move (v := S _) rfl) ?_
    refine OpsW.q rfl (q_move (v := vb) rfl) ?_
    refine OpsW.m rfl (o_call rfl Try.func30 rfl rfl (blocks_con (bs := padK nonce ((n + 15) / 16 + 1)) (gvec_n (padK_length nonce _).symm (hSl0.vec at0)) (by rw [padK_length]; omega))) ?_
    rintro v37 H4 ⟨u37, rfl, hR4⟩
    have hS4 := hSl0.join hR4
    simp only [List.cons_append, List.nil_append] at hS4
    clear hR4 hSl0
    have hbl := padL_blocks hk hn ((n + 15) / 16 + 1)
    rw [hbl] at hS4
    dsimp only at hS4
    rw [hbl]
    have hpl := padL_length key nonce ((n + 15) / 16 + 1)
    have hl1 : (padL key nonce ((n + 15) / 16 + 1)).getD (Int.toNat 1) [] = blkA key (ctrB nonce 1) := padL_get key nonce (by omega)
    have hl0 : (padL key nonce ((n + 15) / 16 + 1)).getD (Int.toNat 0) [] = blkA key (zs 16) := padL_zero' key nonce _
    refine OpsW.q rfl (q_move (v := .tuple _) rfl) ?_
    refine OpsW.q rfl (q_extract (v := u37) rfl rfl) ?_
    refine OpsW.q rfl (q_extract (v := .int _ _) rfl rfl) ?_
    refine OpsW.q rfl (q_assign (v := u37) rfl) ?_
    refine OpsW.q rfl (q_assign (v := .int _ _) rfl) ?_
    refine OpsW.nil ?_
    refine SeqP.go ?_
    refine AW.seq ?_
    refine AW.region ?_
    refine OpsW.q rfl (q_move (v := .int _ _) rfl) ?_
    refine OpsW.q rfl (q_addI rfl rfl (by omega)) ?_
    refine OpsW.m rfl (s_makeSliceB (by_ := 1) hS4 Try.underlying31 (by kernel_rfl) (by kernel_rfl) (by kernel_rfl) rfl rfl (by first | omega | decide) (by first | omega | decide) (by first | (with_reducible assumption) | omega | (unfold maxLen; omega) | (simp only [nums_length, List.length_set, List.length_replicate, List.length_take, List.length_drop, List.length_append, List.length_cons, List.length_nil, ofB_length, toB_length]; omega) | (simp only [nums_length, List.length_set, List.length_replicate, List.length_take, List.length_drop, List.length_append, List.length_cons, List.length_nil, ofB_length, toB_length]; unfold maxLen; omega) | (simp; done) | (simp; omega) | rfl | decide) (by first | (with_reducible assumption) | omega | (unfold maxLen; omega) | (simp only [nums_length, List.length_set, List.length_replicate, List.length_take, List.length_drop, List.length_append, List.length_cons, List.length_nil, ofB_length, toB_length]; omega) | (simp only [nums_length, List.length_set, List.length_replicate, List.length_take, List.length_drop, List.length_append, List.length_cons, List.length_nil, ofB_length, toB_length]; unfold maxLen; omega) | (simp; done) | (simp; omega) | rfl | decide) (by first | (with_reducible assumption) | omega | (unfold maxLen; omega) | (simp only [nums_length, List.length_set, List.length_replicate, List.length_take, List.length_drop, List.length_append, List.length_cons, List.length_nil, ofB_length, toB_length]; omega) | (simp only [nums_length, List.length_set, List.length_replicate, List.length_take, List.length_drop, List.length_append, List.length_cons, List.length_nil, ofB_length, toB_length]; unfold maxLen; omega) | (simp; done) | (simp; omega) | rfl | decide)) ?_
    rintro v42 H5 hS5
    clear hS4
    refine OpsW.q rfl (q_assign (v := v42) rfl) ?_
    refine OpsW.nil ?_
    refine SeqP.go ?_
    refine AW.seq ?_
    refine AW.seq ?_
    refine AW.region ?_
    refine OpsW.q rfl (q_move (v := u37) rfl) ?_
    refine OpsW.q rfl (q_sufWS ((hS5.vec at1).rdw) Try.underlying44 (by kernel_rfl) rfl rfl (by omega) (by omega)) ?_
    refine OpsW.q rfl (q_lenWS (((hS5.vec at1).rdw).sufS (n := 2) (by omega)) Try.underlying44 rfl) ?_
    refine OpsW.q rfl (q_move (v := .int _ _) rfl) ?_
    refine OpsW.nil ?_
    refine SeqP.go ?_
    refine AW.block ?_
    replace hS5 := Sep.bring del3 hS5
    replace hS5 := Sep.bring del1 hS5
    replace hS5 := Sep.bring del2 hS5
    replace hS5 := hS5.del del3
    refine AW.loop (fun m_ e_ H_ => ∃ (i : Nat) (vo : Value) (e0 : Env), m_ = (n + 15) / 16 - i ∧ (i ≤ (n + 15) / 16) ∧ e_ = upds e0 [(7, .pointer (some ⟨b7, 0, none⟩)), (11, u37), (13, vo), (44, sufV u37 2), (45, .int .i64 (((n + 15) / 16 : Nat) : Int)), (46, .int .i64 (i : Int))] ∧ Sep H [.vec u37 9 1 ((padL key nonce ((n + 15) / 16 + 1)).length) (strs (padL key nonce ((n + 15) / 16 + 1))), .vec vo 5 1 (16 * i) (nums .u8 (ofB (overK key nonce i))), .blk b7 ⟨nums .u64 ([0, 0]), 2, 36⟩] H_) _ ⟨0, v42, _, rfl, (by omega), Slots.eq ⟨(by first | rfl | exact i64_int (by omega) (by omega) (by omega) | assumption), (by first | rfl | exact i64_int (by omega) (by omega) (by omega) | assumption), (by first | rfl | exact i64_int (by omega) (by omega) (by omega) | assumption), (by first | rfl | exact i64_int (by omega) (by omega) (by omega) | assumption), (by show Value.int .i64 (((List.drop 2 (padL key nonce ((n + 15) / 16 + 1))).length : Nat) : Int) = _; rw [List.length_drop, hpl]; rfl), (by first | rfl | exact i64_int (by omega) (by omega) (by omega) | assumption),  trivial⟩, (by rw [overK_zero']; exact hS5)⟩ ?_
    rintro m_ _ Hl1 ⟨i, vo, e0, rfl, hf, rfl, hSl1⟩
    try clear hS5
    have hol := overK_length' key nonce i
    have hls : (List.drop 2 (padL key nonce ((n + 15) / 16 + 1))).length = (n + 15) / 16 := by rw [List.length_drop, hpl]; omega
    have hbk := blkA_length key (ctrB nonce (i + 2))
    refine AW.seq ?_
    refine AW.region ?_
    refine OpsW.q rfl (q_lss rfl rfl) ?_
    refine OpsW.nil ?_
    refine SeqP.go ?_
    refine AW.seq ?_
    refine AW.cond2 rfl (fun h1 => ?_) (fun h1 => ?_)
    ·
      try simp only [decide_eq_true_eq, decide_eq_false_iff_not, Bool.or_eq_true, Bool.and_eq_true, Bool.or_eq_false_iff, Bool.and_eq_false_imp, Bool.not_eq_true', Bool.not_eq_false', ne_eq, Decidable.not_not, Int.not_lt, Int.not_le, Bool.not_eq_true, Bool.not_eq_false] at h1
      refine AW.exit ?_
      refine SeqP.exit ?_
      refine LoopP.exit ?_
      obtain rfl : i = (n + 15) / 16 := by omega
      refine BlockP.here ?_
      refine SeqP.go ?_
      refine AW.seq ?_
      refine AW.drawD 10 0 rfl (by kernel_rfl) (by kernel_rfl) ?_
      refine SeqD.a rfl (fun _ => q_move (v := vo) rfl) ?_
      refine SeqD.b (by kernel_rfl) rfl (q_stringB (hSl1.vec at1) Try.underlying31 Try.underlying5 Try.underlying9 rfl) ?_
      refine SeqD.a rfl (fun _ => q_move (v := u37) rfl) ?_
      refine SeqD.b (by kernel_rfl) rfl (q_indexV1 (hSl1.vec at0) Try.underlying44 (by kernel_rfl) rfl rfl (by first | omega | decide) (by first | omega | decide)) ?_
      refine SeqD.b (by kernel_rfl) rfl (q_loadVS (hSl1.vec at0) (by kernel_rfl) rfl (by first | (with_reducible assumption) | omega | (unfold maxLen; omega) | (simp only [nums_length, List.length_set, List.length_replicate, List.length_take, List.length_drop, List.length_append, List.length_cons, List.length_nil, ofB_length, toB_length]; omega) | (simp only [nums_length, List.length_set, List.length_replicate, List.length_take, List.length_drop, List.length_append, List.length_cons, List.length_nil, ofB_length, toB_length]; unfold maxLen; omega) | (simp; done) | (simp; omega) | rfl | decide)) ?_
      have hl9 := pair_length (beK ((padL key nonce ((n + 15) / 16 + 1)).getD (Int.toNat 1) []) 16)
      refine SeqD.a rfl (fun _ => o_call rfl Try.func18 rfl rfl (gof_con (by rw [hl1, blkA_length]; exact Nat.le_refl _))) ?_
      refine SeqD.a rfl (fun _ => q_move (v := u37) rfl) ?_
      refine SeqD.q rfl (q_indexV1 (hSl1.vec at0) Try.underlying44 (by kernel_rfl) rfl rfl (by first | omega | decide) (by first | omega | decide)) ?_
      refine SeqD.q rfl (q_loadVS (hSl1.vec at0) (by kernel_rfl) rfl (by first | (with_reducible assumption) | omega | (unfold maxLen; omega) | (simp only [nums_length, List.length_set, List.length_replicate, List.length_take, List.length_drop, List.length_append, List.length_cons, List.length_nil, ofB_length, toB_length]; omega) | (simp only [nums_length, List.length_set, List.length_replicate, List.length_take, List.length_drop, List.length_append, List.length_cons, List.length_nil, ofB_length, toB_length]; unfold maxLen; omega) | (simp; done) | (simp; omega) | rfl | decide)) ?_
      refine SeqD.a rfl (fun _ => q_assign (v := S _) rfl) ?_
      refine SeqD.ms (s_storeA (n := 2) (k := .u64) hSl1 at2 (by kernel_rfl) rfl rfl (by first | (with_reducible assumption) | omega | (unfold maxLen; omega) | (simp only [nums_length, List.length_set, List.length_replicate, List.length_take, List.length_drop, List.length_append, List.length_cons, List.length_nil, ofB_length, toB_length]; omega) | (simp only [nums_length, List.length_set, List.length_replicate, List.length_take, List.length_drop, List.length_append, List.length_cons, List.length_nil, ofB_length, toB_length]; unfold maxLen; omega) | (simp; done) | (simp; omega) | rfl | decide) (by first | (with_reducible assumption) | omega | (unfold maxLen; omega) | (simp only [nums_length, List.length_set, List.length_replicate, List.length_take, List.length_drop, List.length_append, List.length_cons, List.length_nil, ofB_length, toB_length]; omega) | (simp only [nums_length, List.length_set, List.length_replicate, List.length_take, List.length_drop, List.length_append, List.length_cons, List.length_nil, ofB_length, toB_length]; unfold maxLen; omega) | (simp; done) | (simp; omega) | rfl | decide)) ?_
      rintro _ H6 ⟨rfl, hS6⟩
      clear hSl1
      refine ⟨⟨⟨trivial, q_indexV1 (hS6.vec at0) Try.underlying44 (by kernel_rfl) rfl rfl (by first | omega | decide) (by first | omega | decide)⟩, q_loadVS (hS6.vec at0) (by kernel_rfl) rfl (by first | (with_reducible assumption) | omega | (unfold maxLen; omega) | (simp only [nums_length, List.length_set, List.length_replicate, List.length_take, List.length_drop, List.length_append, List.length_cons, List.length_nil, ofB_length, toB_length]; omega) | (simp only [nums_length, List.length_set, List.length_replicate, List.length_take, List.length_drop, List.length_append, List.length_cons, List.length_nil, ofB_length, toB_length]; unfold maxLen; omega) | (simp; done) | (simp; omega) | rfl | decide)⟩, ?_⟩
      refine SeqR2.done ?_
      refine OpsW.q rfl (q_assign (v := S _) rfl) ?_
      refine OpsW.nil ?_
      refine SeqP.go ?_
      refine AW.ret ?_
      refine RetP.mktct (m := 2) (v1 := S _) (v3 := S _) (H' := H) rfl rfl rfl rfl (hS6.blk at2) (by first | (with_reducible assumption) | omega | (unfold maxLen; omega) | (simp only [nums_length, List.length_set, List.length_replicate, List.length_take, List.length_drop, List.length_append, List.length_cons, List.length_nil, ofB_length, toB_length]; omega) | (simp only [nums_length, List.length_set, List.length_replicate, List.length_take, List.length_drop, List.length_append, List.length_cons, List.length_nil, ofB_length, toB_length]; unfold maxLen; omega) | (simp; done) | (simp; omega) | rfl | decide) (by kernel_rfl) hS6.le ?_
      exact ⟨by rw [hl1, hl0], rfl⟩
    try simp only [decide_eq_true_eq, decide_eq_false_iff_not, Bool.or_eq_true, Bool.and_eq_true, Bool.or_eq_false_iff, Bool.and_eq_false_imp, Bool.not_eq_true', Bool.not_eq_false', ne_eq, Decidable.not_not, Int.not_lt, Int.not_le, Bool.not_eq_true, Bool.not_eq_false] at h1
    have hg2 : (List.drop 2 (padL key nonce ((n + 15) / 16 + 1))).getD (i : Int).toNat [] = blkA key (ctrB nonce (i + 2)) := by rw [Int.toNat_natCast]; exact padL_get2 key nonce (by omega)
    have hgl : ((List.drop 2 (padL key nonce ((n + 15) / 16 + 1))).getD (i : Int).toNat []).length = 16 := by rw [hg2, hbk]
    refine AW.skip ?_
    refine SeqP.go ?_
    refine AW.seq ?_
    refine AW.block ?_
    refine AW.seq ?_
    refine AW.region ?_
    refine OpsW.q rfl (q_indexWS (((hSl1.vec at0).rdw).sufS (n := 2) (by omega)) Try.underlying44 (by kernel_rfl) rfl rfl (by first | omega | decide) (by first | (with_reducible assumption) | omega | (unfold maxLen; omega) | (simp only [nums_length, List.length_set, List.length_replicate, List.length_take, List.length_drop, List.length_append, List.length_cons, List.length_nil, ofB_length, toB_length]; omega) | (simp only [nums_length, List.length_set, List.length_replicate, List.length_take, List.length_drop, List.length_append, List.length_cons, List.length_nil, ofB_length, toB_length]; unfold maxLen; omega) | (simp; done) | (simp; omega) | rfl | decide)) ?_
    refine OpsW.q rfl (q_loadWS (((hSl1.vec at0).rdw).sufS (n := 2) (by omega)) (by kernel_rfl) rfl (by first | (with_reducible assumption) | omega | (unfold maxLen; omega) | (simp only [nums_length, List.length_set, List.length_replicate, List.length_take, List.length_drop, List.length_append, List.length_cons, List.length_nil, ofB_length, toB_length]; omega) | (simp only [nums_length, List.length_set, List.length_replicate, List.length_take, List.length_drop, List.length_append, List.length_cons, List.length_nil, ofB_length, toB_length]; unfold maxLen; omega) | (simp; done) | (simp; omega) | rfl | decide)) ?_
    refine OpsW.q rfl (q_assign (v := S _) rfl) ?_
    refine OpsW.nil ?_
    refine SeqP.go ?_
    refine AW.region ?_
    refine OpsW.q rfl (q_move (v := vo) rfl) ?_
    refine OpsW.q rfl (q_move (v := S _) rfl) ?_
    refine OpsW.m rfl (s_append (sz := 1) (by_ := 1) (z := .int .u8 0) hSl1 at1 Try.underlying31 (by kernel_rfl) (by kernel_rfl) (by kernel_rfl) rfl (by kernel_rfl) rfl rfl src_str (by first | (with_reducible assumption) | omega | (unfold maxLen; omega) | (simp only [nums_length, List.length_set, List.length_replicate, List.length_take, List.length_drop, List.length_append, List.length_cons, List.length_nil, ofB_length, toB_length]; omega) | (simp only [nums_length, List.length_set, List.length_replicate, List.length_take, List.length_drop, List.length_append, List.length_cons, List.length_nil, ofB_length, toB_length]; unfold maxLen; omega) | (simp; done) | (simp; omega) | rfl | decide) (by first | (with_reducible assumption) | omega | (unfold maxLen; omega) | (simp only [nums_length, List.length_set, List.length_replicate, List.length_take, List.length_drop, List.length_append, List.length_cons, List.length_nil, ofB_length, toB_length]; omega) | (simp only [nums_length, List.length_set, List.length_replicate, List.length_take, List.length_drop, List.length_append, List.length_cons, List.length_nil, ofB_length, toB_length]; unfold maxLen; omega) | (simp; done) | (simp; omega) | rfl | decide)) ?_
    rintro v52 H7 hS7
    clear hSl1
    rw [← nums_append, ← ofB_app] at hS7
    refine OpsW.q rfl (q_assign (v := v52) rfl) ?_
    refine OpsW.nil ?_
    refine BlockP.go ?_
    refine SeqP.go ?_
    refine AW.region ?_
    refine OpsW.q rfl (q_addI rfl rfl (by omega)) ?_
    refine OpsW.q rfl (q_move (v := .int _ _) rfl) ?_
    refine OpsW.nil ?_
    exact LoopP.go _ (by omega) ⟨i + 1, v52, _, rfl, (by omega), Slots.eq ⟨(by first | rfl | exact i64_int (by omega) (by omega) (by omega) | assumption), (by first | rfl | exact i64_int (by omega) (by omega) (by omega) | assumption), (by first | rfl | exact i64_int (by omega) (by omega) (by omega) | assumption), (by first | rfl | exact i64_int (by omega) (by omega) (by omega) | assumption), (by first | rfl | exact i64_int (by omega) (by omega) (by omega) | assumption), (by first | rfl | exact i64_int (by omega) (by omega) (by omega) | assumption),  trivial⟩, (by have hs := hS7; rw [hg2, hbk, show 16 * i + 16 = 16 * (i + 1) from by omega, ← overK_succ'] at hs; exact hs)⟩
  try simp only [decide_eq_true_eq, decide_eq_false_iff_not, Bool.or_eq_true, Bool.and_eq_true, Bool.or_eq_false_iff, Bool.and_eq_false_imp, Bool.not_eq_true', Bool.not_eq_false', ne_eq, Decidable.not_not, Int.not_lt, Int.not_le, Bool.not_eq_true, Bool.not_eq_false] at h0
  refine AW.skip ?_
  refine SeqP.go ?_
  refine AW.seq ?_
  refine AW.block ?_
  refine AW.region ?_
  refine OpsW.q rfl (q_move (v := vb) rfl) ?_
  refine OpsW.q rfl (q_move (v := S _) rfl) ?_
  refine OpsW.q rfl (q_move (v := .int _ _) rfl) ?_
  refine OpsW.q rfl (o_call rfl Try.func32 rfl rfl (counter_con hn (by omega))) ?_
  refine OpsW.m rfl (s_buildSlice (z := S []) (vs := strs [_]) hSl0 Try.underlying44 (by kernel_rfl) (by kernel_rfl) rfl (by rfl) (by rfl) (by decide) rfl (strs_one _) rfl) ?_
  rintro v32 H8 hS8
  clear hSl0
  refine OpsW.m rfl (s_append (sz := 1) (by_ := 16) (z := S []) hS8 at1 Try.underlying44 (by kernel_rfl) (by kernel_rfl) (by kernel_rfl) rfl (by kernel_rfl) rfl rfl (src_vec (hS8.vec at0) (strs_one _)) (by first | (with_reducible assumption) | omega | (unfold maxLen; omega) | (simp only [nums_length, List.length_set, List.length_replicate, List.length_take, List.length_drop, List.length_append, List.length_cons, List.length_nil, ofB_length, toB_length]; omega) | (simp only [nums_length, List.length_set, List.length_replicate, List.length_take, List.length_drop, List.length_append, List.length_cons, List.length_nil, ofB_length, toB_length]; unfold maxLen; omega) | (simp; done) | (simp; omega) | rfl | decide) (by first | (with_reducible assumption) | omega | (unfold maxLen; omega) | (simp only [nums_length, List.length_set, List.length_replicate, List.length_take, List.length_drop, List.length_append, List.length_cons, List.length_nil, ofB_length, toB_length]; omega) | (simp only [nums_length, List.length_set, List.length_replicate, List.length_take, List.length_drop, List.length_append, List.length_cons, List.length_nil, ofB_length, toB_length]; unfold maxLen; omega) | (simp; done) | (simp; omega) | rfl | decide)) ?_
  rintro v33 H9 hS9
  clear hS8
  replace hS9 := hS9.del del0
  refine OpsW.q rfl (q_assign (v := v33) rfl) ?_
  refine OpsW.nil ?_
  refine BlockP.go ?_
  refine SeqP.go ?_
  refine AW.region ?_
  refine OpsW.q rfl (q_move (v := .int _ _) rfl) ?_
  refine OpsW.q rfl (q_addI rfl rfl (by omega)) ?_
  refine OpsW.q rfl (q_assign (v := .int _ _) rfl) ?_
  refine OpsW.nil ?_
  exact LoopP.go _ (by omega) ⟨i + 1, v33, _, rfl, (by omega), Slots.eq ⟨(by first | rfl | exact i64_int (by omega) (by omega) (by omega) | assumption), (by first | rfl | exact i64_int (by omega) (by omega) (by omega) | assumption), (by first | rfl | exact i64_int (by omega) (by omega) (by omega) | assumption), (by first | rfl | exact i64_int (by omega) (by omega) (by omega) | assumption), (by first | rfl | exact i64_int (by omega) (by omega) (by omega) | assumption), (by first | rfl | exact i64_int (by omega) (by omega) (by omega) | assumption),  trivial⟩, (by rw [padK_succ', strs_append]; exact hS9)⟩
theorem gtag_con {h first b s : List UInt8} (hh : h.length = 16) (hf : first.length = 16) (hb : b.length ≤ 1048576) (hs : s.length ≤ 1048576) : Con Try.prog w0 25 #[S h, .agg (nums .u64 (pair (beK first 16))).toArray, S b, S s] H (fun v H' => v = S (tagB h first b s) ∧ H' = H) := by
  have hS0 : Sep H [] H := Sep.refl
  have lb := flB_length' b
  have ls := flB_length' s
  have mb := flB_mod' b
  have ms := flB_mod' s
  have l1 := longB_length b.length
  have l2 := longB_length s.length
  have hp := pair_length (beK first 16)
  have hLl : (flB b ++ flB s ++ (longB b.length ++ longB s.length)).length = (flB b).length + (flB s).length + 16 := by rw [List.length_append, List.length_append, List.length_append, l1, l2]
  refine Con.intro Try.func25 rfl rfl ?_
  refine AW.seq ?_
  refine AW.region ?_
  refine OpsW.m rfl (s_boxN (k := .u64) hS0 rfl) ?_
  rintro _ H1 ⟨b5, rfl, hS1⟩
  clear hS0
  refine OpsW.q rfl (q_assign (v := S _) rfl) ?_
  refine OpsW.nil ?_
  refine SeqP.go ?_
  refine AW.seq ?_
  refine AW.region ?_
  refine OpsW.q rfl (q_move (v := S _) rfl) ?_
  refine OpsW.q rfl (q_move (v := S _) rfl) ?_
  refine OpsW.q rfl (o_call rfl Try.func33 rfl rfl (filled_con (by omega))) ?_
  refine OpsW.q rfl (q_move (v := S _) rfl) ?_
  refine OpsW.q rfl (o_call rfl Try.func33 rfl rfl (filled_con (by omega))) ?_
  refine OpsW.q rfl (q_cat rfl rfl (by first | (with_reducible assumption) | omega | (unfold maxLen; omega) | (simp only [nums_length, List.length_set, List.length_replicate, List.length_take, List.length_drop, List.length_append, List.length_cons, List.length_nil, ofB_length, toB_length]; omega) | (simp only [nums_length, List.length_set, List.length_replicate, List.length_take, List.length_drop, List.length_append, List.length_cons, List.length_nil, ofB_length, toB_length]; unfold maxLen; omega) | (simp; done) | (simp; omega) | rfl | decide)) ?_
  refine OpsW.q rfl (q_move (v := S _) rfl) ?_
  refine OpsW.q rfl (q_lenS Try.underlying9 rfl) ?_
  refine OpsW.q rfl (q_mulI rfl rfl (by omega)) ?_
  refine OpsW.q rfl (q_convInt rfl Try.underlying34 rfl) ?_
  refine OpsW.q rfl (q_move (v := S _) rfl) ?_
  refine OpsW.q rfl (q_lenS Try.underlying9 rfl) ?_
  refine OpsW.q rfl (q_mulI rfl rfl (by omega)) ?_
  refine OpsW.q rfl (q_convInt rfl Try.underlying34 rfl) ?_
  refine OpsW.q rfl (q_buildN (k := .u64) [_, _] rfl (by kernel_rfl)) ?_
  rw [long_pair b s (by omega) (by omega)]
  refine OpsW.q rfl (o_call rfl Try.func21 rfl rfl (gString_con (by omega))) ?_
  rw [long_two b.length (by omega)]
  have l3 : (longB b.length ++ longB s.length).length = 16 := by rw [List.length_append, l1, l2]
  have l4 : (flB b ++ flB s).length = (flB b).length + (flB s).length := List.length_append
  refine OpsW.q rfl (q_cat rfl rfl (by first | (with_reducible assumption) | omega | (unfold maxLen; omega) | (simp only [nums_length, List.length_set, List.length_replicate, List.length_take, List.length_drop, List.length_append, List.length_cons, List.length_nil, ofB_length, toB_length]; omega) | (simp only [nums_length, List.length_set, List.length_replicate, List.length_take, List.length_drop, List.length_append, List.length_cons, List.length_nil, ofB_length, toB_length]; unfold maxLen; omega) | (simp; done) | (simp; omega) | rfl | decide)) ?_
  refine OpsW.q rfl (o_call rfl Try.func10 rfl rfl (Hash_con (by omega))) ?_
  rw [hashP_ok hh (by omega)]
  refine OpsW.q rfl (q_move (v := .tuple _) rfl) ?_
  refine OpsW.q rfl (q_extract (v := S _) rfl rfl) ?_
  refine OpsW.q rfl (q_extract (v := .int _ _) rfl rfl) ?_
  refine OpsW.q rfl (q_assign (v := S _) rfl) ?_
  refine OpsW.q rfl (q_assign (v := .int _ _) rfl) ?_
  refine OpsW.nil ?_
  refine SeqP.go ?_
  refine AW.seq ?_
  refine AW.drawK [] 3 rfl (by kernel_rfl) ?_
  refine SeqK.q rfl (q_move (v := S _) rfl) ?_
  refine SeqK.q rfl (o_call rfl Try.func18 rfl rfl (gof_con (by rw [hashB_length']; exact Nat.le_refl _))) ?_
  refine SeqK.q rfl (q_loadAN (n := 2) (k := .u64) (by kernel_rfl) rfl (hS1.blk at0) (by first | (with_reducible assumption) | omega | (unfold maxLen; omega) | (simp only [nums_length, List.length_set, List.length_replicate, List.length_take, List.length_drop, List.length_append, List.length_cons, List.length_nil, ofB_length, toB_length]; omega) | (simp only [nums_length, List.length_set, List.length_replicate, List.length_take, List.length_drop, List.length_append, List.length_cons, List.length_nil, ofB_length, toB_length]; unfold maxLen; omega) | (simp; done) | (simp; omega) | rfl | decide)) ?_
  refine SeqK.done ?_
  refine OpsW.q rfl (o_call rfl Try.func19 rfl rfl (gwith_con (beK_lt128 _) (beK_lt128 _))) ?_
  refine OpsW.q rfl (o_call rfl Try.func21 rfl rfl (gString_con (Nat.xor_lt_two_pow (beK_lt128 _) (beK_lt128 _)))) ?_
  refine OpsW.q rfl (q_assign (v := S _) rfl) ?_
  refine OpsW.nil ?_
  refine SeqP.go ?_
  refine AW.ret ?_
  refine RetP.mk1 (H' := H) (v1 := S _) rfl rfl  hS1.le ?_
  exact ⟨by rw [tag_fin' b s hf], rfl⟩
theorem gSeal_con {key nonce b d : List UInt8} (hb : b.length ≤ 4294967296) (hd : d.length ≤ 4294967296) : Con Try.prog w0 13 #[S key, S nonce, S b, S d] H (fun v H' => v = .tuple #[S (sealP key nonce b d).1, .int .i64 (sealP key nonce b d).2] ∧ H' = H) := by
  have hS0 : Sep H [] H := Sep.refl
  refine Con.intro Try.func13 rfl rfl ?_
  refine AW.seq ?_
  refine AW.region ?_
  refine OpsW.q rfl (q_assign (v := S _) rfl) ?_
  refine OpsW.q rfl (q_assign (v := .int _ _) rfl) ?_
  refine OpsW.nil ?_
  refine SeqP.go ?_
  refine AW.seq ?_
  refine AW.block ?_
  refine AW.seq ?_
  refine AW.region ?_
  refine OpsW.q rfl (q_move (v := S _) rfl) ?_
  refine OpsW.q rfl (q_lenS Try.underlying9 rfl) ?_
  refine OpsW.q rfl (q_neq rfl rfl) ?_
  refine OpsW.qb rfl (q_move (v := .bool _) rfl) ?_
  intro b18 eb18
  refine OpsW.g rfl rfl rfl (fun hB => by simp only [Bool.and_eq_true, beq_iff_eq] at hB; obtain rfl := hB; exact (q_move (v := S _) rfl)) ?_
  refine OpsW.g rfl rfl rfl (fun hB => by simp only [Bool.and_eq_true, beq_iff_eq] at hB; obtain rfl := hB; exact (q_lenS Try.underlying9 rfl)) ?_
  refine OpsW.g rfl rfl rfl (fun hB => by simp only [Bool.and_eq_true, beq_iff_eq] at hB; obtain rfl := hB; exact (q_neq rfl rfl)) ?_
  refine OpsW.q rfl (q_or2 rfl rfl rfl) ?_
  refine OpsW.q rfl (q_assign (v := .bool _) rfl) ?_
  refine OpsW.nil ?_
  refine SeqP.go ?_
  refine AW.cond rfl (fun h0 => ?_) (fun h0 => ?_)
  ·
    try simp only [eb18, decide_eq_true_eq, decide_eq_false_iff_not, Bool.or_eq_true, Bool.and_eq_true, Bool.or_eq_false_iff, Bool.and_eq_false_imp, Bool.not_eq_true', Bool.not_eq_false', ne_eq, Decidable.not_not, Int.not_lt, Int.not_le, Bool.not_eq_true, Bool.not_eq_false] at h0
    rw [sealP_key (by omega)]
    refine AW.seq ?_
    refine AW.region ?_
    refine OpsW.q rfl (q_assign (v := S _) rfl) ?_
    refine OpsW.q rfl (q_assign (v := .int _ _) rfl) ?_
    refine OpsW.nil ?_
    refine SeqP.go ?_
    refine AW.ret ?_
    refine BlockP.ret ?_
    refine SeqP.ret ?_
    refine RetP.mk2 (H' := H) (v1 := S _) (v2 := .int _ _) rfl rfl rfl  hS0.le ?_
    exact ⟨rfl, rfl⟩
  try simp only [eb18, decide_eq_true_eq, decide_eq_false_iff_not, Bool.or_eq_true, Bool.and_eq_true, Bool.or_eq_false_iff, Bool.and_eq_false_imp, Bool.not_eq_true', Bool.not_eq_false', ne_eq, Decidable.not_not, Int.not_lt, Int.not_le, Bool.not_eq_true, Bool.not_eq_false] at h0
  have hkn : key.length = 16 ∧ nonce.length = 12 := by omega
  refine AW.seq ?_
  refine AW.region ?_
  refine OpsW.q rfl (q_move (v := S _) rfl) ?_
  refine OpsW.q rfl (q_lenS Try.underlying9 rfl) ?_
  refine OpsW.q rfl (q_gtr rfl rfl) ?_
  refine OpsW.qb rfl (q_move (v := .bool _) rfl) ?_
  intro b27 eb27
  refine OpsW.g rfl rfl rfl (fun hB => by simp only [Bool.and_eq_true, beq_iff_eq] at hB; obtain rfl := hB; exact (q_move (v := S _) rfl)) ?_
  refine OpsW.g rfl rfl rfl (fun hB => by simp only [Bool.and_eq_true, beq_iff_eq] at hB; obtain rfl := hB; exact (q_lenS Try.underlying9 rfl)) ?_
  refine OpsW.g rfl rfl rfl (fun hB => by simp only [Bool.and_eq_true, beq_iff_eq] at hB; obtain rfl := hB; exact (q_gtr rfl rfl)) ?_
  refine OpsW.q rfl (q_or2 rfl rfl rfl) ?_
  refine OpsW.q rfl (q_assign (v := .bool _) rfl) ?_
  refine OpsW.nil ?_
  refine SeqP.go ?_
  refine AW.cond rfl (fun h1 => ?_) (fun h1 => ?_)
  ·
    try simp only [eb18, eb27, decide_eq_true_eq, decide_eq_false_iff_not, Bool.or_eq_true, Bool.and_eq_true, Bool.or_eq_false_iff, Bool.and_eq_false_imp, Bool.not_eq_true', Bool.not_eq_false', ne_eq, Decidable.not_not, Int.not_lt, Int.not_le, Bool.not_eq_true, Bool.not_eq_false] at h1
    rw [sealP_big hkn (by omega)]
    refine AW.seq ?_
    refine AW.region ?_
    refine OpsW.q rfl (q_assign (v := S _) rfl) ?_
    refine OpsW.q rfl (q_assign (v := .int _ _) rfl) ?_
    refine OpsW.nil ?_
    refine SeqP.go ?_
    refine AW.ret ?_
    refine BlockP.ret ?_
    refine SeqP.ret ?_
    refine RetP.mk2 (H' := H) (v1 := S _) (v2 := .int _ _) rfl rfl rfl  hS0.le ?_
    exact ⟨rfl, rfl⟩
  try simp only [eb18, eb27, decide_eq_true_eq, decide_eq_false_iff_not, Bool.or_eq_true, Bool.and_eq_true, Bool.or_eq_false_iff, Bool.and_eq_false_imp, Bool.not_eq_true', Bool.not_eq_false', ne_eq, Decidable.not_not, Int.not_lt, Int.not_le, Bool.not_eq_true, Bool.not_eq_false] at h1
  have hbd : ¬ (1048576 < b.length ∨ 1048576 < d.length) := by omega
  have ho := overK_length' key nonce ((d.length + 15) / 16)
  have hsl := strmB_length' key nonce d
  have hgl := gtag_length' key nonce b (strmB key nonce d)
  have hp := pair_length (beK (blkA key (ctrB nonce 1)) 16)
  have hld : (laidB d (overK key nonce ((d.length + 15) / 16))).length = d.length := laidB_length' _ _
  refine AW.skip ?_
  refine BlockP.go ?_
  refine SeqP.go ?_
  refine AW.seq ?_
  refine AW.region ?_
  refine OpsW.q rfl (q_move (v := S _) rfl) ?_
  refine OpsW.q rfl (q_move (v := S _) rfl) ?_
  refine OpsW.q rfl (q_move (v := S _) rfl) ?_
  refine OpsW.q rfl (q_lenS Try.underlying9 rfl) ?_
  refine OpsW.q rfl (o_call rfl Try.func23 rfl rfl (pads_con hkn.1 hkn.2 (by omega))) ?_
  refine OpsW.q rfl (q_move (v := .tuple _) rfl) ?_
  refine OpsW.q rfl (q_extract (v := S _) rfl rfl) ?_
  refine OpsW.q rfl (q_extract (v := .agg _) rfl rfl) ?_
  refine OpsW.q rfl (q_extract (v := S _) rfl rfl) ?_
  refine OpsW.m rfl (s_allocN (k := .u64) (m := 2) hS0 (by kernel_rfl)) ?_
  rintro _ H1 ⟨b11, rfl, hS1⟩
  clear hS0
  refine OpsW.q rfl (q_assign (v := S _) rfl) ?_
  refine OpsW.ms (s_storeA (n := 2) (k := .u64) hS1 at0 (by kernel_rfl) rfl rfl (by first | (with_reducible assumption) | omega | (unfold maxLen; omega) | (simp only [nums_length, List.length_set, List.length_replicate, List.length_take, List.length_drop, List.length_append, List.length_cons, List.length_nil, ofB_length, toB_length]; omega) | (simp only [nums_length, List.length_set, List.length_replicate, List.length_take, List.length_drop, List.length_append, List.length_cons, List.length_nil, ofB_length, toB_length]; unfold maxLen; omega) | (simp; done) | (simp; omega) | rfl | decide) (by first | (with_reducible assumption) | omega | (unfold maxLen; omega) | (simp only [nums_length, List.length_set, List.length_replicate, List.length_take, List.length_drop, List.length_append, List.length_cons, List.length_nil, ofB_length, toB_length]; omega) | (simp only [nums_length, List.length_set, List.length_replicate, List.length_take, List.length_drop, List.length_append, List.length_cons, List.length_nil, ofB_length, toB_length]; unfold maxLen; omega) | (simp; done) | (simp; omega) | rfl | decide)) ?_
  rintro _ H2 ⟨rfl, hS2⟩
  clear hS1
  refine OpsW.q rfl (q_assign (v := S _) rfl) ?_
  refine OpsW.nil ?_
  refine SeqP.go ?_
  refine AW.seq ?_
  refine AW.region ?_
  refine OpsW.q rfl (q_move (v := S _) rfl) ?_
  refine OpsW.q rfl (q_move (v := S _) rfl) ?_
  refine OpsW.q rfl (o_call rfl Try.func24 rfl rfl (laid_con (by omega) (by omega))) ?_
  rw [← strmB_eq key nonce d]
  refine OpsW.q rfl (q_assign (v := S _) rfl) ?_
  refine OpsW.nil ?_
  refine SeqP.go ?_
  refine AW.seq ?_
  refine AW.region ?_
  refine OpsW.q rfl (q_move (v := S _) rfl) ?_
  refine OpsW.q rfl (q_move (v := S _) rfl) ?_
  refine OpsW.q rfl (q_loadAN (n := 2) (k := .u64) (by kernel_rfl) rfl (hS2.blk at0) (by first | (with_reducible assumption) | omega | (unfold maxLen; omega) | (simp only [nums_length, List.length_set, List.length_replicate, List.length_take, List.length_drop, List.length_append, List.length_cons, List.length_nil, ofB_length, toB_length]; omega) | (simp only [nums_length, List.length_set, List.length_replicate, List.length_take, List.length_drop, List.length_append, List.length_cons, List.length_nil, ofB_length, toB_length]; unfold maxLen; omega) | (simp; done) | (simp; omega) | rfl | decide)) ?_
  refine OpsW.q rfl (q_move (v := S _) rfl) ?_
  refine OpsW.q rfl (q_move (v := S _) rfl) ?_
  refine OpsW.q rfl (o_call rfl Try.func25 rfl rfl (gtag_con (blkA_length _ _) (blkA_length _ _) (by omega) (by omega))) ?_
  rw [← gtag_eq key nonce b (strmB key nonce d)]
  refine OpsW.q rfl (q_cat rfl rfl (by first | (with_reducible assumption) | omega | (unfold maxLen; omega) | (simp only [nums_length, List.length_set, List.length_replicate, List.length_take, List.length_drop, List.length_append, List.length_cons, List.length_nil, ofB_length, toB_length]; omega) | (simp only [nums_length, List.length_set, List.length_replicate, List.length_take, List.length_drop, List.length_append, List.length_cons, List.length_nil, ofB_length, toB_length]; unfold maxLen; omega) | (simp; done) | (simp; omega) | rfl | decide)) ?_
  refine OpsW.q rfl (q_assign (v := S _) rfl) ?_
  refine OpsW.q rfl (q_assign (v := .int _ _) rfl) ?_
  refine OpsW.nil ?_
  refine SeqP.go ?_
  refine AW.ret ?_
  refine RetP.mk2 (H' := H) (v1 := S _) (v2 := .int _ _) rfl rfl rfl  hS2.le ?_
  rw [sealP_ok hkn hbd]
  exact ⟨rfl, rfl⟩
end
end Go.Proofs.Ytngbaokcbecdfaa

